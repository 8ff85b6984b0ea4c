/- Printed by program (axgen): pure functions, and that the Go functions compute them. -/
import Derived.Test.YtglgpldmibamnaaPrdG0
set_option linter.unusedVariables false
set_option linter.unusedSimpArgs false
namespace Go.Proofs.Try
open Go Go.AX
noncomputable section
def impl_DivideOrdinals_p5 (o22 : Rw) (o23 : Rw) (v24 : Bool) (v28 : Bool) : Option (Rw × Rw × Bool) :=
  (cond v24 (cond v28 (some (o22, o23, true)) (some (([] : Rw), ([] : Rw), false))) (cond v28 (some (([] : Rw), ([] : Rw), false)) (some (([] : Rw), ([] : Rw), false))))
set_option maxHeartbeats 4000000 in
set_option maxRecDepth 100000 in
theorem impl_DivideOrdinals_p5_ct {o22 : Rw} {o23 : Rw} {v24 : Bool} {v28 : Bool} {r : Rw × Rw × Bool} (h : impl_DivideOrdinals_p5 o22 o23 v24 v28 = some r) : X prog 0 (tlF f43 5) (mk 49 [(4, .ptr 256 0), (5, .ptr 320 0), (9, .ptr 576 0), (10, .d (D.bool v28)), (11, .ptr 704 0), (12, .d (D.bool v24))] [(256, .box 26 [.es]), (320, .box 26 [.es]), (576, .box 26 [.os 1089000 o22.length]), (704, .box 26 [.os 1089001 o23.length]), (1089000, .arr 98 true o22), (1089001, .arr 98 true o23)]) (finK prog f43 0 (.tup [.agg [.os 8 r.1.length], .agg [.os 9 r.2.1.length], .d (D.bool r.2.2)]) (⟨[], [(98, true, r.1), (98, true, r.2.1)]⟩)) := by
  rw [impl_DivideOrdinals_p5] at h
  cases v24
  · replace h := condF h
    cases v28
    · replace h := condF h
      conv => whnf
      cases h
      exact Done.of [none, none] [] rfl rfl ⟨⟨rfl, rfl⟩, ⟨rfl, rfl, rfl, trivial⟩, ⟨⟨⟨rfl, rfl⟩, trivial⟩, ⟨⟨rfl, rfl⟩, trivial⟩, rfl, trivial⟩, trivial⟩
    · replace h := condT h
      conv => whnf
      cases h
      exact Done.of [none, none] [] rfl rfl ⟨⟨rfl, rfl⟩, ⟨rfl, rfl, rfl, trivial⟩, ⟨⟨⟨rfl, rfl⟩, trivial⟩, ⟨⟨rfl, rfl⟩, trivial⟩, rfl, trivial⟩, trivial⟩
  · replace h := condT h
    cases v28
    · replace h := condF h
      conv => whnf
      cases h
      exact Done.of [none, none] [] rfl rfl ⟨⟨rfl, rfl⟩, ⟨rfl, rfl, rfl, trivial⟩, ⟨⟨⟨rfl, rfl⟩, trivial⟩, ⟨⟨rfl, rfl⟩, trivial⟩, rfl, trivial⟩, trivial⟩
    · replace h := condT h
      conv => whnf
      cases h
      exact Done.of [some 1089000, some 1089001] [] rfl rfl ⟨⟨rfl, rfl⟩, ⟨rfl, ⟨rfl, rfl, rows_same⟩, ⟨rfl, rfl, rows_same⟩, trivial⟩, ⟨⟨⟨rfl, rfl⟩, trivial⟩, ⟨⟨rfl, rfl⟩, trivial⟩, rfl, trivial⟩, trivial⟩
def impl_DivideOrdinals_p4 (k : Nat) (o16 : Rw) (o17 : Rw) (v18 : Bool) : Option (Rw × Rw × Bool) :=
  (cond v18 ((impl_told k o16).bind fun y32 => (if y32.2 = true then (impl_DivideOrdinals_p5 o17 y32.1 true true) else (impl_DivideOrdinals_p5 o17 y32.1 false true))) ((impl_told k o16).bind fun y29 => (if y29.2 = true then (impl_DivideOrdinals_p5 o17 y29.1 true false) else (impl_DivideOrdinals_p5 o17 y29.1 false false))))
set_option maxHeartbeats 4000000 in
set_option maxRecDepth 100000 in
theorem impl_DivideOrdinals_p4_ct {k : Nat} {o16 : Rw} {o17 : Rw} {v18 : Bool} {r : Rw × Rw × Bool} (h : impl_DivideOrdinals_p4 k o16 o17 v18 = some r) : X prog 0 (tlF f43 4) (mk 49 [(4, .ptr 256 0), (5, .ptr 320 0), (8, .ptr 512 0), (9, .ptr 576 0), (10, .d (D.bool v18))] [(256, .box 26 [.es]), (320, .box 26 [.es]), (512, .box 26 [.d (D.sl o16)]), (576, .box 26 [.os 1084000 o17.length]), (1084000, .arr 98 true o17)]) (finK prog f43 0 (.tup [.agg [.os 8 r.1.length], .agg [.os 9 r.2.1.length], .d (D.bool r.2.2)]) (⟨[], [(98, true, r.1), (98, true, r.2.1)]⟩)) := by
  rw [impl_DivideOrdinals_p4] at h
  cases v18
  · replace h := condF h
    conv => whnf
    obtain ⟨y29, e30, h⟩ := bind_ex h
    refine CallOk.of (impl_told_ct e30) ?_
    conv => whnf
    refine spl (fun g31 => ?_) (fun g31 => ?_)
    · replace h := iteT h g31
      conv => whnf
      exact CutK.piece (impl_DivideOrdinals_p5_ct  h) [some 256, some 320, some 576, some 704, some 1084000, some 2304] [] ⟨⟨rfl, rfl⟩, ⟨rfl, ⟨rfl, trivial, trivial⟩, ⟨rfl, trivial, trivial⟩, ⟨rfl, ⟨rfl, rfl⟩, trivial⟩, ⟨rfl, ⟨rfl, rfl⟩, trivial⟩, ⟨rfl, rfl, rows_same⟩, ⟨rfl, rfl, rows_same⟩, trivial⟩, ⟨rfl, rfl⟩, ⟨rfl, rfl⟩, ⟨rfl, rfl⟩, rfl, ⟨rfl, rfl⟩, rfl, trivial⟩
    · replace h := iteF h g31
      conv => whnf
      exact CutK.piece (impl_DivideOrdinals_p5_ct  h) [some 256, some 320, some 576, some 704, some 1084000, some 2304] [] ⟨⟨rfl, rfl⟩, ⟨rfl, ⟨rfl, trivial, trivial⟩, ⟨rfl, trivial, trivial⟩, ⟨rfl, ⟨rfl, rfl⟩, trivial⟩, ⟨rfl, ⟨rfl, rfl⟩, trivial⟩, ⟨rfl, rfl, rows_same⟩, ⟨rfl, rfl, rows_same⟩, trivial⟩, ⟨rfl, rfl⟩, ⟨rfl, rfl⟩, ⟨rfl, rfl⟩, rfl, ⟨rfl, rfl⟩, rfl, trivial⟩
  · replace h := condT h
    conv => whnf
    obtain ⟨y32, e33, h⟩ := bind_ex h
    refine CallOk.of (impl_told_ct e33) ?_
    conv => whnf
    refine spl (fun g34 => ?_) (fun g34 => ?_)
    · replace h := iteT h g34
      conv => whnf
      exact CutK.piece (impl_DivideOrdinals_p5_ct  h) [some 256, some 320, some 576, some 704, some 1084000, some 2304] [] ⟨⟨rfl, rfl⟩, ⟨rfl, ⟨rfl, trivial, trivial⟩, ⟨rfl, trivial, trivial⟩, ⟨rfl, ⟨rfl, rfl⟩, trivial⟩, ⟨rfl, ⟨rfl, rfl⟩, trivial⟩, ⟨rfl, rfl, rows_same⟩, ⟨rfl, rfl, rows_same⟩, trivial⟩, ⟨rfl, rfl⟩, ⟨rfl, rfl⟩, ⟨rfl, rfl⟩, rfl, ⟨rfl, rfl⟩, rfl, trivial⟩
    · replace h := iteF h g34
      conv => whnf
      exact CutK.piece (impl_DivideOrdinals_p5_ct  h) [some 256, some 320, some 576, some 704, some 1084000, some 2304] [] ⟨⟨rfl, rfl⟩, ⟨rfl, ⟨rfl, trivial, trivial⟩, ⟨rfl, trivial, trivial⟩, ⟨rfl, ⟨rfl, rfl⟩, trivial⟩, ⟨rfl, ⟨rfl, rfl⟩, trivial⟩, ⟨rfl, rfl, rows_same⟩, ⟨rfl, rfl, rows_same⟩, trivial⟩, ⟨rfl, rfl⟩, ⟨rfl, rfl⟩, ⟨rfl, rfl⟩, rfl, ⟨rfl, rfl⟩, rfl, trivial⟩
def impl_DivideOrdinals_p3 (k : Nat) (o11 : Rw) (o12 : Rw) : Option (Rw × Rw × Bool) :=
  ((impl_told k o11).bind fun y35 => (if y35.2 = true then (impl_DivideOrdinals_p4 k o12 y35.1 true) else (impl_DivideOrdinals_p4 k o12 y35.1 false)))
set_option maxHeartbeats 4000000 in
set_option maxRecDepth 100000 in
theorem impl_DivideOrdinals_p3_ct {k : Nat} {o11 : Rw} {o12 : Rw} {r : Rw × Rw × Bool} (h : impl_DivideOrdinals_p3 k o11 o12 = some r) : X prog 0 (tlF f43 3) (mk 49 [(4, .ptr 256 0), (5, .ptr 320 0), (7, .ptr 448 0), (8, .ptr 512 0)] [(256, .box 26 [.es]), (320, .box 26 [.es]), (448, .box 26 [.d (D.sl o11)]), (512, .box 26 [.d (D.sl o12)])]) (finK prog f43 0 (.tup [.agg [.os 8 r.1.length], .agg [.os 9 r.2.1.length], .d (D.bool r.2.2)]) (⟨[], [(98, true, r.1), (98, true, r.2.1)]⟩)) := by
  rw [impl_DivideOrdinals_p3] at h
  conv => whnf
  obtain ⟨y35, e36, h⟩ := bind_ex h
  refine CallOk.of (impl_told_ct e36) ?_
  conv => whnf
  refine spl (fun g37 => ?_) (fun g37 => ?_)
  · replace h := iteT h g37
    conv => whnf
    exact CutK.piece (impl_DivideOrdinals_p4_ct  h) [some 256, some 320, some 512, some 576, some 1984] [] ⟨⟨rfl, rfl⟩, ⟨rfl, ⟨rfl, trivial, trivial⟩, ⟨rfl, trivial, trivial⟩, ⟨rfl, rfl, trivial⟩, ⟨rfl, ⟨rfl, rfl⟩, trivial⟩, ⟨rfl, rfl, rows_same⟩, trivial⟩, ⟨rfl, rfl⟩, ⟨rfl, rfl⟩, ⟨rfl, rfl⟩, ⟨rfl, rfl⟩, rfl, trivial⟩
  · replace h := iteF h g37
    conv => whnf
    exact CutK.piece (impl_DivideOrdinals_p4_ct  h) [some 256, some 320, some 512, some 576, some 1984] [] ⟨⟨rfl, rfl⟩, ⟨rfl, ⟨rfl, trivial, trivial⟩, ⟨rfl, trivial, trivial⟩, ⟨rfl, rfl, trivial⟩, ⟨rfl, ⟨rfl, rfl⟩, trivial⟩, ⟨rfl, rfl, rows_same⟩, trivial⟩, ⟨rfl, rfl⟩, ⟨rfl, rfl⟩, ⟨rfl, rfl⟩, ⟨rfl, rfl⟩, rfl, trivial⟩
def impl_DivideOrdinals_p2 (k : Nat) (a1 : Rw) (a2 : Rw) : Option (Rw × Rw × Bool) :=
  ((impl_divide k a1 a2).bind fun y38 => (impl_DivideOrdinals_p3 k y38.1 y38.2))
set_option maxHeartbeats 4000000 in
set_option maxRecDepth 100000 in
theorem impl_DivideOrdinals_p2_ct {k : Nat} {a1 : Rw} {a2 : Rw} {r : Rw × Rw × Bool} (h : impl_DivideOrdinals_p2 k a1 a2 = some r) : X prog 0 (tlF f43 2) (mk 49 [(2, .ptr 128 0), (3, .ptr 192 0), (4, .ptr 256 0), (5, .ptr 320 0)] [(128, .box 26 [.d (D.sl a1)]), (192, .box 26 [.d (D.sl a2)]), (256, .box 26 [.es]), (320, .box 26 [.es])]) (finK prog f43 0 (.tup [.agg [.os 8 r.1.length], .agg [.os 9 r.2.1.length], .d (D.bool r.2.2)]) (⟨[], [(98, true, r.1), (98, true, r.2.1)]⟩)) := by
  rw [impl_DivideOrdinals_p2] at h
  conv => whnf
  obtain ⟨y38, e39, h⟩ := bind_ex h
  refine CallOk.of (impl_divide_ct e39) ?_
  conv => whnf
  exact CutK.piece (impl_DivideOrdinals_p3_ct  h) [some 256, some 320, some 448, some 512] [] ⟨⟨rfl, rfl⟩, ⟨rfl, ⟨rfl, trivial, trivial⟩, ⟨rfl, trivial, trivial⟩, ⟨rfl, rfl, trivial⟩, ⟨rfl, rfl, trivial⟩, trivial⟩, ⟨rfl, rfl⟩, ⟨rfl, rfl⟩, ⟨rfl, rfl⟩, ⟨rfl, rfl⟩, trivial⟩
def impl_DivideOrdinals (k : Nat) (a1 : Rw) (a2 : Rw) : Option (Rw × Rw × Bool) :=
  ((impl_both k a1 a2).bind fun y40 => (if y40 = true then ((impl_isZero a2).bind fun y43 => (if y43 = true then some (([] : Rw), ([] : Rw), false) else (impl_DivideOrdinals_p2 k a1 a2))) else some (([] : Rw), ([] : Rw), false)))
set_option maxHeartbeats 4000000 in
set_option maxRecDepth 100000 in
theorem impl_DivideOrdinals_ct {k : Nat} {a1 : Rw} {a2 : Rw} {r : Rw × Rw × Bool} (h : impl_DivideOrdinals k a1 a2 = some r) : Ct prog 43 [.agg [.d (D.sl a1)], .agg [.d (D.sl a2)]] (⟨[], []⟩) (.tup [.agg [.os 8 r.1.length], .agg [.os 9 r.2.1.length], .d (D.bool r.2.2)]) (⟨[], [(98, true, r.1), (98, true, r.2.1)]⟩) := by
  rw [impl_DivideOrdinals] at h
  refine Ct.of (c := _) mixed func43 ⟨rfl, rfl, rfl⟩ ?_ rfl
  conv => whnf
  obtain ⟨y40, e41, h⟩ := bind_ex h
  refine CallOk.of (impl_both_ct e41) ?_
  conv => whnf
  refine spl (fun g42 => ?_) (fun g42 => ?_)
  · replace h := iteT h g42
    conv => whnf
    obtain ⟨y43, e44, h⟩ := bind_ex h
    refine CallOk.of (impl_isZero_ct e44) ?_
    conv => whnf
    refine spl (fun g45 => ?_) (fun g45 => ?_)
    · replace h := iteT h g45
      conv => whnf
      refine CutK.norm [2, 3, 4, 5, 20] [128, 192, 256, 320] ?_
      conv => whnf
      cases h
      exact Done.of [none, none] [] rfl rfl ⟨⟨rfl, rfl⟩, ⟨rfl, rfl, rfl, trivial⟩, ⟨⟨⟨rfl, rfl⟩, trivial⟩, ⟨⟨rfl, rfl⟩, trivial⟩, rfl, trivial⟩, trivial⟩
    · replace h := iteF h g45
      conv => whnf
      refine CutK.norm [2, 3, 4, 5, 20] [128, 192, 256, 320] ?_
      conv => whnf
      exact CutK.piece (impl_DivideOrdinals_p2_ct  h) [some 128, some 192, some 256, some 320] [] ⟨⟨rfl, rfl⟩, ⟨rfl, ⟨rfl, rfl, trivial⟩, ⟨rfl, rfl, trivial⟩, ⟨rfl, trivial, trivial⟩, ⟨rfl, trivial, trivial⟩, trivial⟩, ⟨rfl, rfl⟩, ⟨rfl, rfl⟩, ⟨rfl, rfl⟩, ⟨rfl, rfl⟩, trivial⟩
  · replace h := iteF h g42
    conv => whnf
    refine CutK.norm [2, 3, 4, 5, 20] [128, 192, 256, 320] ?_
    conv => whnf
    cases h
    exact Done.of [none, none] [] rfl rfl ⟨⟨rfl, rfl⟩, ⟨rfl, rfl, rfl, trivial⟩, ⟨⟨⟨rfl, rfl⟩, trivial⟩, ⟨⟨rfl, rfl⟩, trivial⟩, rfl, trivial⟩, trivial⟩

def spec_odIf (k : Nat) (a1 : Rw) : Option (Rw × Bool) :=
  ((spec_odGood k a1).bind fun y2 => (if y2 = true then ((spec_odOwn k a1).bind fun y5 => some (y5, true)) else some (([] : Rw), false)))
set_option maxHeartbeats 4000000 in
set_option maxRecDepth 100000 in
theorem spec_odIf_ct {k : Nat} {a1 : Rw} {r : Rw × Bool} (h : spec_odIf k a1 = some r) : Ct prog 76 [.agg [.d (D.sl a1)]] (⟨[], []⟩) (.tup [.agg [.os 8 r.1.length], .d (D.bool r.2)]) (⟨[], [(98, true, r.1)]⟩) := by
  rw [spec_odIf] at h
  refine Ct.of (c := _) mixed func76 ⟨rfl, rfl, rfl⟩ ?_ rfl
  conv => whnf
  obtain ⟨y2, e3, h⟩ := bind_ex h
  refine CallOk.of (spec_odGood_ct e3) ?_
  conv => whnf
  refine spl (fun g4 => ?_) (fun g4 => ?_)
  · replace h := iteT h g4
    conv => whnf
    refine CutK.go ?_
    conv => whnf
    refine CutK.go ?_
    conv => whnf
    obtain ⟨y5, e6, h⟩ := bind_ex h
    refine CallOk.of (spec_odOwn_ct e6) ?_
    conv => whnf
    refine CutK.go ?_
    conv => whnf
    cases h
    exact Done.of [some 576] [] rfl rfl ⟨⟨rfl, rfl⟩, ⟨rfl, ⟨rfl, rfl, rows_same⟩, trivial⟩, ⟨⟨⟨rfl, rfl⟩, trivial⟩, rfl, trivial⟩, trivial⟩
  · replace h := iteF h g4
    conv => whnf
    refine CutK.go ?_
    conv => whnf
    cases h
    exact Done.of [none] [] rfl rfl ⟨⟨rfl, rfl⟩, ⟨rfl, rfl, trivial⟩, ⟨⟨⟨rfl, rfl⟩, trivial⟩, rfl, trivial⟩, trivial⟩

def spec_MultiplyOrdinals (k : Nat) (a1 : Rw) (a2 : Rw) : Option (Rw × Bool) :=
  ((spec_odGood k a1).bind fun y3 => (if y3 = true then ((spec_odGood k a2).bind fun y6 => (if y6 = true then ((spec_odTimes k a1 a2).bind fun y9 => ((spec_odIf k y9).bind fun y11 => (if y11.2 = true then some (y11.1, true) else some (y11.1, false)))) else some (([] : Rw), false))) else some (([] : Rw), false)))
set_option maxHeartbeats 4000000 in
set_option maxRecDepth 100000 in
theorem spec_MultiplyOrdinals_ct {k : Nat} {a1 : Rw} {a2 : Rw} {r : Rw × Bool} (h : spec_MultiplyOrdinals k a1 a2 = some r) : Ct prog 44 [.agg [.d (D.sl a1)], .agg [.d (D.sl a2)]] (⟨[], []⟩) (.tup [.agg [.os 8 r.1.length], .d (D.bool r.2)]) (⟨[], [(98, true, r.1)]⟩) := by
  rw [spec_MultiplyOrdinals] at h
  refine Ct.of (c := _) mixed func44 ⟨rfl, rfl, rfl⟩ ?_ rfl
  conv => whnf
  obtain ⟨y3, e4, h⟩ := bind_ex h
  refine CallOk.of (spec_odGood_ct e4) ?_
  conv => whnf
  refine spl (fun g5 => ?_) (fun g5 => ?_)
  · replace h := iteT h g5
    conv => whnf
    obtain ⟨y6, e7, h⟩ := bind_ex h
    refine CallOk.of (spec_odGood_ct e7) ?_
    conv => whnf
    refine spl (fun g8 => ?_) (fun g8 => ?_)
    · replace h := iteT h g8
      conv => whnf
      refine CutK.go ?_
      conv => whnf
      refine CutK.go ?_
      conv => whnf
      obtain ⟨y9, e10, h⟩ := bind_ex h
      refine CallOk.of (spec_odTimes_ct e10) ?_
      conv => whnf
      refine Take.all (rfl) ?_
      conv => whnf
      obtain ⟨y11, e12, h⟩ := bind_ex h
      refine CallOk.of (spec_odIf_ct e12) ?_
      conv => whnf
      refine spl (fun g13 => ?_) (fun g13 => ?_)
      · replace h := iteT h g13
        conv => whnf
        refine CutK.go ?_
        conv => whnf
        cases h
        exact Done.of [some 1152] [] rfl rfl ⟨⟨rfl, rfl⟩, ⟨rfl, ⟨rfl, rfl, rows_same⟩, trivial⟩, ⟨⟨⟨rfl, rfl⟩, trivial⟩, rfl, trivial⟩, trivial⟩
      · replace h := iteF h g13
        conv => whnf
        refine CutK.go ?_
        conv => whnf
        cases h
        exact Done.of [some 1152] [] rfl rfl ⟨⟨rfl, rfl⟩, ⟨rfl, ⟨rfl, rfl, rows_same⟩, trivial⟩, ⟨⟨⟨rfl, rfl⟩, trivial⟩, rfl, trivial⟩, trivial⟩
    · replace h := iteF h g8
      conv => whnf
      refine CutK.go ?_
      conv => whnf
      cases h
      exact Done.of [none] [] rfl rfl ⟨⟨rfl, rfl⟩, ⟨rfl, rfl, trivial⟩, ⟨⟨⟨rfl, rfl⟩, trivial⟩, rfl, trivial⟩, trivial⟩
  · replace h := iteF h g5
    conv => whnf
    refine CutK.go ?_
    conv => whnf
    cases h
    exact Done.of [none] [] rfl rfl ⟨⟨rfl, rfl⟩, ⟨rfl, rfl, trivial⟩, ⟨⟨⟨rfl, rfl⟩, trivial⟩, rfl, trivial⟩, trivial⟩

def laws_big  (a1 : Rw) (a2 : Rw) : Option Bool :=
  (if (1048576 : Int) < (a1.length : Int) then some true else (if (IntKind.i64.wrap (1048576 - (a1.length : Int))) < (a2.length : Int) then some true else some false))
set_option maxHeartbeats 4000000 in
set_option maxRecDepth 100000 in
theorem laws_big_ct  {a1 : Rw} {a2 : Rw} {r : Bool} (h : laws_big a1 a2 = some r) : Ct prog 15 [.d (D.sl a1), .d (D.sl a2)] (⟨[], []⟩) (.d (D.bool r)) (⟨[], []⟩) := by
  rw [laws_big] at h
  refine Ct.of (c := _) mixed func15 ⟨rfl, rfl, rfl⟩ ?_ rfl
  conv => whnf
  refine splD (fun g3 => ?_) (fun g3 => ?_)
  · replace h := iteP h g3
    conv => whnf
    cases h
    exact Done.of [] [] rfl rfl ⟨⟨rfl, rfl⟩, ⟨rfl, trivial⟩, rfl, trivial⟩
  · replace h := iteN h g3
    conv => whnf
    refine splD (fun g4 => ?_) (fun g4 => ?_)
    · replace h := iteP h g4
      conv => whnf
      cases h
      exact Done.of [] [] rfl rfl ⟨⟨rfl, rfl⟩, ⟨rfl, trivial⟩, rfl, trivial⟩
    · replace h := iteN h g4
      conv => whnf
      cases h
      exact Done.of [] [] rfl rfl ⟨⟨rfl, rfl⟩, ⟨rfl, trivial⟩, rfl, trivial⟩

def laws_FnOrdinalProducts_p17 (v248 : Bool) : Option Bool :=
  (cond v248 (some true) (some false))
set_option maxHeartbeats 4000000 in
set_option maxRecDepth 100000 in
theorem laws_FnOrdinalProducts_p17_ct {v248 : Bool} {r : Bool} (h : laws_FnOrdinalProducts_p17 v248 = some r) : X prog 0 (tlF f8 17) (mk 178 [(4, .d (D.bool v248))] []) (finK prog f8 0 (.d (D.bool r)) (⟨[], []⟩)) := by
  rw [laws_FnOrdinalProducts_p17] at h
  cases v248
  · replace h := condF h
    conv => whnf
    cases h
    exact Done.of [] [] rfl rfl ⟨⟨rfl, rfl⟩, ⟨rfl, trivial⟩, rfl, trivial⟩
  · replace h := condT h
    conv => whnf
    cases h
    exact Done.of [] [] rfl rfl ⟨⟨rfl, rfl⟩, ⟨rfl, trivial⟩, rfl, trivial⟩
def laws_FnOrdinalProducts_p16 (k : Nat) (o218 : Rw) (o219 : Rw) (v220 : Bool) (v224 : Bool) (v228 : Bool) (v235 : Bool) : Option Bool :=
  (cond v220 (cond v224 (cond v228 (cond v235 ((laws_sameOrdinal k o218 o219).bind fun y249 => (if y249 = true then (laws_FnOrdinalProducts_p17 true) else (laws_FnOrdinalProducts_p17 false))) (laws_FnOrdinalProducts_p17 true)) (cond v235 (laws_FnOrdinalProducts_p17 true) (laws_FnOrdinalProducts_p17 true))) (cond v228 (cond v235 (laws_FnOrdinalProducts_p17 true) (laws_FnOrdinalProducts_p17 true)) (cond v235 (laws_FnOrdinalProducts_p17 true) (laws_FnOrdinalProducts_p17 true)))) (cond v224 (cond v228 (cond v235 (laws_FnOrdinalProducts_p17 true) (laws_FnOrdinalProducts_p17 true)) (cond v235 (laws_FnOrdinalProducts_p17 true) (laws_FnOrdinalProducts_p17 true))) (cond v228 (cond v235 (laws_FnOrdinalProducts_p17 true) (laws_FnOrdinalProducts_p17 true)) (cond v235 (laws_FnOrdinalProducts_p17 true) (laws_FnOrdinalProducts_p17 true)))))
set_option maxHeartbeats 4000000 in
set_option maxRecDepth 100000 in
theorem laws_FnOrdinalProducts_p16_ct {k : Nat} {o218 : Rw} {o219 : Rw} {v220 : Bool} {v224 : Bool} {v228 : Bool} {v235 : Bool} {r : Bool} (h : laws_FnOrdinalProducts_p16 k o218 o219 v220 v224 v228 v235 = some r) : X prog 0 (tlF f8 16) (mk 178 [(26, .d (D.bool v228)), (27, .ptr 1728 0), (28, .d (D.bool v224)), (30, .d (D.bool v235)), (31, .ptr 1984 0), (32, .d (D.bool v220))] [(1728, .box 26 [.os 1144000 o218.length]), (1984, .box 26 [.os 1144001 o219.length]), (1144000, .arr 98 true o218), (1144001, .arr 98 true o219)]) (finK prog f8 0 (.d (D.bool r)) (⟨[], []⟩)) := by
  rw [laws_FnOrdinalProducts_p16] at h
  cases v220
  · replace h := condF h
    cases v224
    · replace h := condF h
      cases v228
      · replace h := condF h
        cases v235
        · replace h := condF h
          conv => whnf
          exact CutK.piece (laws_FnOrdinalProducts_p17_ct  h) [] [] ⟨⟨rfl, rfl⟩, ⟨rfl, trivial⟩, rfl, trivial⟩
        · replace h := condT h
          conv => whnf
          exact CutK.piece (laws_FnOrdinalProducts_p17_ct  h) [] [] ⟨⟨rfl, rfl⟩, ⟨rfl, trivial⟩, rfl, trivial⟩
      · replace h := condT h
        cases v235
        · replace h := condF h
          conv => whnf
          exact CutK.piece (laws_FnOrdinalProducts_p17_ct  h) [] [] ⟨⟨rfl, rfl⟩, ⟨rfl, trivial⟩, rfl, trivial⟩
        · replace h := condT h
          conv => whnf
          exact CutK.piece (laws_FnOrdinalProducts_p17_ct  h) [] [] ⟨⟨rfl, rfl⟩, ⟨rfl, trivial⟩, rfl, trivial⟩
    · replace h := condT h
      cases v228
      · replace h := condF h
        cases v235
        · replace h := condF h
          conv => whnf
          exact CutK.piece (laws_FnOrdinalProducts_p17_ct  h) [] [] ⟨⟨rfl, rfl⟩, ⟨rfl, trivial⟩, rfl, trivial⟩
        · replace h := condT h
          conv => whnf
          exact CutK.piece (laws_FnOrdinalProducts_p17_ct  h) [] [] ⟨⟨rfl, rfl⟩, ⟨rfl, trivial⟩, rfl, trivial⟩
      · replace h := condT h
        cases v235
        · replace h := condF h
          conv => whnf
          exact CutK.piece (laws_FnOrdinalProducts_p17_ct  h) [] [] ⟨⟨rfl, rfl⟩, ⟨rfl, trivial⟩, rfl, trivial⟩
        · replace h := condT h
          conv => whnf
          exact CutK.piece (laws_FnOrdinalProducts_p17_ct  h) [] [] ⟨⟨rfl, rfl⟩, ⟨rfl, trivial⟩, rfl, trivial⟩
  · replace h := condT h
    cases v224
    · replace h := condF h
      cases v228
      · replace h := condF h
        cases v235
        · replace h := condF h
          conv => whnf
          exact CutK.piece (laws_FnOrdinalProducts_p17_ct  h) [] [] ⟨⟨rfl, rfl⟩, ⟨rfl, trivial⟩, rfl, trivial⟩
        · replace h := condT h
          conv => whnf
          exact CutK.piece (laws_FnOrdinalProducts_p17_ct  h) [] [] ⟨⟨rfl, rfl⟩, ⟨rfl, trivial⟩, rfl, trivial⟩
      · replace h := condT h
        cases v235
        · replace h := condF h
          conv => whnf
          exact CutK.piece (laws_FnOrdinalProducts_p17_ct  h) [] [] ⟨⟨rfl, rfl⟩, ⟨rfl, trivial⟩, rfl, trivial⟩
        · replace h := condT h
          conv => whnf
          exact CutK.piece (laws_FnOrdinalProducts_p17_ct  h) [] [] ⟨⟨rfl, rfl⟩, ⟨rfl, trivial⟩, rfl, trivial⟩
    · replace h := condT h
      cases v228
      · replace h := condF h
        cases v235
        · replace h := condF h
          conv => whnf
          exact CutK.piece (laws_FnOrdinalProducts_p17_ct  h) [] [] ⟨⟨rfl, rfl⟩, ⟨rfl, trivial⟩, rfl, trivial⟩
        · replace h := condT h
          conv => whnf
          exact CutK.piece (laws_FnOrdinalProducts_p17_ct  h) [] [] ⟨⟨rfl, rfl⟩, ⟨rfl, trivial⟩, rfl, trivial⟩
      · replace h := condT h
        cases v235
        · replace h := condF h
          conv => whnf
          exact CutK.piece (laws_FnOrdinalProducts_p17_ct  h) [] [] ⟨⟨rfl, rfl⟩, ⟨rfl, trivial⟩, rfl, trivial⟩
        · replace h := condT h
          conv => whnf
          refine Take.all (rfl) ?_
          conv => whnf
          refine Take.all (rfl) ?_
          conv => whnf
          obtain ⟨y249, e250, h⟩ := bind_ex h
          refine CallOk.of (laws_sameOrdinal_ct e250) ?_
          conv => whnf
          refine spl (fun g251 => ?_) (fun g251 => ?_)
          · replace h := iteT h g251
            conv => whnf
            exact CutK.piece (laws_FnOrdinalProducts_p17_ct  h) [] [] ⟨⟨rfl, rfl⟩, ⟨rfl, trivial⟩, rfl, trivial⟩
          · replace h := iteF h g251
            conv => whnf
            exact CutK.piece (laws_FnOrdinalProducts_p17_ct  h) [] [] ⟨⟨rfl, rfl⟩, ⟨rfl, trivial⟩, rfl, trivial⟩
def laws_FnOrdinalProducts_p15 (k : Nat) (o200 : Rw) (o201 : Rw) (o202 : Rw) (v203 : Bool) (v207 : Bool) (v211 : Bool) : Option Bool :=
  (cond v203 (cond v207 (cond v211 ((impl_AddOrdinals k o200 o202).bind fun y273 => (if y273.2 = true then (laws_FnOrdinalProducts_p16 k o201 y273.1 true true true true) else (laws_FnOrdinalProducts_p16 k o201 y273.1 false true true true))) ((impl_AddOrdinals k o200 o202).bind fun y270 => (if y270.2 = true then (laws_FnOrdinalProducts_p16 k o201 y270.1 true false true true) else (laws_FnOrdinalProducts_p16 k o201 y270.1 false false true true)))) (cond v211 ((impl_AddOrdinals k o200 o202).bind fun y267 => (if y267.2 = true then (laws_FnOrdinalProducts_p16 k o201 y267.1 true true false true) else (laws_FnOrdinalProducts_p16 k o201 y267.1 false true false true))) ((impl_AddOrdinals k o200 o202).bind fun y264 => (if y264.2 = true then (laws_FnOrdinalProducts_p16 k o201 y264.1 true false false true) else (laws_FnOrdinalProducts_p16 k o201 y264.1 false false false true))))) (cond v207 (cond v211 ((impl_AddOrdinals k o200 o202).bind fun y261 => (if y261.2 = true then (laws_FnOrdinalProducts_p16 k o201 y261.1 true true true false) else (laws_FnOrdinalProducts_p16 k o201 y261.1 false true true false))) ((impl_AddOrdinals k o200 o202).bind fun y258 => (if y258.2 = true then (laws_FnOrdinalProducts_p16 k o201 y258.1 true false true false) else (laws_FnOrdinalProducts_p16 k o201 y258.1 false false true false)))) (cond v211 ((impl_AddOrdinals k o200 o202).bind fun y255 => (if y255.2 = true then (laws_FnOrdinalProducts_p16 k o201 y255.1 true true false false) else (laws_FnOrdinalProducts_p16 k o201 y255.1 false true false false))) ((impl_AddOrdinals k o200 o202).bind fun y252 => (if y252.2 = true then (laws_FnOrdinalProducts_p16 k o201 y252.1 true false false false) else (laws_FnOrdinalProducts_p16 k o201 y252.1 false false false false))))))
set_option maxHeartbeats 4000000 in
set_option maxRecDepth 100000 in
theorem laws_FnOrdinalProducts_p15_ct {k : Nat} {o200 : Rw} {o201 : Rw} {o202 : Rw} {v203 : Bool} {v207 : Bool} {v211 : Bool} {r : Bool} (h : laws_FnOrdinalProducts_p15 k o200 o201 o202 v203 v207 v211 = some r) : X prog 0 (tlF f8 15) (mk 178 [(7, .ptr 448 0), (26, .d (D.bool v207)), (27, .ptr 1728 0), (28, .d (D.bool v211)), (29, .ptr 1856 0), (30, .d (D.bool v203))] [(448, .box 26 [.os 1139000 o200.length]), (1728, .box 26 [.os 1139001 o201.length]), (1856, .box 26 [.os 1139002 o202.length]), (1139000, .arr 98 true o200), (1139001, .arr 98 true o201), (1139002, .arr 98 true o202)]) (finK prog f8 0 (.d (D.bool r)) (⟨[], []⟩)) := by
  rw [laws_FnOrdinalProducts_p15] at h
  cases v203
  · replace h := condF h
    cases v207
    · replace h := condF h
      cases v211
      · replace h := condF h
        conv => whnf
        refine Take.all (rfl) ?_
        conv => whnf
        refine Take.all (rfl) ?_
        conv => whnf
        obtain ⟨y252, e253, h⟩ := bind_ex h
        refine CallOk.of (impl_AddOrdinals_ct e253) ?_
        conv => whnf
        refine spl (fun g254 => ?_) (fun g254 => ?_)
        · replace h := iteT h g254
          conv => whnf
          exact CutK.piece (laws_FnOrdinalProducts_p16_ct  h) [some 1728, some 1984, some 1139001, some 9984] [] ⟨⟨rfl, rfl⟩, ⟨rfl, ⟨rfl, ⟨rfl, rfl⟩, trivial⟩, ⟨rfl, ⟨rfl, rfl⟩, trivial⟩, ⟨rfl, rfl, rows_same⟩, ⟨rfl, rfl, rows_same⟩, trivial⟩, rfl, ⟨rfl, rfl⟩, rfl, rfl, ⟨rfl, rfl⟩, rfl, trivial⟩
        · replace h := iteF h g254
          conv => whnf
          exact CutK.piece (laws_FnOrdinalProducts_p16_ct  h) [some 1728, some 1984, some 1139001, some 9984] [] ⟨⟨rfl, rfl⟩, ⟨rfl, ⟨rfl, ⟨rfl, rfl⟩, trivial⟩, ⟨rfl, ⟨rfl, rfl⟩, trivial⟩, ⟨rfl, rfl, rows_same⟩, ⟨rfl, rfl, rows_same⟩, trivial⟩, rfl, ⟨rfl, rfl⟩, rfl, rfl, ⟨rfl, rfl⟩, rfl, trivial⟩
      · replace h := condT h
        conv => whnf
        refine Take.all (rfl) ?_
        conv => whnf
        refine Take.all (rfl) ?_
        conv => whnf
        obtain ⟨y255, e256, h⟩ := bind_ex h
        refine CallOk.of (impl_AddOrdinals_ct e256) ?_
        conv => whnf
        refine spl (fun g257 => ?_) (fun g257 => ?_)
        · replace h := iteT h g257
          conv => whnf
          exact CutK.piece (laws_FnOrdinalProducts_p16_ct  h) [some 1728, some 1984, some 1139001, some 9984] [] ⟨⟨rfl, rfl⟩, ⟨rfl, ⟨rfl, ⟨rfl, rfl⟩, trivial⟩, ⟨rfl, ⟨rfl, rfl⟩, trivial⟩, ⟨rfl, rfl, rows_same⟩, ⟨rfl, rfl, rows_same⟩, trivial⟩, rfl, ⟨rfl, rfl⟩, rfl, rfl, ⟨rfl, rfl⟩, rfl, trivial⟩
        · replace h := iteF h g257
          conv => whnf
          exact CutK.piece (laws_FnOrdinalProducts_p16_ct  h) [some 1728, some 1984, some 1139001, some 9984] [] ⟨⟨rfl, rfl⟩, ⟨rfl, ⟨rfl, ⟨rfl, rfl⟩, trivial⟩, ⟨rfl, ⟨rfl, rfl⟩, trivial⟩, ⟨rfl, rfl, rows_same⟩, ⟨rfl, rfl, rows_same⟩, trivial⟩, rfl, ⟨rfl, rfl⟩, rfl, rfl, ⟨rfl, rfl⟩, rfl, trivial⟩
    · replace h := condT h
      cases v211
      · replace h := condF h
        conv => whnf
        refine Take.all (rfl) ?_
        conv => whnf
        refine Take.all (rfl) ?_
        conv => whnf
        obtain ⟨y258, e259, h⟩ := bind_ex h
        refine CallOk.of (impl_AddOrdinals_ct e259) ?_
        conv => whnf
        refine spl (fun g260 => ?_) (fun g260 => ?_)
        · replace h := iteT h g260
          conv => whnf
          exact CutK.piece (laws_FnOrdinalProducts_p16_ct  h) [some 1728, some 1984, some 1139001, some 9984] [] ⟨⟨rfl, rfl⟩, ⟨rfl, ⟨rfl, ⟨rfl, rfl⟩, trivial⟩, ⟨rfl, ⟨rfl, rfl⟩, trivial⟩, ⟨rfl, rfl, rows_same⟩, ⟨rfl, rfl, rows_same⟩, trivial⟩, rfl, ⟨rfl, rfl⟩, rfl, rfl, ⟨rfl, rfl⟩, rfl, trivial⟩
        · replace h := iteF h g260
          conv => whnf
          exact CutK.piece (laws_FnOrdinalProducts_p16_ct  h) [some 1728, some 1984, some 1139001, some 9984] [] ⟨⟨rfl, rfl⟩, ⟨rfl, ⟨rfl, ⟨rfl, rfl⟩, trivial⟩, ⟨rfl, ⟨rfl, rfl⟩, trivial⟩, ⟨rfl, rfl, rows_same⟩, ⟨rfl, rfl, rows_same⟩, trivial⟩, rfl, ⟨rfl, rfl⟩, rfl, rfl, ⟨rfl, rfl⟩, rfl, trivial⟩
      · replace h := condT h
        conv => whnf
        refine Take.all (rfl) ?_
        conv => whnf
        refine Take.all (rfl) ?_
        conv => whnf
        obtain ⟨y261, e262, h⟩ := bind_ex h
        refine CallOk.of (impl_AddOrdinals_ct e262) ?_
        conv => whnf
        refine spl (fun g263 => ?_) (fun g263 => ?_)
        · replace h := iteT h g263
          conv => whnf
          exact CutK.piece (laws_FnOrdinalProducts_p16_ct  h) [some 1728, some 1984, some 1139001, some 9984] [] ⟨⟨rfl, rfl⟩, ⟨rfl, ⟨rfl, ⟨rfl, rfl⟩, trivial⟩, ⟨rfl, ⟨rfl, rfl⟩, trivial⟩, ⟨rfl, rfl, rows_same⟩, ⟨rfl, rfl, rows_same⟩, trivial⟩, rfl, ⟨rfl, rfl⟩, rfl, rfl, ⟨rfl, rfl⟩, rfl, trivial⟩
        · replace h := iteF h g263
          conv => whnf
          exact CutK.piece (laws_FnOrdinalProducts_p16_ct  h) [some 1728, some 1984, some 1139001, some 9984] [] ⟨⟨rfl, rfl⟩, ⟨rfl, ⟨rfl, ⟨rfl, rfl⟩, trivial⟩, ⟨rfl, ⟨rfl, rfl⟩, trivial⟩, ⟨rfl, rfl, rows_same⟩, ⟨rfl, rfl, rows_same⟩, trivial⟩, rfl, ⟨rfl, rfl⟩, rfl, rfl, ⟨rfl, rfl⟩, rfl, trivial⟩
  · replace h := condT h
    cases v207
    · replace h := condF h
      cases v211
      · replace h := condF h
        conv => whnf
        refine Take.all (rfl) ?_
        conv => whnf
        refine Take.all (rfl) ?_
        conv => whnf
        obtain ⟨y264, e265, h⟩ := bind_ex h
        refine CallOk.of (impl_AddOrdinals_ct e265) ?_
        conv => whnf
        refine spl (fun g266 => ?_) (fun g266 => ?_)
        · replace h := iteT h g266
          conv => whnf
          exact CutK.piece (laws_FnOrdinalProducts_p16_ct  h) [some 1728, some 1984, some 1139001, some 9984] [] ⟨⟨rfl, rfl⟩, ⟨rfl, ⟨rfl, ⟨rfl, rfl⟩, trivial⟩, ⟨rfl, ⟨rfl, rfl⟩, trivial⟩, ⟨rfl, rfl, rows_same⟩, ⟨rfl, rfl, rows_same⟩, trivial⟩, rfl, ⟨rfl, rfl⟩, rfl, rfl, ⟨rfl, rfl⟩, rfl, trivial⟩
        · replace h := iteF h g266
          conv => whnf
          exact CutK.piece (laws_FnOrdinalProducts_p16_ct  h) [some 1728, some 1984, some 1139001, some 9984] [] ⟨⟨rfl, rfl⟩, ⟨rfl, ⟨rfl, ⟨rfl, rfl⟩, trivial⟩, ⟨rfl, ⟨rfl, rfl⟩, trivial⟩, ⟨rfl, rfl, rows_same⟩, ⟨rfl, rfl, rows_same⟩, trivial⟩, rfl, ⟨rfl, rfl⟩, rfl, rfl, ⟨rfl, rfl⟩, rfl, trivial⟩
      · replace h := condT h
        conv => whnf
        refine Take.all (rfl) ?_
        conv => whnf
        refine Take.all (rfl) ?_
        conv => whnf
        obtain ⟨y267, e268, h⟩ := bind_ex h
        refine CallOk.of (impl_AddOrdinals_ct e268) ?_
        conv => whnf
        refine spl (fun g269 => ?_) (fun g269 => ?_)
        · replace h := iteT h g269
          conv => whnf
          exact CutK.piece (laws_FnOrdinalProducts_p16_ct  h) [some 1728, some 1984, some 1139001, some 9984] [] ⟨⟨rfl, rfl⟩, ⟨rfl, ⟨rfl, ⟨rfl, rfl⟩, trivial⟩, ⟨rfl, ⟨rfl, rfl⟩, trivial⟩, ⟨rfl, rfl, rows_same⟩, ⟨rfl, rfl, rows_same⟩, trivial⟩, rfl, ⟨rfl, rfl⟩, rfl, rfl, ⟨rfl, rfl⟩, rfl, trivial⟩
        · replace h := iteF h g269
          conv => whnf
          exact CutK.piece (laws_FnOrdinalProducts_p16_ct  h) [some 1728, some 1984, some 1139001, some 9984] [] ⟨⟨rfl, rfl⟩, ⟨rfl, ⟨rfl, ⟨rfl, rfl⟩, trivial⟩, ⟨rfl, ⟨rfl, rfl⟩, trivial⟩, ⟨rfl, rfl, rows_same⟩, ⟨rfl, rfl, rows_same⟩, trivial⟩, rfl, ⟨rfl, rfl⟩, rfl, rfl, ⟨rfl, rfl⟩, rfl, trivial⟩
    · replace h := condT h
      cases v211
      · replace h := condF h
        conv => whnf
        refine Take.all (rfl) ?_
        conv => whnf
        refine Take.all (rfl) ?_
        conv => whnf
        obtain ⟨y270, e271, h⟩ := bind_ex h
        refine CallOk.of (impl_AddOrdinals_ct e271) ?_
        conv => whnf
        refine spl (fun g272 => ?_) (fun g272 => ?_)
        · replace h := iteT h g272
          conv => whnf
          exact CutK.piece (laws_FnOrdinalProducts_p16_ct  h) [some 1728, some 1984, some 1139001, some 9984] [] ⟨⟨rfl, rfl⟩, ⟨rfl, ⟨rfl, ⟨rfl, rfl⟩, trivial⟩, ⟨rfl, ⟨rfl, rfl⟩, trivial⟩, ⟨rfl, rfl, rows_same⟩, ⟨rfl, rfl, rows_same⟩, trivial⟩, rfl, ⟨rfl, rfl⟩, rfl, rfl, ⟨rfl, rfl⟩, rfl, trivial⟩
        · replace h := iteF h g272
          conv => whnf
          exact CutK.piece (laws_FnOrdinalProducts_p16_ct  h) [some 1728, some 1984, some 1139001, some 9984] [] ⟨⟨rfl, rfl⟩, ⟨rfl, ⟨rfl, ⟨rfl, rfl⟩, trivial⟩, ⟨rfl, ⟨rfl, rfl⟩, trivial⟩, ⟨rfl, rfl, rows_same⟩, ⟨rfl, rfl, rows_same⟩, trivial⟩, rfl, ⟨rfl, rfl⟩, rfl, rfl, ⟨rfl, rfl⟩, rfl, trivial⟩
      · replace h := condT h
        conv => whnf
        refine Take.all (rfl) ?_
        conv => whnf
        refine Take.all (rfl) ?_
        conv => whnf
        obtain ⟨y273, e274, h⟩ := bind_ex h
        refine CallOk.of (impl_AddOrdinals_ct e274) ?_
        conv => whnf
        refine spl (fun g275 => ?_) (fun g275 => ?_)
        · replace h := iteT h g275
          conv => whnf
          exact CutK.piece (laws_FnOrdinalProducts_p16_ct  h) [some 1728, some 1984, some 1139001, some 9984] [] ⟨⟨rfl, rfl⟩, ⟨rfl, ⟨rfl, ⟨rfl, rfl⟩, trivial⟩, ⟨rfl, ⟨rfl, rfl⟩, trivial⟩, ⟨rfl, rfl, rows_same⟩, ⟨rfl, rfl, rows_same⟩, trivial⟩, rfl, ⟨rfl, rfl⟩, rfl, rfl, ⟨rfl, rfl⟩, rfl, trivial⟩
        · replace h := iteF h g275
          conv => whnf
          exact CutK.piece (laws_FnOrdinalProducts_p16_ct  h) [some 1728, some 1984, some 1139001, some 9984] [] ⟨⟨rfl, rfl⟩, ⟨rfl, ⟨rfl, ⟨rfl, rfl⟩, trivial⟩, ⟨rfl, ⟨rfl, rfl⟩, trivial⟩, ⟨rfl, rfl, rows_same⟩, ⟨rfl, rfl, rows_same⟩, trivial⟩, rfl, ⟨rfl, rfl⟩, rfl, rfl, ⟨rfl, rfl⟩, rfl, trivial⟩
def laws_FnOrdinalProducts_p14 (k : Nat) (o188 : Rw) (o189 : Rw) (o190 : Rw) (o191 : Rw) (v192 : Bool) (v196 : Bool) : Option Bool :=
  (cond v192 (cond v196 ((impl_MultiplyOrdinals k o188 o190).bind fun y285 => (if y285.2 = true then (laws_FnOrdinalProducts_p15 k o189 o191 y285.1 true true true) else (laws_FnOrdinalProducts_p15 k o189 o191 y285.1 false true true))) ((impl_MultiplyOrdinals k o188 o190).bind fun y282 => (if y282.2 = true then (laws_FnOrdinalProducts_p15 k o189 o191 y282.1 true false true) else (laws_FnOrdinalProducts_p15 k o189 o191 y282.1 false false true)))) (cond v196 ((impl_MultiplyOrdinals k o188 o190).bind fun y279 => (if y279.2 = true then (laws_FnOrdinalProducts_p15 k o189 o191 y279.1 true true false) else (laws_FnOrdinalProducts_p15 k o189 o191 y279.1 false true false))) ((impl_MultiplyOrdinals k o188 o190).bind fun y276 => (if y276.2 = true then (laws_FnOrdinalProducts_p15 k o189 o191 y276.1 true false false) else (laws_FnOrdinalProducts_p15 k o189 o191 y276.1 false false false)))))
set_option maxHeartbeats 4000000 in
set_option maxRecDepth 100000 in
theorem laws_FnOrdinalProducts_p14_ct {k : Nat} {o188 : Rw} {o189 : Rw} {o190 : Rw} {o191 : Rw} {v192 : Bool} {v196 : Bool} {r : Bool} (h : laws_FnOrdinalProducts_p14 k o188 o189 o190 o191 v192 v196 = some r) : X prog 0 (tlF f8 14) (mk 178 [(5, .ptr 320 0), (7, .ptr 448 0), (23, .ptr 1472 0), (26, .d (D.bool v196)), (27, .ptr 1728 0), (28, .d (D.bool v192))] [(320, .box 26 [.os 1134000 o188.length]), (448, .box 26 [.os 1134001 o189.length]), (1472, .box 26 [.os 1134002 o190.length]), (1728, .box 26 [.os 1134003 o191.length]), (1134000, .arr 98 false o188), (1134001, .arr 98 true o189), (1134002, .arr 98 false o190), (1134003, .arr 98 true o191)]) (finK prog f8 0 (.d (D.bool r)) (⟨[], []⟩)) := by
  rw [laws_FnOrdinalProducts_p14] at h
  cases v192
  · replace h := condF h
    cases v196
    · replace h := condF h
      conv => whnf
      refine Take.all (rfl) ?_
      conv => whnf
      refine Take.all (rfl) ?_
      conv => whnf
      obtain ⟨y276, e277, h⟩ := bind_ex h
      refine CallOk.of (impl_MultiplyOrdinals_ct e277) ?_
      conv => whnf
      refine spl (fun g278 => ?_) (fun g278 => ?_)
      · replace h := iteT h g278
        conv => whnf
        exact CutK.piece (laws_FnOrdinalProducts_p15_ct  h) [some 448, some 1728, some 1856, some 1134001, some 1134003, some 9600] [] ⟨⟨rfl, rfl⟩, ⟨rfl, ⟨rfl, ⟨rfl, rfl⟩, trivial⟩, ⟨rfl, ⟨rfl, rfl⟩, trivial⟩, ⟨rfl, ⟨rfl, rfl⟩, trivial⟩, ⟨rfl, rfl, rows_same⟩, ⟨rfl, rfl, rows_same⟩, ⟨rfl, rfl, rows_same⟩, trivial⟩, ⟨rfl, rfl⟩, rfl, ⟨rfl, rfl⟩, rfl, ⟨rfl, rfl⟩, rfl, trivial⟩
      · replace h := iteF h g278
        conv => whnf
        exact CutK.piece (laws_FnOrdinalProducts_p15_ct  h) [some 448, some 1728, some 1856, some 1134001, some 1134003, some 9600] [] ⟨⟨rfl, rfl⟩, ⟨rfl, ⟨rfl, ⟨rfl, rfl⟩, trivial⟩, ⟨rfl, ⟨rfl, rfl⟩, trivial⟩, ⟨rfl, ⟨rfl, rfl⟩, trivial⟩, ⟨rfl, rfl, rows_same⟩, ⟨rfl, rfl, rows_same⟩, ⟨rfl, rfl, rows_same⟩, trivial⟩, ⟨rfl, rfl⟩, rfl, ⟨rfl, rfl⟩, rfl, ⟨rfl, rfl⟩, rfl, trivial⟩
    · replace h := condT h
      conv => whnf
      refine Take.all (rfl) ?_
      conv => whnf
      refine Take.all (rfl) ?_
      conv => whnf
      obtain ⟨y279, e280, h⟩ := bind_ex h
      refine CallOk.of (impl_MultiplyOrdinals_ct e280) ?_
      conv => whnf
      refine spl (fun g281 => ?_) (fun g281 => ?_)
      · replace h := iteT h g281
        conv => whnf
        exact CutK.piece (laws_FnOrdinalProducts_p15_ct  h) [some 448, some 1728, some 1856, some 1134001, some 1134003, some 9600] [] ⟨⟨rfl, rfl⟩, ⟨rfl, ⟨rfl, ⟨rfl, rfl⟩, trivial⟩, ⟨rfl, ⟨rfl, rfl⟩, trivial⟩, ⟨rfl, ⟨rfl, rfl⟩, trivial⟩, ⟨rfl, rfl, rows_same⟩, ⟨rfl, rfl, rows_same⟩, ⟨rfl, rfl, rows_same⟩, trivial⟩, ⟨rfl, rfl⟩, rfl, ⟨rfl, rfl⟩, rfl, ⟨rfl, rfl⟩, rfl, trivial⟩
      · replace h := iteF h g281
        conv => whnf
        exact CutK.piece (laws_FnOrdinalProducts_p15_ct  h) [some 448, some 1728, some 1856, some 1134001, some 1134003, some 9600] [] ⟨⟨rfl, rfl⟩, ⟨rfl, ⟨rfl, ⟨rfl, rfl⟩, trivial⟩, ⟨rfl, ⟨rfl, rfl⟩, trivial⟩, ⟨rfl, ⟨rfl, rfl⟩, trivial⟩, ⟨rfl, rfl, rows_same⟩, ⟨rfl, rfl, rows_same⟩, ⟨rfl, rfl, rows_same⟩, trivial⟩, ⟨rfl, rfl⟩, rfl, ⟨rfl, rfl⟩, rfl, ⟨rfl, rfl⟩, rfl, trivial⟩
  · replace h := condT h
    cases v196
    · replace h := condF h
      conv => whnf
      refine Take.all (rfl) ?_
      conv => whnf
      refine Take.all (rfl) ?_
      conv => whnf
      obtain ⟨y282, e283, h⟩ := bind_ex h
      refine CallOk.of (impl_MultiplyOrdinals_ct e283) ?_
      conv => whnf
      refine spl (fun g284 => ?_) (fun g284 => ?_)
      · replace h := iteT h g284
        conv => whnf
        exact CutK.piece (laws_FnOrdinalProducts_p15_ct  h) [some 448, some 1728, some 1856, some 1134001, some 1134003, some 9600] [] ⟨⟨rfl, rfl⟩, ⟨rfl, ⟨rfl, ⟨rfl, rfl⟩, trivial⟩, ⟨rfl, ⟨rfl, rfl⟩, trivial⟩, ⟨rfl, ⟨rfl, rfl⟩, trivial⟩, ⟨rfl, rfl, rows_same⟩, ⟨rfl, rfl, rows_same⟩, ⟨rfl, rfl, rows_same⟩, trivial⟩, ⟨rfl, rfl⟩, rfl, ⟨rfl, rfl⟩, rfl, ⟨rfl, rfl⟩, rfl, trivial⟩
      · replace h := iteF h g284
        conv => whnf
        exact CutK.piece (laws_FnOrdinalProducts_p15_ct  h) [some 448, some 1728, some 1856, some 1134001, some 1134003, some 9600] [] ⟨⟨rfl, rfl⟩, ⟨rfl, ⟨rfl, ⟨rfl, rfl⟩, trivial⟩, ⟨rfl, ⟨rfl, rfl⟩, trivial⟩, ⟨rfl, ⟨rfl, rfl⟩, trivial⟩, ⟨rfl, rfl, rows_same⟩, ⟨rfl, rfl, rows_same⟩, ⟨rfl, rfl, rows_same⟩, trivial⟩, ⟨rfl, rfl⟩, rfl, ⟨rfl, rfl⟩, rfl, ⟨rfl, rfl⟩, rfl, trivial⟩
    · replace h := condT h
      conv => whnf
      refine Take.all (rfl) ?_
      conv => whnf
      refine Take.all (rfl) ?_
      conv => whnf
      obtain ⟨y285, e286, h⟩ := bind_ex h
      refine CallOk.of (impl_MultiplyOrdinals_ct e286) ?_
      conv => whnf
      refine spl (fun g287 => ?_) (fun g287 => ?_)
      · replace h := iteT h g287
        conv => whnf
        exact CutK.piece (laws_FnOrdinalProducts_p15_ct  h) [some 448, some 1728, some 1856, some 1134001, some 1134003, some 9600] [] ⟨⟨rfl, rfl⟩, ⟨rfl, ⟨rfl, ⟨rfl, rfl⟩, trivial⟩, ⟨rfl, ⟨rfl, rfl⟩, trivial⟩, ⟨rfl, ⟨rfl, rfl⟩, trivial⟩, ⟨rfl, rfl, rows_same⟩, ⟨rfl, rfl, rows_same⟩, ⟨rfl, rfl, rows_same⟩, trivial⟩, ⟨rfl, rfl⟩, rfl, ⟨rfl, rfl⟩, rfl, ⟨rfl, rfl⟩, rfl, trivial⟩
      · replace h := iteF h g287
        conv => whnf
        exact CutK.piece (laws_FnOrdinalProducts_p15_ct  h) [some 448, some 1728, some 1856, some 1134001, some 1134003, some 9600] [] ⟨⟨rfl, rfl⟩, ⟨rfl, ⟨rfl, ⟨rfl, rfl⟩, trivial⟩, ⟨rfl, ⟨rfl, rfl⟩, trivial⟩, ⟨rfl, ⟨rfl, rfl⟩, trivial⟩, ⟨rfl, rfl, rows_same⟩, ⟨rfl, rfl, rows_same⟩, ⟨rfl, rfl, rows_same⟩, trivial⟩, ⟨rfl, rfl⟩, rfl, ⟨rfl, rfl⟩, rfl, ⟨rfl, rfl⟩, rfl, trivial⟩
def laws_FnOrdinalProducts_p13 (k : Nat) (o180 : Rw) (o181 : Rw) (o182 : Rw) (o183 : Rw) (v184 : Bool) : Option Bool :=
  (cond v184 ((impl_MultiplyOrdinals k o180 o183).bind fun y291 => (if y291.2 = true then (laws_FnOrdinalProducts_p14 k o180 o181 o182 y291.1 true true) else (laws_FnOrdinalProducts_p14 k o180 o181 o182 y291.1 false true))) ((impl_MultiplyOrdinals k o180 o183).bind fun y288 => (if y288.2 = true then (laws_FnOrdinalProducts_p14 k o180 o181 o182 y288.1 true false) else (laws_FnOrdinalProducts_p14 k o180 o181 o182 y288.1 false false))))
set_option maxHeartbeats 4000000 in
set_option maxRecDepth 100000 in
theorem laws_FnOrdinalProducts_p13_ct {k : Nat} {o180 : Rw} {o181 : Rw} {o182 : Rw} {o183 : Rw} {v184 : Bool} {r : Bool} (h : laws_FnOrdinalProducts_p13 k o180 o181 o182 o183 v184 = some r) : X prog 0 (tlF f8 13) (mk 178 [(5, .ptr 320 0), (7, .ptr 448 0), (23, .ptr 1472 0), (25, .ptr 1600 0), (26, .d (D.bool v184))] [(320, .box 26 [.os 1129000 o180.length]), (448, .box 26 [.os 1129001 o181.length]), (1472, .box 26 [.os 1129002 o182.length]), (1600, .box 26 [.os 1129003 o183.length]), (1129000, .arr 98 false o180), (1129001, .arr 98 true o181), (1129002, .arr 98 false o182), (1129003, .arr 98 true o183)]) (finK prog f8 0 (.d (D.bool r)) (⟨[], []⟩)) := by
  rw [laws_FnOrdinalProducts_p13] at h
  cases v184
  · replace h := condF h
    conv => whnf
    refine Take.all (rfl) ?_
    conv => whnf
    refine Take.all (rfl) ?_
    conv => whnf
    obtain ⟨y288, e289, h⟩ := bind_ex h
    refine CallOk.of (impl_MultiplyOrdinals_ct e289) ?_
    conv => whnf
    refine spl (fun g290 => ?_) (fun g290 => ?_)
    · replace h := iteT h g290
      conv => whnf
      exact CutK.piece (laws_FnOrdinalProducts_p14_ct  h) [some 320, some 448, some 1472, some 1728, some 1129000, some 1129001, some 1129002, some 9216] [] ⟨⟨rfl, rfl⟩, ⟨rfl, ⟨rfl, ⟨rfl, rfl⟩, trivial⟩, ⟨rfl, ⟨rfl, rfl⟩, trivial⟩, ⟨rfl, ⟨rfl, rfl⟩, trivial⟩, ⟨rfl, ⟨rfl, rfl⟩, trivial⟩, ⟨rfl, rfl, rows_same⟩, ⟨rfl, rfl, rows_same⟩, ⟨rfl, rfl, rows_same⟩, ⟨rfl, rfl, rows_same⟩, trivial⟩, ⟨rfl, rfl⟩, ⟨rfl, rfl⟩, ⟨rfl, rfl⟩, rfl, ⟨rfl, rfl⟩, rfl, trivial⟩
    · replace h := iteF h g290
      conv => whnf
      exact CutK.piece (laws_FnOrdinalProducts_p14_ct  h) [some 320, some 448, some 1472, some 1728, some 1129000, some 1129001, some 1129002, some 9216] [] ⟨⟨rfl, rfl⟩, ⟨rfl, ⟨rfl, ⟨rfl, rfl⟩, trivial⟩, ⟨rfl, ⟨rfl, rfl⟩, trivial⟩, ⟨rfl, ⟨rfl, rfl⟩, trivial⟩, ⟨rfl, ⟨rfl, rfl⟩, trivial⟩, ⟨rfl, rfl, rows_same⟩, ⟨rfl, rfl, rows_same⟩, ⟨rfl, rfl, rows_same⟩, ⟨rfl, rfl, rows_same⟩, trivial⟩, ⟨rfl, rfl⟩, ⟨rfl, rfl⟩, ⟨rfl, rfl⟩, rfl, ⟨rfl, rfl⟩, rfl, trivial⟩
  · replace h := condT h
    conv => whnf
    refine Take.all (rfl) ?_
    conv => whnf
    refine Take.all (rfl) ?_
    conv => whnf
    obtain ⟨y291, e292, h⟩ := bind_ex h
    refine CallOk.of (impl_MultiplyOrdinals_ct e292) ?_
    conv => whnf
    refine spl (fun g293 => ?_) (fun g293 => ?_)
    · replace h := iteT h g293
      conv => whnf
      exact CutK.piece (laws_FnOrdinalProducts_p14_ct  h) [some 320, some 448, some 1472, some 1728, some 1129000, some 1129001, some 1129002, some 9216] [] ⟨⟨rfl, rfl⟩, ⟨rfl, ⟨rfl, ⟨rfl, rfl⟩, trivial⟩, ⟨rfl, ⟨rfl, rfl⟩, trivial⟩, ⟨rfl, ⟨rfl, rfl⟩, trivial⟩, ⟨rfl, ⟨rfl, rfl⟩, trivial⟩, ⟨rfl, rfl, rows_same⟩, ⟨rfl, rfl, rows_same⟩, ⟨rfl, rfl, rows_same⟩, ⟨rfl, rfl, rows_same⟩, trivial⟩, ⟨rfl, rfl⟩, ⟨rfl, rfl⟩, ⟨rfl, rfl⟩, rfl, ⟨rfl, rfl⟩, rfl, trivial⟩
    · replace h := iteF h g293
      conv => whnf
      exact CutK.piece (laws_FnOrdinalProducts_p14_ct  h) [some 320, some 448, some 1472, some 1728, some 1129000, some 1129001, some 1129002, some 9216] [] ⟨⟨rfl, rfl⟩, ⟨rfl, ⟨rfl, ⟨rfl, rfl⟩, trivial⟩, ⟨rfl, ⟨rfl, rfl⟩, trivial⟩, ⟨rfl, ⟨rfl, rfl⟩, trivial⟩, ⟨rfl, ⟨rfl, rfl⟩, trivial⟩, ⟨rfl, rfl, rows_same⟩, ⟨rfl, rfl, rows_same⟩, ⟨rfl, rfl, rows_same⟩, ⟨rfl, rfl, rows_same⟩, trivial⟩, ⟨rfl, rfl⟩, ⟨rfl, rfl⟩, ⟨rfl, rfl⟩, rfl, ⟨rfl, rfl⟩, rfl, trivial⟩
def laws_FnOrdinalProducts_p12 (k : Nat) (o173 : Rw) (o174 : Rw) (o175 : Rw) (o176 : Rw) : Option Bool :=
  ((impl_AddOrdinals k o174 o176).bind fun y294 => (if y294.2 = true then (laws_FnOrdinalProducts_p13 k o173 o175 o176 y294.1 true) else (laws_FnOrdinalProducts_p13 k o173 o175 o176 y294.1 false)))
set_option maxHeartbeats 4000000 in
set_option maxRecDepth 100000 in
theorem laws_FnOrdinalProducts_p12_ct {k : Nat} {o173 : Rw} {o174 : Rw} {o175 : Rw} {o176 : Rw} {r : Bool} (h : laws_FnOrdinalProducts_p12 k o173 o174 o175 o176 = some r) : X prog 0 (tlF f8 12) (mk 178 [(5, .ptr 320 0), (6, .ptr 384 0), (7, .ptr 448 0), (23, .ptr 1472 0)] [(320, .box 26 [.os 1124000 o173.length]), (384, .box 26 [.d (D.sl o174)]), (448, .box 26 [.os 1124001 o175.length]), (1472, .box 26 [.os 1124002 o176.length]), (1124000, .arr 98 false o173), (1124001, .arr 98 true o175), (1124002, .arr 98 false o176)]) (finK prog f8 0 (.d (D.bool r)) (⟨[], []⟩)) := by
  rw [laws_FnOrdinalProducts_p12] at h
  conv => whnf
  refine Take.all (rfl) ?_
  conv => whnf
  obtain ⟨y294, e295, h⟩ := bind_ex h
  refine CallOk.of (impl_AddOrdinals_ct e295) ?_
  conv => whnf
  refine spl (fun g296 => ?_) (fun g296 => ?_)
  · replace h := iteT h g296
    conv => whnf
    exact CutK.piece (laws_FnOrdinalProducts_p13_ct  h) [some 320, some 448, some 1472, some 1600, some 1124000, some 1124001, some 1124002, some 8832] [] ⟨⟨rfl, rfl⟩, ⟨rfl, ⟨rfl, ⟨rfl, rfl⟩, trivial⟩, ⟨rfl, ⟨rfl, rfl⟩, trivial⟩, ⟨rfl, ⟨rfl, rfl⟩, trivial⟩, ⟨rfl, ⟨rfl, rfl⟩, trivial⟩, ⟨rfl, rfl, rows_same⟩, ⟨rfl, rfl, rows_same⟩, ⟨rfl, rfl, rows_same⟩, ⟨rfl, rfl, rows_same⟩, trivial⟩, ⟨rfl, rfl⟩, ⟨rfl, rfl⟩, ⟨rfl, rfl⟩, ⟨rfl, rfl⟩, rfl, trivial⟩
  · replace h := iteF h g296
    conv => whnf
    exact CutK.piece (laws_FnOrdinalProducts_p13_ct  h) [some 320, some 448, some 1472, some 1600, some 1124000, some 1124001, some 1124002, some 8832] [] ⟨⟨rfl, rfl⟩, ⟨rfl, ⟨rfl, ⟨rfl, rfl⟩, trivial⟩, ⟨rfl, ⟨rfl, rfl⟩, trivial⟩, ⟨rfl, ⟨rfl, rfl⟩, trivial⟩, ⟨rfl, ⟨rfl, rfl⟩, trivial⟩, ⟨rfl, rfl, rows_same⟩, ⟨rfl, rfl, rows_same⟩, ⟨rfl, rfl, rows_same⟩, ⟨rfl, rfl, rows_same⟩, trivial⟩, ⟨rfl, rfl⟩, ⟨rfl, rfl⟩, ⟨rfl, rfl⟩, ⟨rfl, rfl⟩, rfl, trivial⟩
def laws_FnOrdinalProducts_p10 (k : Nat) (a2 : Rw) (o105 : Rw) (o106 : Rw) (o107 : Rw) (v139 : Bool) : Option Bool :=
  (cond v139 ((spec_DrawAddOrdinals k a2).bind fun y297 => (laws_FnOrdinalProducts_p12 k o105 o106 o107 y297.1)) (some true))
set_option maxHeartbeats 4000000 in
set_option maxRecDepth 100000 in
theorem laws_FnOrdinalProducts_p10_ct {k : Nat} {a2 : Rw} {o105 : Rw} {o106 : Rw} {o107 : Rw} {v139 : Bool} {r : Bool} (h : laws_FnOrdinalProducts_p10 k a2 o105 o106 o107 v139 = some r) : X prog 0 (tlF f8 10) (mk 178 [(1, .d (D.sl a2)), (5, .ptr 320 0), (6, .ptr 384 0), (7, .ptr 448 0), (8, .d (D.bool v139))] [(320, .box 26 [.os 1114000 o105.length]), (384, .box 26 [.d (D.sl o106)]), (448, .box 26 [.os 1114001 o107.length]), (1114000, .arr 98 false o105), (1114001, .arr 98 true o107)]) (finK prog f8 0 (.d (D.bool r)) (⟨[], []⟩)) := by
  rw [laws_FnOrdinalProducts_p10] at h
  cases v139
  · replace h := condF h
    conv => whnf
    cases h
    exact Done.of [] [] rfl rfl ⟨⟨rfl, rfl⟩, ⟨rfl, trivial⟩, rfl, trivial⟩
  · replace h := condT h
    conv => whnf
    obtain ⟨y297, e298, h⟩ := bind_ex h
    refine CallOk.of (spec_DrawAddOrdinals_ct e298) ?_
    conv => whnf
    exact CutK.piece (laws_FnOrdinalProducts_p12_ct  h) [some 320, some 384, some 448, some 1472, some 1114000, some 1114001, some 8448] [] ⟨⟨rfl, rfl⟩, ⟨rfl, ⟨rfl, ⟨rfl, rfl⟩, trivial⟩, ⟨rfl, rfl, trivial⟩, ⟨rfl, ⟨rfl, rfl⟩, trivial⟩, ⟨rfl, ⟨rfl, rfl⟩, trivial⟩, ⟨rfl, rfl, rows_same⟩, ⟨rfl, rfl, rows_same⟩, ⟨rfl, rfl, rows_same⟩, trivial⟩, ⟨rfl, rfl⟩, ⟨rfl, rfl⟩, ⟨rfl, rfl⟩, ⟨rfl, rfl⟩, trivial⟩
def laws_FnOrdinalProducts_p9 (k : Nat) (a2 : Rw) (o80 : Rw) (o81 : Rw) (o82 : Rw) (o83 : Rw) (o84 : Rw) (v91 : Bool) (v98 : Bool) : Option Bool :=
  (cond v91 (cond v98 ((impl_MultiplyOrdinals k o81 o83).bind fun y330 => (if y330.2 = true then ((impl_AddOrdinals k y330.1 o84).bind fun y333 => (if y333.2 = true then ((impl_CompareOrdinals k o84 o81).bind fun y336 => (if y336.2 = true then ((laws_sameOrdinal k y333.1 o80).bind fun y339 => (if y339 = true then (if (0 : Int) ≤ y336.1 then some false else (laws_FnOrdinalProducts_p10 k a2 o80 o81 o82 true)) else some false)) else ((laws_sameOrdinal k y333.1 o80).bind fun y343 => (if y343 = true then some false else some false)))) else ((impl_CompareOrdinals k o84 o81).bind fun y346 => (if y346.2 = true then (if (0 : Int) ≤ y346.1 then some false else (laws_FnOrdinalProducts_p10 k a2 o80 o81 o82 true)) else some false)))) else ((impl_AddOrdinals k y330.1 o84).bind fun y350 => (if y350.2 = true then ((impl_CompareOrdinals k o84 o81).bind fun y353 => (if y353.2 = true then (if (0 : Int) ≤ y353.1 then some false else (laws_FnOrdinalProducts_p10 k a2 o80 o81 o82 true)) else some false)) else ((impl_CompareOrdinals k o84 o81).bind fun y357 => (if y357.2 = true then (if (0 : Int) ≤ y357.1 then some false else (laws_FnOrdinalProducts_p10 k a2 o80 o81 o82 true)) else some false)))))) (laws_FnOrdinalProducts_p10 k a2 o80 o81 o82 true)) (cond v98 ((impl_MultiplyOrdinals k o81 o83).bind fun y299 => (if y299.2 = true then ((impl_AddOrdinals k y299.1 o84).bind fun y302 => (if y302.2 = true then ((impl_CompareOrdinals k o84 o81).bind fun y305 => (if y305.2 = true then ((laws_sameOrdinal k y302.1 o80).bind fun y308 => (if y308 = true then (if (0 : Int) ≤ y305.1 then some false else (laws_FnOrdinalProducts_p10 k a2 o80 o81 o82 false)) else some false)) else ((laws_sameOrdinal k y302.1 o80).bind fun y312 => (if y312 = true then some false else some false)))) else ((impl_CompareOrdinals k o84 o81).bind fun y315 => (if y315.2 = true then (if (0 : Int) ≤ y315.1 then some false else (laws_FnOrdinalProducts_p10 k a2 o80 o81 o82 false)) else some false)))) else ((impl_AddOrdinals k y299.1 o84).bind fun y319 => (if y319.2 = true then ((impl_CompareOrdinals k o84 o81).bind fun y322 => (if y322.2 = true then (if (0 : Int) ≤ y322.1 then some false else (laws_FnOrdinalProducts_p10 k a2 o80 o81 o82 false)) else some false)) else ((impl_CompareOrdinals k o84 o81).bind fun y326 => (if y326.2 = true then (if (0 : Int) ≤ y326.1 then some false else (laws_FnOrdinalProducts_p10 k a2 o80 o81 o82 false)) else some false)))))) (laws_FnOrdinalProducts_p10 k a2 o80 o81 o82 false)))
set_option maxHeartbeats 4000000 in
set_option maxRecDepth 100000 in
theorem laws_FnOrdinalProducts_p9_ct {k : Nat} {a2 : Rw} {o80 : Rw} {o81 : Rw} {o82 : Rw} {o83 : Rw} {o84 : Rw} {v91 : Bool} {v98 : Bool} {r : Bool} (h : laws_FnOrdinalProducts_p9 k a2 o80 o81 o82 o83 o84 v91 v98 = some r) : X prog 0 (tlF f8 9) (mk 178 [(1, .d (D.sl a2)), (5, .ptr 320 0), (6, .ptr 384 0), (7, .ptr 448 0), (8, .d (D.bool v91)), (11, .ptr 704 0), (12, .ptr 768 0), (13, .d (D.bool v98))] [(320, .box 26 [.os 1109000 o80.length]), (384, .box 26 [.d (D.sl o81)]), (448, .box 26 [.os 1109001 o82.length]), (704, .box 26 [.os 1109002 o83.length]), (768, .box 26 [.os 1109003 o84.length]), (1109000, .arr 98 false o80), (1109001, .arr 98 true o82), (1109002, .arr 98 true o83), (1109003, .arr 98 true o84)]) (finK prog f8 0 (.d (D.bool r)) (⟨[], []⟩)) := by
  rw [laws_FnOrdinalProducts_p9] at h
  cases v91
  · replace h := condF h
    cases v98
    · replace h := condF h
      conv => whnf
      exact CutK.piece (laws_FnOrdinalProducts_p10_ct  h) [some 320, some 384, some 448, some 1109000, some 1109001] [] ⟨⟨rfl, rfl⟩, ⟨rfl, ⟨rfl, ⟨rfl, rfl⟩, trivial⟩, ⟨rfl, rfl, trivial⟩, ⟨rfl, ⟨rfl, rfl⟩, trivial⟩, ⟨rfl, rfl, rows_same⟩, ⟨rfl, rfl, rows_same⟩, trivial⟩, rfl, ⟨rfl, rfl⟩, ⟨rfl, rfl⟩, ⟨rfl, rfl⟩, rfl, trivial⟩
    · replace h := condT h
      conv => whnf
      refine Take.all (rfl) ?_
      conv => whnf
      obtain ⟨y299, e300, h⟩ := bind_ex h
      refine CallOk.of (impl_MultiplyOrdinals_ct e300) ?_
      conv => whnf
      refine spl (fun g301 => ?_) (fun g301 => ?_)
      · replace h := iteT h g301
        conv => whnf
        refine CutK.norm [1, 5, 6, 7, 8, 12, 17, 18] [320, 384, 448, 768, 1088, 6080, 1109000, 1109001, 1109003] ?_
        conv => whnf
        refine Take.all (rfl) ?_
        conv => whnf
        refine Take.all (rfl) ?_
        conv => whnf
        obtain ⟨y302, e303, h⟩ := bind_ex h
        refine CallOk.of (impl_AddOrdinals_ct e303) ?_
        conv => whnf
        refine spl (fun g304 => ?_) (fun g304 => ?_)
        · replace h := iteT h g304
          conv => whnf
          refine CutK.norm [1, 5, 6, 7, 8, 12, 18, 19, 20] [320, 384, 448, 768, 1216, 6464, 1109000, 1109001, 1109003] ?_
          conv => whnf
          refine Take.all (rfl) ?_
          conv => whnf
          obtain ⟨y305, e306, h⟩ := bind_ex h
          refine CallOk.of (impl_CompareOrdinals_ct e306) ?_
          conv => whnf
          refine spl (fun g307 => ?_) (fun g307 => ?_)
          · replace h := iteT h g307
            conv => whnf
            refine CutK.norm [1, 5, 6, 7, 8, 18, 19, 20, 21, 22] [320, 384, 448, 1216, 6464, 1109000, 1109001] ?_
            conv => whnf
            refine Take.all (rfl) ?_
            conv => whnf
            refine Take.all (rfl) ?_
            conv => whnf
            obtain ⟨y308, e309, h⟩ := bind_ex h
            refine CallOk.of (laws_sameOrdinal_ct e309) ?_
            conv => whnf
            refine spl (fun g310 => ?_) (fun g310 => ?_)
            · replace h := iteT h g310
              conv => whnf
              refine splD (fun g311 => ?_) (fun g311 => ?_)
              · replace h := iteP h g311
                conv => whnf
                refine CutK.norm [1, 5, 6, 7, 8, 127] [320, 384, 448, 1109000, 1109001] ?_
                conv => whnf
                cases h
                exact Done.of [] [] rfl rfl ⟨⟨rfl, rfl⟩, ⟨rfl, trivial⟩, rfl, trivial⟩
              · replace h := iteN h g311
                conv => whnf
                refine CutK.norm [1, 5, 6, 7, 8, 127] [320, 384, 448, 1109000, 1109001] ?_
                conv => whnf
                exact CutK.piece (laws_FnOrdinalProducts_p10_ct  h) [some 320, some 384, some 448, some 1109000, some 1109001] [] ⟨⟨rfl, rfl⟩, ⟨rfl, ⟨rfl, ⟨rfl, rfl⟩, trivial⟩, ⟨rfl, rfl, trivial⟩, ⟨rfl, ⟨rfl, rfl⟩, trivial⟩, ⟨rfl, rfl, rows_same⟩, ⟨rfl, rfl, rows_same⟩, trivial⟩, rfl, ⟨rfl, rfl⟩, ⟨rfl, rfl⟩, ⟨rfl, rfl⟩, rfl, trivial⟩
            · replace h := iteF h g310
              conv => whnf
              refine CutK.norm [1, 5, 6, 7, 8, 127] [320, 384, 448, 1109000, 1109001] ?_
              conv => whnf
              cases h
              exact Done.of [] [] rfl rfl ⟨⟨rfl, rfl⟩, ⟨rfl, trivial⟩, rfl, trivial⟩
          · replace h := iteF h g307
            conv => whnf
            refine CutK.norm [1, 5, 6, 7, 8, 18, 19, 20, 21, 22] [320, 384, 448, 1216, 6464, 1109000, 1109001] ?_
            conv => whnf
            refine Take.all (rfl) ?_
            conv => whnf
            refine Take.all (rfl) ?_
            conv => whnf
            obtain ⟨y312, e313, h⟩ := bind_ex h
            refine CallOk.of (laws_sameOrdinal_ct e313) ?_
            conv => whnf
            refine spl (fun g314 => ?_) (fun g314 => ?_)
            · replace h := iteT h g314
              conv => whnf
              refine CutK.norm [1, 5, 6, 7, 8, 127] [320, 384, 448, 1109000, 1109001] ?_
              conv => whnf
              cases h
              exact Done.of [] [] rfl rfl ⟨⟨rfl, rfl⟩, ⟨rfl, trivial⟩, rfl, trivial⟩
            · replace h := iteF h g314
              conv => whnf
              refine CutK.norm [1, 5, 6, 7, 8, 127] [320, 384, 448, 1109000, 1109001] ?_
              conv => whnf
              cases h
              exact Done.of [] [] rfl rfl ⟨⟨rfl, rfl⟩, ⟨rfl, trivial⟩, rfl, trivial⟩
        · replace h := iteF h g304
          conv => whnf
          refine CutK.norm [1, 5, 6, 7, 8, 12, 18, 19, 20] [320, 384, 448, 768, 1216, 6464, 1109000, 1109001, 1109003] ?_
          conv => whnf
          refine Take.all (rfl) ?_
          conv => whnf
          obtain ⟨y315, e316, h⟩ := bind_ex h
          refine CallOk.of (impl_CompareOrdinals_ct e316) ?_
          conv => whnf
          refine spl (fun g317 => ?_) (fun g317 => ?_)
          · replace h := iteT h g317
            conv => whnf
            refine CutK.norm [1, 5, 6, 7, 8, 18, 19, 20, 21, 22] [320, 384, 448, 1216, 6464, 1109000, 1109001] ?_
            conv => whnf
            refine splD (fun g318 => ?_) (fun g318 => ?_)
            · replace h := iteP h g318
              conv => whnf
              refine CutK.norm [1, 5, 6, 7, 8, 127] [320, 384, 448, 1109000, 1109001] ?_
              conv => whnf
              cases h
              exact Done.of [] [] rfl rfl ⟨⟨rfl, rfl⟩, ⟨rfl, trivial⟩, rfl, trivial⟩
            · replace h := iteN h g318
              conv => whnf
              refine CutK.norm [1, 5, 6, 7, 8, 127] [320, 384, 448, 1109000, 1109001] ?_
              conv => whnf
              exact CutK.piece (laws_FnOrdinalProducts_p10_ct  h) [some 320, some 384, some 448, some 1109000, some 1109001] [] ⟨⟨rfl, rfl⟩, ⟨rfl, ⟨rfl, ⟨rfl, rfl⟩, trivial⟩, ⟨rfl, rfl, trivial⟩, ⟨rfl, ⟨rfl, rfl⟩, trivial⟩, ⟨rfl, rfl, rows_same⟩, ⟨rfl, rfl, rows_same⟩, trivial⟩, rfl, ⟨rfl, rfl⟩, ⟨rfl, rfl⟩, ⟨rfl, rfl⟩, rfl, trivial⟩
          · replace h := iteF h g317
            conv => whnf
            refine CutK.norm [1, 5, 6, 7, 8, 18, 19, 20, 21, 22] [320, 384, 448, 1216, 6464, 1109000, 1109001] ?_
            conv => whnf
            refine CutK.norm [1, 5, 6, 7, 8, 127] [320, 384, 448, 1109000, 1109001] ?_
            conv => whnf
            cases h
            exact Done.of [] [] rfl rfl ⟨⟨rfl, rfl⟩, ⟨rfl, trivial⟩, rfl, trivial⟩
      · replace h := iteF h g301
        conv => whnf
        refine CutK.norm [1, 5, 6, 7, 8, 12, 17, 18] [320, 384, 448, 768, 1088, 6080, 1109000, 1109001, 1109003] ?_
        conv => whnf
        refine Take.all (rfl) ?_
        conv => whnf
        refine Take.all (rfl) ?_
        conv => whnf
        obtain ⟨y319, e320, h⟩ := bind_ex h
        refine CallOk.of (impl_AddOrdinals_ct e320) ?_
        conv => whnf
        refine spl (fun g321 => ?_) (fun g321 => ?_)
        · replace h := iteT h g321
          conv => whnf
          refine CutK.norm [1, 5, 6, 7, 8, 12, 18, 19, 20] [320, 384, 448, 768, 1216, 6464, 1109000, 1109001, 1109003] ?_
          conv => whnf
          refine Take.all (rfl) ?_
          conv => whnf
          obtain ⟨y322, e323, h⟩ := bind_ex h
          refine CallOk.of (impl_CompareOrdinals_ct e323) ?_
          conv => whnf
          refine spl (fun g324 => ?_) (fun g324 => ?_)
          · replace h := iteT h g324
            conv => whnf
            refine CutK.norm [1, 5, 6, 7, 8, 18, 19, 20, 21, 22] [320, 384, 448, 1216, 6464, 1109000, 1109001] ?_
            conv => whnf
            refine splD (fun g325 => ?_) (fun g325 => ?_)
            · replace h := iteP h g325
              conv => whnf
              refine CutK.norm [1, 5, 6, 7, 8, 127] [320, 384, 448, 1109000, 1109001] ?_
              conv => whnf
              cases h
              exact Done.of [] [] rfl rfl ⟨⟨rfl, rfl⟩, ⟨rfl, trivial⟩, rfl, trivial⟩
            · replace h := iteN h g325
              conv => whnf
              refine CutK.norm [1, 5, 6, 7, 8, 127] [320, 384, 448, 1109000, 1109001] ?_
              conv => whnf
              exact CutK.piece (laws_FnOrdinalProducts_p10_ct  h) [some 320, some 384, some 448, some 1109000, some 1109001] [] ⟨⟨rfl, rfl⟩, ⟨rfl, ⟨rfl, ⟨rfl, rfl⟩, trivial⟩, ⟨rfl, rfl, trivial⟩, ⟨rfl, ⟨rfl, rfl⟩, trivial⟩, ⟨rfl, rfl, rows_same⟩, ⟨rfl, rfl, rows_same⟩, trivial⟩, rfl, ⟨rfl, rfl⟩, ⟨rfl, rfl⟩, ⟨rfl, rfl⟩, rfl, trivial⟩
          · replace h := iteF h g324
            conv => whnf
            refine CutK.norm [1, 5, 6, 7, 8, 18, 19, 20, 21, 22] [320, 384, 448, 1216, 6464, 1109000, 1109001] ?_
            conv => whnf
            refine CutK.norm [1, 5, 6, 7, 8, 127] [320, 384, 448, 1109000, 1109001] ?_
            conv => whnf
            cases h
            exact Done.of [] [] rfl rfl ⟨⟨rfl, rfl⟩, ⟨rfl, trivial⟩, rfl, trivial⟩
        · replace h := iteF h g321
          conv => whnf
          refine CutK.norm [1, 5, 6, 7, 8, 12, 18, 19, 20] [320, 384, 448, 768, 1216, 6464, 1109000, 1109001, 1109003] ?_
          conv => whnf
          refine Take.all (rfl) ?_
          conv => whnf
          obtain ⟨y326, e327, h⟩ := bind_ex h
          refine CallOk.of (impl_CompareOrdinals_ct e327) ?_
          conv => whnf
          refine spl (fun g328 => ?_) (fun g328 => ?_)
          · replace h := iteT h g328
            conv => whnf
            refine CutK.norm [1, 5, 6, 7, 8, 18, 19, 20, 21, 22] [320, 384, 448, 1216, 6464, 1109000, 1109001] ?_
            conv => whnf
            refine splD (fun g329 => ?_) (fun g329 => ?_)
            · replace h := iteP h g329
              conv => whnf
              refine CutK.norm [1, 5, 6, 7, 8, 127] [320, 384, 448, 1109000, 1109001] ?_
              conv => whnf
              cases h
              exact Done.of [] [] rfl rfl ⟨⟨rfl, rfl⟩, ⟨rfl, trivial⟩, rfl, trivial⟩
            · replace h := iteN h g329
              conv => whnf
              refine CutK.norm [1, 5, 6, 7, 8, 127] [320, 384, 448, 1109000, 1109001] ?_
              conv => whnf
              exact CutK.piece (laws_FnOrdinalProducts_p10_ct  h) [some 320, some 384, some 448, some 1109000, some 1109001] [] ⟨⟨rfl, rfl⟩, ⟨rfl, ⟨rfl, ⟨rfl, rfl⟩, trivial⟩, ⟨rfl, rfl, trivial⟩, ⟨rfl, ⟨rfl, rfl⟩, trivial⟩, ⟨rfl, rfl, rows_same⟩, ⟨rfl, rfl, rows_same⟩, trivial⟩, rfl, ⟨rfl, rfl⟩, ⟨rfl, rfl⟩, ⟨rfl, rfl⟩, rfl, trivial⟩
          · replace h := iteF h g328
            conv => whnf
            refine CutK.norm [1, 5, 6, 7, 8, 18, 19, 20, 21, 22] [320, 384, 448, 1216, 6464, 1109000, 1109001] ?_
            conv => whnf
            refine CutK.norm [1, 5, 6, 7, 8, 127] [320, 384, 448, 1109000, 1109001] ?_
            conv => whnf
            cases h
            exact Done.of [] [] rfl rfl ⟨⟨rfl, rfl⟩, ⟨rfl, trivial⟩, rfl, trivial⟩
  · replace h := condT h
    cases v98
    · replace h := condF h
      conv => whnf
      exact CutK.piece (laws_FnOrdinalProducts_p10_ct  h) [some 320, some 384, some 448, some 1109000, some 1109001] [] ⟨⟨rfl, rfl⟩, ⟨rfl, ⟨rfl, ⟨rfl, rfl⟩, trivial⟩, ⟨rfl, rfl, trivial⟩, ⟨rfl, ⟨rfl, rfl⟩, trivial⟩, ⟨rfl, rfl, rows_same⟩, ⟨rfl, rfl, rows_same⟩, trivial⟩, rfl, ⟨rfl, rfl⟩, ⟨rfl, rfl⟩, ⟨rfl, rfl⟩, rfl, trivial⟩
    · replace h := condT h
      conv => whnf
      refine Take.all (rfl) ?_
      conv => whnf
      obtain ⟨y330, e331, h⟩ := bind_ex h
      refine CallOk.of (impl_MultiplyOrdinals_ct e331) ?_
      conv => whnf
      refine spl (fun g332 => ?_) (fun g332 => ?_)
      · replace h := iteT h g332
        conv => whnf
        refine CutK.norm [1, 5, 6, 7, 8, 12, 17, 18] [320, 384, 448, 768, 1088, 6080, 1109000, 1109001, 1109003] ?_
        conv => whnf
        refine Take.all (rfl) ?_
        conv => whnf
        refine Take.all (rfl) ?_
        conv => whnf
        obtain ⟨y333, e334, h⟩ := bind_ex h
        refine CallOk.of (impl_AddOrdinals_ct e334) ?_
        conv => whnf
        refine spl (fun g335 => ?_) (fun g335 => ?_)
        · replace h := iteT h g335
          conv => whnf
          refine CutK.norm [1, 5, 6, 7, 8, 12, 18, 19, 20] [320, 384, 448, 768, 1216, 6464, 1109000, 1109001, 1109003] ?_
          conv => whnf
          refine Take.all (rfl) ?_
          conv => whnf
          obtain ⟨y336, e337, h⟩ := bind_ex h
          refine CallOk.of (impl_CompareOrdinals_ct e337) ?_
          conv => whnf
          refine spl (fun g338 => ?_) (fun g338 => ?_)
          · replace h := iteT h g338
            conv => whnf
            refine CutK.norm [1, 5, 6, 7, 8, 18, 19, 20, 21, 22] [320, 384, 448, 1216, 6464, 1109000, 1109001] ?_
            conv => whnf
            refine Take.all (rfl) ?_
            conv => whnf
            refine Take.all (rfl) ?_
            conv => whnf
            obtain ⟨y339, e340, h⟩ := bind_ex h
            refine CallOk.of (laws_sameOrdinal_ct e340) ?_
            conv => whnf
            refine spl (fun g341 => ?_) (fun g341 => ?_)
            · replace h := iteT h g341
              conv => whnf
              refine splD (fun g342 => ?_) (fun g342 => ?_)
              · replace h := iteP h g342
                conv => whnf
                refine CutK.norm [1, 5, 6, 7, 8, 127] [320, 384, 448, 1109000, 1109001] ?_
                conv => whnf
                cases h
                exact Done.of [] [] rfl rfl ⟨⟨rfl, rfl⟩, ⟨rfl, trivial⟩, rfl, trivial⟩
              · replace h := iteN h g342
                conv => whnf
                refine CutK.norm [1, 5, 6, 7, 8, 127] [320, 384, 448, 1109000, 1109001] ?_
                conv => whnf
                exact CutK.piece (laws_FnOrdinalProducts_p10_ct  h) [some 320, some 384, some 448, some 1109000, some 1109001] [] ⟨⟨rfl, rfl⟩, ⟨rfl, ⟨rfl, ⟨rfl, rfl⟩, trivial⟩, ⟨rfl, rfl, trivial⟩, ⟨rfl, ⟨rfl, rfl⟩, trivial⟩, ⟨rfl, rfl, rows_same⟩, ⟨rfl, rfl, rows_same⟩, trivial⟩, rfl, ⟨rfl, rfl⟩, ⟨rfl, rfl⟩, ⟨rfl, rfl⟩, rfl, trivial⟩
            · replace h := iteF h g341
              conv => whnf
              refine CutK.norm [1, 5, 6, 7, 8, 127] [320, 384, 448, 1109000, 1109001] ?_
              conv => whnf
              cases h
              exact Done.of [] [] rfl rfl ⟨⟨rfl, rfl⟩, ⟨rfl, trivial⟩, rfl, trivial⟩
          · replace h := iteF h g338
            conv => whnf
            refine CutK.norm [1, 5, 6, 7, 8, 18, 19, 20, 21, 22] [320, 384, 448, 1216, 6464, 1109000, 1109001] ?_
            conv => whnf
            refine Take.all (rfl) ?_
            conv => whnf
            refine Take.all (rfl) ?_
            conv => whnf
            obtain ⟨y343, e344, h⟩ := bind_ex h
            refine CallOk.of (laws_sameOrdinal_ct e344) ?_
            conv => whnf
            refine spl (fun g345 => ?_) (fun g345 => ?_)
            · replace h := iteT h g345
              conv => whnf
              refine CutK.norm [1, 5, 6, 7, 8, 127] [320, 384, 448, 1109000, 1109001] ?_
              conv => whnf
              cases h
              exact Done.of [] [] rfl rfl ⟨⟨rfl, rfl⟩, ⟨rfl, trivial⟩, rfl, trivial⟩
            · replace h := iteF h g345
              conv => whnf
              refine CutK.norm [1, 5, 6, 7, 8, 127] [320, 384, 448, 1109000, 1109001] ?_
              conv => whnf
              cases h
              exact Done.of [] [] rfl rfl ⟨⟨rfl, rfl⟩, ⟨rfl, trivial⟩, rfl, trivial⟩
        · replace h := iteF h g335
          conv => whnf
          refine CutK.norm [1, 5, 6, 7, 8, 12, 18, 19, 20] [320, 384, 448, 768, 1216, 6464, 1109000, 1109001, 1109003] ?_
          conv => whnf
          refine Take.all (rfl) ?_
          conv => whnf
          obtain ⟨y346, e347, h⟩ := bind_ex h
          refine CallOk.of (impl_CompareOrdinals_ct e347) ?_
          conv => whnf
          refine spl (fun g348 => ?_) (fun g348 => ?_)
          · replace h := iteT h g348
            conv => whnf
            refine CutK.norm [1, 5, 6, 7, 8, 18, 19, 20, 21, 22] [320, 384, 448, 1216, 6464, 1109000, 1109001] ?_
            conv => whnf
            refine splD (fun g349 => ?_) (fun g349 => ?_)
            · replace h := iteP h g349
              conv => whnf
              refine CutK.norm [1, 5, 6, 7, 8, 127] [320, 384, 448, 1109000, 1109001] ?_
              conv => whnf
              cases h
              exact Done.of [] [] rfl rfl ⟨⟨rfl, rfl⟩, ⟨rfl, trivial⟩, rfl, trivial⟩
            · replace h := iteN h g349
              conv => whnf
              refine CutK.norm [1, 5, 6, 7, 8, 127] [320, 384, 448, 1109000, 1109001] ?_
              conv => whnf
              exact CutK.piece (laws_FnOrdinalProducts_p10_ct  h) [some 320, some 384, some 448, some 1109000, some 1109001] [] ⟨⟨rfl, rfl⟩, ⟨rfl, ⟨rfl, ⟨rfl, rfl⟩, trivial⟩, ⟨rfl, rfl, trivial⟩, ⟨rfl, ⟨rfl, rfl⟩, trivial⟩, ⟨rfl, rfl, rows_same⟩, ⟨rfl, rfl, rows_same⟩, trivial⟩, rfl, ⟨rfl, rfl⟩, ⟨rfl, rfl⟩, ⟨rfl, rfl⟩, rfl, trivial⟩
          · replace h := iteF h g348
            conv => whnf
            refine CutK.norm [1, 5, 6, 7, 8, 18, 19, 20, 21, 22] [320, 384, 448, 1216, 6464, 1109000, 1109001] ?_
            conv => whnf
            refine CutK.norm [1, 5, 6, 7, 8, 127] [320, 384, 448, 1109000, 1109001] ?_
            conv => whnf
            cases h
            exact Done.of [] [] rfl rfl ⟨⟨rfl, rfl⟩, ⟨rfl, trivial⟩, rfl, trivial⟩
      · replace h := iteF h g332
        conv => whnf
        refine CutK.norm [1, 5, 6, 7, 8, 12, 17, 18] [320, 384, 448, 768, 1088, 6080, 1109000, 1109001, 1109003] ?_
        conv => whnf
        refine Take.all (rfl) ?_
        conv => whnf
        refine Take.all (rfl) ?_
        conv => whnf
        obtain ⟨y350, e351, h⟩ := bind_ex h
        refine CallOk.of (impl_AddOrdinals_ct e351) ?_
        conv => whnf
        refine spl (fun g352 => ?_) (fun g352 => ?_)
        · replace h := iteT h g352
          conv => whnf
          refine CutK.norm [1, 5, 6, 7, 8, 12, 18, 19, 20] [320, 384, 448, 768, 1216, 6464, 1109000, 1109001, 1109003] ?_
          conv => whnf
          refine Take.all (rfl) ?_
          conv => whnf
          obtain ⟨y353, e354, h⟩ := bind_ex h
          refine CallOk.of (impl_CompareOrdinals_ct e354) ?_
          conv => whnf
          refine spl (fun g355 => ?_) (fun g355 => ?_)
          · replace h := iteT h g355
            conv => whnf
            refine CutK.norm [1, 5, 6, 7, 8, 18, 19, 20, 21, 22] [320, 384, 448, 1216, 6464, 1109000, 1109001] ?_
            conv => whnf
            refine splD (fun g356 => ?_) (fun g356 => ?_)
            · replace h := iteP h g356
              conv => whnf
              refine CutK.norm [1, 5, 6, 7, 8, 127] [320, 384, 448, 1109000, 1109001] ?_
              conv => whnf
              cases h
              exact Done.of [] [] rfl rfl ⟨⟨rfl, rfl⟩, ⟨rfl, trivial⟩, rfl, trivial⟩
            · replace h := iteN h g356
              conv => whnf
              refine CutK.norm [1, 5, 6, 7, 8, 127] [320, 384, 448, 1109000, 1109001] ?_
              conv => whnf
              exact CutK.piece (laws_FnOrdinalProducts_p10_ct  h) [some 320, some 384, some 448, some 1109000, some 1109001] [] ⟨⟨rfl, rfl⟩, ⟨rfl, ⟨rfl, ⟨rfl, rfl⟩, trivial⟩, ⟨rfl, rfl, trivial⟩, ⟨rfl, ⟨rfl, rfl⟩, trivial⟩, ⟨rfl, rfl, rows_same⟩, ⟨rfl, rfl, rows_same⟩, trivial⟩, rfl, ⟨rfl, rfl⟩, ⟨rfl, rfl⟩, ⟨rfl, rfl⟩, rfl, trivial⟩
          · replace h := iteF h g355
            conv => whnf
            refine CutK.norm [1, 5, 6, 7, 8, 18, 19, 20, 21, 22] [320, 384, 448, 1216, 6464, 1109000, 1109001] ?_
            conv => whnf
            refine CutK.norm [1, 5, 6, 7, 8, 127] [320, 384, 448, 1109000, 1109001] ?_
            conv => whnf
            cases h
            exact Done.of [] [] rfl rfl ⟨⟨rfl, rfl⟩, ⟨rfl, trivial⟩, rfl, trivial⟩
        · replace h := iteF h g352
          conv => whnf
          refine CutK.norm [1, 5, 6, 7, 8, 12, 18, 19, 20] [320, 384, 448, 768, 1216, 6464, 1109000, 1109001, 1109003] ?_
          conv => whnf
          refine Take.all (rfl) ?_
          conv => whnf
          obtain ⟨y357, e358, h⟩ := bind_ex h
          refine CallOk.of (impl_CompareOrdinals_ct e358) ?_
          conv => whnf
          refine spl (fun g359 => ?_) (fun g359 => ?_)
          · replace h := iteT h g359
            conv => whnf
            refine CutK.norm [1, 5, 6, 7, 8, 18, 19, 20, 21, 22] [320, 384, 448, 1216, 6464, 1109000, 1109001] ?_
            conv => whnf
            refine splD (fun g360 => ?_) (fun g360 => ?_)
            · replace h := iteP h g360
              conv => whnf
              refine CutK.norm [1, 5, 6, 7, 8, 127] [320, 384, 448, 1109000, 1109001] ?_
              conv => whnf
              cases h
              exact Done.of [] [] rfl rfl ⟨⟨rfl, rfl⟩, ⟨rfl, trivial⟩, rfl, trivial⟩
            · replace h := iteN h g360
              conv => whnf
              refine CutK.norm [1, 5, 6, 7, 8, 127] [320, 384, 448, 1109000, 1109001] ?_
              conv => whnf
              exact CutK.piece (laws_FnOrdinalProducts_p10_ct  h) [some 320, some 384, some 448, some 1109000, some 1109001] [] ⟨⟨rfl, rfl⟩, ⟨rfl, ⟨rfl, ⟨rfl, rfl⟩, trivial⟩, ⟨rfl, rfl, trivial⟩, ⟨rfl, ⟨rfl, rfl⟩, trivial⟩, ⟨rfl, rfl, rows_same⟩, ⟨rfl, rfl, rows_same⟩, trivial⟩, rfl, ⟨rfl, rfl⟩, ⟨rfl, rfl⟩, ⟨rfl, rfl⟩, rfl, trivial⟩
          · replace h := iteF h g359
            conv => whnf
            refine CutK.norm [1, 5, 6, 7, 8, 18, 19, 20, 21, 22] [320, 384, 448, 1216, 6464, 1109000, 1109001] ?_
            conv => whnf
            refine CutK.norm [1, 5, 6, 7, 8, 127] [320, 384, 448, 1109000, 1109001] ?_
            conv => whnf
            cases h
            exact Done.of [] [] rfl rfl ⟨⟨rfl, rfl⟩, ⟨rfl, trivial⟩, rfl, trivial⟩
def laws_FnOrdinalProducts_p8 (k : Nat) (a2 : Rw) (o55 : Rw) (o56 : Rw) (o57 : Rw) (o58 : Rw) (o59 : Rw) (o60 : Rw) (o61 : Rw) (v62 : Bool) (v66 : Bool) (v70 : Bool) : Option Bool :=
  (cond v62 (cond v66 (cond v70 ((laws_sameOrdinal k o58 o60).bind fun y379 => (if y379 = true then ((laws_sameOrdinal k o59 o61).bind fun y382 => (if y382 = true then (laws_FnOrdinalProducts_p9 k a2 o55 o56 o57 o58 o59 true true) else some false)) else some false)) (some false)) (cond v70 ((laws_sameOrdinal k o58 o60).bind fun y373 => (if y373 = true then ((laws_sameOrdinal k o59 o61).bind fun y376 => (if y376 = true then (laws_FnOrdinalProducts_p9 k a2 o55 o56 o57 o58 o59 false true) else some false)) else some false)) (some false))) (cond v66 (cond v70 (some false) ((laws_sameOrdinal k o58 o60).bind fun y367 => (if y367 = true then ((laws_sameOrdinal k o59 o61).bind fun y370 => (if y370 = true then (laws_FnOrdinalProducts_p9 k a2 o55 o56 o57 o58 o59 true false) else some false)) else some false))) (cond v70 (some false) ((laws_sameOrdinal k o58 o60).bind fun y361 => (if y361 = true then ((laws_sameOrdinal k o59 o61).bind fun y364 => (if y364 = true then (laws_FnOrdinalProducts_p9 k a2 o55 o56 o57 o58 o59 false false) else some false)) else some false)))))
set_option maxHeartbeats 4000000 in
set_option maxRecDepth 100000 in
theorem laws_FnOrdinalProducts_p8_ct {k : Nat} {a2 : Rw} {o55 : Rw} {o56 : Rw} {o57 : Rw} {o58 : Rw} {o59 : Rw} {o60 : Rw} {o61 : Rw} {v62 : Bool} {v66 : Bool} {v70 : Bool} {r : Bool} (h : laws_FnOrdinalProducts_p8 k a2 o55 o56 o57 o58 o59 o60 o61 v62 v66 v70 = some r) : X prog 0 (tlF f8 8) (mk 178 [(1, .d (D.sl a2)), (5, .ptr 320 0), (6, .ptr 384 0), (7, .ptr 448 0), (8, .d (D.bool v66)), (11, .ptr 704 0), (12, .ptr 768 0), (13, .d (D.bool v70)), (14, .ptr 896 0), (15, .ptr 960 0), (16, .d (D.bool v62))] [(320, .box 26 [.os 1104000 o55.length]), (384, .box 26 [.d (D.sl o56)]), (448, .box 26 [.os 1104001 o57.length]), (704, .box 26 [.os 1104002 o58.length]), (768, .box 26 [.os 1104003 o59.length]), (896, .box 26 [.os 1104004 o60.length]), (960, .box 26 [.os 1104005 o61.length]), (1104000, .arr 98 false o55), (1104001, .arr 98 true o57), (1104002, .arr 98 true o58), (1104003, .arr 98 true o59), (1104004, .arr 98 true o60), (1104005, .arr 98 true o61)]) (finK prog f8 0 (.d (D.bool r)) (⟨[], []⟩)) := by
  rw [laws_FnOrdinalProducts_p8] at h
  cases v62
  · replace h := condF h
    cases v66
    · replace h := condF h
      cases v70
      · replace h := condF h
        conv => whnf
        refine splF ?_
        conv => whnf
        refine Take.all (rfl) ?_
        conv => whnf
        refine Take.all (rfl) ?_
        conv => whnf
        obtain ⟨y361, e362, h⟩ := bind_ex h
        refine CallOk.of (laws_sameOrdinal_ct e362) ?_
        conv => whnf
        refine spl (fun g363 => ?_) (fun g363 => ?_)
        · replace h := iteT h g363
          conv => whnf
          refine Take.all (rfl) ?_
          conv => whnf
          refine Take.all (rfl) ?_
          conv => whnf
          obtain ⟨y364, e365, h⟩ := bind_ex h
          refine CallOk.of (laws_sameOrdinal_ct e365) ?_
          conv => whnf
          refine spl (fun g366 => ?_) (fun g366 => ?_)
          · replace h := iteT h g366
            conv => whnf
            refine CutK.norm [1, 5, 6, 7, 8, 11, 12, 13, 90] [320, 384, 448, 704, 768, 1104000, 1104001, 1104002, 1104003] ?_
            conv => whnf
            exact CutK.piece (laws_FnOrdinalProducts_p9_ct  h) [some 320, some 384, some 448, some 704, some 768, some 1104000, some 1104001, some 1104002, some 1104003] [] ⟨⟨rfl, rfl⟩, ⟨rfl, ⟨rfl, ⟨rfl, rfl⟩, trivial⟩, ⟨rfl, rfl, trivial⟩, ⟨rfl, ⟨rfl, rfl⟩, trivial⟩, ⟨rfl, ⟨rfl, rfl⟩, trivial⟩, ⟨rfl, ⟨rfl, rfl⟩, trivial⟩, ⟨rfl, rfl, rows_same⟩, ⟨rfl, rfl, rows_same⟩, ⟨rfl, rfl, rows_same⟩, ⟨rfl, rfl, rows_same⟩, trivial⟩, rfl, ⟨rfl, rfl⟩, ⟨rfl, rfl⟩, ⟨rfl, rfl⟩, rfl, ⟨rfl, rfl⟩, ⟨rfl, rfl⟩, rfl, trivial⟩
          · replace h := iteF h g366
            conv => whnf
            refine CutK.norm [1, 5, 6, 7, 8, 11, 12, 13, 90] [320, 384, 448, 704, 768, 1104000, 1104001, 1104002, 1104003] ?_
            conv => whnf
            cases h
            exact Done.of [] [] rfl rfl ⟨⟨rfl, rfl⟩, ⟨rfl, trivial⟩, rfl, trivial⟩
        · replace h := iteF h g363
          conv => whnf
          refine CutK.norm [1, 5, 6, 7, 8, 11, 12, 13, 90] [320, 384, 448, 704, 768, 1104000, 1104001, 1104002, 1104003] ?_
          conv => whnf
          cases h
          exact Done.of [] [] rfl rfl ⟨⟨rfl, rfl⟩, ⟨rfl, trivial⟩, rfl, trivial⟩
      · replace h := condT h
        conv => whnf
        refine splT ?_
        conv => whnf
        refine CutK.norm [1, 5, 6, 7, 8, 11, 12, 13, 90] [320, 384, 448, 704, 768, 1104000, 1104001, 1104002, 1104003] ?_
        conv => whnf
        cases h
        exact Done.of [] [] rfl rfl ⟨⟨rfl, rfl⟩, ⟨rfl, trivial⟩, rfl, trivial⟩
    · replace h := condT h
      cases v70
      · replace h := condF h
        conv => whnf
        refine splF ?_
        conv => whnf
        refine Take.all (rfl) ?_
        conv => whnf
        refine Take.all (rfl) ?_
        conv => whnf
        obtain ⟨y367, e368, h⟩ := bind_ex h
        refine CallOk.of (laws_sameOrdinal_ct e368) ?_
        conv => whnf
        refine spl (fun g369 => ?_) (fun g369 => ?_)
        · replace h := iteT h g369
          conv => whnf
          refine Take.all (rfl) ?_
          conv => whnf
          refine Take.all (rfl) ?_
          conv => whnf
          obtain ⟨y370, e371, h⟩ := bind_ex h
          refine CallOk.of (laws_sameOrdinal_ct e371) ?_
          conv => whnf
          refine spl (fun g372 => ?_) (fun g372 => ?_)
          · replace h := iteT h g372
            conv => whnf
            refine CutK.norm [1, 5, 6, 7, 8, 11, 12, 13, 90] [320, 384, 448, 704, 768, 1104000, 1104001, 1104002, 1104003] ?_
            conv => whnf
            exact CutK.piece (laws_FnOrdinalProducts_p9_ct  h) [some 320, some 384, some 448, some 704, some 768, some 1104000, some 1104001, some 1104002, some 1104003] [] ⟨⟨rfl, rfl⟩, ⟨rfl, ⟨rfl, ⟨rfl, rfl⟩, trivial⟩, ⟨rfl, rfl, trivial⟩, ⟨rfl, ⟨rfl, rfl⟩, trivial⟩, ⟨rfl, ⟨rfl, rfl⟩, trivial⟩, ⟨rfl, ⟨rfl, rfl⟩, trivial⟩, ⟨rfl, rfl, rows_same⟩, ⟨rfl, rfl, rows_same⟩, ⟨rfl, rfl, rows_same⟩, ⟨rfl, rfl, rows_same⟩, trivial⟩, rfl, ⟨rfl, rfl⟩, ⟨rfl, rfl⟩, ⟨rfl, rfl⟩, rfl, ⟨rfl, rfl⟩, ⟨rfl, rfl⟩, rfl, trivial⟩
          · replace h := iteF h g372
            conv => whnf
            refine CutK.norm [1, 5, 6, 7, 8, 11, 12, 13, 90] [320, 384, 448, 704, 768, 1104000, 1104001, 1104002, 1104003] ?_
            conv => whnf
            cases h
            exact Done.of [] [] rfl rfl ⟨⟨rfl, rfl⟩, ⟨rfl, trivial⟩, rfl, trivial⟩
        · replace h := iteF h g369
          conv => whnf
          refine CutK.norm [1, 5, 6, 7, 8, 11, 12, 13, 90] [320, 384, 448, 704, 768, 1104000, 1104001, 1104002, 1104003] ?_
          conv => whnf
          cases h
          exact Done.of [] [] rfl rfl ⟨⟨rfl, rfl⟩, ⟨rfl, trivial⟩, rfl, trivial⟩
      · replace h := condT h
        conv => whnf
        refine splT ?_
        conv => whnf
        refine CutK.norm [1, 5, 6, 7, 8, 11, 12, 13, 90] [320, 384, 448, 704, 768, 1104000, 1104001, 1104002, 1104003] ?_
        conv => whnf
        cases h
        exact Done.of [] [] rfl rfl ⟨⟨rfl, rfl⟩, ⟨rfl, trivial⟩, rfl, trivial⟩
  · replace h := condT h
    cases v66
    · replace h := condF h
      cases v70
      · replace h := condF h
        conv => whnf
        refine splT ?_
        conv => whnf
        refine CutK.norm [1, 5, 6, 7, 8, 11, 12, 13, 90] [320, 384, 448, 704, 768, 1104000, 1104001, 1104002, 1104003] ?_
        conv => whnf
        cases h
        exact Done.of [] [] rfl rfl ⟨⟨rfl, rfl⟩, ⟨rfl, trivial⟩, rfl, trivial⟩
      · replace h := condT h
        conv => whnf
        refine splF ?_
        conv => whnf
        refine Take.all (rfl) ?_
        conv => whnf
        refine Take.all (rfl) ?_
        conv => whnf
        obtain ⟨y373, e374, h⟩ := bind_ex h
        refine CallOk.of (laws_sameOrdinal_ct e374) ?_
        conv => whnf
        refine spl (fun g375 => ?_) (fun g375 => ?_)
        · replace h := iteT h g375
          conv => whnf
          refine Take.all (rfl) ?_
          conv => whnf
          refine Take.all (rfl) ?_
          conv => whnf
          obtain ⟨y376, e377, h⟩ := bind_ex h
          refine CallOk.of (laws_sameOrdinal_ct e377) ?_
          conv => whnf
          refine spl (fun g378 => ?_) (fun g378 => ?_)
          · replace h := iteT h g378
            conv => whnf
            refine CutK.norm [1, 5, 6, 7, 8, 11, 12, 13, 90] [320, 384, 448, 704, 768, 1104000, 1104001, 1104002, 1104003] ?_
            conv => whnf
            exact CutK.piece (laws_FnOrdinalProducts_p9_ct  h) [some 320, some 384, some 448, some 704, some 768, some 1104000, some 1104001, some 1104002, some 1104003] [] ⟨⟨rfl, rfl⟩, ⟨rfl, ⟨rfl, ⟨rfl, rfl⟩, trivial⟩, ⟨rfl, rfl, trivial⟩, ⟨rfl, ⟨rfl, rfl⟩, trivial⟩, ⟨rfl, ⟨rfl, rfl⟩, trivial⟩, ⟨rfl, ⟨rfl, rfl⟩, trivial⟩, ⟨rfl, rfl, rows_same⟩, ⟨rfl, rfl, rows_same⟩, ⟨rfl, rfl, rows_same⟩, ⟨rfl, rfl, rows_same⟩, trivial⟩, rfl, ⟨rfl, rfl⟩, ⟨rfl, rfl⟩, ⟨rfl, rfl⟩, rfl, ⟨rfl, rfl⟩, ⟨rfl, rfl⟩, rfl, trivial⟩
          · replace h := iteF h g378
            conv => whnf
            refine CutK.norm [1, 5, 6, 7, 8, 11, 12, 13, 90] [320, 384, 448, 704, 768, 1104000, 1104001, 1104002, 1104003] ?_
            conv => whnf
            cases h
            exact Done.of [] [] rfl rfl ⟨⟨rfl, rfl⟩, ⟨rfl, trivial⟩, rfl, trivial⟩
        · replace h := iteF h g375
          conv => whnf
          refine CutK.norm [1, 5, 6, 7, 8, 11, 12, 13, 90] [320, 384, 448, 704, 768, 1104000, 1104001, 1104002, 1104003] ?_
          conv => whnf
          cases h
          exact Done.of [] [] rfl rfl ⟨⟨rfl, rfl⟩, ⟨rfl, trivial⟩, rfl, trivial⟩
    · replace h := condT h
      cases v70
      · replace h := condF h
        conv => whnf
        refine splT ?_
        conv => whnf
        refine CutK.norm [1, 5, 6, 7, 8, 11, 12, 13, 90] [320, 384, 448, 704, 768, 1104000, 1104001, 1104002, 1104003] ?_
        conv => whnf
        cases h
        exact Done.of [] [] rfl rfl ⟨⟨rfl, rfl⟩, ⟨rfl, trivial⟩, rfl, trivial⟩
      · replace h := condT h
        conv => whnf
        refine splF ?_
        conv => whnf
        refine Take.all (rfl) ?_
        conv => whnf
        refine Take.all (rfl) ?_
        conv => whnf
        obtain ⟨y379, e380, h⟩ := bind_ex h
        refine CallOk.of (laws_sameOrdinal_ct e380) ?_
        conv => whnf
        refine spl (fun g381 => ?_) (fun g381 => ?_)
        · replace h := iteT h g381
          conv => whnf
          refine Take.all (rfl) ?_
          conv => whnf
          refine Take.all (rfl) ?_
          conv => whnf
          obtain ⟨y382, e383, h⟩ := bind_ex h
          refine CallOk.of (laws_sameOrdinal_ct e383) ?_
          conv => whnf
          refine spl (fun g384 => ?_) (fun g384 => ?_)
          · replace h := iteT h g384
            conv => whnf
            refine CutK.norm [1, 5, 6, 7, 8, 11, 12, 13, 90] [320, 384, 448, 704, 768, 1104000, 1104001, 1104002, 1104003] ?_
            conv => whnf
            exact CutK.piece (laws_FnOrdinalProducts_p9_ct  h) [some 320, some 384, some 448, some 704, some 768, some 1104000, some 1104001, some 1104002, some 1104003] [] ⟨⟨rfl, rfl⟩, ⟨rfl, ⟨rfl, ⟨rfl, rfl⟩, trivial⟩, ⟨rfl, rfl, trivial⟩, ⟨rfl, ⟨rfl, rfl⟩, trivial⟩, ⟨rfl, ⟨rfl, rfl⟩, trivial⟩, ⟨rfl, ⟨rfl, rfl⟩, trivial⟩, ⟨rfl, rfl, rows_same⟩, ⟨rfl, rfl, rows_same⟩, ⟨rfl, rfl, rows_same⟩, ⟨rfl, rfl, rows_same⟩, trivial⟩, rfl, ⟨rfl, rfl⟩, ⟨rfl, rfl⟩, ⟨rfl, rfl⟩, rfl, ⟨rfl, rfl⟩, ⟨rfl, rfl⟩, rfl, trivial⟩
          · replace h := iteF h g384
            conv => whnf
            refine CutK.norm [1, 5, 6, 7, 8, 11, 12, 13, 90] [320, 384, 448, 704, 768, 1104000, 1104001, 1104002, 1104003] ?_
            conv => whnf
            cases h
            exact Done.of [] [] rfl rfl ⟨⟨rfl, rfl⟩, ⟨rfl, trivial⟩, rfl, trivial⟩
        · replace h := iteF h g381
          conv => whnf
          refine CutK.norm [1, 5, 6, 7, 8, 11, 12, 13, 90] [320, 384, 448, 704, 768, 1104000, 1104001, 1104002, 1104003] ?_
          conv => whnf
          cases h
          exact Done.of [] [] rfl rfl ⟨⟨rfl, rfl⟩, ⟨rfl, trivial⟩, rfl, trivial⟩
def laws_FnOrdinalProducts_p7 (k : Nat) (a2 : Rw) (o42 : Rw) (o43 : Rw) (o44 : Rw) (o45 : Rw) (o46 : Rw) (v47 : Bool) (v51 : Bool) : Option Bool :=
  (cond v47 (cond v51 ((spec_DivideOrdinals k o42 o43).bind fun y394 => (if y394.2.2 = true then (laws_FnOrdinalProducts_p8 k a2 o42 o43 o44 o45 o46 y394.1 y394.2.1 true true true) else (laws_FnOrdinalProducts_p8 k a2 o42 o43 o44 o45 o46 y394.1 y394.2.1 false true true))) ((spec_DivideOrdinals k o42 o43).bind fun y391 => (if y391.2.2 = true then (laws_FnOrdinalProducts_p8 k a2 o42 o43 o44 o45 o46 y391.1 y391.2.1 true false true) else (laws_FnOrdinalProducts_p8 k a2 o42 o43 o44 o45 o46 y391.1 y391.2.1 false false true)))) (cond v51 ((spec_DivideOrdinals k o42 o43).bind fun y388 => (if y388.2.2 = true then (laws_FnOrdinalProducts_p8 k a2 o42 o43 o44 o45 o46 y388.1 y388.2.1 true true false) else (laws_FnOrdinalProducts_p8 k a2 o42 o43 o44 o45 o46 y388.1 y388.2.1 false true false))) ((spec_DivideOrdinals k o42 o43).bind fun y385 => (if y385.2.2 = true then (laws_FnOrdinalProducts_p8 k a2 o42 o43 o44 o45 o46 y385.1 y385.2.1 true false false) else (laws_FnOrdinalProducts_p8 k a2 o42 o43 o44 o45 o46 y385.1 y385.2.1 false false false)))))
set_option maxHeartbeats 4000000 in
set_option maxRecDepth 100000 in
theorem laws_FnOrdinalProducts_p7_ct {k : Nat} {a2 : Rw} {o42 : Rw} {o43 : Rw} {o44 : Rw} {o45 : Rw} {o46 : Rw} {v47 : Bool} {v51 : Bool} {r : Bool} (h : laws_FnOrdinalProducts_p7 k a2 o42 o43 o44 o45 o46 v47 v51 = some r) : X prog 0 (tlF f8 7) (mk 178 [(1, .d (D.sl a2)), (5, .ptr 320 0), (6, .ptr 384 0), (7, .ptr 448 0), (8, .d (D.bool v51)), (11, .ptr 704 0), (12, .ptr 768 0), (13, .d (D.bool v47))] [(320, .box 26 [.os 1099000 o42.length]), (384, .box 26 [.d (D.sl o43)]), (448, .box 26 [.os 1099001 o44.length]), (704, .box 26 [.os 1099002 o45.length]), (768, .box 26 [.os 1099003 o46.length]), (1099000, .arr 98 false o42), (1099001, .arr 98 true o44), (1099002, .arr 98 true o45), (1099003, .arr 98 true o46)]) (finK prog f8 0 (.d (D.bool r)) (⟨[], []⟩)) := by
  rw [laws_FnOrdinalProducts_p7] at h
  cases v47
  · replace h := condF h
    cases v51
    · replace h := condF h
      conv => whnf
      refine Take.all (rfl) ?_
      conv => whnf
      obtain ⟨y385, e386, h⟩ := bind_ex h
      refine CallOk.of (spec_DivideOrdinals_ct e386) ?_
      conv => whnf
      refine spl (fun g387 => ?_) (fun g387 => ?_)
      · replace h := iteT h g387
        conv => whnf
        exact CutK.piece (laws_FnOrdinalProducts_p8_ct  h) [some 320, some 384, some 448, some 704, some 768, some 896, some 960, some 1099000, some 1099001, some 1099002, some 1099003, some 4608, some 4609] [] ⟨⟨rfl, rfl⟩, ⟨rfl, ⟨rfl, ⟨rfl, rfl⟩, trivial⟩, ⟨rfl, rfl, trivial⟩, ⟨rfl, ⟨rfl, rfl⟩, trivial⟩, ⟨rfl, ⟨rfl, rfl⟩, trivial⟩, ⟨rfl, ⟨rfl, rfl⟩, trivial⟩, ⟨rfl, ⟨rfl, rfl⟩, trivial⟩, ⟨rfl, ⟨rfl, rfl⟩, trivial⟩, ⟨rfl, rfl, rows_same⟩, ⟨rfl, rfl, rows_same⟩, ⟨rfl, rfl, rows_same⟩, ⟨rfl, rfl, rows_same⟩, ⟨rfl, rfl, rows_same⟩, ⟨rfl, rfl, rows_same⟩, trivial⟩, rfl, ⟨rfl, rfl⟩, ⟨rfl, rfl⟩, ⟨rfl, rfl⟩, rfl, ⟨rfl, rfl⟩, ⟨rfl, rfl⟩, rfl, ⟨rfl, rfl⟩, ⟨rfl, rfl⟩, rfl, trivial⟩
      · replace h := iteF h g387
        conv => whnf
        exact CutK.piece (laws_FnOrdinalProducts_p8_ct  h) [some 320, some 384, some 448, some 704, some 768, some 896, some 960, some 1099000, some 1099001, some 1099002, some 1099003, some 4608, some 4609] [] ⟨⟨rfl, rfl⟩, ⟨rfl, ⟨rfl, ⟨rfl, rfl⟩, trivial⟩, ⟨rfl, rfl, trivial⟩, ⟨rfl, ⟨rfl, rfl⟩, trivial⟩, ⟨rfl, ⟨rfl, rfl⟩, trivial⟩, ⟨rfl, ⟨rfl, rfl⟩, trivial⟩, ⟨rfl, ⟨rfl, rfl⟩, trivial⟩, ⟨rfl, ⟨rfl, rfl⟩, trivial⟩, ⟨rfl, rfl, rows_same⟩, ⟨rfl, rfl, rows_same⟩, ⟨rfl, rfl, rows_same⟩, ⟨rfl, rfl, rows_same⟩, ⟨rfl, rfl, rows_same⟩, ⟨rfl, rfl, rows_same⟩, trivial⟩, rfl, ⟨rfl, rfl⟩, ⟨rfl, rfl⟩, ⟨rfl, rfl⟩, rfl, ⟨rfl, rfl⟩, ⟨rfl, rfl⟩, rfl, ⟨rfl, rfl⟩, ⟨rfl, rfl⟩, rfl, trivial⟩
    · replace h := condT h
      conv => whnf
      refine Take.all (rfl) ?_
      conv => whnf
      obtain ⟨y388, e389, h⟩ := bind_ex h
      refine CallOk.of (spec_DivideOrdinals_ct e389) ?_
      conv => whnf
      refine spl (fun g390 => ?_) (fun g390 => ?_)
      · replace h := iteT h g390
        conv => whnf
        exact CutK.piece (laws_FnOrdinalProducts_p8_ct  h) [some 320, some 384, some 448, some 704, some 768, some 896, some 960, some 1099000, some 1099001, some 1099002, some 1099003, some 4608, some 4609] [] ⟨⟨rfl, rfl⟩, ⟨rfl, ⟨rfl, ⟨rfl, rfl⟩, trivial⟩, ⟨rfl, rfl, trivial⟩, ⟨rfl, ⟨rfl, rfl⟩, trivial⟩, ⟨rfl, ⟨rfl, rfl⟩, trivial⟩, ⟨rfl, ⟨rfl, rfl⟩, trivial⟩, ⟨rfl, ⟨rfl, rfl⟩, trivial⟩, ⟨rfl, ⟨rfl, rfl⟩, trivial⟩, ⟨rfl, rfl, rows_same⟩, ⟨rfl, rfl, rows_same⟩, ⟨rfl, rfl, rows_same⟩, ⟨rfl, rfl, rows_same⟩, ⟨rfl, rfl, rows_same⟩, ⟨rfl, rfl, rows_same⟩, trivial⟩, rfl, ⟨rfl, rfl⟩, ⟨rfl, rfl⟩, ⟨rfl, rfl⟩, rfl, ⟨rfl, rfl⟩, ⟨rfl, rfl⟩, rfl, ⟨rfl, rfl⟩, ⟨rfl, rfl⟩, rfl, trivial⟩
      · replace h := iteF h g390
        conv => whnf
        exact CutK.piece (laws_FnOrdinalProducts_p8_ct  h) [some 320, some 384, some 448, some 704, some 768, some 896, some 960, some 1099000, some 1099001, some 1099002, some 1099003, some 4608, some 4609] [] ⟨⟨rfl, rfl⟩, ⟨rfl, ⟨rfl, ⟨rfl, rfl⟩, trivial⟩, ⟨rfl, rfl, trivial⟩, ⟨rfl, ⟨rfl, rfl⟩, trivial⟩, ⟨rfl, ⟨rfl, rfl⟩, trivial⟩, ⟨rfl, ⟨rfl, rfl⟩, trivial⟩, ⟨rfl, ⟨rfl, rfl⟩, trivial⟩, ⟨rfl, ⟨rfl, rfl⟩, trivial⟩, ⟨rfl, rfl, rows_same⟩, ⟨rfl, rfl, rows_same⟩, ⟨rfl, rfl, rows_same⟩, ⟨rfl, rfl, rows_same⟩, ⟨rfl, rfl, rows_same⟩, ⟨rfl, rfl, rows_same⟩, trivial⟩, rfl, ⟨rfl, rfl⟩, ⟨rfl, rfl⟩, ⟨rfl, rfl⟩, rfl, ⟨rfl, rfl⟩, ⟨rfl, rfl⟩, rfl, ⟨rfl, rfl⟩, ⟨rfl, rfl⟩, rfl, trivial⟩
  · replace h := condT h
    cases v51
    · replace h := condF h
      conv => whnf
      refine Take.all (rfl) ?_
      conv => whnf
      obtain ⟨y391, e392, h⟩ := bind_ex h
      refine CallOk.of (spec_DivideOrdinals_ct e392) ?_
      conv => whnf
      refine spl (fun g393 => ?_) (fun g393 => ?_)
      · replace h := iteT h g393
        conv => whnf
        exact CutK.piece (laws_FnOrdinalProducts_p8_ct  h) [some 320, some 384, some 448, some 704, some 768, some 896, some 960, some 1099000, some 1099001, some 1099002, some 1099003, some 4608, some 4609] [] ⟨⟨rfl, rfl⟩, ⟨rfl, ⟨rfl, ⟨rfl, rfl⟩, trivial⟩, ⟨rfl, rfl, trivial⟩, ⟨rfl, ⟨rfl, rfl⟩, trivial⟩, ⟨rfl, ⟨rfl, rfl⟩, trivial⟩, ⟨rfl, ⟨rfl, rfl⟩, trivial⟩, ⟨rfl, ⟨rfl, rfl⟩, trivial⟩, ⟨rfl, ⟨rfl, rfl⟩, trivial⟩, ⟨rfl, rfl, rows_same⟩, ⟨rfl, rfl, rows_same⟩, ⟨rfl, rfl, rows_same⟩, ⟨rfl, rfl, rows_same⟩, ⟨rfl, rfl, rows_same⟩, ⟨rfl, rfl, rows_same⟩, trivial⟩, rfl, ⟨rfl, rfl⟩, ⟨rfl, rfl⟩, ⟨rfl, rfl⟩, rfl, ⟨rfl, rfl⟩, ⟨rfl, rfl⟩, rfl, ⟨rfl, rfl⟩, ⟨rfl, rfl⟩, rfl, trivial⟩
      · replace h := iteF h g393
        conv => whnf
        exact CutK.piece (laws_FnOrdinalProducts_p8_ct  h) [some 320, some 384, some 448, some 704, some 768, some 896, some 960, some 1099000, some 1099001, some 1099002, some 1099003, some 4608, some 4609] [] ⟨⟨rfl, rfl⟩, ⟨rfl, ⟨rfl, ⟨rfl, rfl⟩, trivial⟩, ⟨rfl, rfl, trivial⟩, ⟨rfl, ⟨rfl, rfl⟩, trivial⟩, ⟨rfl, ⟨rfl, rfl⟩, trivial⟩, ⟨rfl, ⟨rfl, rfl⟩, trivial⟩, ⟨rfl, ⟨rfl, rfl⟩, trivial⟩, ⟨rfl, ⟨rfl, rfl⟩, trivial⟩, ⟨rfl, rfl, rows_same⟩, ⟨rfl, rfl, rows_same⟩, ⟨rfl, rfl, rows_same⟩, ⟨rfl, rfl, rows_same⟩, ⟨rfl, rfl, rows_same⟩, ⟨rfl, rfl, rows_same⟩, trivial⟩, rfl, ⟨rfl, rfl⟩, ⟨rfl, rfl⟩, ⟨rfl, rfl⟩, rfl, ⟨rfl, rfl⟩, ⟨rfl, rfl⟩, rfl, ⟨rfl, rfl⟩, ⟨rfl, rfl⟩, rfl, trivial⟩
    · replace h := condT h
      conv => whnf
      refine Take.all (rfl) ?_
      conv => whnf
      obtain ⟨y394, e395, h⟩ := bind_ex h
      refine CallOk.of (spec_DivideOrdinals_ct e395) ?_
      conv => whnf
      refine spl (fun g396 => ?_) (fun g396 => ?_)
      · replace h := iteT h g396
        conv => whnf
        exact CutK.piece (laws_FnOrdinalProducts_p8_ct  h) [some 320, some 384, some 448, some 704, some 768, some 896, some 960, some 1099000, some 1099001, some 1099002, some 1099003, some 4608, some 4609] [] ⟨⟨rfl, rfl⟩, ⟨rfl, ⟨rfl, ⟨rfl, rfl⟩, trivial⟩, ⟨rfl, rfl, trivial⟩, ⟨rfl, ⟨rfl, rfl⟩, trivial⟩, ⟨rfl, ⟨rfl, rfl⟩, trivial⟩, ⟨rfl, ⟨rfl, rfl⟩, trivial⟩, ⟨rfl, ⟨rfl, rfl⟩, trivial⟩, ⟨rfl, ⟨rfl, rfl⟩, trivial⟩, ⟨rfl, rfl, rows_same⟩, ⟨rfl, rfl, rows_same⟩, ⟨rfl, rfl, rows_same⟩, ⟨rfl, rfl, rows_same⟩, ⟨rfl, rfl, rows_same⟩, ⟨rfl, rfl, rows_same⟩, trivial⟩, rfl, ⟨rfl, rfl⟩, ⟨rfl, rfl⟩, ⟨rfl, rfl⟩, rfl, ⟨rfl, rfl⟩, ⟨rfl, rfl⟩, rfl, ⟨rfl, rfl⟩, ⟨rfl, rfl⟩, rfl, trivial⟩
      · replace h := iteF h g396
        conv => whnf
        exact CutK.piece (laws_FnOrdinalProducts_p8_ct  h) [some 320, some 384, some 448, some 704, some 768, some 896, some 960, some 1099000, some 1099001, some 1099002, some 1099003, some 4608, some 4609] [] ⟨⟨rfl, rfl⟩, ⟨rfl, ⟨rfl, ⟨rfl, rfl⟩, trivial⟩, ⟨rfl, rfl, trivial⟩, ⟨rfl, ⟨rfl, rfl⟩, trivial⟩, ⟨rfl, ⟨rfl, rfl⟩, trivial⟩, ⟨rfl, ⟨rfl, rfl⟩, trivial⟩, ⟨rfl, ⟨rfl, rfl⟩, trivial⟩, ⟨rfl, ⟨rfl, rfl⟩, trivial⟩, ⟨rfl, rfl, rows_same⟩, ⟨rfl, rfl, rows_same⟩, ⟨rfl, rfl, rows_same⟩, ⟨rfl, rfl, rows_same⟩, ⟨rfl, rfl, rows_same⟩, ⟨rfl, rfl, rows_same⟩, trivial⟩, rfl, ⟨rfl, rfl⟩, ⟨rfl, rfl⟩, ⟨rfl, rfl⟩, rfl, ⟨rfl, rfl⟩, ⟨rfl, rfl⟩, rfl, ⟨rfl, rfl⟩, ⟨rfl, rfl⟩, rfl, trivial⟩
def laws_FnOrdinalProducts_p6 (k : Nat) (a2 : Rw) (o32 : Rw) (o33 : Rw) (o34 : Rw) (v38 : Bool) : Option Bool :=
  (cond v38 ((impl_DivideOrdinals k o32 o33).bind fun y400 => (if y400.2.2 = true then (laws_FnOrdinalProducts_p7 k a2 o32 o33 o34 y400.1 y400.2.1 true true) else (laws_FnOrdinalProducts_p7 k a2 o32 o33 o34 y400.1 y400.2.1 false true))) ((impl_DivideOrdinals k o32 o33).bind fun y397 => (if y397.2.2 = true then (laws_FnOrdinalProducts_p7 k a2 o32 o33 o34 y397.1 y397.2.1 true false) else (laws_FnOrdinalProducts_p7 k a2 o32 o33 o34 y397.1 y397.2.1 false false))))
set_option maxHeartbeats 4000000 in
set_option maxRecDepth 100000 in
theorem laws_FnOrdinalProducts_p6_ct {k : Nat} {a2 : Rw} {o32 : Rw} {o33 : Rw} {o34 : Rw} {v38 : Bool} {r : Bool} (h : laws_FnOrdinalProducts_p6 k a2 o32 o33 o34 v38 = some r) : X prog 0 (tlF f8 6) (mk 178 [(1, .d (D.sl a2)), (5, .ptr 320 0), (6, .ptr 384 0), (7, .ptr 448 0), (8, .d (D.bool v38))] [(320, .box 26 [.os 1094000 o32.length]), (384, .box 26 [.d (D.sl o33)]), (448, .box 26 [.os 1094001 o34.length]), (1094000, .arr 98 false o32), (1094001, .arr 98 true o34)]) (finK prog f8 0 (.d (D.bool r)) (⟨[], []⟩)) := by
  rw [laws_FnOrdinalProducts_p6] at h
  cases v38
  · replace h := condF h
    conv => whnf
    refine Take.all (rfl) ?_
    conv => whnf
    obtain ⟨y397, e398, h⟩ := bind_ex h
    refine CallOk.of (impl_DivideOrdinals_ct e398) ?_
    conv => whnf
    refine spl (fun g399 => ?_) (fun g399 => ?_)
    · replace h := iteT h g399
      conv => whnf
      exact CutK.piece (laws_FnOrdinalProducts_p7_ct  h) [some 320, some 384, some 448, some 704, some 768, some 1094000, some 1094001, some 4160, some 4161] [] ⟨⟨rfl, rfl⟩, ⟨rfl, ⟨rfl, ⟨rfl, rfl⟩, trivial⟩, ⟨rfl, rfl, trivial⟩, ⟨rfl, ⟨rfl, rfl⟩, trivial⟩, ⟨rfl, ⟨rfl, rfl⟩, trivial⟩, ⟨rfl, ⟨rfl, rfl⟩, trivial⟩, ⟨rfl, rfl, rows_same⟩, ⟨rfl, rfl, rows_same⟩, ⟨rfl, rfl, rows_same⟩, ⟨rfl, rfl, rows_same⟩, trivial⟩, rfl, ⟨rfl, rfl⟩, ⟨rfl, rfl⟩, ⟨rfl, rfl⟩, rfl, ⟨rfl, rfl⟩, ⟨rfl, rfl⟩, rfl, trivial⟩
    · replace h := iteF h g399
      conv => whnf
      exact CutK.piece (laws_FnOrdinalProducts_p7_ct  h) [some 320, some 384, some 448, some 704, some 768, some 1094000, some 1094001, some 4160, some 4161] [] ⟨⟨rfl, rfl⟩, ⟨rfl, ⟨rfl, ⟨rfl, rfl⟩, trivial⟩, ⟨rfl, rfl, trivial⟩, ⟨rfl, ⟨rfl, rfl⟩, trivial⟩, ⟨rfl, ⟨rfl, rfl⟩, trivial⟩, ⟨rfl, ⟨rfl, rfl⟩, trivial⟩, ⟨rfl, rfl, rows_same⟩, ⟨rfl, rfl, rows_same⟩, ⟨rfl, rfl, rows_same⟩, ⟨rfl, rfl, rows_same⟩, trivial⟩, rfl, ⟨rfl, rfl⟩, ⟨rfl, rfl⟩, ⟨rfl, rfl⟩, rfl, ⟨rfl, rfl⟩, ⟨rfl, rfl⟩, rfl, trivial⟩
  · replace h := condT h
    conv => whnf
    refine Take.all (rfl) ?_
    conv => whnf
    obtain ⟨y400, e401, h⟩ := bind_ex h
    refine CallOk.of (impl_DivideOrdinals_ct e401) ?_
    conv => whnf
    refine spl (fun g402 => ?_) (fun g402 => ?_)
    · replace h := iteT h g402
      conv => whnf
      exact CutK.piece (laws_FnOrdinalProducts_p7_ct  h) [some 320, some 384, some 448, some 704, some 768, some 1094000, some 1094001, some 4160, some 4161] [] ⟨⟨rfl, rfl⟩, ⟨rfl, ⟨rfl, ⟨rfl, rfl⟩, trivial⟩, ⟨rfl, rfl, trivial⟩, ⟨rfl, ⟨rfl, rfl⟩, trivial⟩, ⟨rfl, ⟨rfl, rfl⟩, trivial⟩, ⟨rfl, ⟨rfl, rfl⟩, trivial⟩, ⟨rfl, rfl, rows_same⟩, ⟨rfl, rfl, rows_same⟩, ⟨rfl, rfl, rows_same⟩, ⟨rfl, rfl, rows_same⟩, trivial⟩, rfl, ⟨rfl, rfl⟩, ⟨rfl, rfl⟩, ⟨rfl, rfl⟩, rfl, ⟨rfl, rfl⟩, ⟨rfl, rfl⟩, rfl, trivial⟩
    · replace h := iteF h g402
      conv => whnf
      exact CutK.piece (laws_FnOrdinalProducts_p7_ct  h) [some 320, some 384, some 448, some 704, some 768, some 1094000, some 1094001, some 4160, some 4161] [] ⟨⟨rfl, rfl⟩, ⟨rfl, ⟨rfl, ⟨rfl, rfl⟩, trivial⟩, ⟨rfl, rfl, trivial⟩, ⟨rfl, ⟨rfl, rfl⟩, trivial⟩, ⟨rfl, ⟨rfl, rfl⟩, trivial⟩, ⟨rfl, ⟨rfl, rfl⟩, trivial⟩, ⟨rfl, rfl, rows_same⟩, ⟨rfl, rfl, rows_same⟩, ⟨rfl, rfl, rows_same⟩, ⟨rfl, rfl, rows_same⟩, trivial⟩, rfl, ⟨rfl, rfl⟩, ⟨rfl, rfl⟩, ⟨rfl, rfl⟩, rfl, ⟨rfl, rfl⟩, ⟨rfl, rfl⟩, rfl, trivial⟩
def laws_FnOrdinalProducts_p5 (k : Nat) (a2 : Rw) (o20 : Rw) (o21 : Rw) (o22 : Rw) (o23 : Rw) (v24 : Bool) (v28 : Bool) : Option Bool :=
  (cond v24 (cond v28 ((laws_sameOrdinal k o22 o23).bind fun y406 => (if y406 = true then (laws_FnOrdinalProducts_p6 k a2 o20 o21 o22 true) else some false)) (some false)) (cond v28 (some false) ((laws_sameOrdinal k o22 o23).bind fun y403 => (if y403 = true then (laws_FnOrdinalProducts_p6 k a2 o20 o21 o22 false) else some false))))
set_option maxHeartbeats 4000000 in
set_option maxRecDepth 100000 in
theorem laws_FnOrdinalProducts_p5_ct {k : Nat} {a2 : Rw} {o20 : Rw} {o21 : Rw} {o22 : Rw} {o23 : Rw} {v24 : Bool} {v28 : Bool} {r : Bool} (h : laws_FnOrdinalProducts_p5 k a2 o20 o21 o22 o23 v24 v28 = some r) : X prog 0 (tlF f8 5) (mk 178 [(1, .d (D.sl a2)), (5, .ptr 320 0), (6, .ptr 384 0), (7, .ptr 448 0), (8, .d (D.bool v28)), (9, .ptr 576 0), (10, .d (D.bool v24))] [(320, .box 26 [.os 1089000 o20.length]), (384, .box 26 [.d (D.sl o21)]), (448, .box 26 [.os 1089001 o22.length]), (576, .box 26 [.os 1089002 o23.length]), (1089000, .arr 98 false o20), (1089001, .arr 98 true o22), (1089002, .arr 98 true o23)]) (finK prog f8 0 (.d (D.bool r)) (⟨[], []⟩)) := by
  rw [laws_FnOrdinalProducts_p5] at h
  cases v24
  · replace h := condF h
    cases v28
    · replace h := condF h
      conv => whnf
      refine splF ?_
      conv => whnf
      refine Take.all (rfl) ?_
      conv => whnf
      refine Take.all (rfl) ?_
      conv => whnf
      obtain ⟨y403, e404, h⟩ := bind_ex h
      refine CallOk.of (laws_sameOrdinal_ct e404) ?_
      conv => whnf
      refine spl (fun g405 => ?_) (fun g405 => ?_)
      · replace h := iteT h g405
        conv => whnf
        refine CutK.norm [1, 5, 6, 7, 8, 61] [320, 384, 448, 1089000, 1089001] ?_
        conv => whnf
        exact CutK.piece (laws_FnOrdinalProducts_p6_ct  h) [some 320, some 384, some 448, some 1089000, some 1089001] [] ⟨⟨rfl, rfl⟩, ⟨rfl, ⟨rfl, ⟨rfl, rfl⟩, trivial⟩, ⟨rfl, rfl, trivial⟩, ⟨rfl, ⟨rfl, rfl⟩, trivial⟩, ⟨rfl, rfl, rows_same⟩, ⟨rfl, rfl, rows_same⟩, trivial⟩, rfl, ⟨rfl, rfl⟩, ⟨rfl, rfl⟩, ⟨rfl, rfl⟩, rfl, trivial⟩
      · replace h := iteF h g405
        conv => whnf
        refine CutK.norm [1, 5, 6, 7, 8, 61] [320, 384, 448, 1089000, 1089001] ?_
        conv => whnf
        cases h
        exact Done.of [] [] rfl rfl ⟨⟨rfl, rfl⟩, ⟨rfl, trivial⟩, rfl, trivial⟩
    · replace h := condT h
      conv => whnf
      refine splT ?_
      conv => whnf
      refine CutK.norm [1, 5, 6, 7, 8, 61] [320, 384, 448, 1089000, 1089001] ?_
      conv => whnf
      cases h
      exact Done.of [] [] rfl rfl ⟨⟨rfl, rfl⟩, ⟨rfl, trivial⟩, rfl, trivial⟩
  · replace h := condT h
    cases v28
    · replace h := condF h
      conv => whnf
      refine splT ?_
      conv => whnf
      refine CutK.norm [1, 5, 6, 7, 8, 61] [320, 384, 448, 1089000, 1089001] ?_
      conv => whnf
      cases h
      exact Done.of [] [] rfl rfl ⟨⟨rfl, rfl⟩, ⟨rfl, trivial⟩, rfl, trivial⟩
    · replace h := condT h
      conv => whnf
      refine splF ?_
      conv => whnf
      refine Take.all (rfl) ?_
      conv => whnf
      refine Take.all (rfl) ?_
      conv => whnf
      obtain ⟨y406, e407, h⟩ := bind_ex h
      refine CallOk.of (laws_sameOrdinal_ct e407) ?_
      conv => whnf
      refine spl (fun g408 => ?_) (fun g408 => ?_)
      · replace h := iteT h g408
        conv => whnf
        refine CutK.norm [1, 5, 6, 7, 8, 61] [320, 384, 448, 1089000, 1089001] ?_
        conv => whnf
        exact CutK.piece (laws_FnOrdinalProducts_p6_ct  h) [some 320, some 384, some 448, some 1089000, some 1089001] [] ⟨⟨rfl, rfl⟩, ⟨rfl, ⟨rfl, ⟨rfl, rfl⟩, trivial⟩, ⟨rfl, rfl, trivial⟩, ⟨rfl, ⟨rfl, rfl⟩, trivial⟩, ⟨rfl, rfl, rows_same⟩, ⟨rfl, rfl, rows_same⟩, trivial⟩, rfl, ⟨rfl, rfl⟩, ⟨rfl, rfl⟩, ⟨rfl, rfl⟩, rfl, trivial⟩
      · replace h := iteF h g408
        conv => whnf
        refine CutK.norm [1, 5, 6, 7, 8, 61] [320, 384, 448, 1089000, 1089001] ?_
        conv => whnf
        cases h
        exact Done.of [] [] rfl rfl ⟨⟨rfl, rfl⟩, ⟨rfl, trivial⟩, rfl, trivial⟩
def laws_FnOrdinalProducts_p4 (k : Nat) (a2 : Rw) (o13 : Rw) (o14 : Rw) (o15 : Rw) (v16 : Bool) : Option Bool :=
  (cond v16 ((spec_MultiplyOrdinals k o13 o14).bind fun y412 => (if y412.2 = true then (laws_FnOrdinalProducts_p5 k a2 o13 o14 o15 y412.1 true true) else (laws_FnOrdinalProducts_p5 k a2 o13 o14 o15 y412.1 false true))) ((spec_MultiplyOrdinals k o13 o14).bind fun y409 => (if y409.2 = true then (laws_FnOrdinalProducts_p5 k a2 o13 o14 o15 y409.1 true false) else (laws_FnOrdinalProducts_p5 k a2 o13 o14 o15 y409.1 false false))))
set_option maxHeartbeats 4000000 in
set_option maxRecDepth 100000 in
theorem laws_FnOrdinalProducts_p4_ct {k : Nat} {a2 : Rw} {o13 : Rw} {o14 : Rw} {o15 : Rw} {v16 : Bool} {r : Bool} (h : laws_FnOrdinalProducts_p4 k a2 o13 o14 o15 v16 = some r) : X prog 0 (tlF f8 4) (mk 178 [(1, .d (D.sl a2)), (5, .ptr 320 0), (6, .ptr 384 0), (7, .ptr 448 0), (8, .d (D.bool v16))] [(320, .box 26 [.os 1084000 o13.length]), (384, .box 26 [.d (D.sl o14)]), (448, .box 26 [.os 1084001 o15.length]), (1084000, .arr 98 false o13), (1084001, .arr 98 true o15)]) (finK prog f8 0 (.d (D.bool r)) (⟨[], []⟩)) := by
  rw [laws_FnOrdinalProducts_p4] at h
  cases v16
  · replace h := condF h
    conv => whnf
    refine Take.all (rfl) ?_
    conv => whnf
    obtain ⟨y409, e410, h⟩ := bind_ex h
    refine CallOk.of (spec_MultiplyOrdinals_ct e410) ?_
    conv => whnf
    refine spl (fun g411 => ?_) (fun g411 => ?_)
    · replace h := iteT h g411
      conv => whnf
      exact CutK.piece (laws_FnOrdinalProducts_p5_ct  h) [some 320, some 384, some 448, some 576, some 1084000, some 1084001, some 3200] [] ⟨⟨rfl, rfl⟩, ⟨rfl, ⟨rfl, ⟨rfl, rfl⟩, trivial⟩, ⟨rfl, rfl, trivial⟩, ⟨rfl, ⟨rfl, rfl⟩, trivial⟩, ⟨rfl, ⟨rfl, rfl⟩, trivial⟩, ⟨rfl, rfl, rows_same⟩, ⟨rfl, rfl, rows_same⟩, ⟨rfl, rfl, rows_same⟩, trivial⟩, rfl, ⟨rfl, rfl⟩, ⟨rfl, rfl⟩, ⟨rfl, rfl⟩, rfl, ⟨rfl, rfl⟩, rfl, trivial⟩
    · replace h := iteF h g411
      conv => whnf
      exact CutK.piece (laws_FnOrdinalProducts_p5_ct  h) [some 320, some 384, some 448, some 576, some 1084000, some 1084001, some 3200] [] ⟨⟨rfl, rfl⟩, ⟨rfl, ⟨rfl, ⟨rfl, rfl⟩, trivial⟩, ⟨rfl, rfl, trivial⟩, ⟨rfl, ⟨rfl, rfl⟩, trivial⟩, ⟨rfl, ⟨rfl, rfl⟩, trivial⟩, ⟨rfl, rfl, rows_same⟩, ⟨rfl, rfl, rows_same⟩, ⟨rfl, rfl, rows_same⟩, trivial⟩, rfl, ⟨rfl, rfl⟩, ⟨rfl, rfl⟩, ⟨rfl, rfl⟩, rfl, ⟨rfl, rfl⟩, rfl, trivial⟩
  · replace h := condT h
    conv => whnf
    refine Take.all (rfl) ?_
    conv => whnf
    obtain ⟨y412, e413, h⟩ := bind_ex h
    refine CallOk.of (spec_MultiplyOrdinals_ct e413) ?_
    conv => whnf
    refine spl (fun g414 => ?_) (fun g414 => ?_)
    · replace h := iteT h g414
      conv => whnf
      exact CutK.piece (laws_FnOrdinalProducts_p5_ct  h) [some 320, some 384, some 448, some 576, some 1084000, some 1084001, some 3200] [] ⟨⟨rfl, rfl⟩, ⟨rfl, ⟨rfl, ⟨rfl, rfl⟩, trivial⟩, ⟨rfl, rfl, trivial⟩, ⟨rfl, ⟨rfl, rfl⟩, trivial⟩, ⟨rfl, ⟨rfl, rfl⟩, trivial⟩, ⟨rfl, rfl, rows_same⟩, ⟨rfl, rfl, rows_same⟩, ⟨rfl, rfl, rows_same⟩, trivial⟩, rfl, ⟨rfl, rfl⟩, ⟨rfl, rfl⟩, ⟨rfl, rfl⟩, rfl, ⟨rfl, rfl⟩, rfl, trivial⟩
    · replace h := iteF h g414
      conv => whnf
      exact CutK.piece (laws_FnOrdinalProducts_p5_ct  h) [some 320, some 384, some 448, some 576, some 1084000, some 1084001, some 3200] [] ⟨⟨rfl, rfl⟩, ⟨rfl, ⟨rfl, ⟨rfl, rfl⟩, trivial⟩, ⟨rfl, rfl, trivial⟩, ⟨rfl, ⟨rfl, rfl⟩, trivial⟩, ⟨rfl, ⟨rfl, rfl⟩, trivial⟩, ⟨rfl, rfl, rows_same⟩, ⟨rfl, rfl, rows_same⟩, ⟨rfl, rfl, rows_same⟩, trivial⟩, rfl, ⟨rfl, rfl⟩, ⟨rfl, rfl⟩, ⟨rfl, rfl⟩, rfl, ⟨rfl, rfl⟩, rfl, trivial⟩
def laws_FnOrdinalProducts_p3 (k : Nat) (a2 : Rw) (o8 : Rw) (o9 : Rw) : Option Bool :=
  ((impl_MultiplyOrdinals k o8 o9).bind fun y415 => (if y415.2 = true then (laws_FnOrdinalProducts_p4 k a2 o8 o9 y415.1 true) else (laws_FnOrdinalProducts_p4 k a2 o8 o9 y415.1 false)))
set_option maxHeartbeats 4000000 in
set_option maxRecDepth 100000 in
theorem laws_FnOrdinalProducts_p3_ct {k : Nat} {a2 : Rw} {o8 : Rw} {o9 : Rw} {r : Bool} (h : laws_FnOrdinalProducts_p3 k a2 o8 o9 = some r) : X prog 0 (tlF f8 3) (mk 178 [(1, .d (D.sl a2)), (5, .ptr 320 0), (6, .ptr 384 0)] [(320, .box 26 [.os 1079000 o8.length]), (384, .box 26 [.d (D.sl o9)]), (1079000, .arr 98 false o8)]) (finK prog f8 0 (.d (D.bool r)) (⟨[], []⟩)) := by
  rw [laws_FnOrdinalProducts_p3] at h
  conv => whnf
  refine Take.all (rfl) ?_
  conv => whnf
  obtain ⟨y415, e416, h⟩ := bind_ex h
  refine CallOk.of (impl_MultiplyOrdinals_ct e416) ?_
  conv => whnf
  refine spl (fun g417 => ?_) (fun g417 => ?_)
  · replace h := iteT h g417
    conv => whnf
    exact CutK.piece (laws_FnOrdinalProducts_p4_ct  h) [some 320, some 384, some 448, some 1079000, some 2816] [] ⟨⟨rfl, rfl⟩, ⟨rfl, ⟨rfl, ⟨rfl, rfl⟩, trivial⟩, ⟨rfl, rfl, trivial⟩, ⟨rfl, ⟨rfl, rfl⟩, trivial⟩, ⟨rfl, rfl, rows_same⟩, ⟨rfl, rfl, rows_same⟩, trivial⟩, rfl, ⟨rfl, rfl⟩, ⟨rfl, rfl⟩, ⟨rfl, rfl⟩, rfl, trivial⟩
  · replace h := iteF h g417
    conv => whnf
    exact CutK.piece (laws_FnOrdinalProducts_p4_ct  h) [some 320, some 384, some 448, some 1079000, some 2816] [] ⟨⟨rfl, rfl⟩, ⟨rfl, ⟨rfl, ⟨rfl, rfl⟩, trivial⟩, ⟨rfl, rfl, trivial⟩, ⟨rfl, ⟨rfl, rfl⟩, trivial⟩, ⟨rfl, rfl, rows_same⟩, ⟨rfl, rfl, rows_same⟩, trivial⟩, rfl, ⟨rfl, rfl⟩, ⟨rfl, rfl⟩, ⟨rfl, rfl⟩, rfl, trivial⟩
def laws_FnOrdinalProducts_p2 (k : Nat) (a1 : Rw) (a2 : Rw) : Option Bool :=
  ((spec_DrawAddOrdinals k a1).bind fun y418 => (laws_FnOrdinalProducts_p3 k a2 y418.1 y418.2))
set_option maxHeartbeats 4000000 in
set_option maxRecDepth 100000 in
theorem laws_FnOrdinalProducts_p2_ct {k : Nat} {a1 : Rw} {a2 : Rw} {r : Bool} (h : laws_FnOrdinalProducts_p2 k a1 a2 = some r) : X prog 0 (tlF f8 2) (mk 178 [(0, .d (D.sl a1)), (1, .d (D.sl a2))] []) (finK prog f8 0 (.d (D.bool r)) (⟨[], []⟩)) := by
  rw [laws_FnOrdinalProducts_p2] at h
  conv => whnf
  obtain ⟨y418, e419, h⟩ := bind_ex h
  refine CallOk.of (spec_DrawAddOrdinals_ct e419) ?_
  conv => whnf
  exact CutK.piece (laws_FnOrdinalProducts_p3_ct  h) [some 320, some 384, some 2432] [] ⟨⟨rfl, rfl⟩, ⟨rfl, ⟨rfl, ⟨rfl, rfl⟩, trivial⟩, ⟨rfl, rfl, trivial⟩, ⟨rfl, rfl, rows_same⟩, trivial⟩, rfl, ⟨rfl, rfl⟩, ⟨rfl, rfl⟩, trivial⟩
def laws_FnOrdinalProducts (k : Nat) (a1 : Rw) (a2 : Rw) : Option Bool :=
  ((laws_big a1 a2).bind fun y420 => (if y420 = true then some true else (laws_FnOrdinalProducts_p2 k a1 a2)))
set_option maxHeartbeats 4000000 in
set_option maxRecDepth 100000 in
theorem laws_FnOrdinalProducts_ct {k : Nat} {a1 : Rw} {a2 : Rw} {r : Bool} (h : laws_FnOrdinalProducts k a1 a2 = some r) : Ct prog 8 [.d (D.sl a1), .d (D.sl a2)] (⟨[], []⟩) (.d (D.bool r)) (⟨[], []⟩) := by
  rw [laws_FnOrdinalProducts] at h
  refine Ct.of (c := _) mixed func8 ⟨rfl, rfl, rfl⟩ ?_ rfl
  conv => whnf
  obtain ⟨y420, e421, h⟩ := bind_ex h
  refine CallOk.of (laws_big_ct e421) ?_
  conv => whnf
  refine spl (fun g422 => ?_) (fun g422 => ?_)
  · replace h := iteT h g422
    conv => whnf
    refine CutK.norm [0, 1, 35] [] ?_
    conv => whnf
    cases h
    exact Done.of [] [] rfl rfl ⟨⟨rfl, rfl⟩, ⟨rfl, trivial⟩, rfl, trivial⟩
  · replace h := iteF h g422
    conv => whnf
    refine CutK.norm [0, 1, 35] [] ?_
    conv => whnf
    exact CutK.piece (laws_FnOrdinalProducts_p2_ct  h) [] [] ⟨⟨rfl, rfl⟩, ⟨rfl, trivial⟩, rfl, rfl, trivial⟩
end
end Go.Proofs.Try
