/- Printed by program (axgen): pure functions, and that the Go functions compute them. -/
import Derived.Test.YtlhdcdnbiodphaaOP0
set_option linter.unusedVariables false
set_option linter.unusedSimpArgs false
namespace Go.Proofs.Try
open Go Go.AX
noncomputable section
def spec_odOver_p3 (o151 : Rw) (o152 : Rw) : Option (Rw × Rw) :=
  some (o152, o151)
set_option maxHeartbeats 4000000 in
set_option maxRecDepth 100000 in
theorem spec_odOver_p3_ct {o151 : Rw} {o152 : Rw} {r : Rw × Rw} (h : spec_odOver_p3 o151 o152 = some r) : X prog 0 (tlF f164 3) (mk 64 [(2, .ptr 128 0), (4, .ptr 256 0), (5, .ptr 320 0), (6, .ptr 384 0)] [(128, .box 26 [.d (D.sl o151)]), (256, .box 26 [.es]), (320, .box 26 [.es]), (384, .box 26 [.os 1079000 o152.length]), (1079000, .arr 104 false o152)]) (finK prog f164 0 (.tup [.agg [.os 8 r.1.length], .agg [.d (D.sl r.2)]]) (⟨[], [(104, false, r.1)]⟩)) := by
  rw [spec_odOver_p3] at h
  conv => whnf
  cases h
  exact Done.of [some 1079000] [] rfl rfl ⟨⟨rfl, rfl⟩, ⟨rfl, ⟨rfl, rfl, rows_same⟩, trivial⟩, ⟨⟨⟨rfl, rfl⟩, trivial⟩, ⟨rfl, trivial⟩, trivial⟩, trivial⟩
def spec_odOver_l0 (k : Nat) (a2 : Rw) (K0 : Rw → Rw → Option (Rw × Rw)) : Nat → Rw → Rw → Option (Rw × Rw)
  | 0, _, _ => none
  | n + 1, v187, v188 => ((spec_odCmp k v187 a2).bind fun y301 => (if (0 : Int) ≤ y301 then (row_si v187 0 fun x304 x305 => (row_si a2 0 fun x308 x309 => ((spec_odLess k x304 x308).bind fun y312 => ((spec_odTerm y312 x305).bind fun y314 => ((spec_odCmp k x304 x308).bind fun y316 => (if y316 = (0 : Int) then (if x309 ≠ 0 then ((spec_odInt (IntKind.i64.wrap (x305.tdiv x309))).bind fun y320 => ((spec_odTimes k a2 y320).bind fun y322 => ((spec_odCmp k y322 v187).bind fun y324 => (if (0 : Int) < y324 then ((spec_odInt (IntKind.i64.wrap ((IntKind.i64.wrap (x305.tdiv x309)) - 1))).bind fun y327 => ((spec_odPlus k v188 y327).bind fun y329 => ((spec_odTimes k a2 y327).bind fun y331 => ((spec_odLess k v187 y331).bind fun y333 => (spec_odOver_l0 k a2 K0 n y333 y329))))) else ((spec_odInt (IntKind.i64.wrap (x305.tdiv x309))).bind fun y335 => ((spec_odPlus k v188 y335).bind fun y337 => ((spec_odTimes k a2 y335).bind fun y339 => ((spec_odLess k v187 y339).bind fun y341 => (spec_odOver_l0 k a2 K0 n y341 y337))))))))) else none) else ((spec_odPlus k v188 y314).bind fun y343 => ((spec_odTimes k a2 y314).bind fun y345 => ((spec_odLess k v187 y345).bind fun y347 => (spec_odOver_l0 k a2 K0 n y347 y343)))))))))) else (K0 v187 v188)))
set_option maxRecDepth 100000 in
theorem spec_odOver_l0_ct {k : Nat} {a2 : Rw} {K0 : Rw → Rw → Option (Rw × Rw)} {r : Rw × Rw} : ∀ (n : Nat) (v187 : Rw) (v188 : Rw), spec_odOver_l0 k a2 K0 n v187 v188 = some r → LoopOk prog 0 (lp f164 0) (mk 64 [(2, .ptr 128 0), (3, .ptr 192 0), (4, .ptr 256 0), (5, .ptr 320 0), (6, .ptr 384 0)] [(128, .box 26 [.d (D.sl v187)]), (192, .box 26 [.d (D.sl a2)]), (256, .box 26 [.es]), (320, .box 26 [.es]), (384, .box 26 [.os 64000 v188.length]), (64000, .arr 104 false v188)]) (LoopEnd prog f164 0 64 (.tup [.agg [.os 8 r.1.length], .agg [.d (D.sl r.2)]]) (⟨[], [(104, false, r.1)]⟩) (fun i ts os => (i = 0 ∧ ∃ v251 : Rw, ∃ v252 : Rw, K0 v251 v252 = some r ∧ ts = [(2, .ptr 128 0), (4, .ptr 256 0), (5, .ptr 320 0), (6, .ptr 384 0)] ∧ os = [(128, .box 26 [.d (D.sl v251)]), (256, .box 26 [.es]), (320, .box 26 [.es]), (384, .box 26 [.os 67001 v252.length]), (67001, .arr 104 false v252)])))
  | 0, _, _, h => by
      rw [spec_odOver_l0] at h; cases h
  | n + 1, v187, v188, h => by
      rw [spec_odOver_l0] at h
      refine LoopOk.step ?_
      conv => whnf
      obtain ⟨y301, e302, h⟩ := bind_ex h
      refine CallOk.of (spec_odCmp_ct e302) ?_
      conv => whnf
      refine splD (fun g303 => ?_) (fun g303 => ?_)
      · replace h := iteP h g303
        conv => whnf
        refine CutK.norm [2, 3, 4, 5, 6, 15] [128, 192, 256, 320, 384, 64000] ?_
        conv => whnf
        refine CutK.norm [2, 3, 4, 5, 6] [128, 192, 256, 320, 384, 64000] ?_
        conv => whnf
        obtain ⟨g307, x304, x305, e306, h⟩ := row_si_ex h
        refine Req.of g307 ?_
        refine Row.of _ e306 ?_
        conv => whnf
        obtain ⟨g311, x308, x309, e310, h⟩ := row_si_ex h
        refine Req.of g311 ?_
        refine Row.of _ e310 ?_
        conv => whnf
        obtain ⟨y312, e313, h⟩ := bind_ex h
        refine CallOk.of (spec_odLess_ct e313) ?_
        conv => whnf
        obtain ⟨y314, e315, h⟩ := bind_ex h
        refine CallOk.of (spec_odTerm_ct e315) ?_
        conv => whnf
        refine CutK.norm [2, 3, 4, 5, 6, 7, 8, 9] [128, 192, 256, 320, 384, 448, 512, 576, 1984, 64000] ?_
        conv => whnf
        obtain ⟨y316, e317, h⟩ := bind_ex h
        refine CallOk.of (spec_odCmp_ct e317) ?_
        conv => whnf
        refine splD (fun g318 => ?_) (fun g318 => ?_)
        · replace h := iteP h g318
          conv => whnf
          refine CutK.norm [2, 3, 4, 5, 6, 7, 8, 9, 37] [128, 192, 256, 320, 384, 448, 512, 576, 1984, 64000] ?_
          conv => whnf
          obtain ⟨g319, h⟩ := req_ex h
          refine Req.of g319 ?_
          conv => whnf
          obtain ⟨y320, e321, h⟩ := bind_ex h
          refine CallOk.of (spec_odInt_ct e321) ?_
          conv => whnf
          refine Take.all (rfl) ?_
          conv => whnf
          obtain ⟨y322, e323, h⟩ := bind_ex h
          refine CallOk.of (spec_odTimes_ct e323) ?_
          conv => whnf
          refine Take.all (rfl) ?_
          conv => whnf
          obtain ⟨y324, e325, h⟩ := bind_ex h
          refine CallOk.of (spec_odCmp_ct e325) ?_
          conv => whnf
          refine splD (fun g326 => ?_) (fun g326 => ?_)
          · replace h := iteP h g326
            conv => whnf
            refine CutK.norm [2, 3, 4, 5, 6, 9, 10, 49] [128, 192, 256, 320, 384, 576, 1984, 64000] ?_
            conv => whnf
            refine CutK.norm [2, 3, 4, 5, 6, 9, 10] [128, 192, 256, 320, 384, 576, 1984, 64000] ?_
            conv => whnf
            obtain ⟨y327, e328, h⟩ := bind_ex h
            refine CallOk.of (spec_odInt_ct e328) ?_
            conv => whnf
            refine CutK.norm [2, 3, 4, 5, 6, 9] [128, 192, 256, 320, 384, 576, 3392, 64000] ?_
            conv => whnf
            refine Take.all (rfl) ?_
            conv => whnf
            refine Take.all (rfl) ?_
            conv => whnf
            obtain ⟨y329, e330, h⟩ := bind_ex h
            refine CallOk.of (spec_odPlus_ct e330) ?_
            conv => whnf
            refine CutK.norm [2, 3, 4, 5, 6, 9] [128, 192, 256, 320, 384, 576, 3392, 3584] ?_
            conv => whnf
            refine Take.all (rfl) ?_
            conv => whnf
            obtain ⟨y331, e332, h⟩ := bind_ex h
            refine CallOk.of (spec_odTimes_ct e332) ?_
            conv => whnf
            refine Take.all (rfl) ?_
            conv => whnf
            obtain ⟨y333, e334, h⟩ := bind_ex h
            refine CallOk.of (spec_odLess_ct e334) ?_
            conv => whnf
            exact LoopOk.back (spec_odOver_l0_ct  n _ _ h) [some 128, some 192, some 256, some 320, some 384, some 3584] [] ⟨⟨rfl, rfl⟩, ⟨rfl, ⟨rfl, rfl, trivial⟩, ⟨rfl, rfl, trivial⟩, ⟨rfl, trivial, trivial⟩, ⟨rfl, trivial, trivial⟩, ⟨rfl, ⟨rfl, rfl⟩, trivial⟩, ⟨rfl, rfl, rows_same⟩, trivial⟩, ⟨rfl, rfl⟩, ⟨rfl, rfl⟩, ⟨rfl, rfl⟩, ⟨rfl, rfl⟩, ⟨rfl, rfl⟩, trivial⟩
          · replace h := iteN h g326
            conv => whnf
            refine CutK.norm [2, 3, 4, 5, 6, 9, 10, 49] [128, 192, 256, 320, 384, 576, 1984, 64000] ?_
            conv => whnf
            refine CutK.norm [2, 3, 4, 5, 6, 9, 10] [128, 192, 256, 320, 384, 576, 1984, 64000] ?_
            conv => whnf
            obtain ⟨y335, e336, h⟩ := bind_ex h
            refine CallOk.of (spec_odInt_ct e336) ?_
            conv => whnf
            refine CutK.norm [2, 3, 4, 5, 6, 9] [128, 192, 256, 320, 384, 576, 3392, 64000] ?_
            conv => whnf
            refine Take.all (rfl) ?_
            conv => whnf
            refine Take.all (rfl) ?_
            conv => whnf
            obtain ⟨y337, e338, h⟩ := bind_ex h
            refine CallOk.of (spec_odPlus_ct e338) ?_
            conv => whnf
            refine CutK.norm [2, 3, 4, 5, 6, 9] [128, 192, 256, 320, 384, 576, 3392, 3584] ?_
            conv => whnf
            refine Take.all (rfl) ?_
            conv => whnf
            obtain ⟨y339, e340, h⟩ := bind_ex h
            refine CallOk.of (spec_odTimes_ct e340) ?_
            conv => whnf
            refine Take.all (rfl) ?_
            conv => whnf
            obtain ⟨y341, e342, h⟩ := bind_ex h
            refine CallOk.of (spec_odLess_ct e342) ?_
            conv => whnf
            exact LoopOk.back (spec_odOver_l0_ct  n _ _ h) [some 128, some 192, some 256, some 320, some 384, some 3584] [] ⟨⟨rfl, rfl⟩, ⟨rfl, ⟨rfl, rfl, trivial⟩, ⟨rfl, rfl, trivial⟩, ⟨rfl, trivial, trivial⟩, ⟨rfl, trivial, trivial⟩, ⟨rfl, ⟨rfl, rfl⟩, trivial⟩, ⟨rfl, rfl, rows_same⟩, trivial⟩, ⟨rfl, rfl⟩, ⟨rfl, rfl⟩, ⟨rfl, rfl⟩, ⟨rfl, rfl⟩, ⟨rfl, rfl⟩, trivial⟩
        · replace h := iteN h g318
          conv => whnf
          refine CutK.norm [2, 3, 4, 5, 6, 7, 8, 9, 37] [128, 192, 256, 320, 384, 448, 512, 576, 1984, 64000] ?_
          conv => whnf
          refine CutK.norm [2, 3, 4, 5, 6, 9] [128, 192, 256, 320, 384, 576, 1984, 64000] ?_
          conv => whnf
          refine Take.all (rfl) ?_
          conv => whnf
          refine Take.all (rfl) ?_
          conv => whnf
          obtain ⟨y343, e344, h⟩ := bind_ex h
          refine CallOk.of (spec_odPlus_ct e344) ?_
          conv => whnf
          refine CutK.norm [2, 3, 4, 5, 6, 9] [128, 192, 256, 320, 384, 576, 1984, 3584] ?_
          conv => whnf
          refine Take.all (rfl) ?_
          conv => whnf
          obtain ⟨y345, e346, h⟩ := bind_ex h
          refine CallOk.of (spec_odTimes_ct e346) ?_
          conv => whnf
          refine Take.all (rfl) ?_
          conv => whnf
          obtain ⟨y347, e348, h⟩ := bind_ex h
          refine CallOk.of (spec_odLess_ct e348) ?_
          conv => whnf
          exact LoopOk.back (spec_odOver_l0_ct  n _ _ h) [some 128, some 192, some 256, some 320, some 384, some 3584] [] ⟨⟨rfl, rfl⟩, ⟨rfl, ⟨rfl, rfl, trivial⟩, ⟨rfl, rfl, trivial⟩, ⟨rfl, trivial, trivial⟩, ⟨rfl, trivial, trivial⟩, ⟨rfl, ⟨rfl, rfl⟩, trivial⟩, ⟨rfl, rfl, rows_same⟩, trivial⟩, ⟨rfl, rfl⟩, ⟨rfl, rfl⟩, ⟨rfl, rfl⟩, ⟨rfl, rfl⟩, ⟨rfl, rfl⟩, trivial⟩
      · replace h := iteN h g303
        conv => whnf
        refine CutK.norm [2, 3, 4, 5, 6, 15] [128, 192, 256, 320, 384, 64000] ?_
        conv => whnf
        exact ⟨_, _, [some 128, some 256, some 320, some 384, some 64000], [], ⟨rfl, _, _, h, rfl, rfl⟩, ⟨⟨rfl, rfl⟩, ⟨rfl, ⟨rfl, rfl, trivial⟩, ⟨rfl, trivial, trivial⟩, ⟨rfl, trivial, trivial⟩, ⟨rfl, ⟨rfl, rfl⟩, trivial⟩, ⟨rfl, rfl, rows_same⟩, trivial⟩, ⟨rfl, rfl⟩, ⟨rfl, rfl⟩, ⟨rfl, rfl⟩, ⟨rfl, rfl⟩, trivial⟩⟩
def spec_odOver (k : Nat) (a1 : Rw) (a2 : Rw) : Option (Rw × Rw) :=
  (spec_odOver_l0 k a2 (fun (v251 : Rw) (v252 : Rw) => (spec_odOver_p3 v251 v252)) k a1 ([] : Rw))
set_option maxHeartbeats 4000000 in
set_option maxRecDepth 100000 in
theorem spec_odOver_ct {k : Nat} {a1 : Rw} {a2 : Rw} {r : Rw × Rw} (h : spec_odOver k a1 a2 = some r) : Ct prog 164 [.agg [.d (D.sl a1)], .agg [.d (D.sl a2)]] (⟨[], []⟩) (.tup [.agg [.os 8 r.1.length], .agg [.d (D.sl r.2)]]) (⟨[], [(104, false, r.1)]⟩) := by
  rw [spec_odOver] at h
  refine Ct.of (c := _) mixed func164 ⟨rfl, rfl, rfl⟩ ?_ rfl
  conv => whnf
  refine LoopOk.into (spec_odOver_l0_ct  _ _ _ h) [some 128, some 192, some 256, some 320, some 384, none] [] ⟨⟨rfl, rfl⟩, ⟨rfl, ⟨rfl, rfl, trivial⟩, ⟨rfl, rfl, trivial⟩, ⟨rfl, trivial, trivial⟩, ⟨rfl, trivial, trivial⟩, ⟨rfl, ⟨rfl, rfl⟩, trivial⟩, rfl, trivial⟩, ⟨rfl, rfl⟩, ⟨rfl, rfl⟩, ⟨rfl, rfl⟩, ⟨rfl, rfl⟩, ⟨rfl, rfl⟩, trivial⟩ ?_ (fun _ hs => hs)
  rintro i ts os ⟨rfl, v251, v252, h, rfl, rfl⟩
  conv => whnf
  exact CutK.piece (spec_odOver_p3_ct  h) [some 128, some 256, some 320, some 384, some 67001] [] ⟨⟨rfl, rfl⟩, ⟨rfl, ⟨rfl, rfl, trivial⟩, ⟨rfl, trivial, trivial⟩, ⟨rfl, trivial, trivial⟩, ⟨rfl, ⟨rfl, rfl⟩, trivial⟩, ⟨rfl, rfl, rows_same⟩, trivial⟩, ⟨rfl, rfl⟩, ⟨rfl, rfl⟩, ⟨rfl, rfl⟩, ⟨rfl, rfl⟩, trivial⟩

def spec_odRepeat_l0 (k : Nat) (a1 : Rw) (K0 : Rw → Option (Rw × Bool)) : Nat → Int → Rw → Option (Rw × Bool)
  | 0, _, _ => none
  | n + 1, v11, v12 => (if (0 : Int) < v11 then ((spec_odTimes k v12 a1).bind fun y27 => ((spec_odGood k y27).bind fun y29 => (if y29 = true then (spec_odRepeat_l0 k a1 K0 n (IntKind.i64.wrap (v11 - 1)) y27) else some (([] : Rw), false)))) else (K0 v12))
set_option maxRecDepth 100000 in
theorem spec_odRepeat_l0_ct {k : Nat} {a1 : Rw} {K0 : Rw → Option (Rw × Bool)} {r : Rw × Bool} : ∀ (n : Nat) (v11 : Int) (v12 : Rw), spec_odRepeat_l0 k a1 K0 n v11 v12 = some r → LoopOk prog 0 (lp f163 0) (mk 20 [(1, .d (D.int .i64 v11)), (2, .ptr 128 0), (4, .ptr 256 0), (6, .ptr 384 0)] [(128, .box 26 [.d (D.sl a1)]), (256, .box 26 [.es]), (384, .box 26 [.os 64000 v12.length]), (64000, .arr 104 false v12)]) (LoopEnd prog f163 0 20 (.tup [.agg [.os 8 r.1.length], .d (D.bool r.2)]) (⟨[], [(104, false, r.1)]⟩) (fun i ts os => (i = 0 ∧ ∃ v19 : Rw, K0 v19 = some r ∧ ts = [(4, .ptr 256 0), (6, .ptr 384 0)] ∧ os = [(256, .box 26 [.es]), (384, .box 26 [.os 67001 v19.length]), (67001, .arr 104 false v19)])))
  | 0, _, _, h => by
      rw [spec_odRepeat_l0] at h; cases h
  | n + 1, v11, v12, h => by
      rw [spec_odRepeat_l0] at h
      refine LoopOk.step ?_
      conv => whnf
      refine splD (fun g26 => ?_) (fun g26 => ?_)
      · replace h := iteP h g26
        conv => whnf
        refine Take.all (rfl) ?_
        conv => whnf
        obtain ⟨y27, e28, h⟩ := bind_ex h
        refine CallOk.of (spec_odTimes_ct e28) ?_
        conv => whnf
        refine CutK.go ?_
        conv => whnf
        refine Take.all (rfl) ?_
        conv => whnf
        obtain ⟨y29, e30, h⟩ := bind_ex h
        refine CallOk.of (spec_odGood_ct e30) ?_
        conv => whnf
        refine spl (fun g31 => ?_) (fun g31 => ?_)
        · replace h := iteT h g31
          conv => whnf
          refine CutK.go ?_
          conv => whnf
          refine CutK.go ?_
          conv => whnf
          exact LoopOk.back (spec_odRepeat_l0_ct  n _ _ h) [some 128, some 256, some 384, some 896] [] ⟨⟨rfl, rfl⟩, ⟨rfl, ⟨rfl, rfl, trivial⟩, ⟨rfl, trivial, trivial⟩, ⟨rfl, ⟨rfl, rfl⟩, trivial⟩, ⟨rfl, rfl, rows_same⟩, trivial⟩, rfl, ⟨rfl, rfl⟩, ⟨rfl, rfl⟩, ⟨rfl, rfl⟩, trivial⟩
        · replace h := iteF h g31
          conv => whnf
          refine CutK.go ?_
          conv => whnf
          cases h
          exact Done.of [none] [] rfl rfl ⟨⟨rfl, rfl⟩, ⟨rfl, rfl, trivial⟩, ⟨⟨⟨rfl, rfl⟩, trivial⟩, rfl, trivial⟩, trivial⟩
      · replace h := iteN h g26
        conv => whnf
        exact ⟨_, _, [some 256, some 384, some 64000], [], ⟨rfl, _, h, rfl, rfl⟩, ⟨⟨rfl, rfl⟩, ⟨rfl, ⟨rfl, trivial, trivial⟩, ⟨rfl, ⟨rfl, rfl⟩, trivial⟩, ⟨rfl, rfl, rows_same⟩, trivial⟩, ⟨rfl, rfl⟩, ⟨rfl, rfl⟩, trivial⟩⟩
def spec_odRepeat (k : Nat) (a1 : Rw) (a2 : Int) : Option (Rw × Bool) :=
  ((spec_odInt 1).bind fun y3 => (spec_odRepeat_l0 k a1 (fun (v19 : Rw) => some (v19, true)) k a2 y3))
set_option maxHeartbeats 4000000 in
set_option maxRecDepth 100000 in
theorem spec_odRepeat_ct {k : Nat} {a1 : Rw} {a2 : Int} {r : Rw × Bool} (h : spec_odRepeat k a1 a2 = some r) : Ct prog 163 [.agg [.d (D.sl a1)], .d (D.int .i64 a2)] (⟨[], []⟩) (.tup [.agg [.os 8 r.1.length], .d (D.bool r.2)]) (⟨[], [(104, false, r.1)]⟩) := by
  rw [spec_odRepeat] at h
  refine Ct.of (c := _) mixed func163 ⟨rfl, rfl, rfl⟩ ?_ rfl
  conv => whnf
  obtain ⟨y3, e4, h⟩ := bind_ex h
  refine CallOk.of (spec_odInt_ct e4) ?_
  conv => whnf
  refine CutK.go ?_
  conv => whnf
  refine LoopOk.into (spec_odRepeat_l0_ct  _ _ _ h) [some 128, some 256, some 384, some 448] [] ⟨⟨rfl, rfl⟩, ⟨rfl, ⟨rfl, rfl, trivial⟩, ⟨rfl, trivial, trivial⟩, ⟨rfl, ⟨rfl, rfl⟩, trivial⟩, ⟨rfl, rfl, rows_same⟩, trivial⟩, rfl, ⟨rfl, rfl⟩, ⟨rfl, rfl⟩, ⟨rfl, rfl⟩, trivial⟩ ?_ (fun _ hs => hs)
  rintro i ts os ⟨rfl, v19, h, rfl, rfl⟩
  conv => whnf
  refine CutK.go ?_
  conv => whnf
  cases h
  exact Done.of [some 67001] [] rfl rfl ⟨⟨rfl, rfl⟩, ⟨rfl, ⟨rfl, rfl, rows_same⟩, trivial⟩, ⟨⟨⟨rfl, rfl⟩, trivial⟩, rfl, trivial⟩, trivial⟩

def spec_odFinite  (a1 : Rw) : Option (Int × Rw) :=
  (if (0 : Int) ≤ (IntKind.i64.wrap ((a1.length : Int) - 1)) then (row_si a1 (IntKind.i64.wrap ((a1.length : Int) - 1)) fun x3 x4 => ((spec_odZero x3).bind fun y7 => (if y7 = true then (if 0 ≤ (IntKind.i64.wrap ((a1.length : Int) - 1)) ∧ (IntKind.i64.wrap ((a1.length : Int) - 1)) ≤ (a1.length : Int) ∧ (∀ cs ∈ a1, cs.length = 2) then some (x4, a1.take (IntKind.i64.wrap ((a1.length : Int) - 1) : Int).toNat) else none) else some (0, a1)))) else some (0, a1))
set_option maxHeartbeats 4000000 in
set_option maxRecDepth 100000 in
theorem spec_odFinite_ct  {a1 : Rw} {r : Int × Rw} (h : spec_odFinite a1 = some r) : Ct prog 161 [.agg [.d (D.sl a1)]] (⟨[], []⟩) (.tup [.d (D.int .i64 r.1), .agg [.d (D.sl r.2)]]) (⟨[], []⟩) := by
  rw [spec_odFinite] at h
  refine Ct.of (c := _) mixed func161 ⟨rfl, rfl, rfl⟩ ?_ rfl
  conv => whnf
  refine splD (fun g2 => ?_) (fun g2 => ?_)
  · replace h := iteP h g2
    conv => whnf
    obtain ⟨g6, x3, x4, e5, h⟩ := row_si_ex h
    refine Req.of g6 ?_
    refine Row.of _ e5 ?_
    conv => whnf
    obtain ⟨y7, e8, h⟩ := bind_ex h
    refine CallOk.of (spec_odZero_ct e8) ?_
    conv => whnf
    refine spl (fun g9 => ?_) (fun g9 => ?_)
    · replace h := iteT h g9
      conv => whnf
      refine CutK.norm [1, 3, 4, 19] [64, 192] ?_
      conv => whnf
      refine Req.of g6 ?_
      refine Row.of _ e5 ?_
      conv => whnf
      obtain ⟨g10, h⟩ := req_ex h
      refine Req.of g10 ?_
      conv => whnf
      cases h
      exact Done.of [] [] rfl rfl ⟨⟨rfl, rfl⟩, ⟨rfl, trivial⟩, ⟨rfl, ⟨rfl, trivial⟩, trivial⟩, trivial⟩
    · replace h := iteF h g9
      conv => whnf
      refine CutK.norm [1, 3, 4, 19] [64, 192] ?_
      conv => whnf
      refine CutK.norm [1, 3] [64, 192] ?_
      conv => whnf
      cases h
      exact Done.of [] [] rfl rfl ⟨⟨rfl, rfl⟩, ⟨rfl, trivial⟩, ⟨rfl, ⟨rfl, trivial⟩, trivial⟩, trivial⟩
  · replace h := iteN h g2
    conv => whnf
    refine CutK.norm [1, 3, 4, 19] [64, 192] ?_
    conv => whnf
    refine CutK.norm [1, 3] [64, 192] ?_
    conv => whnf
    cases h
    exact Done.of [] [] rfl rfl ⟨⟨rfl, rfl⟩, ⟨rfl, trivial⟩, ⟨rfl, ⟨rfl, trivial⟩, trivial⟩, trivial⟩

def spec_odPower_p11 (o79 : Rw) : Option (Rw × Bool) :=
  some (o79, true)
set_option maxHeartbeats 4000000 in
set_option maxRecDepth 100000 in
theorem spec_odPower_p11_ct {o79 : Rw} {r : Rw × Bool} (h : spec_odPower_p11 o79 = some r) : X prog 0 (tlF f83 11) (mk 78 [(4, .ptr 256 0), (5, .d (D.bool true))] [(256, .box 26 [.os 1119000 o79.length]), (1119000, .arr 104 false o79)]) (finK prog f83 0 (.tup [.agg [.d (D.sl r.1)], .d (D.bool r.2)]) (⟨[], []⟩)) := by
  rw [spec_odPower_p11] at h
  conv => whnf
  cases h
  exact Done.of [] [1119000] rfl rfl ⟨⟨rfl, rfl⟩, ⟨rfl, trivial⟩, ⟨⟨⟨rfl, Nat.le_of_eq rfl, eq_take rfl⟩, trivial⟩, rfl, trivial⟩, trivial⟩
def spec_odPower_p10 (k : Nat) (o67 : Rw) (o68 : Rw) : Option (Rw × Bool) :=
  ((spec_odTerm o68 1).bind fun y80 => ((spec_odTimes k y80 o67).bind fun y82 => (spec_odPower_p11 y82)))
set_option maxHeartbeats 4000000 in
set_option maxRecDepth 100000 in
theorem spec_odPower_p10_ct {k : Nat} {o67 : Rw} {o68 : Rw} {r : Rw × Bool} (h : spec_odPower_p10 k o67 o68 = some r) : X prog 0 (tlF f83 10) (mk 78 [(4, .ptr 256 0), (10, .ptr 640 0), (12, .ptr 768 0)] [(256, .box 26 [.es]), (640, .box 26 [.os 1114000 o67.length]), (768, .box 26 [.os 1114001 o68.length]), (1114000, .arr 104 false o67), (1114001, .arr 104 false o68)]) (finK prog f83 0 (.tup [.agg [.d (D.sl r.1)], .d (D.bool r.2)]) (⟨[], []⟩)) := by
  rw [spec_odPower_p10] at h
  conv => whnf
  refine Take.all (rfl) ?_
  conv => whnf
  obtain ⟨y80, e81, h⟩ := bind_ex h
  refine CallOk.of (spec_odTerm_ct e81) ?_
  conv => whnf
  refine Take.all (rfl) ?_
  conv => whnf
  refine Take.all (rfl) ?_
  conv => whnf
  obtain ⟨y82, e83, h⟩ := bind_ex h
  refine CallOk.of (spec_odTimes_ct e83) ?_
  conv => whnf
  exact CutK.piece (spec_odPower_p11_ct  h) [some 256, some 4928] [] ⟨⟨rfl, rfl⟩, ⟨rfl, ⟨rfl, ⟨rfl, rfl⟩, trivial⟩, ⟨rfl, rfl, rows_same⟩, trivial⟩, ⟨rfl, rfl⟩, rfl, trivial⟩
def spec_odPower_p9 (k : Nat) (a1 : Rw) (o59 : Rw) (o60 : Rw) (o61 : Rw) (v66 : Bool) : Option (Rw × Bool) :=
  (cond v66 (row_si a1 0 fun x84 x85 => ((spec_odTimes k x84 o59).bind fun y88 => (spec_odPower_p10 k o60 y88))) (spec_odPower_p10 k o60 o61))
set_option maxHeartbeats 4000000 in
set_option maxRecDepth 100000 in
theorem spec_odPower_p9_ct {k : Nat} {a1 : Rw} {o59 : Rw} {o60 : Rw} {o61 : Rw} {v66 : Bool} {r : Rw × Bool} (h : spec_odPower_p9 k a1 o59 o60 o61 v66 = some r) : X prog 0 (tlF f83 9) (mk 78 [(2, .ptr 128 0), (4, .ptr 256 0), (7, .ptr 448 0), (9, .d (D.bool v66)), (10, .ptr 640 0), (12, .ptr 768 0)] [(128, .box 26 [.d (D.sl a1)]), (256, .box 26 [.es]), (448, .box 26 [.d (D.sl o59)]), (640, .box 26 [.os 1109000 o60.length]), (768, .box 26 [.os 1109001 o61.length]), (1109000, .arr 104 false o60), (1109001, .arr 104 false o61)]) (finK prog f83 0 (.tup [.agg [.d (D.sl r.1)], .d (D.bool r.2)]) (⟨[], []⟩)) := by
  rw [spec_odPower_p9] at h
  cases v66
  · replace h := condF h
    conv => whnf
    exact CutK.piece (spec_odPower_p10_ct  h) [some 256, some 640, some 768, some 1109000, some 1109001] [] ⟨⟨rfl, rfl⟩, ⟨rfl, ⟨rfl, trivial, trivial⟩, ⟨rfl, ⟨rfl, rfl⟩, trivial⟩, ⟨rfl, ⟨rfl, rfl⟩, trivial⟩, ⟨rfl, rfl, rows_same⟩, ⟨rfl, rfl, rows_same⟩, trivial⟩, ⟨rfl, rfl⟩, ⟨rfl, rfl⟩, ⟨rfl, rfl⟩, trivial⟩
  · replace h := condT h
    conv => whnf
    obtain ⟨g87, x84, x85, e86, h⟩ := row_si_ex h
    refine Req.of g87 ?_
    refine Row.of _ e86 ?_
    conv => whnf
    obtain ⟨y88, e89, h⟩ := bind_ex h
    refine CallOk.of (spec_odTimes_ct e89) ?_
    conv => whnf
    exact CutK.piece (spec_odPower_p10_ct  h) [some 256, some 640, some 768, some 1109000, some 4672] [] ⟨⟨rfl, rfl⟩, ⟨rfl, ⟨rfl, trivial, trivial⟩, ⟨rfl, ⟨rfl, rfl⟩, trivial⟩, ⟨rfl, ⟨rfl, rfl⟩, trivial⟩, ⟨rfl, rfl, rows_same⟩, ⟨rfl, rfl, rows_same⟩, trivial⟩, ⟨rfl, rfl⟩, ⟨rfl, rfl⟩, ⟨rfl, rfl⟩, trivial⟩
def spec_odPower_p8 (k : Nat) (a1 : Rw) (o48 : Rw) (o49 : Rw) (o50 : Rw) (v54 : Bool) : Option (Rw × Bool) :=
  (cond v54 ((spec_odTerm o49 1).bind fun y94 => ((spec_odOver k o48 y94).bind fun y96 => (spec_odPower_p9 k a1 o48 o50 y96.1 true))) ((spec_odTerm o49 1).bind fun y90 => ((spec_odOver k o48 y90).bind fun y92 => (spec_odPower_p9 k a1 o48 o50 y92.1 false))))
set_option maxHeartbeats 4000000 in
set_option maxRecDepth 100000 in
theorem spec_odPower_p8_ct {k : Nat} {a1 : Rw} {o48 : Rw} {o49 : Rw} {o50 : Rw} {v54 : Bool} {r : Rw × Bool} (h : spec_odPower_p8 k a1 o48 o49 o50 v54 = some r) : X prog 0 (tlF f83 8) (mk 78 [(2, .ptr 128 0), (4, .ptr 256 0), (7, .ptr 448 0), (8, .ptr 512 0), (9, .d (D.bool v54)), (10, .ptr 640 0)] [(128, .box 26 [.d (D.sl a1)]), (256, .box 26 [.es]), (448, .box 26 [.d (D.sl o48)]), (512, .box 26 [.d (D.sl o49)]), (640, .box 26 [.os 1104000 o50.length]), (1104000, .arr 104 false o50)]) (finK prog f83 0 (.tup [.agg [.d (D.sl r.1)], .d (D.bool r.2)]) (⟨[], []⟩)) := by
  rw [spec_odPower_p8] at h
  cases v54
  · replace h := condF h
    conv => whnf
    obtain ⟨y90, e91, h⟩ := bind_ex h
    refine CallOk.of (spec_odTerm_ct e91) ?_
    conv => whnf
    refine Take.all (rfl) ?_
    conv => whnf
    obtain ⟨y92, e93, h⟩ := bind_ex h
    refine CallOk.of (spec_odOver_ct e93) ?_
    conv => whnf
    exact CutK.piece (spec_odPower_p9_ct  h) [some 128, some 256, some 448, some 640, some 768, some 1104000, some 4032] [] ⟨⟨rfl, rfl⟩, ⟨rfl, ⟨rfl, rfl, trivial⟩, ⟨rfl, trivial, trivial⟩, ⟨rfl, rfl, trivial⟩, ⟨rfl, ⟨rfl, rfl⟩, trivial⟩, ⟨rfl, ⟨rfl, rfl⟩, trivial⟩, ⟨rfl, rfl, rows_same⟩, ⟨rfl, rfl, rows_same⟩, trivial⟩, ⟨rfl, rfl⟩, ⟨rfl, rfl⟩, ⟨rfl, rfl⟩, rfl, ⟨rfl, rfl⟩, ⟨rfl, rfl⟩, trivial⟩
  · replace h := condT h
    conv => whnf
    obtain ⟨y94, e95, h⟩ := bind_ex h
    refine CallOk.of (spec_odTerm_ct e95) ?_
    conv => whnf
    refine Take.all (rfl) ?_
    conv => whnf
    obtain ⟨y96, e97, h⟩ := bind_ex h
    refine CallOk.of (spec_odOver_ct e97) ?_
    conv => whnf
    exact CutK.piece (spec_odPower_p9_ct  h) [some 128, some 256, some 448, some 640, some 768, some 1104000, some 4032] [] ⟨⟨rfl, rfl⟩, ⟨rfl, ⟨rfl, rfl, trivial⟩, ⟨rfl, trivial, trivial⟩, ⟨rfl, rfl, trivial⟩, ⟨rfl, ⟨rfl, rfl⟩, trivial⟩, ⟨rfl, ⟨rfl, rfl⟩, trivial⟩, ⟨rfl, rfl, rows_same⟩, ⟨rfl, rfl, rows_same⟩, trivial⟩, ⟨rfl, rfl⟩, ⟨rfl, rfl⟩, ⟨rfl, rfl⟩, rfl, ⟨rfl, rfl⟩, ⟨rfl, rfl⟩, trivial⟩
def spec_odPower_p7 (k : Nat) (a1 : Rw) (o36 : Rw) (o37 : Rw) (o38 : Rw) (v39 : Bool) (v44 : Bool) : Option (Rw × Bool) :=
  (cond v39 (cond v44 ((spec_odZero o36).bind fun y101 => (if y101 = true then some (o38, true) else (spec_odPower_p8 k a1 o36 o37 o38 true))) ((spec_odZero o36).bind fun y98 => (if y98 = true then some (o38, true) else (spec_odPower_p8 k a1 o36 o37 o38 false)))) (cond v44 (some (o38, false)) (some (o38, false))))
set_option maxHeartbeats 4000000 in
set_option maxRecDepth 100000 in
theorem spec_odPower_p7_ct {k : Nat} {a1 : Rw} {o36 : Rw} {o37 : Rw} {o38 : Rw} {v39 : Bool} {v44 : Bool} {r : Rw × Bool} (h : spec_odPower_p7 k a1 o36 o37 o38 v39 v44 = some r) : X prog 0 (tlF f83 7) (mk 78 [(2, .ptr 128 0), (4, .ptr 256 0), (7, .ptr 448 0), (8, .ptr 512 0), (9, .d (D.bool v44)), (10, .ptr 640 0), (11, .d (D.bool v39))] [(128, .box 26 [.d (D.sl a1)]), (256, .box 26 [.es]), (448, .box 26 [.d (D.sl o36)]), (512, .box 26 [.d (D.sl o37)]), (640, .box 26 [.os 1099000 o38.length]), (1099000, .arr 104 false o38)]) (finK prog f83 0 (.tup [.agg [.d (D.sl r.1)], .d (D.bool r.2)]) (⟨[], []⟩)) := by
  rw [spec_odPower_p7] at h
  cases v39
  · replace h := condF h
    cases v44
    · replace h := condF h
      conv => whnf
      refine CutK.norm [2, 4, 7, 8, 9, 10, 11, 56] [128, 256, 448, 512, 640, 1099000] ?_
      conv => whnf
      cases h
      exact Done.of [] [1099000] rfl rfl ⟨⟨rfl, rfl⟩, ⟨rfl, trivial⟩, ⟨⟨⟨rfl, Nat.le_of_eq rfl, eq_take rfl⟩, trivial⟩, rfl, trivial⟩, trivial⟩
    · replace h := condT h
      conv => whnf
      refine CutK.norm [2, 4, 7, 8, 9, 10, 11, 56] [128, 256, 448, 512, 640, 1099000] ?_
      conv => whnf
      cases h
      exact Done.of [] [1099000] rfl rfl ⟨⟨rfl, rfl⟩, ⟨rfl, trivial⟩, ⟨⟨⟨rfl, Nat.le_of_eq rfl, eq_take rfl⟩, trivial⟩, rfl, trivial⟩, trivial⟩
  · replace h := condT h
    cases v44
    · replace h := condF h
      conv => whnf
      obtain ⟨y98, e99, h⟩ := bind_ex h
      refine CallOk.of (spec_odZero_ct e99) ?_
      conv => whnf
      refine spl (fun g100 => ?_) (fun g100 => ?_)
      · replace h := iteT h g100
        conv => whnf
        refine CutK.norm [2, 4, 7, 8, 9, 10, 11, 56] [128, 256, 448, 512, 640, 1099000] ?_
        conv => whnf
        cases h
        exact Done.of [] [1099000] rfl rfl ⟨⟨rfl, rfl⟩, ⟨rfl, trivial⟩, ⟨⟨⟨rfl, Nat.le_of_eq rfl, eq_take rfl⟩, trivial⟩, rfl, trivial⟩, trivial⟩
      · replace h := iteF h g100
        conv => whnf
        refine CutK.norm [2, 4, 7, 8, 9, 10, 11, 56] [128, 256, 448, 512, 640, 1099000] ?_
        conv => whnf
        exact CutK.piece (spec_odPower_p8_ct  h) [some 128, some 256, some 448, some 512, some 640, some 1099000] [] ⟨⟨rfl, rfl⟩, ⟨rfl, ⟨rfl, rfl, trivial⟩, ⟨rfl, trivial, trivial⟩, ⟨rfl, rfl, trivial⟩, ⟨rfl, rfl, trivial⟩, ⟨rfl, ⟨rfl, rfl⟩, trivial⟩, ⟨rfl, rfl, rows_same⟩, trivial⟩, ⟨rfl, rfl⟩, ⟨rfl, rfl⟩, ⟨rfl, rfl⟩, ⟨rfl, rfl⟩, rfl, ⟨rfl, rfl⟩, trivial⟩
    · replace h := condT h
      conv => whnf
      obtain ⟨y101, e102, h⟩ := bind_ex h
      refine CallOk.of (spec_odZero_ct e102) ?_
      conv => whnf
      refine spl (fun g103 => ?_) (fun g103 => ?_)
      · replace h := iteT h g103
        conv => whnf
        refine CutK.norm [2, 4, 7, 8, 9, 10, 11, 56] [128, 256, 448, 512, 640, 1099000] ?_
        conv => whnf
        cases h
        exact Done.of [] [1099000] rfl rfl ⟨⟨rfl, rfl⟩, ⟨rfl, trivial⟩, ⟨⟨⟨rfl, Nat.le_of_eq rfl, eq_take rfl⟩, trivial⟩, rfl, trivial⟩, trivial⟩
      · replace h := iteF h g103
        conv => whnf
        refine CutK.norm [2, 4, 7, 8, 9, 10, 11, 56] [128, 256, 448, 512, 640, 1099000] ?_
        conv => whnf
        exact CutK.piece (spec_odPower_p8_ct  h) [some 128, some 256, some 448, some 512, some 640, some 1099000] [] ⟨⟨rfl, rfl⟩, ⟨rfl, ⟨rfl, rfl, trivial⟩, ⟨rfl, trivial, trivial⟩, ⟨rfl, rfl, trivial⟩, ⟨rfl, rfl, trivial⟩, ⟨rfl, ⟨rfl, rfl⟩, trivial⟩, ⟨rfl, rfl, rows_same⟩, trivial⟩, ⟨rfl, rfl⟩, ⟨rfl, rfl⟩, ⟨rfl, rfl⟩, ⟨rfl, rfl⟩, rfl, ⟨rfl, rfl⟩, trivial⟩
def spec_odPower_p5 (k : Nat) (a1 : Rw) (o29 : Int) (o30 : Rw) (o31 : Rw) (v32 : Bool) : Option (Rw × Bool) :=
  (cond v32 (if (40 : Int) < o29 then some (([] : Rw), false) else ((spec_odRepeat k a1 o29).bind fun y108 => (if y108.2 = true then (spec_odPower_p7 k a1 o30 o31 y108.1 true true) else (spec_odPower_p7 k a1 o30 o31 y108.1 false true)))) ((spec_odRepeat k a1 o29).bind fun y104 => (if y104.2 = true then (spec_odPower_p7 k a1 o30 o31 y104.1 true false) else (spec_odPower_p7 k a1 o30 o31 y104.1 false false))))
set_option maxHeartbeats 4000000 in
set_option maxRecDepth 100000 in
theorem spec_odPower_p5_ct {k : Nat} {a1 : Rw} {o29 : Int} {o30 : Rw} {o31 : Rw} {v32 : Bool} {r : Rw × Bool} (h : spec_odPower_p5 k a1 o29 o30 o31 v32 = some r) : X prog 0 (tlF f83 5) (mk 78 [(2, .ptr 128 0), (4, .ptr 256 0), (6, .d (D.int .i64 o29)), (7, .ptr 448 0), (8, .ptr 512 0), (9, .d (D.bool v32))] [(128, .box 26 [.d (D.sl a1)]), (256, .box 26 [.es]), (448, .box 26 [.d (D.sl o30)]), (512, .box 26 [.d (D.sl o31)])]) (finK prog f83 0 (.tup [.agg [.d (D.sl r.1)], .d (D.bool r.2)]) (⟨[], []⟩)) := by
  rw [spec_odPower_p5] at h
  cases v32
  · replace h := condF h
    conv => whnf
    obtain ⟨y104, e105, h⟩ := bind_ex h
    refine CallOk.of (spec_odRepeat_ct e105) ?_
    conv => whnf
    refine spl (fun g106 => ?_) (fun g106 => ?_)
    · replace h := iteT h g106
      conv => whnf
      exact CutK.piece (spec_odPower_p7_ct  h) [some 128, some 256, some 448, some 512, some 640, some 3072] [] ⟨⟨rfl, rfl⟩, ⟨rfl, ⟨rfl, rfl, trivial⟩, ⟨rfl, trivial, trivial⟩, ⟨rfl, rfl, trivial⟩, ⟨rfl, rfl, trivial⟩, ⟨rfl, ⟨rfl, rfl⟩, trivial⟩, ⟨rfl, rfl, rows_same⟩, trivial⟩, ⟨rfl, rfl⟩, ⟨rfl, rfl⟩, ⟨rfl, rfl⟩, ⟨rfl, rfl⟩, rfl, ⟨rfl, rfl⟩, rfl, trivial⟩
    · replace h := iteF h g106
      conv => whnf
      exact CutK.piece (spec_odPower_p7_ct  h) [some 128, some 256, some 448, some 512, some 640, some 3072] [] ⟨⟨rfl, rfl⟩, ⟨rfl, ⟨rfl, rfl, trivial⟩, ⟨rfl, trivial, trivial⟩, ⟨rfl, rfl, trivial⟩, ⟨rfl, rfl, trivial⟩, ⟨rfl, ⟨rfl, rfl⟩, trivial⟩, ⟨rfl, rfl, rows_same⟩, trivial⟩, ⟨rfl, rfl⟩, ⟨rfl, rfl⟩, ⟨rfl, rfl⟩, ⟨rfl, rfl⟩, rfl, ⟨rfl, rfl⟩, rfl, trivial⟩
  · replace h := condT h
    conv => whnf
    refine splD (fun g107 => ?_) (fun g107 => ?_)
    · replace h := iteP h g107
      conv => whnf
      cases h
      exact Done.of [] [] rfl rfl ⟨⟨rfl, rfl⟩, ⟨rfl, trivial⟩, ⟨⟨rfl, trivial⟩, rfl, trivial⟩, trivial⟩
    · replace h := iteN h g107
      conv => whnf
      obtain ⟨y108, e109, h⟩ := bind_ex h
      refine CallOk.of (spec_odRepeat_ct e109) ?_
      conv => whnf
      refine spl (fun g110 => ?_) (fun g110 => ?_)
      · replace h := iteT h g110
        conv => whnf
        exact CutK.piece (spec_odPower_p7_ct  h) [some 128, some 256, some 448, some 512, some 640, some 3072] [] ⟨⟨rfl, rfl⟩, ⟨rfl, ⟨rfl, rfl, trivial⟩, ⟨rfl, trivial, trivial⟩, ⟨rfl, rfl, trivial⟩, ⟨rfl, rfl, trivial⟩, ⟨rfl, ⟨rfl, rfl⟩, trivial⟩, ⟨rfl, rfl, rows_same⟩, trivial⟩, ⟨rfl, rfl⟩, ⟨rfl, rfl⟩, ⟨rfl, rfl⟩, ⟨rfl, rfl⟩, rfl, ⟨rfl, rfl⟩, rfl, trivial⟩
      · replace h := iteF h g110
        conv => whnf
        exact CutK.piece (spec_odPower_p7_ct  h) [some 128, some 256, some 448, some 512, some 640, some 3072] [] ⟨⟨rfl, rfl⟩, ⟨rfl, ⟨rfl, rfl, trivial⟩, ⟨rfl, trivial, trivial⟩, ⟨rfl, rfl, trivial⟩, ⟨rfl, rfl, trivial⟩, ⟨rfl, ⟨rfl, rfl⟩, trivial⟩, ⟨rfl, rfl, rows_same⟩, trivial⟩, ⟨rfl, rfl⟩, ⟨rfl, rfl⟩, ⟨rfl, rfl⟩, ⟨rfl, rfl⟩, rfl, ⟨rfl, rfl⟩, rfl, trivial⟩
def spec_odPower_p4 (k : Nat) (a1 : Rw) (o21 : Int) (o22 : Rw) (o23 : Rw) : Option (Rw × Bool) :=
  ((spec_odTerm o23 1).bind fun y111 => ((spec_odCmp k a1 y111).bind fun y113 => (if (0 : Int) ≤ y113 then (spec_odPower_p5 k a1 o21 o22 o23 true) else (spec_odPower_p5 k a1 o21 o22 o23 false))))
set_option maxHeartbeats 4000000 in
set_option maxRecDepth 100000 in
theorem spec_odPower_p4_ct {k : Nat} {a1 : Rw} {o21 : Int} {o22 : Rw} {o23 : Rw} {r : Rw × Bool} (h : spec_odPower_p4 k a1 o21 o22 o23 = some r) : X prog 0 (tlF f83 4) (mk 78 [(2, .ptr 128 0), (4, .ptr 256 0), (6, .d (D.int .i64 o21)), (7, .ptr 448 0), (8, .ptr 512 0)] [(128, .box 26 [.d (D.sl a1)]), (256, .box 26 [.es]), (448, .box 26 [.d (D.sl o22)]), (512, .box 26 [.os 1084000 o23.length]), (1084000, .arr 104 false o23)]) (finK prog f83 0 (.tup [.agg [.d (D.sl r.1)], .d (D.bool r.2)]) (⟨[], []⟩)) := by
  rw [spec_odPower_p4] at h
  conv => whnf
  refine Take.all (rfl) ?_
  conv => whnf
  obtain ⟨y111, e112, h⟩ := bind_ex h
  refine CallOk.of (spec_odTerm_ct e112) ?_
  conv => whnf
  refine Take.all (rfl) ?_
  conv => whnf
  obtain ⟨y113, e114, h⟩ := bind_ex h
  refine CallOk.of (spec_odCmp_ct e114) ?_
  conv => whnf
  refine splD (fun g115 => ?_) (fun g115 => ?_)
  · replace h := iteP h g115
    conv => whnf
    exact CutK.piece (spec_odPower_p5_ct  h) [some 128, some 256, some 448, some 512] [] ⟨⟨rfl, rfl⟩, ⟨rfl, ⟨rfl, rfl, trivial⟩, ⟨rfl, trivial, trivial⟩, ⟨rfl, rfl, trivial⟩, ⟨rfl, ⟨Nat.le_of_eq rfl, eq_take rfl⟩, trivial⟩, trivial⟩, ⟨rfl, rfl⟩, ⟨rfl, rfl⟩, rfl, ⟨rfl, rfl⟩, ⟨rfl, rfl⟩, rfl, trivial⟩
  · replace h := iteN h g115
    conv => whnf
    exact CutK.piece (spec_odPower_p5_ct  h) [some 128, some 256, some 448, some 512] [] ⟨⟨rfl, rfl⟩, ⟨rfl, ⟨rfl, rfl, trivial⟩, ⟨rfl, trivial, trivial⟩, ⟨rfl, rfl, trivial⟩, ⟨rfl, ⟨Nat.le_of_eq rfl, eq_take rfl⟩, trivial⟩, trivial⟩, ⟨rfl, rfl⟩, ⟨rfl, rfl⟩, rfl, ⟨rfl, rfl⟩, ⟨rfl, rfl⟩, rfl, trivial⟩
def spec_odPower_p3 (k : Nat) (a1 : Rw) (a2 : Rw) (o9 : Int) (o10 : Rw) (o11 : Rw) : Option (Rw × Bool) :=
  ((spec_odZero a2).bind fun y116 => (if y116 = true then some (o11, true) else ((spec_odCmp k a1 o11).bind fun y119 => (if y119 = (0 : Int) then some (o11, true) else ((spec_odZero a1).bind fun y122 => (if y122 = true then some (a1, true) else (spec_odPower_p4 k a1 o9 o10 o11)))))))
set_option maxHeartbeats 4000000 in
set_option maxRecDepth 100000 in
theorem spec_odPower_p3_ct {k : Nat} {a1 : Rw} {a2 : Rw} {o9 : Int} {o10 : Rw} {o11 : Rw} {r : Rw × Bool} (h : spec_odPower_p3 k a1 a2 o9 o10 o11 = some r) : X prog 0 (tlF f83 3) (mk 78 [(2, .ptr 128 0), (3, .ptr 192 0), (4, .ptr 256 0), (6, .d (D.int .i64 o9)), (7, .ptr 448 0), (8, .ptr 512 0)] [(128, .box 26 [.d (D.sl a1)]), (192, .box 26 [.d (D.sl a2)]), (256, .box 26 [.es]), (448, .box 26 [.d (D.sl o10)]), (512, .box 26 [.os 1079000 o11.length]), (1079000, .arr 104 false o11)]) (finK prog f83 0 (.tup [.agg [.d (D.sl r.1)], .d (D.bool r.2)]) (⟨[], []⟩)) := by
  rw [spec_odPower_p3] at h
  conv => whnf
  obtain ⟨y116, e117, h⟩ := bind_ex h
  refine CallOk.of (spec_odZero_ct e117) ?_
  conv => whnf
  refine spl (fun g118 => ?_) (fun g118 => ?_)
  · replace h := iteT h g118
    conv => whnf
    refine CutK.norm [2, 4, 6, 7, 8, 20] [128, 256, 448, 512, 1079000] ?_
    conv => whnf
    cases h
    exact Done.of [] [1079000] rfl rfl ⟨⟨rfl, rfl⟩, ⟨rfl, trivial⟩, ⟨⟨⟨rfl, Nat.le_of_eq rfl, eq_take rfl⟩, trivial⟩, rfl, trivial⟩, trivial⟩
  · replace h := iteF h g118
    conv => whnf
    refine Take.all (rfl) ?_
    conv => whnf
    obtain ⟨y119, e120, h⟩ := bind_ex h
    refine CallOk.of (spec_odCmp_ct e120) ?_
    conv => whnf
    refine splD (fun g121 => ?_) (fun g121 => ?_)
    · replace h := iteP h g121
      conv => whnf
      refine CutK.norm [2, 4, 6, 7, 8, 20] [128, 256, 448, 512, 1079000] ?_
      conv => whnf
      cases h
      exact Done.of [] [1079000] rfl rfl ⟨⟨rfl, rfl⟩, ⟨rfl, trivial⟩, ⟨⟨⟨rfl, Nat.le_of_eq rfl, eq_take rfl⟩, trivial⟩, rfl, trivial⟩, trivial⟩
    · replace h := iteN h g121
      conv => whnf
      refine CutK.norm [2, 4, 6, 7, 8, 20] [128, 256, 448, 512, 1079000] ?_
      conv => whnf
      obtain ⟨y122, e123, h⟩ := bind_ex h
      refine CallOk.of (spec_odZero_ct e123) ?_
      conv => whnf
      refine spl (fun g124 => ?_) (fun g124 => ?_)
      · replace h := iteT h g124
        conv => whnf
        refine CutK.norm [2, 4, 6, 7, 8, 30] [128, 256, 448, 512, 1079000] ?_
        conv => whnf
        cases h
        exact Done.of [] [] rfl rfl ⟨⟨rfl, rfl⟩, ⟨rfl, trivial⟩, ⟨⟨rfl, trivial⟩, rfl, trivial⟩, trivial⟩
      · replace h := iteF h g124
        conv => whnf
        refine CutK.norm [2, 4, 6, 7, 8, 30] [128, 256, 448, 512, 1079000] ?_
        conv => whnf
        exact CutK.piece (spec_odPower_p4_ct  h) [some 128, some 256, some 448, some 512, some 1079000] [] ⟨⟨rfl, rfl⟩, ⟨rfl, ⟨rfl, rfl, trivial⟩, ⟨rfl, trivial, trivial⟩, ⟨rfl, rfl, trivial⟩, ⟨rfl, ⟨rfl, rfl⟩, trivial⟩, ⟨rfl, rfl, rows_same⟩, trivial⟩, ⟨rfl, rfl⟩, ⟨rfl, rfl⟩, rfl, ⟨rfl, rfl⟩, ⟨rfl, rfl⟩, trivial⟩
def spec_odPower_p2 (k : Nat) (a1 : Rw) (a2 : Rw) (o5 : Int) (o6 : Rw) : Option (Rw × Bool) :=
  ((spec_odInt 1).bind fun y125 => (spec_odPower_p3 k a1 a2 o5 o6 y125))
set_option maxHeartbeats 4000000 in
set_option maxRecDepth 100000 in
theorem spec_odPower_p2_ct {k : Nat} {a1 : Rw} {a2 : Rw} {o5 : Int} {o6 : Rw} {r : Rw × Bool} (h : spec_odPower_p2 k a1 a2 o5 o6 = some r) : X prog 0 (tlF f83 2) (mk 78 [(2, .ptr 128 0), (3, .ptr 192 0), (4, .ptr 256 0), (6, .d (D.int .i64 o5)), (7, .ptr 448 0)] [(128, .box 26 [.d (D.sl a1)]), (192, .box 26 [.d (D.sl a2)]), (256, .box 26 [.es]), (448, .box 26 [.d (D.sl o6)])]) (finK prog f83 0 (.tup [.agg [.d (D.sl r.1)], .d (D.bool r.2)]) (⟨[], []⟩)) := by
  rw [spec_odPower_p2] at h
  conv => whnf
  obtain ⟨y125, e126, h⟩ := bind_ex h
  refine CallOk.of (spec_odInt_ct e126) ?_
  conv => whnf
  exact CutK.piece (spec_odPower_p3_ct  h) [some 128, some 192, some 256, some 448, some 512, some 1216] [] ⟨⟨rfl, rfl⟩, ⟨rfl, ⟨rfl, rfl, trivial⟩, ⟨rfl, rfl, trivial⟩, ⟨rfl, trivial, trivial⟩, ⟨rfl, rfl, trivial⟩, ⟨rfl, ⟨rfl, rfl⟩, trivial⟩, ⟨rfl, rfl, rows_same⟩, trivial⟩, ⟨rfl, rfl⟩, ⟨rfl, rfl⟩, ⟨rfl, rfl⟩, rfl, ⟨rfl, rfl⟩, ⟨rfl, rfl⟩, trivial⟩
def spec_odPower (k : Nat) (a1 : Rw) (a2 : Rw) : Option (Rw × Bool) :=
  ((spec_odFinite a2).bind fun y127 => (spec_odPower_p2 k a1 a2 y127.1 y127.2))
set_option maxHeartbeats 4000000 in
set_option maxRecDepth 100000 in
theorem spec_odPower_ct {k : Nat} {a1 : Rw} {a2 : Rw} {r : Rw × Bool} (h : spec_odPower k a1 a2 = some r) : Ct prog 83 [.agg [.d (D.sl a1)], .agg [.d (D.sl a2)]] (⟨[], []⟩) (.tup [.agg [.d (D.sl r.1)], .d (D.bool r.2)]) (⟨[], []⟩) := by
  rw [spec_odPower] at h
  refine Ct.of (c := _) mixed func83 ⟨rfl, rfl, rfl⟩ ?_ rfl
  conv => whnf
  obtain ⟨y127, e128, h⟩ := bind_ex h
  refine CallOk.of (spec_odFinite_ct e128) ?_
  conv => whnf
  exact CutK.piece (spec_odPower_p2_ct  h) [some 128, some 192, some 256, some 448] [] ⟨⟨rfl, rfl⟩, ⟨rfl, ⟨rfl, rfl, trivial⟩, ⟨rfl, rfl, trivial⟩, ⟨rfl, trivial, trivial⟩, ⟨rfl, rfl, trivial⟩, trivial⟩, ⟨rfl, rfl⟩, ⟨rfl, rfl⟩, ⟨rfl, rfl⟩, rfl, ⟨rfl, rfl⟩, trivial⟩

def spec_odOwn_l0 (rec_spec_odOwn : Rw → Option Rw) (a1 : Rw) (K0 : Rw → Option Rw) : Rw → Rw → Option Rw
  | [], v10 => (K0 v10)
  | cs :: rest, v10 => (cell_si cs fun x28 x29 => ((rec_spec_odOwn x28).bind fun y31 => (if v10.length + 1 ≤ cap then (spec_odOwn_l0 rec_spec_odOwn a1 K0 rest (v10 ++ ([[D.sl y31, D.int .i64 x29]]))) else none)))
set_option maxRecDepth 100000 in
theorem spec_odOwn_l0_ct {rec_spec_odOwn : Rw → Option Rw} {a1 : Rw} {K0 : Rw → Option Rw} (hrec_spec_odOwn : ∀ (a1 : Rw) (r : Rw), rec_spec_odOwn a1 = some r → Ct prog 166 [.agg [.d (D.sl a1)]] (⟨[], []⟩) (.agg [.os 8 r.length]) (⟨[], [(104, true, r)]⟩)) {r : Rw} (hx : a1.length ≤ cap) : ∀ (rest : Rw) (v9n : Nat) (v10 : Rw), a1.drop v9n = rest → spec_odOwn_l0 rec_spec_odOwn a1 K0 rest v10 = some r → LoopOk prog 0 (lp f166 0) (mk 27 [(2, .ptr 128 0), (3, .ptr 192 0), (8, .d (D.sl a1)), (9, .d (D.int .i64 (a1.length : Int))), (10, .d (D.int .i64 (v9n : Int)))] [(128, .box 26 [.es]), (192, .box 26 [.os 64000 v10.length]), (64000, .arr 104 true v10)]) (LoopEnd prog f166 0 27 (.agg [.os 8 r.length]) (⟨[], [(104, true, r)]⟩) (fun i ts os => (i = 0 ∧ ∃ v19 : Rw, K0 v19 = some r ∧ ts = [(2, .ptr 128 0), (3, .ptr 192 0)] ∧ os = [(128, .box 26 [.es]), (192, .box 26 [.os 67001 v19.length]), (67001, .arr 104 true v19)])))
  | [], v9n, v10, hd, h => by
      rw [spec_odOwn_l0] at h
      have hn := drop_nil hd
      refine LoopOk.step ?_
      conv => whnf
      refine splD (fun g => absurd g hn) (fun _ => ?_)
      conv => whnf
      exact ⟨_, _, [some 128, some 192, some 64000], [], ⟨rfl, _, h, rfl, rfl⟩, ⟨⟨rfl, rfl⟩, ⟨rfl, ⟨rfl, trivial, trivial⟩, ⟨rfl, ⟨rfl, rfl⟩, trivial⟩, ⟨rfl, rfl, rows_same⟩, trivial⟩, ⟨rfl, rfl⟩, ⟨rfl, rfl⟩, trivial⟩⟩
  | cs :: rest, v9n, v10, hd, h => by
      rw [spec_odOwn_l0] at h
      obtain ⟨hrow, hd1, hlt⟩ := drop_cons hd
      refine LoopOk.step ?_
      conv => whnf
      refine splD (fun _ => ?_) (fun g => absurd hlt g)
      conv => whnf
      obtain ⟨x28, x29, e30, h⟩ := cell_si_ex h
      rw [e30] at hrow
      refine Req.of (Int.natCast_nonneg _) ?_
      refine Row.of _ hrow ?_
      conv => whnf
      obtain ⟨y31, e32, h⟩ := bind_ex h
      refine CallOk.of (hrec_spec_odOwn _ _ e32) ?_
      conv => whnf
      refine Take.all (rfl) ?_
      conv => whnf
      refine Take.all (rfl) ?_
      conv => whnf
      refine Take.all (by first | rfl | exact List.length_append.symm | (simp; done) | omega) ?_
      conv => whnf
      obtain ⟨g33, h⟩ := req_ex h
      refine Req.of (room (b := 32) (by decide) g33 (wide1 rfl wide0)) ?_
      conv => whnf
      refine CutK.go ?_
      conv => whnf
      exact LoopOk.back (spec_odOwn_l0_ct hrec_spec_odOwn hx rest (v9n + 1) _ hd1 h) [some 128, some 192, some 1472] [] ⟨⟨rfl, rfl⟩, ⟨rfl, ⟨rfl, trivial, trivial⟩, ⟨rfl, ⟨(by first | rfl | exact List.length_append.symm | (simp; done) | omega), rfl⟩, trivial⟩, ⟨rfl, rfl, rows_same⟩, trivial⟩, ⟨rfl, rfl⟩, ⟨rfl, rfl⟩, rfl, rfl, i64eq (wrap_up hlt hx), trivial⟩
def spec_odOwn_b (rec_spec_odOwn : Rw → Option Rw) (a1 : Rw) : Option Rw :=
  (if a1.length ≤ cap then (spec_odOwn_l0 rec_spec_odOwn a1 (fun (v19 : Rw) => some v19) a1 ([] : Rw)) else none)
set_option maxHeartbeats 4000000 in
set_option maxRecDepth 100000 in
theorem spec_odOwn_b_ct {rec_spec_odOwn : Rw → Option Rw} (hrec_spec_odOwn : ∀ (a1 : Rw) (r : Rw), rec_spec_odOwn a1 = some r → Ct prog 166 [.agg [.d (D.sl a1)]] (⟨[], []⟩) (.agg [.os 8 r.length]) (⟨[], [(104, true, r)]⟩)) {a1 : Rw} {r : Rw} (h : spec_odOwn_b rec_spec_odOwn a1 = some r) : Ct prog 166 [.agg [.d (D.sl a1)]] (⟨[], []⟩) (.agg [.os 8 r.length]) (⟨[], [(104, true, r)]⟩) := by
  rw [spec_odOwn_b] at h
  refine Ct.of (c := _) mixed func166 ⟨rfl, rfl, rfl⟩ ?_ rfl
  conv => whnf
  obtain ⟨g34, h⟩ := req_ex h
  refine LoopOk.into (spec_odOwn_l0_ct hrec_spec_odOwn g34 _ _ _ rfl h) [some 128, some 192, none] [] ⟨⟨rfl, rfl⟩, ⟨rfl, ⟨rfl, trivial, trivial⟩, ⟨rfl, ⟨rfl, rfl⟩, trivial⟩, rfl, trivial⟩, ⟨rfl, rfl⟩, ⟨rfl, rfl⟩, rfl, rfl, rfl, trivial⟩ ?_ (fun _ hs => hs)
  rintro i ts os ⟨rfl, v19, h, rfl, rfl⟩
  conv => whnf
  refine CutK.go ?_
  conv => whnf
  cases h
  exact Done.of [some 67001] [] rfl rfl ⟨⟨rfl, rfl⟩, ⟨rfl, ⟨rfl, rfl, rows_same⟩, trivial⟩, ⟨⟨rfl, rfl⟩, trivial⟩, trivial⟩
def spec_odOwn : Nat → Rw → Option Rw
  | 0, _ => none
  | k + 1, a1 => spec_odOwn_b (spec_odOwn k) a1
theorem spec_odOwn_ct' : ∀ (k : Nat) (a1 : Rw) (r : Rw), spec_odOwn k a1 = some r → Ct prog 166 [.agg [.d (D.sl a1)]] (⟨[], []⟩) (.agg [.os 8 r.length]) (⟨[], [(104, true, r)]⟩)
  | 0, _, _, h => by rw [spec_odOwn] at h; cases h
  | k + 1, _, _, h => by rw [spec_odOwn] at h; exact spec_odOwn_b_ct (spec_odOwn_ct' k) h
theorem spec_odOwn_ct {k : Nat} {a1 : Rw} {r : Rw} (h : spec_odOwn k a1 = some r) : Ct prog 166 [.agg [.d (D.sl a1)]] (⟨[], []⟩) (.agg [.os 8 r.length]) (⟨[], [(104, true, r)]⟩) := spec_odOwn_ct' k _ _ h

def spec_odIf (k : Nat) (a1 : Rw) : Option (Rw × Bool) :=
  ((spec_odGood k a1).bind fun y2 => (if y2 = true then ((spec_odOwn k a1).bind fun y5 => some (y5, true)) else some (([] : Rw), false)))
set_option maxHeartbeats 4000000 in
set_option maxRecDepth 100000 in
theorem spec_odIf_ct {k : Nat} {a1 : Rw} {r : Rw × Bool} (h : spec_odIf k a1 = some r) : Ct prog 84 [.agg [.d (D.sl a1)]] (⟨[], []⟩) (.tup [.agg [.os 8 r.1.length], .d (D.bool r.2)]) (⟨[], [(104, true, r.1)]⟩) := by
  rw [spec_odIf] at h
  refine Ct.of (c := _) mixed func84 ⟨rfl, rfl, rfl⟩ ?_ rfl
  conv => whnf
  obtain ⟨y2, e3, h⟩ := bind_ex h
  refine CallOk.of (spec_odGood_ct e3) ?_
  conv => whnf
  refine spl (fun g4 => ?_) (fun g4 => ?_)
  · replace h := iteT h g4
    conv => whnf
    refine CutK.go ?_
    conv => whnf
    refine CutK.go ?_
    conv => whnf
    obtain ⟨y5, e6, h⟩ := bind_ex h
    refine CallOk.of (spec_odOwn_ct e6) ?_
    conv => whnf
    refine CutK.go ?_
    conv => whnf
    cases h
    exact Done.of [some 576] [] rfl rfl ⟨⟨rfl, rfl⟩, ⟨rfl, ⟨rfl, rfl, rows_same⟩, trivial⟩, ⟨⟨⟨rfl, rfl⟩, trivial⟩, rfl, trivial⟩, trivial⟩
  · replace h := iteF h g4
    conv => whnf
    refine CutK.go ?_
    conv => whnf
    cases h
    exact Done.of [none] [] rfl rfl ⟨⟨rfl, rfl⟩, ⟨rfl, rfl, trivial⟩, ⟨⟨⟨rfl, rfl⟩, trivial⟩, rfl, trivial⟩, trivial⟩

def spec_PowerOfOrdinals (k : Nat) (a1 : Rw) (a2 : Rw) : Option (Rw × Bool) :=
  ((spec_odGood k a1).bind fun y3 => (if y3 = true then ((spec_odGood k a2).bind fun y6 => (if y6 = true then ((spec_odPower k a1 a2).bind fun y9 => (if y9.2 = true then ((spec_odIf k y9.1).bind fun y12 => (if y12.2 = true then some (y12.1, true) else some (y12.1, false))) else some (([] : Rw), false))) else some (([] : Rw), false))) else some (([] : Rw), false)))
set_option maxHeartbeats 4000000 in
set_option maxRecDepth 100000 in
theorem spec_PowerOfOrdinals_ct {k : Nat} {a1 : Rw} {a2 : Rw} {r : Rw × Bool} (h : spec_PowerOfOrdinals k a1 a2 = some r) : Ct prog 19 [.agg [.d (D.sl a1)], .agg [.d (D.sl a2)]] (⟨[], []⟩) (.tup [.agg [.os 8 r.1.length], .d (D.bool r.2)]) (⟨[], [(104, true, r.1)]⟩) := by
  rw [spec_PowerOfOrdinals] at h
  refine Ct.of (c := _) mixed func19 ⟨rfl, rfl, rfl⟩ ?_ rfl
  conv => whnf
  obtain ⟨y3, e4, h⟩ := bind_ex h
  refine CallOk.of (spec_odGood_ct e4) ?_
  conv => whnf
  refine spl (fun g5 => ?_) (fun g5 => ?_)
  · replace h := iteT h g5
    conv => whnf
    obtain ⟨y6, e7, h⟩ := bind_ex h
    refine CallOk.of (spec_odGood_ct e7) ?_
    conv => whnf
    refine spl (fun g8 => ?_) (fun g8 => ?_)
    · replace h := iteT h g8
      conv => whnf
      refine CutK.go ?_
      conv => whnf
      refine CutK.go ?_
      conv => whnf
      obtain ⟨y9, e10, h⟩ := bind_ex h
      refine CallOk.of (spec_odPower_ct e10) ?_
      conv => whnf
      refine spl (fun g11 => ?_) (fun g11 => ?_)
      · replace h := iteT h g11
        conv => whnf
        refine CutK.go ?_
        conv => whnf
        obtain ⟨y12, e13, h⟩ := bind_ex h
        refine CallOk.of (spec_odIf_ct e13) ?_
        conv => whnf
        refine spl (fun g14 => ?_) (fun g14 => ?_)
        · replace h := iteT h g14
          conv => whnf
          refine CutK.go ?_
          conv => whnf
          cases h
          exact Done.of [some 1728] [] rfl rfl ⟨⟨rfl, rfl⟩, ⟨rfl, ⟨rfl, rfl, rows_same⟩, trivial⟩, ⟨⟨⟨rfl, rfl⟩, trivial⟩, rfl, trivial⟩, trivial⟩
        · replace h := iteF h g14
          conv => whnf
          refine CutK.go ?_
          conv => whnf
          cases h
          exact Done.of [some 1728] [] rfl rfl ⟨⟨rfl, rfl⟩, ⟨rfl, ⟨rfl, rfl, rows_same⟩, trivial⟩, ⟨⟨⟨rfl, rfl⟩, trivial⟩, rfl, trivial⟩, trivial⟩
      · replace h := iteF h g11
        conv => whnf
        refine CutK.go ?_
        conv => whnf
        cases h
        exact Done.of [none] [] rfl rfl ⟨⟨rfl, rfl⟩, ⟨rfl, rfl, trivial⟩, ⟨⟨⟨rfl, rfl⟩, trivial⟩, rfl, trivial⟩, trivial⟩
    · replace h := iteF h g8
      conv => whnf
      refine CutK.go ?_
      conv => whnf
      cases h
      exact Done.of [none] [] rfl rfl ⟨⟨rfl, rfl⟩, ⟨rfl, rfl, trivial⟩, ⟨⟨⟨rfl, rfl⟩, trivial⟩, rfl, trivial⟩, trivial⟩
  · replace h := iteF h g5
    conv => whnf
    refine CutK.go ?_
    conv => whnf
    cases h
    exact Done.of [none] [] rfl rfl ⟨⟨rfl, rfl⟩, ⟨rfl, rfl, trivial⟩, ⟨⟨⟨rfl, rfl⟩, trivial⟩, rfl, trivial⟩, trivial⟩

def laws_big  (a1 : Rw) (a2 : Rw) : Option Bool :=
  (if (1048576 : Int) < (a1.length : Int) then some true else (if (IntKind.i64.wrap (1048576 - (a1.length : Int))) < (a2.length : Int) then some true else some false))
set_option maxHeartbeats 4000000 in
set_option maxRecDepth 100000 in
theorem laws_big_ct  {a1 : Rw} {a2 : Rw} {r : Bool} (h : laws_big a1 a2 = some r) : Ct prog 11 [.d (D.sl a1), .d (D.sl a2)] (⟨[], []⟩) (.d (D.bool r)) (⟨[], []⟩) := by
  rw [laws_big] at h
  refine Ct.of (c := _) mixed func11 ⟨rfl, rfl, rfl⟩ ?_ rfl
  conv => whnf
  refine splD (fun g3 => ?_) (fun g3 => ?_)
  · replace h := iteP h g3
    conv => whnf
    cases h
    exact Done.of [] [] rfl rfl ⟨⟨rfl, rfl⟩, ⟨rfl, trivial⟩, rfl, trivial⟩
  · replace h := iteN h g3
    conv => whnf
    refine splD (fun g4 => ?_) (fun g4 => ?_)
    · replace h := iteP h g4
      conv => whnf
      cases h
      exact Done.of [] [] rfl rfl ⟨⟨rfl, rfl⟩, ⟨rfl, trivial⟩, rfl, trivial⟩
    · replace h := iteN h g4
      conv => whnf
      cases h
      exact Done.of [] [] rfl rfl ⟨⟨rfl, rfl⟩, ⟨rfl, trivial⟩, rfl, trivial⟩

def laws_FnOrdinalPowers_p13 (v119 : Bool) : Option Bool :=
  (cond v119 (some true) (some false))
set_option maxHeartbeats 4000000 in
set_option maxRecDepth 100000 in
theorem laws_FnOrdinalPowers_p13_ct {v119 : Bool} {r : Bool} (h : laws_FnOrdinalPowers_p13 v119 = some r) : X prog 0 (tlF f5 13) (mk 100 [(4, .d (D.bool v119))] []) (finK prog f5 0 (.d (D.bool r)) (⟨[], []⟩)) := by
  rw [laws_FnOrdinalPowers_p13] at h
  cases v119
  · replace h := condF h
    conv => whnf
    cases h
    exact Done.of [] [] rfl rfl ⟨⟨rfl, rfl⟩, ⟨rfl, trivial⟩, rfl, trivial⟩
  · replace h := condT h
    conv => whnf
    cases h
    exact Done.of [] [] rfl rfl ⟨⟨rfl, rfl⟩, ⟨rfl, trivial⟩, rfl, trivial⟩
def laws_FnOrdinalPowers_p12 (k : Nat) (o113 : Rw) (o114 : Rw) (v115 : Bool) : Option Bool :=
  (cond v115 ((laws_sameOrdinal k o114 o113).bind fun y120 => (if y120 = true then (laws_FnOrdinalPowers_p13 true) else (laws_FnOrdinalPowers_p13 false))) (laws_FnOrdinalPowers_p13 true))
set_option maxHeartbeats 4000000 in
set_option maxRecDepth 100000 in
theorem laws_FnOrdinalPowers_p12_ct {k : Nat} {o113 : Rw} {o114 : Rw} {v115 : Bool} {r : Bool} (h : laws_FnOrdinalPowers_p12 k o113 o114 v115 = some r) : X prog 0 (tlF f5 12) (mk 100 [(17, .ptr 1088 0), (19, .ptr 1216 0), (20, .d (D.bool v115))] [(1088, .box 26 [.os 1124000 o113.length]), (1216, .box 26 [.os 1124001 o114.length]), (1124000, .arr 104 true o113), (1124001, .arr 104 true o114)]) (finK prog f5 0 (.d (D.bool r)) (⟨[], []⟩)) := by
  rw [laws_FnOrdinalPowers_p12] at h
  cases v115
  · replace h := condF h
    conv => whnf
    exact CutK.piece (laws_FnOrdinalPowers_p13_ct  h) [] [] ⟨⟨rfl, rfl⟩, ⟨rfl, trivial⟩, rfl, trivial⟩
  · replace h := condT h
    conv => whnf
    refine Take.all (rfl) ?_
    conv => whnf
    refine Take.all (rfl) ?_
    conv => whnf
    obtain ⟨y120, e121, h⟩ := bind_ex h
    refine CallOk.of (laws_sameOrdinal_ct e121) ?_
    conv => whnf
    refine spl (fun g122 => ?_) (fun g122 => ?_)
    · replace h := iteT h g122
      conv => whnf
      exact CutK.piece (laws_FnOrdinalPowers_p13_ct  h) [] [] ⟨⟨rfl, rfl⟩, ⟨rfl, trivial⟩, rfl, trivial⟩
    · replace h := iteF h g122
      conv => whnf
      exact CutK.piece (laws_FnOrdinalPowers_p13_ct  h) [] [] ⟨⟨rfl, rfl⟩, ⟨rfl, trivial⟩, rfl, trivial⟩
def laws_FnOrdinalPowers_p10 (k : Nat) (o82 : Rw) (o83 : Rw) (o84 : Rw) (v85 : Bool) (v89 : Bool) (v93 : Bool) (v100 : Bool) : Option Bool :=
  (cond v85 (cond v89 (cond v93 (cond v100 ((impl_MultiplyOrdinals k o82 o83).bind fun y123 => (if y123.2 = true then (laws_FnOrdinalPowers_p12 k o84 y123.1 true) else (laws_FnOrdinalPowers_p12 k o84 y123.1 false))) (some true)) (cond v100 (some true) (some true))) (cond v93 (cond v100 (some true) (some true)) (cond v100 (some true) (some true)))) (cond v89 (cond v93 (cond v100 (some true) (some true)) (cond v100 (some true) (some true))) (cond v93 (cond v100 (some true) (some true)) (cond v100 (some true) (some true)))))
set_option maxHeartbeats 4000000 in
set_option maxRecDepth 100000 in
theorem laws_FnOrdinalPowers_p10_ct {k : Nat} {o82 : Rw} {o83 : Rw} {o84 : Rw} {v85 : Bool} {v89 : Bool} {v93 : Bool} {v100 : Bool} {r : Bool} (h : laws_FnOrdinalPowers_p10 k o82 o83 o84 v85 v89 v93 v100 = some r) : X prog 0 (tlF f5 10) (mk 100 [(7, .ptr 448 0), (8, .d (D.bool v93)), (14, .d (D.bool v89)), (15, .ptr 960 0), (16, .d (D.bool v100)), (17, .ptr 1088 0), (18, .d (D.bool v85))] [(448, .box 26 [.os 1114000 o82.length]), (960, .box 26 [.os 1114001 o83.length]), (1088, .box 26 [.os 1114002 o84.length]), (1114000, .arr 104 true o82), (1114001, .arr 104 true o83), (1114002, .arr 104 true o84)]) (finK prog f5 0 (.d (D.bool r)) (⟨[], []⟩)) := by
  rw [laws_FnOrdinalPowers_p10] at h
  cases v85
  · replace h := condF h
    cases v89
    · replace h := condF h
      cases v93
      · replace h := condF h
        cases v100
        · replace h := condF h
          conv => whnf
          cases h
          exact Done.of [] [] rfl rfl ⟨⟨rfl, rfl⟩, ⟨rfl, trivial⟩, rfl, trivial⟩
        · replace h := condT h
          conv => whnf
          cases h
          exact Done.of [] [] rfl rfl ⟨⟨rfl, rfl⟩, ⟨rfl, trivial⟩, rfl, trivial⟩
      · replace h := condT h
        cases v100
        · replace h := condF h
          conv => whnf
          cases h
          exact Done.of [] [] rfl rfl ⟨⟨rfl, rfl⟩, ⟨rfl, trivial⟩, rfl, trivial⟩
        · replace h := condT h
          conv => whnf
          cases h
          exact Done.of [] [] rfl rfl ⟨⟨rfl, rfl⟩, ⟨rfl, trivial⟩, rfl, trivial⟩
    · replace h := condT h
      cases v93
      · replace h := condF h
        cases v100
        · replace h := condF h
          conv => whnf
          cases h
          exact Done.of [] [] rfl rfl ⟨⟨rfl, rfl⟩, ⟨rfl, trivial⟩, rfl, trivial⟩
        · replace h := condT h
          conv => whnf
          cases h
          exact Done.of [] [] rfl rfl ⟨⟨rfl, rfl⟩, ⟨rfl, trivial⟩, rfl, trivial⟩
      · replace h := condT h
        cases v100
        · replace h := condF h
          conv => whnf
          cases h
          exact Done.of [] [] rfl rfl ⟨⟨rfl, rfl⟩, ⟨rfl, trivial⟩, rfl, trivial⟩
        · replace h := condT h
          conv => whnf
          cases h
          exact Done.of [] [] rfl rfl ⟨⟨rfl, rfl⟩, ⟨rfl, trivial⟩, rfl, trivial⟩
  · replace h := condT h
    cases v89
    · replace h := condF h
      cases v93
      · replace h := condF h
        cases v100
        · replace h := condF h
          conv => whnf
          cases h
          exact Done.of [] [] rfl rfl ⟨⟨rfl, rfl⟩, ⟨rfl, trivial⟩, rfl, trivial⟩
        · replace h := condT h
          conv => whnf
          cases h
          exact Done.of [] [] rfl rfl ⟨⟨rfl, rfl⟩, ⟨rfl, trivial⟩, rfl, trivial⟩
      · replace h := condT h
        cases v100
        · replace h := condF h
          conv => whnf
          cases h
          exact Done.of [] [] rfl rfl ⟨⟨rfl, rfl⟩, ⟨rfl, trivial⟩, rfl, trivial⟩
        · replace h := condT h
          conv => whnf
          cases h
          exact Done.of [] [] rfl rfl ⟨⟨rfl, rfl⟩, ⟨rfl, trivial⟩, rfl, trivial⟩
    · replace h := condT h
      cases v93
      · replace h := condF h
        cases v100
        · replace h := condF h
          conv => whnf
          cases h
          exact Done.of [] [] rfl rfl ⟨⟨rfl, rfl⟩, ⟨rfl, trivial⟩, rfl, trivial⟩
        · replace h := condT h
          conv => whnf
          cases h
          exact Done.of [] [] rfl rfl ⟨⟨rfl, rfl⟩, ⟨rfl, trivial⟩, rfl, trivial⟩
      · replace h := condT h
        cases v100
        · replace h := condF h
          conv => whnf
          cases h
          exact Done.of [] [] rfl rfl ⟨⟨rfl, rfl⟩, ⟨rfl, trivial⟩, rfl, trivial⟩
        · replace h := condT h
          conv => whnf
          refine Take.all (rfl) ?_
          conv => whnf
          refine Take.all (rfl) ?_
          conv => whnf
          obtain ⟨y123, e124, h⟩ := bind_ex h
          refine CallOk.of (impl_MultiplyOrdinals_ct e124) ?_
          conv => whnf
          refine spl (fun g125 => ?_) (fun g125 => ?_)
          · replace h := iteT h g125
            conv => whnf
            exact CutK.piece (laws_FnOrdinalPowers_p12_ct  h) [some 1088, some 1216, some 1114002, some 5760] [] ⟨⟨rfl, rfl⟩, ⟨rfl, ⟨rfl, ⟨rfl, rfl⟩, trivial⟩, ⟨rfl, ⟨rfl, rfl⟩, trivial⟩, ⟨rfl, rfl, rows_same⟩, ⟨rfl, rfl, rows_same⟩, trivial⟩, ⟨rfl, rfl⟩, ⟨rfl, rfl⟩, rfl, trivial⟩
          · replace h := iteF h g125
            conv => whnf
            exact CutK.piece (laws_FnOrdinalPowers_p12_ct  h) [some 1088, some 1216, some 1114002, some 5760] [] ⟨⟨rfl, rfl⟩, ⟨rfl, ⟨rfl, ⟨rfl, rfl⟩, trivial⟩, ⟨rfl, ⟨rfl, rfl⟩, trivial⟩, ⟨rfl, rfl, rows_same⟩, ⟨rfl, rfl, rows_same⟩, trivial⟩, ⟨rfl, rfl⟩, ⟨rfl, rfl⟩, rfl, trivial⟩
def laws_FnOrdinalPowers_p9 (k : Nat) (o63 : Rw) (o64 : Rw) (o65 : Rw) (o66 : Rw) (v67 : Bool) (v71 : Bool) (v75 : Bool) : Option Bool :=
  (cond v67 (cond v71 (cond v75 ((impl_PowerOfOrdinals k o63 o65).bind fun y147 => (if y147.2 = true then (laws_FnOrdinalPowers_p10 k o64 o66 y147.1 true true true true) else (laws_FnOrdinalPowers_p10 k o64 o66 y147.1 false true true true))) ((impl_PowerOfOrdinals k o63 o65).bind fun y144 => (if y144.2 = true then (laws_FnOrdinalPowers_p10 k o64 o66 y144.1 true false true true) else (laws_FnOrdinalPowers_p10 k o64 o66 y144.1 false false true true)))) (cond v75 ((impl_PowerOfOrdinals k o63 o65).bind fun y141 => (if y141.2 = true then (laws_FnOrdinalPowers_p10 k o64 o66 y141.1 true true false true) else (laws_FnOrdinalPowers_p10 k o64 o66 y141.1 false true false true))) ((impl_PowerOfOrdinals k o63 o65).bind fun y138 => (if y138.2 = true then (laws_FnOrdinalPowers_p10 k o64 o66 y138.1 true false false true) else (laws_FnOrdinalPowers_p10 k o64 o66 y138.1 false false false true))))) (cond v71 (cond v75 ((impl_PowerOfOrdinals k o63 o65).bind fun y135 => (if y135.2 = true then (laws_FnOrdinalPowers_p10 k o64 o66 y135.1 true true true false) else (laws_FnOrdinalPowers_p10 k o64 o66 y135.1 false true true false))) ((impl_PowerOfOrdinals k o63 o65).bind fun y132 => (if y132.2 = true then (laws_FnOrdinalPowers_p10 k o64 o66 y132.1 true false true false) else (laws_FnOrdinalPowers_p10 k o64 o66 y132.1 false false true false)))) (cond v75 ((impl_PowerOfOrdinals k o63 o65).bind fun y129 => (if y129.2 = true then (laws_FnOrdinalPowers_p10 k o64 o66 y129.1 true true false false) else (laws_FnOrdinalPowers_p10 k o64 o66 y129.1 false true false false))) ((impl_PowerOfOrdinals k o63 o65).bind fun y126 => (if y126.2 = true then (laws_FnOrdinalPowers_p10 k o64 o66 y126.1 true false false false) else (laws_FnOrdinalPowers_p10 k o64 o66 y126.1 false false false false))))))
set_option maxHeartbeats 4000000 in
set_option maxRecDepth 100000 in
theorem laws_FnOrdinalPowers_p9_ct {k : Nat} {o63 : Rw} {o64 : Rw} {o65 : Rw} {o66 : Rw} {v67 : Bool} {v71 : Bool} {v75 : Bool} {r : Bool} (h : laws_FnOrdinalPowers_p9 k o63 o64 o65 o66 v67 v71 v75 = some r) : X prog 0 (tlF f5 9) (mk 100 [(5, .ptr 320 0), (7, .ptr 448 0), (8, .d (D.bool v71)), (13, .ptr 832 0), (14, .d (D.bool v75)), (15, .ptr 960 0), (16, .d (D.bool v67))] [(320, .box 26 [.os 1109000 o63.length]), (448, .box 26 [.os 1109001 o64.length]), (832, .box 26 [.os 1109002 o65.length]), (960, .box 26 [.os 1109003 o66.length]), (1109000, .arr 104 false o63), (1109001, .arr 104 true o64), (1109002, .arr 104 true o65), (1109003, .arr 104 true o66)]) (finK prog f5 0 (.d (D.bool r)) (⟨[], []⟩)) := by
  rw [laws_FnOrdinalPowers_p9] at h
  cases v67
  · replace h := condF h
    cases v71
    · replace h := condF h
      cases v75
      · replace h := condF h
        conv => whnf
        refine Take.all (rfl) ?_
        conv => whnf
        refine Take.all (rfl) ?_
        conv => whnf
        obtain ⟨y126, e127, h⟩ := bind_ex h
        refine CallOk.of (impl_PowerOfOrdinals_ct e127) ?_
        conv => whnf
        refine spl (fun g128 => ?_) (fun g128 => ?_)
        · replace h := iteT h g128
          conv => whnf
          exact CutK.piece (laws_FnOrdinalPowers_p10_ct  h) [some 448, some 960, some 1088, some 1109001, some 1109003, some 4480] [] ⟨⟨rfl, rfl⟩, ⟨rfl, ⟨rfl, ⟨rfl, rfl⟩, trivial⟩, ⟨rfl, ⟨rfl, rfl⟩, trivial⟩, ⟨rfl, ⟨rfl, rfl⟩, trivial⟩, ⟨rfl, rfl, rows_same⟩, ⟨rfl, rfl, rows_same⟩, ⟨rfl, rfl, rows_same⟩, trivial⟩, ⟨rfl, rfl⟩, rfl, rfl, ⟨rfl, rfl⟩, rfl, ⟨rfl, rfl⟩, rfl, trivial⟩
        · replace h := iteF h g128
          conv => whnf
          exact CutK.piece (laws_FnOrdinalPowers_p10_ct  h) [some 448, some 960, some 1088, some 1109001, some 1109003, some 4480] [] ⟨⟨rfl, rfl⟩, ⟨rfl, ⟨rfl, ⟨rfl, rfl⟩, trivial⟩, ⟨rfl, ⟨rfl, rfl⟩, trivial⟩, ⟨rfl, ⟨rfl, rfl⟩, trivial⟩, ⟨rfl, rfl, rows_same⟩, ⟨rfl, rfl, rows_same⟩, ⟨rfl, rfl, rows_same⟩, trivial⟩, ⟨rfl, rfl⟩, rfl, rfl, ⟨rfl, rfl⟩, rfl, ⟨rfl, rfl⟩, rfl, trivial⟩
      · replace h := condT h
        conv => whnf
        refine Take.all (rfl) ?_
        conv => whnf
        refine Take.all (rfl) ?_
        conv => whnf
        obtain ⟨y129, e130, h⟩ := bind_ex h
        refine CallOk.of (impl_PowerOfOrdinals_ct e130) ?_
        conv => whnf
        refine spl (fun g131 => ?_) (fun g131 => ?_)
        · replace h := iteT h g131
          conv => whnf
          exact CutK.piece (laws_FnOrdinalPowers_p10_ct  h) [some 448, some 960, some 1088, some 1109001, some 1109003, some 4480] [] ⟨⟨rfl, rfl⟩, ⟨rfl, ⟨rfl, ⟨rfl, rfl⟩, trivial⟩, ⟨rfl, ⟨rfl, rfl⟩, trivial⟩, ⟨rfl, ⟨rfl, rfl⟩, trivial⟩, ⟨rfl, rfl, rows_same⟩, ⟨rfl, rfl, rows_same⟩, ⟨rfl, rfl, rows_same⟩, trivial⟩, ⟨rfl, rfl⟩, rfl, rfl, ⟨rfl, rfl⟩, rfl, ⟨rfl, rfl⟩, rfl, trivial⟩
        · replace h := iteF h g131
          conv => whnf
          exact CutK.piece (laws_FnOrdinalPowers_p10_ct  h) [some 448, some 960, some 1088, some 1109001, some 1109003, some 4480] [] ⟨⟨rfl, rfl⟩, ⟨rfl, ⟨rfl, ⟨rfl, rfl⟩, trivial⟩, ⟨rfl, ⟨rfl, rfl⟩, trivial⟩, ⟨rfl, ⟨rfl, rfl⟩, trivial⟩, ⟨rfl, rfl, rows_same⟩, ⟨rfl, rfl, rows_same⟩, ⟨rfl, rfl, rows_same⟩, trivial⟩, ⟨rfl, rfl⟩, rfl, rfl, ⟨rfl, rfl⟩, rfl, ⟨rfl, rfl⟩, rfl, trivial⟩
    · replace h := condT h
      cases v75
      · replace h := condF h
        conv => whnf
        refine Take.all (rfl) ?_
        conv => whnf
        refine Take.all (rfl) ?_
        conv => whnf
        obtain ⟨y132, e133, h⟩ := bind_ex h
        refine CallOk.of (impl_PowerOfOrdinals_ct e133) ?_
        conv => whnf
        refine spl (fun g134 => ?_) (fun g134 => ?_)
        · replace h := iteT h g134
          conv => whnf
          exact CutK.piece (laws_FnOrdinalPowers_p10_ct  h) [some 448, some 960, some 1088, some 1109001, some 1109003, some 4480] [] ⟨⟨rfl, rfl⟩, ⟨rfl, ⟨rfl, ⟨rfl, rfl⟩, trivial⟩, ⟨rfl, ⟨rfl, rfl⟩, trivial⟩, ⟨rfl, ⟨rfl, rfl⟩, trivial⟩, ⟨rfl, rfl, rows_same⟩, ⟨rfl, rfl, rows_same⟩, ⟨rfl, rfl, rows_same⟩, trivial⟩, ⟨rfl, rfl⟩, rfl, rfl, ⟨rfl, rfl⟩, rfl, ⟨rfl, rfl⟩, rfl, trivial⟩
        · replace h := iteF h g134
          conv => whnf
          exact CutK.piece (laws_FnOrdinalPowers_p10_ct  h) [some 448, some 960, some 1088, some 1109001, some 1109003, some 4480] [] ⟨⟨rfl, rfl⟩, ⟨rfl, ⟨rfl, ⟨rfl, rfl⟩, trivial⟩, ⟨rfl, ⟨rfl, rfl⟩, trivial⟩, ⟨rfl, ⟨rfl, rfl⟩, trivial⟩, ⟨rfl, rfl, rows_same⟩, ⟨rfl, rfl, rows_same⟩, ⟨rfl, rfl, rows_same⟩, trivial⟩, ⟨rfl, rfl⟩, rfl, rfl, ⟨rfl, rfl⟩, rfl, ⟨rfl, rfl⟩, rfl, trivial⟩
      · replace h := condT h
        conv => whnf
        refine Take.all (rfl) ?_
        conv => whnf
        refine Take.all (rfl) ?_
        conv => whnf
        obtain ⟨y135, e136, h⟩ := bind_ex h
        refine CallOk.of (impl_PowerOfOrdinals_ct e136) ?_
        conv => whnf
        refine spl (fun g137 => ?_) (fun g137 => ?_)
        · replace h := iteT h g137
          conv => whnf
          exact CutK.piece (laws_FnOrdinalPowers_p10_ct  h) [some 448, some 960, some 1088, some 1109001, some 1109003, some 4480] [] ⟨⟨rfl, rfl⟩, ⟨rfl, ⟨rfl, ⟨rfl, rfl⟩, trivial⟩, ⟨rfl, ⟨rfl, rfl⟩, trivial⟩, ⟨rfl, ⟨rfl, rfl⟩, trivial⟩, ⟨rfl, rfl, rows_same⟩, ⟨rfl, rfl, rows_same⟩, ⟨rfl, rfl, rows_same⟩, trivial⟩, ⟨rfl, rfl⟩, rfl, rfl, ⟨rfl, rfl⟩, rfl, ⟨rfl, rfl⟩, rfl, trivial⟩
        · replace h := iteF h g137
          conv => whnf
          exact CutK.piece (laws_FnOrdinalPowers_p10_ct  h) [some 448, some 960, some 1088, some 1109001, some 1109003, some 4480] [] ⟨⟨rfl, rfl⟩, ⟨rfl, ⟨rfl, ⟨rfl, rfl⟩, trivial⟩, ⟨rfl, ⟨rfl, rfl⟩, trivial⟩, ⟨rfl, ⟨rfl, rfl⟩, trivial⟩, ⟨rfl, rfl, rows_same⟩, ⟨rfl, rfl, rows_same⟩, ⟨rfl, rfl, rows_same⟩, trivial⟩, ⟨rfl, rfl⟩, rfl, rfl, ⟨rfl, rfl⟩, rfl, ⟨rfl, rfl⟩, rfl, trivial⟩
  · replace h := condT h
    cases v71
    · replace h := condF h
      cases v75
      · replace h := condF h
        conv => whnf
        refine Take.all (rfl) ?_
        conv => whnf
        refine Take.all (rfl) ?_
        conv => whnf
        obtain ⟨y138, e139, h⟩ := bind_ex h
        refine CallOk.of (impl_PowerOfOrdinals_ct e139) ?_
        conv => whnf
        refine spl (fun g140 => ?_) (fun g140 => ?_)
        · replace h := iteT h g140
          conv => whnf
          exact CutK.piece (laws_FnOrdinalPowers_p10_ct  h) [some 448, some 960, some 1088, some 1109001, some 1109003, some 4480] [] ⟨⟨rfl, rfl⟩, ⟨rfl, ⟨rfl, ⟨rfl, rfl⟩, trivial⟩, ⟨rfl, ⟨rfl, rfl⟩, trivial⟩, ⟨rfl, ⟨rfl, rfl⟩, trivial⟩, ⟨rfl, rfl, rows_same⟩, ⟨rfl, rfl, rows_same⟩, ⟨rfl, rfl, rows_same⟩, trivial⟩, ⟨rfl, rfl⟩, rfl, rfl, ⟨rfl, rfl⟩, rfl, ⟨rfl, rfl⟩, rfl, trivial⟩
        · replace h := iteF h g140
          conv => whnf
          exact CutK.piece (laws_FnOrdinalPowers_p10_ct  h) [some 448, some 960, some 1088, some 1109001, some 1109003, some 4480] [] ⟨⟨rfl, rfl⟩, ⟨rfl, ⟨rfl, ⟨rfl, rfl⟩, trivial⟩, ⟨rfl, ⟨rfl, rfl⟩, trivial⟩, ⟨rfl, ⟨rfl, rfl⟩, trivial⟩, ⟨rfl, rfl, rows_same⟩, ⟨rfl, rfl, rows_same⟩, ⟨rfl, rfl, rows_same⟩, trivial⟩, ⟨rfl, rfl⟩, rfl, rfl, ⟨rfl, rfl⟩, rfl, ⟨rfl, rfl⟩, rfl, trivial⟩
      · replace h := condT h
        conv => whnf
        refine Take.all (rfl) ?_
        conv => whnf
        refine Take.all (rfl) ?_
        conv => whnf
        obtain ⟨y141, e142, h⟩ := bind_ex h
        refine CallOk.of (impl_PowerOfOrdinals_ct e142) ?_
        conv => whnf
        refine spl (fun g143 => ?_) (fun g143 => ?_)
        · replace h := iteT h g143
          conv => whnf
          exact CutK.piece (laws_FnOrdinalPowers_p10_ct  h) [some 448, some 960, some 1088, some 1109001, some 1109003, some 4480] [] ⟨⟨rfl, rfl⟩, ⟨rfl, ⟨rfl, ⟨rfl, rfl⟩, trivial⟩, ⟨rfl, ⟨rfl, rfl⟩, trivial⟩, ⟨rfl, ⟨rfl, rfl⟩, trivial⟩, ⟨rfl, rfl, rows_same⟩, ⟨rfl, rfl, rows_same⟩, ⟨rfl, rfl, rows_same⟩, trivial⟩, ⟨rfl, rfl⟩, rfl, rfl, ⟨rfl, rfl⟩, rfl, ⟨rfl, rfl⟩, rfl, trivial⟩
        · replace h := iteF h g143
          conv => whnf
          exact CutK.piece (laws_FnOrdinalPowers_p10_ct  h) [some 448, some 960, some 1088, some 1109001, some 1109003, some 4480] [] ⟨⟨rfl, rfl⟩, ⟨rfl, ⟨rfl, ⟨rfl, rfl⟩, trivial⟩, ⟨rfl, ⟨rfl, rfl⟩, trivial⟩, ⟨rfl, ⟨rfl, rfl⟩, trivial⟩, ⟨rfl, rfl, rows_same⟩, ⟨rfl, rfl, rows_same⟩, ⟨rfl, rfl, rows_same⟩, trivial⟩, ⟨rfl, rfl⟩, rfl, rfl, ⟨rfl, rfl⟩, rfl, ⟨rfl, rfl⟩, rfl, trivial⟩
    · replace h := condT h
      cases v75
      · replace h := condF h
        conv => whnf
        refine Take.all (rfl) ?_
        conv => whnf
        refine Take.all (rfl) ?_
        conv => whnf
        obtain ⟨y144, e145, h⟩ := bind_ex h
        refine CallOk.of (impl_PowerOfOrdinals_ct e145) ?_
        conv => whnf
        refine spl (fun g146 => ?_) (fun g146 => ?_)
        · replace h := iteT h g146
          conv => whnf
          exact CutK.piece (laws_FnOrdinalPowers_p10_ct  h) [some 448, some 960, some 1088, some 1109001, some 1109003, some 4480] [] ⟨⟨rfl, rfl⟩, ⟨rfl, ⟨rfl, ⟨rfl, rfl⟩, trivial⟩, ⟨rfl, ⟨rfl, rfl⟩, trivial⟩, ⟨rfl, ⟨rfl, rfl⟩, trivial⟩, ⟨rfl, rfl, rows_same⟩, ⟨rfl, rfl, rows_same⟩, ⟨rfl, rfl, rows_same⟩, trivial⟩, ⟨rfl, rfl⟩, rfl, rfl, ⟨rfl, rfl⟩, rfl, ⟨rfl, rfl⟩, rfl, trivial⟩
        · replace h := iteF h g146
          conv => whnf
          exact CutK.piece (laws_FnOrdinalPowers_p10_ct  h) [some 448, some 960, some 1088, some 1109001, some 1109003, some 4480] [] ⟨⟨rfl, rfl⟩, ⟨rfl, ⟨rfl, ⟨rfl, rfl⟩, trivial⟩, ⟨rfl, ⟨rfl, rfl⟩, trivial⟩, ⟨rfl, ⟨rfl, rfl⟩, trivial⟩, ⟨rfl, rfl, rows_same⟩, ⟨rfl, rfl, rows_same⟩, ⟨rfl, rfl, rows_same⟩, trivial⟩, ⟨rfl, rfl⟩, rfl, rfl, ⟨rfl, rfl⟩, rfl, ⟨rfl, rfl⟩, rfl, trivial⟩
      · replace h := condT h
        conv => whnf
        refine Take.all (rfl) ?_
        conv => whnf
        refine Take.all (rfl) ?_
        conv => whnf
        obtain ⟨y147, e148, h⟩ := bind_ex h
        refine CallOk.of (impl_PowerOfOrdinals_ct e148) ?_
        conv => whnf
        refine spl (fun g149 => ?_) (fun g149 => ?_)
        · replace h := iteT h g149
          conv => whnf
          exact CutK.piece (laws_FnOrdinalPowers_p10_ct  h) [some 448, some 960, some 1088, some 1109001, some 1109003, some 4480] [] ⟨⟨rfl, rfl⟩, ⟨rfl, ⟨rfl, ⟨rfl, rfl⟩, trivial⟩, ⟨rfl, ⟨rfl, rfl⟩, trivial⟩, ⟨rfl, ⟨rfl, rfl⟩, trivial⟩, ⟨rfl, rfl, rows_same⟩, ⟨rfl, rfl, rows_same⟩, ⟨rfl, rfl, rows_same⟩, trivial⟩, ⟨rfl, rfl⟩, rfl, rfl, ⟨rfl, rfl⟩, rfl, ⟨rfl, rfl⟩, rfl, trivial⟩
        · replace h := iteF h g149
          conv => whnf
          exact CutK.piece (laws_FnOrdinalPowers_p10_ct  h) [some 448, some 960, some 1088, some 1109001, some 1109003, some 4480] [] ⟨⟨rfl, rfl⟩, ⟨rfl, ⟨rfl, ⟨rfl, rfl⟩, trivial⟩, ⟨rfl, ⟨rfl, rfl⟩, trivial⟩, ⟨rfl, ⟨rfl, rfl⟩, trivial⟩, ⟨rfl, rfl, rows_same⟩, ⟨rfl, rfl, rows_same⟩, ⟨rfl, rfl, rows_same⟩, trivial⟩, ⟨rfl, rfl⟩, rfl, rfl, ⟨rfl, rfl⟩, rfl, ⟨rfl, rfl⟩, rfl, trivial⟩
def laws_FnOrdinalPowers_p8 (k : Nat) (o51 : Rw) (o52 : Rw) (o53 : Rw) (o54 : Rw) (v55 : Bool) (v59 : Bool) : Option Bool :=
  (cond v55 (cond v59 ((impl_PowerOfOrdinals k o51 o53).bind fun y159 => (if y159.2 = true then (laws_FnOrdinalPowers_p9 k o51 o52 o54 y159.1 true true true) else (laws_FnOrdinalPowers_p9 k o51 o52 o54 y159.1 false true true))) ((impl_PowerOfOrdinals k o51 o53).bind fun y156 => (if y156.2 = true then (laws_FnOrdinalPowers_p9 k o51 o52 o54 y156.1 true false true) else (laws_FnOrdinalPowers_p9 k o51 o52 o54 y156.1 false false true)))) (cond v59 ((impl_PowerOfOrdinals k o51 o53).bind fun y153 => (if y153.2 = true then (laws_FnOrdinalPowers_p9 k o51 o52 o54 y153.1 true true false) else (laws_FnOrdinalPowers_p9 k o51 o52 o54 y153.1 false true false))) ((impl_PowerOfOrdinals k o51 o53).bind fun y150 => (if y150.2 = true then (laws_FnOrdinalPowers_p9 k o51 o52 o54 y150.1 true false false) else (laws_FnOrdinalPowers_p9 k o51 o52 o54 y150.1 false false false)))))
set_option maxHeartbeats 4000000 in
set_option maxRecDepth 100000 in
theorem laws_FnOrdinalPowers_p8_ct {k : Nat} {o51 : Rw} {o52 : Rw} {o53 : Rw} {o54 : Rw} {v55 : Bool} {v59 : Bool} {r : Bool} (h : laws_FnOrdinalPowers_p8 k o51 o52 o53 o54 v55 v59 = some r) : X prog 0 (tlF f5 8) (mk 100 [(5, .ptr 320 0), (7, .ptr 448 0), (8, .d (D.bool v59)), (12, .ptr 768 0), (13, .ptr 832 0), (14, .d (D.bool v55))] [(320, .box 26 [.os 1104000 o51.length]), (448, .box 26 [.os 1104001 o52.length]), (768, .box 26 [.os 1104002 o53.length]), (832, .box 26 [.os 1104003 o54.length]), (1104000, .arr 104 false o51), (1104001, .arr 104 true o52), (1104002, .arr 104 false o53), (1104003, .arr 104 true o54)]) (finK prog f5 0 (.d (D.bool r)) (⟨[], []⟩)) := by
  rw [laws_FnOrdinalPowers_p8] at h
  cases v55
  · replace h := condF h
    cases v59
    · replace h := condF h
      conv => whnf
      refine Take.all (rfl) ?_
      conv => whnf
      refine Take.all (rfl) ?_
      conv => whnf
      obtain ⟨y150, e151, h⟩ := bind_ex h
      refine CallOk.of (impl_PowerOfOrdinals_ct e151) ?_
      conv => whnf
      refine spl (fun g152 => ?_) (fun g152 => ?_)
      · replace h := iteT h g152
        conv => whnf
        exact CutK.piece (laws_FnOrdinalPowers_p9_ct  h) [some 320, some 448, some 832, some 960, some 1104000, some 1104001, some 1104003, some 4096] [] ⟨⟨rfl, rfl⟩, ⟨rfl, ⟨rfl, ⟨rfl, rfl⟩, trivial⟩, ⟨rfl, ⟨rfl, rfl⟩, trivial⟩, ⟨rfl, ⟨rfl, rfl⟩, trivial⟩, ⟨rfl, ⟨rfl, rfl⟩, trivial⟩, ⟨rfl, rfl, rows_same⟩, ⟨rfl, rfl, rows_same⟩, ⟨rfl, rfl, rows_same⟩, ⟨rfl, rfl, rows_same⟩, trivial⟩, ⟨rfl, rfl⟩, ⟨rfl, rfl⟩, rfl, ⟨rfl, rfl⟩, rfl, ⟨rfl, rfl⟩, rfl, trivial⟩
      · replace h := iteF h g152
        conv => whnf
        exact CutK.piece (laws_FnOrdinalPowers_p9_ct  h) [some 320, some 448, some 832, some 960, some 1104000, some 1104001, some 1104003, some 4096] [] ⟨⟨rfl, rfl⟩, ⟨rfl, ⟨rfl, ⟨rfl, rfl⟩, trivial⟩, ⟨rfl, ⟨rfl, rfl⟩, trivial⟩, ⟨rfl, ⟨rfl, rfl⟩, trivial⟩, ⟨rfl, ⟨rfl, rfl⟩, trivial⟩, ⟨rfl, rfl, rows_same⟩, ⟨rfl, rfl, rows_same⟩, ⟨rfl, rfl, rows_same⟩, ⟨rfl, rfl, rows_same⟩, trivial⟩, ⟨rfl, rfl⟩, ⟨rfl, rfl⟩, rfl, ⟨rfl, rfl⟩, rfl, ⟨rfl, rfl⟩, rfl, trivial⟩
    · replace h := condT h
      conv => whnf
      refine Take.all (rfl) ?_
      conv => whnf
      refine Take.all (rfl) ?_
      conv => whnf
      obtain ⟨y153, e154, h⟩ := bind_ex h
      refine CallOk.of (impl_PowerOfOrdinals_ct e154) ?_
      conv => whnf
      refine spl (fun g155 => ?_) (fun g155 => ?_)
      · replace h := iteT h g155
        conv => whnf
        exact CutK.piece (laws_FnOrdinalPowers_p9_ct  h) [some 320, some 448, some 832, some 960, some 1104000, some 1104001, some 1104003, some 4096] [] ⟨⟨rfl, rfl⟩, ⟨rfl, ⟨rfl, ⟨rfl, rfl⟩, trivial⟩, ⟨rfl, ⟨rfl, rfl⟩, trivial⟩, ⟨rfl, ⟨rfl, rfl⟩, trivial⟩, ⟨rfl, ⟨rfl, rfl⟩, trivial⟩, ⟨rfl, rfl, rows_same⟩, ⟨rfl, rfl, rows_same⟩, ⟨rfl, rfl, rows_same⟩, ⟨rfl, rfl, rows_same⟩, trivial⟩, ⟨rfl, rfl⟩, ⟨rfl, rfl⟩, rfl, ⟨rfl, rfl⟩, rfl, ⟨rfl, rfl⟩, rfl, trivial⟩
      · replace h := iteF h g155
        conv => whnf
        exact CutK.piece (laws_FnOrdinalPowers_p9_ct  h) [some 320, some 448, some 832, some 960, some 1104000, some 1104001, some 1104003, some 4096] [] ⟨⟨rfl, rfl⟩, ⟨rfl, ⟨rfl, ⟨rfl, rfl⟩, trivial⟩, ⟨rfl, ⟨rfl, rfl⟩, trivial⟩, ⟨rfl, ⟨rfl, rfl⟩, trivial⟩, ⟨rfl, ⟨rfl, rfl⟩, trivial⟩, ⟨rfl, rfl, rows_same⟩, ⟨rfl, rfl, rows_same⟩, ⟨rfl, rfl, rows_same⟩, ⟨rfl, rfl, rows_same⟩, trivial⟩, ⟨rfl, rfl⟩, ⟨rfl, rfl⟩, rfl, ⟨rfl, rfl⟩, rfl, ⟨rfl, rfl⟩, rfl, trivial⟩
  · replace h := condT h
    cases v59
    · replace h := condF h
      conv => whnf
      refine Take.all (rfl) ?_
      conv => whnf
      refine Take.all (rfl) ?_
      conv => whnf
      obtain ⟨y156, e157, h⟩ := bind_ex h
      refine CallOk.of (impl_PowerOfOrdinals_ct e157) ?_
      conv => whnf
      refine spl (fun g158 => ?_) (fun g158 => ?_)
      · replace h := iteT h g158
        conv => whnf
        exact CutK.piece (laws_FnOrdinalPowers_p9_ct  h) [some 320, some 448, some 832, some 960, some 1104000, some 1104001, some 1104003, some 4096] [] ⟨⟨rfl, rfl⟩, ⟨rfl, ⟨rfl, ⟨rfl, rfl⟩, trivial⟩, ⟨rfl, ⟨rfl, rfl⟩, trivial⟩, ⟨rfl, ⟨rfl, rfl⟩, trivial⟩, ⟨rfl, ⟨rfl, rfl⟩, trivial⟩, ⟨rfl, rfl, rows_same⟩, ⟨rfl, rfl, rows_same⟩, ⟨rfl, rfl, rows_same⟩, ⟨rfl, rfl, rows_same⟩, trivial⟩, ⟨rfl, rfl⟩, ⟨rfl, rfl⟩, rfl, ⟨rfl, rfl⟩, rfl, ⟨rfl, rfl⟩, rfl, trivial⟩
      · replace h := iteF h g158
        conv => whnf
        exact CutK.piece (laws_FnOrdinalPowers_p9_ct  h) [some 320, some 448, some 832, some 960, some 1104000, some 1104001, some 1104003, some 4096] [] ⟨⟨rfl, rfl⟩, ⟨rfl, ⟨rfl, ⟨rfl, rfl⟩, trivial⟩, ⟨rfl, ⟨rfl, rfl⟩, trivial⟩, ⟨rfl, ⟨rfl, rfl⟩, trivial⟩, ⟨rfl, ⟨rfl, rfl⟩, trivial⟩, ⟨rfl, rfl, rows_same⟩, ⟨rfl, rfl, rows_same⟩, ⟨rfl, rfl, rows_same⟩, ⟨rfl, rfl, rows_same⟩, trivial⟩, ⟨rfl, rfl⟩, ⟨rfl, rfl⟩, rfl, ⟨rfl, rfl⟩, rfl, ⟨rfl, rfl⟩, rfl, trivial⟩
    · replace h := condT h
      conv => whnf
      refine Take.all (rfl) ?_
      conv => whnf
      refine Take.all (rfl) ?_
      conv => whnf
      obtain ⟨y159, e160, h⟩ := bind_ex h
      refine CallOk.of (impl_PowerOfOrdinals_ct e160) ?_
      conv => whnf
      refine spl (fun g161 => ?_) (fun g161 => ?_)
      · replace h := iteT h g161
        conv => whnf
        exact CutK.piece (laws_FnOrdinalPowers_p9_ct  h) [some 320, some 448, some 832, some 960, some 1104000, some 1104001, some 1104003, some 4096] [] ⟨⟨rfl, rfl⟩, ⟨rfl, ⟨rfl, ⟨rfl, rfl⟩, trivial⟩, ⟨rfl, ⟨rfl, rfl⟩, trivial⟩, ⟨rfl, ⟨rfl, rfl⟩, trivial⟩, ⟨rfl, ⟨rfl, rfl⟩, trivial⟩, ⟨rfl, rfl, rows_same⟩, ⟨rfl, rfl, rows_same⟩, ⟨rfl, rfl, rows_same⟩, ⟨rfl, rfl, rows_same⟩, trivial⟩, ⟨rfl, rfl⟩, ⟨rfl, rfl⟩, rfl, ⟨rfl, rfl⟩, rfl, ⟨rfl, rfl⟩, rfl, trivial⟩
      · replace h := iteF h g161
        conv => whnf
        exact CutK.piece (laws_FnOrdinalPowers_p9_ct  h) [some 320, some 448, some 832, some 960, some 1104000, some 1104001, some 1104003, some 4096] [] ⟨⟨rfl, rfl⟩, ⟨rfl, ⟨rfl, ⟨rfl, rfl⟩, trivial⟩, ⟨rfl, ⟨rfl, rfl⟩, trivial⟩, ⟨rfl, ⟨rfl, rfl⟩, trivial⟩, ⟨rfl, ⟨rfl, rfl⟩, trivial⟩, ⟨rfl, rfl, rows_same⟩, ⟨rfl, rfl, rows_same⟩, ⟨rfl, rfl, rows_same⟩, ⟨rfl, rfl, rows_same⟩, trivial⟩, ⟨rfl, rfl⟩, ⟨rfl, rfl⟩, rfl, ⟨rfl, rfl⟩, rfl, ⟨rfl, rfl⟩, rfl, trivial⟩
def laws_FnOrdinalPowers_p7 (k : Nat) (o41 : Rw) (o42 : Rw) (o43 : Rw) (o44 : Rw) (v47 : Bool) : Option Bool :=
  (cond v47 ((impl_AddOrdinals k o42 o44).bind fun y165 => (if y165.2 = true then (laws_FnOrdinalPowers_p8 k o41 o43 o44 y165.1 true true) else (laws_FnOrdinalPowers_p8 k o41 o43 o44 y165.1 false true))) ((impl_AddOrdinals k o42 o44).bind fun y162 => (if y162.2 = true then (laws_FnOrdinalPowers_p8 k o41 o43 o44 y162.1 true false) else (laws_FnOrdinalPowers_p8 k o41 o43 o44 y162.1 false false))))
set_option maxHeartbeats 4000000 in
set_option maxRecDepth 100000 in
theorem laws_FnOrdinalPowers_p7_ct {k : Nat} {o41 : Rw} {o42 : Rw} {o43 : Rw} {o44 : Rw} {v47 : Bool} {r : Bool} (h : laws_FnOrdinalPowers_p7 k o41 o42 o43 o44 v47 = some r) : X prog 0 (tlF f5 7) (mk 100 [(5, .ptr 320 0), (6, .ptr 384 0), (7, .ptr 448 0), (8, .d (D.bool v47)), (12, .ptr 768 0)] [(320, .box 26 [.os 1099000 o41.length]), (384, .box 26 [.os 1099001 o42.length]), (448, .box 26 [.os 1099002 o43.length]), (768, .box 26 [.os 1099003 o44.length]), (1099000, .arr 104 false o41), (1099001, .arr 104 false o42), (1099002, .arr 104 true o43), (1099003, .arr 104 false o44)]) (finK prog f5 0 (.d (D.bool r)) (⟨[], []⟩)) := by
  rw [laws_FnOrdinalPowers_p7] at h
  cases v47
  · replace h := condF h
    conv => whnf
    refine Take.all (rfl) ?_
    conv => whnf
    refine Take.all (rfl) ?_
    conv => whnf
    obtain ⟨y162, e163, h⟩ := bind_ex h
    refine CallOk.of (impl_AddOrdinals_ct e163) ?_
    conv => whnf
    refine spl (fun g164 => ?_) (fun g164 => ?_)
    · replace h := iteT h g164
      conv => whnf
      exact CutK.piece (laws_FnOrdinalPowers_p8_ct  h) [some 320, some 448, some 768, some 832, some 1099000, some 1099002, some 1099003, some 3712] [] ⟨⟨rfl, rfl⟩, ⟨rfl, ⟨rfl, ⟨rfl, rfl⟩, trivial⟩, ⟨rfl, ⟨rfl, rfl⟩, trivial⟩, ⟨rfl, ⟨rfl, rfl⟩, trivial⟩, ⟨rfl, ⟨rfl, rfl⟩, trivial⟩, ⟨rfl, rfl, rows_same⟩, ⟨rfl, rfl, rows_same⟩, ⟨rfl, rfl, rows_same⟩, ⟨rfl, rfl, rows_same⟩, trivial⟩, ⟨rfl, rfl⟩, ⟨rfl, rfl⟩, rfl, ⟨rfl, rfl⟩, ⟨rfl, rfl⟩, rfl, trivial⟩
    · replace h := iteF h g164
      conv => whnf
      exact CutK.piece (laws_FnOrdinalPowers_p8_ct  h) [some 320, some 448, some 768, some 832, some 1099000, some 1099002, some 1099003, some 3712] [] ⟨⟨rfl, rfl⟩, ⟨rfl, ⟨rfl, ⟨rfl, rfl⟩, trivial⟩, ⟨rfl, ⟨rfl, rfl⟩, trivial⟩, ⟨rfl, ⟨rfl, rfl⟩, trivial⟩, ⟨rfl, ⟨rfl, rfl⟩, trivial⟩, ⟨rfl, rfl, rows_same⟩, ⟨rfl, rfl, rows_same⟩, ⟨rfl, rfl, rows_same⟩, ⟨rfl, rfl, rows_same⟩, trivial⟩, ⟨rfl, rfl⟩, ⟨rfl, rfl⟩, rfl, ⟨rfl, rfl⟩, ⟨rfl, rfl⟩, rfl, trivial⟩
  · replace h := condT h
    conv => whnf
    refine Take.all (rfl) ?_
    conv => whnf
    refine Take.all (rfl) ?_
    conv => whnf
    obtain ⟨y165, e166, h⟩ := bind_ex h
    refine CallOk.of (impl_AddOrdinals_ct e166) ?_
    conv => whnf
    refine spl (fun g167 => ?_) (fun g167 => ?_)
    · replace h := iteT h g167
      conv => whnf
      exact CutK.piece (laws_FnOrdinalPowers_p8_ct  h) [some 320, some 448, some 768, some 832, some 1099000, some 1099002, some 1099003, some 3712] [] ⟨⟨rfl, rfl⟩, ⟨rfl, ⟨rfl, ⟨rfl, rfl⟩, trivial⟩, ⟨rfl, ⟨rfl, rfl⟩, trivial⟩, ⟨rfl, ⟨rfl, rfl⟩, trivial⟩, ⟨rfl, ⟨rfl, rfl⟩, trivial⟩, ⟨rfl, rfl, rows_same⟩, ⟨rfl, rfl, rows_same⟩, ⟨rfl, rfl, rows_same⟩, ⟨rfl, rfl, rows_same⟩, trivial⟩, ⟨rfl, rfl⟩, ⟨rfl, rfl⟩, rfl, ⟨rfl, rfl⟩, ⟨rfl, rfl⟩, rfl, trivial⟩
    · replace h := iteF h g167
      conv => whnf
      exact CutK.piece (laws_FnOrdinalPowers_p8_ct  h) [some 320, some 448, some 768, some 832, some 1099000, some 1099002, some 1099003, some 3712] [] ⟨⟨rfl, rfl⟩, ⟨rfl, ⟨rfl, ⟨rfl, rfl⟩, trivial⟩, ⟨rfl, ⟨rfl, rfl⟩, trivial⟩, ⟨rfl, ⟨rfl, rfl⟩, trivial⟩, ⟨rfl, ⟨rfl, rfl⟩, trivial⟩, ⟨rfl, rfl, rows_same⟩, ⟨rfl, rfl, rows_same⟩, ⟨rfl, rfl, rows_same⟩, ⟨rfl, rfl, rows_same⟩, trivial⟩, ⟨rfl, rfl⟩, ⟨rfl, rfl⟩, rfl, ⟨rfl, rfl⟩, ⟨rfl, rfl⟩, rfl, trivial⟩
def laws_FnOrdinalPowers_p6 (k : Nat) (a2 : Rw) (o32 : Rw) (o33 : Rw) (o34 : Rw) (v38 : Bool) : Option Bool :=
  (cond v38 ((spec_DrawPowerOfOrdinals k a2).bind fun y170 => (laws_FnOrdinalPowers_p7 k o32 o33 o34 y170.2 true)) ((spec_DrawPowerOfOrdinals k a2).bind fun y168 => (laws_FnOrdinalPowers_p7 k o32 o33 o34 y168.2 false)))
set_option maxHeartbeats 4000000 in
set_option maxRecDepth 100000 in
theorem laws_FnOrdinalPowers_p6_ct {k : Nat} {a2 : Rw} {o32 : Rw} {o33 : Rw} {o34 : Rw} {v38 : Bool} {r : Bool} (h : laws_FnOrdinalPowers_p6 k a2 o32 o33 o34 v38 = some r) : X prog 0 (tlF f5 6) (mk 100 [(1, .d (D.sl a2)), (5, .ptr 320 0), (6, .ptr 384 0), (7, .ptr 448 0), (8, .d (D.bool v38))] [(320, .box 26 [.os 1094000 o32.length]), (384, .box 26 [.os 1094001 o33.length]), (448, .box 26 [.os 1094002 o34.length]), (1094000, .arr 104 false o32), (1094001, .arr 104 false o33), (1094002, .arr 104 true o34)]) (finK prog f5 0 (.d (D.bool r)) (⟨[], []⟩)) := by
  rw [laws_FnOrdinalPowers_p6] at h
  cases v38
  · replace h := condF h
    conv => whnf
    obtain ⟨y168, e169, h⟩ := bind_ex h
    refine CallOk.of (spec_DrawPowerOfOrdinals_ct e169) ?_
    conv => whnf
    exact CutK.piece (laws_FnOrdinalPowers_p7_ct  h) [some 320, some 384, some 448, some 768, some 1094000, some 1094001, some 1094002, some 3329] [] ⟨⟨rfl, rfl⟩, ⟨rfl, ⟨rfl, ⟨rfl, rfl⟩, trivial⟩, ⟨rfl, ⟨rfl, rfl⟩, trivial⟩, ⟨rfl, ⟨rfl, rfl⟩, trivial⟩, ⟨rfl, ⟨rfl, rfl⟩, trivial⟩, ⟨rfl, rfl, rows_same⟩, ⟨rfl, rfl, rows_same⟩, ⟨rfl, rfl, rows_same⟩, ⟨rfl, rfl, rows_same⟩, trivial⟩, ⟨rfl, rfl⟩, ⟨rfl, rfl⟩, ⟨rfl, rfl⟩, rfl, ⟨rfl, rfl⟩, trivial⟩
  · replace h := condT h
    conv => whnf
    obtain ⟨y170, e171, h⟩ := bind_ex h
    refine CallOk.of (spec_DrawPowerOfOrdinals_ct e171) ?_
    conv => whnf
    exact CutK.piece (laws_FnOrdinalPowers_p7_ct  h) [some 320, some 384, some 448, some 768, some 1094000, some 1094001, some 1094002, some 3329] [] ⟨⟨rfl, rfl⟩, ⟨rfl, ⟨rfl, ⟨rfl, rfl⟩, trivial⟩, ⟨rfl, ⟨rfl, rfl⟩, trivial⟩, ⟨rfl, ⟨rfl, rfl⟩, trivial⟩, ⟨rfl, ⟨rfl, rfl⟩, trivial⟩, ⟨rfl, rfl, rows_same⟩, ⟨rfl, rfl, rows_same⟩, ⟨rfl, rfl, rows_same⟩, ⟨rfl, rfl, rows_same⟩, trivial⟩, ⟨rfl, rfl⟩, ⟨rfl, rfl⟩, ⟨rfl, rfl⟩, rfl, ⟨rfl, rfl⟩, trivial⟩
def laws_FnOrdinalPowers_p5 (k : Nat) (a2 : Rw) (o20 : Rw) (o21 : Rw) (o22 : Rw) (o23 : Rw) (v24 : Bool) (v28 : Bool) : Option Bool :=
  (cond v24 (cond v28 ((laws_sameOrdinal k o22 o23).bind fun y175 => (if y175 = true then (laws_FnOrdinalPowers_p6 k a2 o20 o21 o22 true) else some false)) (some false)) (cond v28 (some false) ((laws_sameOrdinal k o22 o23).bind fun y172 => (if y172 = true then (laws_FnOrdinalPowers_p6 k a2 o20 o21 o22 false) else some false))))
set_option maxHeartbeats 4000000 in
set_option maxRecDepth 100000 in
theorem laws_FnOrdinalPowers_p5_ct {k : Nat} {a2 : Rw} {o20 : Rw} {o21 : Rw} {o22 : Rw} {o23 : Rw} {v24 : Bool} {v28 : Bool} {r : Bool} (h : laws_FnOrdinalPowers_p5 k a2 o20 o21 o22 o23 v24 v28 = some r) : X prog 0 (tlF f5 5) (mk 100 [(1, .d (D.sl a2)), (5, .ptr 320 0), (6, .ptr 384 0), (7, .ptr 448 0), (8, .d (D.bool v28)), (9, .ptr 576 0), (10, .d (D.bool v24))] [(320, .box 26 [.os 1089000 o20.length]), (384, .box 26 [.os 1089001 o21.length]), (448, .box 26 [.os 1089002 o22.length]), (576, .box 26 [.os 1089003 o23.length]), (1089000, .arr 104 false o20), (1089001, .arr 104 false o21), (1089002, .arr 104 true o22), (1089003, .arr 104 true o23)]) (finK prog f5 0 (.d (D.bool r)) (⟨[], []⟩)) := by
  rw [laws_FnOrdinalPowers_p5] at h
  cases v24
  · replace h := condF h
    cases v28
    · replace h := condF h
      conv => whnf
      refine splF ?_
      conv => whnf
      refine Take.all (rfl) ?_
      conv => whnf
      refine Take.all (rfl) ?_
      conv => whnf
      obtain ⟨y172, e173, h⟩ := bind_ex h
      refine CallOk.of (laws_sameOrdinal_ct e173) ?_
      conv => whnf
      refine spl (fun g174 => ?_) (fun g174 => ?_)
      · replace h := iteT h g174
        conv => whnf
        refine CutK.norm [1, 5, 6, 7, 8, 49] [320, 384, 448, 1089000, 1089001, 1089002] ?_
        conv => whnf
        exact CutK.piece (laws_FnOrdinalPowers_p6_ct  h) [some 320, some 384, some 448, some 1089000, some 1089001, some 1089002] [] ⟨⟨rfl, rfl⟩, ⟨rfl, ⟨rfl, ⟨rfl, rfl⟩, trivial⟩, ⟨rfl, ⟨rfl, rfl⟩, trivial⟩, ⟨rfl, ⟨rfl, rfl⟩, trivial⟩, ⟨rfl, rfl, rows_same⟩, ⟨rfl, rfl, rows_same⟩, ⟨rfl, rfl, rows_same⟩, trivial⟩, rfl, ⟨rfl, rfl⟩, ⟨rfl, rfl⟩, ⟨rfl, rfl⟩, rfl, trivial⟩
      · replace h := iteF h g174
        conv => whnf
        refine CutK.norm [1, 5, 6, 7, 8, 49] [320, 384, 448, 1089000, 1089001, 1089002] ?_
        conv => whnf
        cases h
        exact Done.of [] [] rfl rfl ⟨⟨rfl, rfl⟩, ⟨rfl, trivial⟩, rfl, trivial⟩
    · replace h := condT h
      conv => whnf
      refine splT ?_
      conv => whnf
      refine CutK.norm [1, 5, 6, 7, 8, 49] [320, 384, 448, 1089000, 1089001, 1089002] ?_
      conv => whnf
      cases h
      exact Done.of [] [] rfl rfl ⟨⟨rfl, rfl⟩, ⟨rfl, trivial⟩, rfl, trivial⟩
  · replace h := condT h
    cases v28
    · replace h := condF h
      conv => whnf
      refine splT ?_
      conv => whnf
      refine CutK.norm [1, 5, 6, 7, 8, 49] [320, 384, 448, 1089000, 1089001, 1089002] ?_
      conv => whnf
      cases h
      exact Done.of [] [] rfl rfl ⟨⟨rfl, rfl⟩, ⟨rfl, trivial⟩, rfl, trivial⟩
    · replace h := condT h
      conv => whnf
      refine splF ?_
      conv => whnf
      refine Take.all (rfl) ?_
      conv => whnf
      refine Take.all (rfl) ?_
      conv => whnf
      obtain ⟨y175, e176, h⟩ := bind_ex h
      refine CallOk.of (laws_sameOrdinal_ct e176) ?_
      conv => whnf
      refine spl (fun g177 => ?_) (fun g177 => ?_)
      · replace h := iteT h g177
        conv => whnf
        refine CutK.norm [1, 5, 6, 7, 8, 49] [320, 384, 448, 1089000, 1089001, 1089002] ?_
        conv => whnf
        exact CutK.piece (laws_FnOrdinalPowers_p6_ct  h) [some 320, some 384, some 448, some 1089000, some 1089001, some 1089002] [] ⟨⟨rfl, rfl⟩, ⟨rfl, ⟨rfl, ⟨rfl, rfl⟩, trivial⟩, ⟨rfl, ⟨rfl, rfl⟩, trivial⟩, ⟨rfl, ⟨rfl, rfl⟩, trivial⟩, ⟨rfl, rfl, rows_same⟩, ⟨rfl, rfl, rows_same⟩, ⟨rfl, rfl, rows_same⟩, trivial⟩, rfl, ⟨rfl, rfl⟩, ⟨rfl, rfl⟩, ⟨rfl, rfl⟩, rfl, trivial⟩
      · replace h := iteF h g177
        conv => whnf
        refine CutK.norm [1, 5, 6, 7, 8, 49] [320, 384, 448, 1089000, 1089001, 1089002] ?_
        conv => whnf
        cases h
        exact Done.of [] [] rfl rfl ⟨⟨rfl, rfl⟩, ⟨rfl, trivial⟩, rfl, trivial⟩
def laws_FnOrdinalPowers_p4 (k : Nat) (a2 : Rw) (o13 : Rw) (o14 : Rw) (o15 : Rw) (v16 : Bool) : Option Bool :=
  (cond v16 ((spec_PowerOfOrdinals k o13 o14).bind fun y181 => (if y181.2 = true then (laws_FnOrdinalPowers_p5 k a2 o13 o14 o15 y181.1 true true) else (laws_FnOrdinalPowers_p5 k a2 o13 o14 o15 y181.1 false true))) ((spec_PowerOfOrdinals k o13 o14).bind fun y178 => (if y178.2 = true then (laws_FnOrdinalPowers_p5 k a2 o13 o14 o15 y178.1 true false) else (laws_FnOrdinalPowers_p5 k a2 o13 o14 o15 y178.1 false false))))
set_option maxHeartbeats 4000000 in
set_option maxRecDepth 100000 in
theorem laws_FnOrdinalPowers_p4_ct {k : Nat} {a2 : Rw} {o13 : Rw} {o14 : Rw} {o15 : Rw} {v16 : Bool} {r : Bool} (h : laws_FnOrdinalPowers_p4 k a2 o13 o14 o15 v16 = some r) : X prog 0 (tlF f5 4) (mk 100 [(1, .d (D.sl a2)), (5, .ptr 320 0), (6, .ptr 384 0), (7, .ptr 448 0), (8, .d (D.bool v16))] [(320, .box 26 [.os 1084000 o13.length]), (384, .box 26 [.os 1084001 o14.length]), (448, .box 26 [.os 1084002 o15.length]), (1084000, .arr 104 false o13), (1084001, .arr 104 false o14), (1084002, .arr 104 true o15)]) (finK prog f5 0 (.d (D.bool r)) (⟨[], []⟩)) := by
  rw [laws_FnOrdinalPowers_p4] at h
  cases v16
  · replace h := condF h
    conv => whnf
    refine Take.all (rfl) ?_
    conv => whnf
    refine Take.all (rfl) ?_
    conv => whnf
    obtain ⟨y178, e179, h⟩ := bind_ex h
    refine CallOk.of (spec_PowerOfOrdinals_ct e179) ?_
    conv => whnf
    refine spl (fun g180 => ?_) (fun g180 => ?_)
    · replace h := iteT h g180
      conv => whnf
      exact CutK.piece (laws_FnOrdinalPowers_p5_ct  h) [some 320, some 384, some 448, some 576, some 1084000, some 1084001, some 1084002, some 2432] [] ⟨⟨rfl, rfl⟩, ⟨rfl, ⟨rfl, ⟨rfl, rfl⟩, trivial⟩, ⟨rfl, ⟨rfl, rfl⟩, trivial⟩, ⟨rfl, ⟨rfl, rfl⟩, trivial⟩, ⟨rfl, ⟨rfl, rfl⟩, trivial⟩, ⟨rfl, rfl, rows_same⟩, ⟨rfl, rfl, rows_same⟩, ⟨rfl, rfl, rows_same⟩, ⟨rfl, rfl, rows_same⟩, trivial⟩, rfl, ⟨rfl, rfl⟩, ⟨rfl, rfl⟩, ⟨rfl, rfl⟩, rfl, ⟨rfl, rfl⟩, rfl, trivial⟩
    · replace h := iteF h g180
      conv => whnf
      exact CutK.piece (laws_FnOrdinalPowers_p5_ct  h) [some 320, some 384, some 448, some 576, some 1084000, some 1084001, some 1084002, some 2432] [] ⟨⟨rfl, rfl⟩, ⟨rfl, ⟨rfl, ⟨rfl, rfl⟩, trivial⟩, ⟨rfl, ⟨rfl, rfl⟩, trivial⟩, ⟨rfl, ⟨rfl, rfl⟩, trivial⟩, ⟨rfl, ⟨rfl, rfl⟩, trivial⟩, ⟨rfl, rfl, rows_same⟩, ⟨rfl, rfl, rows_same⟩, ⟨rfl, rfl, rows_same⟩, ⟨rfl, rfl, rows_same⟩, trivial⟩, rfl, ⟨rfl, rfl⟩, ⟨rfl, rfl⟩, ⟨rfl, rfl⟩, rfl, ⟨rfl, rfl⟩, rfl, trivial⟩
  · replace h := condT h
    conv => whnf
    refine Take.all (rfl) ?_
    conv => whnf
    refine Take.all (rfl) ?_
    conv => whnf
    obtain ⟨y181, e182, h⟩ := bind_ex h
    refine CallOk.of (spec_PowerOfOrdinals_ct e182) ?_
    conv => whnf
    refine spl (fun g183 => ?_) (fun g183 => ?_)
    · replace h := iteT h g183
      conv => whnf
      exact CutK.piece (laws_FnOrdinalPowers_p5_ct  h) [some 320, some 384, some 448, some 576, some 1084000, some 1084001, some 1084002, some 2432] [] ⟨⟨rfl, rfl⟩, ⟨rfl, ⟨rfl, ⟨rfl, rfl⟩, trivial⟩, ⟨rfl, ⟨rfl, rfl⟩, trivial⟩, ⟨rfl, ⟨rfl, rfl⟩, trivial⟩, ⟨rfl, ⟨rfl, rfl⟩, trivial⟩, ⟨rfl, rfl, rows_same⟩, ⟨rfl, rfl, rows_same⟩, ⟨rfl, rfl, rows_same⟩, ⟨rfl, rfl, rows_same⟩, trivial⟩, rfl, ⟨rfl, rfl⟩, ⟨rfl, rfl⟩, ⟨rfl, rfl⟩, rfl, ⟨rfl, rfl⟩, rfl, trivial⟩
    · replace h := iteF h g183
      conv => whnf
      exact CutK.piece (laws_FnOrdinalPowers_p5_ct  h) [some 320, some 384, some 448, some 576, some 1084000, some 1084001, some 1084002, some 2432] [] ⟨⟨rfl, rfl⟩, ⟨rfl, ⟨rfl, ⟨rfl, rfl⟩, trivial⟩, ⟨rfl, ⟨rfl, rfl⟩, trivial⟩, ⟨rfl, ⟨rfl, rfl⟩, trivial⟩, ⟨rfl, ⟨rfl, rfl⟩, trivial⟩, ⟨rfl, rfl, rows_same⟩, ⟨rfl, rfl, rows_same⟩, ⟨rfl, rfl, rows_same⟩, ⟨rfl, rfl, rows_same⟩, trivial⟩, rfl, ⟨rfl, rfl⟩, ⟨rfl, rfl⟩, ⟨rfl, rfl⟩, rfl, ⟨rfl, rfl⟩, rfl, trivial⟩
def laws_FnOrdinalPowers_p3 (k : Nat) (a2 : Rw) (o8 : Rw) (o9 : Rw) : Option Bool :=
  ((impl_PowerOfOrdinals k o8 o9).bind fun y184 => (if y184.2 = true then (laws_FnOrdinalPowers_p4 k a2 o8 o9 y184.1 true) else (laws_FnOrdinalPowers_p4 k a2 o8 o9 y184.1 false)))
set_option maxHeartbeats 4000000 in
set_option maxRecDepth 100000 in
theorem laws_FnOrdinalPowers_p3_ct {k : Nat} {a2 : Rw} {o8 : Rw} {o9 : Rw} {r : Bool} (h : laws_FnOrdinalPowers_p3 k a2 o8 o9 = some r) : X prog 0 (tlF f5 3) (mk 100 [(1, .d (D.sl a2)), (5, .ptr 320 0), (6, .ptr 384 0)] [(320, .box 26 [.os 1079000 o8.length]), (384, .box 26 [.os 1079001 o9.length]), (1079000, .arr 104 false o8), (1079001, .arr 104 false o9)]) (finK prog f5 0 (.d (D.bool r)) (⟨[], []⟩)) := by
  rw [laws_FnOrdinalPowers_p3] at h
  conv => whnf
  refine Take.all (rfl) ?_
  conv => whnf
  refine Take.all (rfl) ?_
  conv => whnf
  obtain ⟨y184, e185, h⟩ := bind_ex h
  refine CallOk.of (impl_PowerOfOrdinals_ct e185) ?_
  conv => whnf
  refine spl (fun g186 => ?_) (fun g186 => ?_)
  · replace h := iteT h g186
    conv => whnf
    exact CutK.piece (laws_FnOrdinalPowers_p4_ct  h) [some 320, some 384, some 448, some 1079000, some 1079001, some 2048] [] ⟨⟨rfl, rfl⟩, ⟨rfl, ⟨rfl, ⟨rfl, rfl⟩, trivial⟩, ⟨rfl, ⟨rfl, rfl⟩, trivial⟩, ⟨rfl, ⟨rfl, rfl⟩, trivial⟩, ⟨rfl, rfl, rows_same⟩, ⟨rfl, rfl, rows_same⟩, ⟨rfl, rfl, rows_same⟩, trivial⟩, rfl, ⟨rfl, rfl⟩, ⟨rfl, rfl⟩, ⟨rfl, rfl⟩, rfl, trivial⟩
  · replace h := iteF h g186
    conv => whnf
    exact CutK.piece (laws_FnOrdinalPowers_p4_ct  h) [some 320, some 384, some 448, some 1079000, some 1079001, some 2048] [] ⟨⟨rfl, rfl⟩, ⟨rfl, ⟨rfl, ⟨rfl, rfl⟩, trivial⟩, ⟨rfl, ⟨rfl, rfl⟩, trivial⟩, ⟨rfl, ⟨rfl, rfl⟩, trivial⟩, ⟨rfl, rfl, rows_same⟩, ⟨rfl, rfl, rows_same⟩, ⟨rfl, rfl, rows_same⟩, trivial⟩, rfl, ⟨rfl, rfl⟩, ⟨rfl, rfl⟩, ⟨rfl, rfl⟩, rfl, trivial⟩
def laws_FnOrdinalPowers_p2 (k : Nat) (a1 : Rw) (a2 : Rw) : Option Bool :=
  ((spec_DrawPowerOfOrdinals k a1).bind fun y187 => (laws_FnOrdinalPowers_p3 k a2 y187.1 y187.2))
set_option maxHeartbeats 4000000 in
set_option maxRecDepth 100000 in
theorem laws_FnOrdinalPowers_p2_ct {k : Nat} {a1 : Rw} {a2 : Rw} {r : Bool} (h : laws_FnOrdinalPowers_p2 k a1 a2 = some r) : X prog 0 (tlF f5 2) (mk 100 [(0, .d (D.sl a1)), (1, .d (D.sl a2))] []) (finK prog f5 0 (.d (D.bool r)) (⟨[], []⟩)) := by
  rw [laws_FnOrdinalPowers_p2] at h
  conv => whnf
  obtain ⟨y187, e188, h⟩ := bind_ex h
  refine CallOk.of (spec_DrawPowerOfOrdinals_ct e188) ?_
  conv => whnf
  exact CutK.piece (laws_FnOrdinalPowers_p3_ct  h) [some 320, some 384, some 1664, some 1665] [] ⟨⟨rfl, rfl⟩, ⟨rfl, ⟨rfl, ⟨rfl, rfl⟩, trivial⟩, ⟨rfl, ⟨rfl, rfl⟩, trivial⟩, ⟨rfl, rfl, rows_same⟩, ⟨rfl, rfl, rows_same⟩, trivial⟩, rfl, ⟨rfl, rfl⟩, ⟨rfl, rfl⟩, trivial⟩
def laws_FnOrdinalPowers (k : Nat) (a1 : Rw) (a2 : Rw) : Option Bool :=
  ((laws_big a1 a2).bind fun y189 => (if y189 = true then some true else (laws_FnOrdinalPowers_p2 k a1 a2)))
set_option maxHeartbeats 4000000 in
set_option maxRecDepth 100000 in
theorem laws_FnOrdinalPowers_ct {k : Nat} {a1 : Rw} {a2 : Rw} {r : Bool} (h : laws_FnOrdinalPowers k a1 a2 = some r) : Ct prog 5 [.d (D.sl a1), .d (D.sl a2)] (⟨[], []⟩) (.d (D.bool r)) (⟨[], []⟩) := by
  rw [laws_FnOrdinalPowers] at h
  refine Ct.of (c := _) mixed func5 ⟨rfl, rfl, rfl⟩ ?_ rfl
  conv => whnf
  obtain ⟨y189, e190, h⟩ := bind_ex h
  refine CallOk.of (laws_big_ct e190) ?_
  conv => whnf
  refine spl (fun g191 => ?_) (fun g191 => ?_)
  · replace h := iteT h g191
    conv => whnf
    refine CutK.norm [0, 1, 23] [] ?_
    conv => whnf
    cases h
    exact Done.of [] [] rfl rfl ⟨⟨rfl, rfl⟩, ⟨rfl, trivial⟩, rfl, trivial⟩
  · replace h := iteF h g191
    conv => whnf
    refine CutK.norm [0, 1, 23] [] ?_
    conv => whnf
    exact CutK.piece (laws_FnOrdinalPowers_p2_ct  h) [] [] ⟨⟨rfl, rfl⟩, ⟨rfl, trivial⟩, rfl, rfl, trivial⟩
end
end Go.Proofs.Try
