/- Printed by program (axgen): pure functions, and that the Go functions compute them. -/
import Derived.Test.YtmihoieaiojbhaaPY1
set_option linter.unusedVariables false
set_option linter.unusedSimpArgs false
namespace Go.Proofs.Try
open Go Go.AX
noncomputable section
def spec_l1Cur_easy_p3 (o186 : Rw) (o187 : Int) (o188 : Int) (o189 : Rw) : Option (Rw × Rw × Int × Int) :=
  some (o189, o186, o187, o188)
set_option maxHeartbeats 4000000 in
set_option maxRecDepth 100000 in
theorem spec_l1Cur_easy_p3_ct {o186 : Rw} {o187 : Int} {o188 : Int} {o189 : Rw} {r : Rw × Rw × Int × Int} (h : spec_l1Cur_easy_p3 o186 o187 o188 o189 = some r) : X prog 1 (tlF f55 3) (mk 55 [(4, .ptr 256 0), (5, .ptr 320 0)] [(0, .box 81 [.d (D.sl o186), .d (D.int .i64 o187), .d (D.int .u64 o188)]), (256, .box 38 [.es]), (320, .box 38 [.d (D.sl o189)])]) (finK prog f55 1 (.agg [.d (D.sl r.1)]) (⟨[(81, [.d (D.sl r.2.1), .d (D.int .i64 r.2.2.1), .d (D.int .u64 r.2.2.2)])], []⟩)) := by
  rw [spec_l1Cur_easy_p3] at h
  conv => whnf
  cases h
  exact Done.of [some 0] [] rfl rfl ⟨⟨rfl, rfl⟩, ⟨rfl, ⟨rfl, rfl, rfl, rfl, trivial⟩, trivial⟩, ⟨rfl, trivial⟩, trivial⟩
def spec_l1Cur_easy_l0 (k : Nat) (rec_spec_l1Cur_easy : Rw → Int → Int → Int → Option (Rw × Rw × Int × Int)) (a4 : Int) (K0 : Rw → Int → Int → Rw → Option (Rw × Rw × Int × Int)) : Nat → Int → Rw → Int → Int → Rw → Option (Rw × Rw × Int × Int)
  | 0, _, _, _, _, _ => none
  | n + 1, v216, v217, v218, v219, v263 => (if (0 : Int) < v216 then ((spec_l1Cur_pick v217 v218 v219 9).bind fun y372 => ((spec_l1Cur_pick y372.2.1 y372.2.2.1 y372.2.2.2 2).bind fun y374 => ((spec_shMake k (IntKind.i64.wrap (y372.1 - 4)) (IntKind.i64.wrap (1 + y374.1))).bind fun y376 => ((spec_suReal y376.1 y376.2).bind fun y378 => (if (0 : Int) < a4 then ((spec_l1Cur_one y374.2.1 y374.2.2.1 y374.2.2.2 3).bind fun y381 => (if y381.1 = true then ((rec_spec_l1Cur_easy y381.2.1 y381.2.2.1 y381.2.2.2 (IntKind.i64.wrap (a4 - 1))).bind fun y384 => ((spec_l1Cur_among y384.2.1 y384.2.2.1 y384.2.2.2 ([[D.int .i64 1], [D.int .i64 1], [D.int .i64 (-1)], [D.int .i64 2], [D.int .i64 4], [D.int .i64 (-3)], [D.int .i64 9]] : Rw)).bind fun y386 => ((spec_l1Cur_among y386.2.1 y386.2.2.1 y386.2.2.2 ([[D.int .i64 1], [D.int .i64 1], [D.int .i64 1], [D.int .i64 2], [D.int .i64 4]] : Rw)).bind fun y388 => ((spec_shMake k y386.1 y388.1).bind fun y390 => ((spec_suPut k v263 y384.1 y390.1 y390.2).bind fun y392 => (if y392.2 = true then (spec_l1Cur_easy_l0 k rec_spec_l1Cur_easy a4 K0 n (IntKind.i64.wrap (v216 - 1)) y388.2.1 y388.2.2.1 y388.2.2.2 y392.1) else (spec_l1Cur_easy_l0 k rec_spec_l1Cur_easy a4 K0 n (IntKind.i64.wrap (v216 - 1)) y388.2.1 y388.2.2.1 y388.2.2.2 v263))))))) else ((spec_l1Cur_among y381.2.1 y381.2.2.1 y381.2.2.2 ([[D.int .i64 1], [D.int .i64 1], [D.int .i64 (-1)], [D.int .i64 2], [D.int .i64 4], [D.int .i64 (-3)], [D.int .i64 9]] : Rw)).bind fun y395 => ((spec_l1Cur_among y395.2.1 y395.2.2.1 y395.2.2.2 ([[D.int .i64 1], [D.int .i64 1], [D.int .i64 1], [D.int .i64 2], [D.int .i64 4]] : Rw)).bind fun y397 => ((spec_shMake k y395.1 y397.1).bind fun y399 => ((spec_suPut k v263 y378 y399.1 y399.2).bind fun y401 => (if y401.2 = true then (spec_l1Cur_easy_l0 k rec_spec_l1Cur_easy a4 K0 n (IntKind.i64.wrap (v216 - 1)) y397.2.1 y397.2.2.1 y397.2.2.2 y401.1) else (spec_l1Cur_easy_l0 k rec_spec_l1Cur_easy a4 K0 n (IntKind.i64.wrap (v216 - 1)) y397.2.1 y397.2.2.1 y397.2.2.2 v263)))))))) else ((spec_l1Cur_among y374.2.1 y374.2.2.1 y374.2.2.2 ([[D.int .i64 1], [D.int .i64 1], [D.int .i64 (-1)], [D.int .i64 2], [D.int .i64 4], [D.int .i64 (-3)], [D.int .i64 9]] : Rw)).bind fun y404 => ((spec_l1Cur_among y404.2.1 y404.2.2.1 y404.2.2.2 ([[D.int .i64 1], [D.int .i64 1], [D.int .i64 1], [D.int .i64 2], [D.int .i64 4]] : Rw)).bind fun y406 => ((spec_shMake k y404.1 y406.1).bind fun y408 => ((spec_suPut k v263 y378 y408.1 y408.2).bind fun y410 => (if y410.2 = true then (spec_l1Cur_easy_l0 k rec_spec_l1Cur_easy a4 K0 n (IntKind.i64.wrap (v216 - 1)) y406.2.1 y406.2.2.1 y406.2.2.2 y410.1) else (spec_l1Cur_easy_l0 k rec_spec_l1Cur_easy a4 K0 n (IntKind.i64.wrap (v216 - 1)) y406.2.1 y406.2.2.1 y406.2.2.2 v263))))))))))) else (K0 v217 v218 v219 v263))
set_option maxHeartbeats 4000000 in
set_option maxRecDepth 100000 in
theorem spec_l1Cur_easy_l0_ct {k : Nat} {rec_spec_l1Cur_easy : Rw → Int → Int → Int → Option (Rw × Rw × Int × Int)} {a4 : Int} {K0 : Rw → Int → Int → Rw → Option (Rw × Rw × Int × Int)} (hrec_spec_l1Cur_easy : ∀ (a1 : Rw) (a2 : Int) (a3 : Int) (a4 : Int) (r : Rw × Rw × Int × Int), rec_spec_l1Cur_easy a1 a2 a3 a4 = some r → Ct prog 55 [.ptr 0 0, .d (D.int .i64 a4)] (⟨[(81, [.d (D.sl a1), .d (D.int .i64 a2), .d (D.int .u64 a3)])], []⟩) (.agg [.d (D.sl r.1)]) (⟨[(81, [.d (D.sl r.2.1), .d (D.int .i64 r.2.2.1), .d (D.int .u64 r.2.2.2)])], []⟩)) {r : Rw × Rw × Int × Int} : ∀ (n : Nat) (v216 : Int) (v217 : Rw) (v218 : Int) (v219 : Int) (v263 : Rw), spec_l1Cur_easy_l0 k rec_spec_l1Cur_easy a4 K0 n v216 v217 v218 v219 v263 = some r → LoopOk prog 1 (lp f55 0) (mk 55 [(0, .ptr 0 0), (1, .d (D.int .i64 a4)), (4, .ptr 256 0), (5, .ptr 320 0), (6, .d (D.int .i64 v216))] [(0, .box 81 [.d (D.sl v217), .d (D.int .i64 v218), .d (D.int .u64 v219)]), (256, .box 38 [.es]), (320, .box 38 [.d (D.sl v263)])]) (LoopEnd prog f55 1 55 (.agg [.d (D.sl r.1)]) (⟨[(81, [.d (D.sl r.2.1), .d (D.int .i64 r.2.2.1), .d (D.int .u64 r.2.2.2)])], []⟩) (fun i ts os => (i = 0 ∧ ∃ v282 : Rw, ∃ v283 : Int, ∃ v284 : Int, ∃ v328 : Rw, K0 v282 v283 v284 v328 = some r ∧ ts = [(4, .ptr 256 0), (5, .ptr 320 0)] ∧ os = [(0, .box 81 [.d (D.sl v282), .d (D.int .i64 v283), .d (D.int .u64 v284)]), (256, .box 38 [.es]), (320, .box 38 [.d (D.sl v328)])])))
  | 0, _, _, _, _, _, h => by
      rw [spec_l1Cur_easy_l0] at h; cases h
  | n + 1, v216, v217, v218, v219, v263, h => by
      rw [spec_l1Cur_easy_l0] at h
      refine LoopOk.step ?_
      conv => whnf
      refine splD (fun g371 => ?_) (fun g371 => ?_)
      · replace h := iteP h g371
        conv => whnf
        refine Pick.no ?_
        conv => whnf
        obtain ⟨y372, e373, h⟩ := bind_ex h
        refine CallOk.of (spec_l1Cur_pick_ct e373) ?_
        conv => whnf
        refine Pick.no ?_
        conv => whnf
        obtain ⟨y374, e375, h⟩ := bind_ex h
        refine CallOk.of (spec_l1Cur_pick_ct e375) ?_
        conv => whnf
        refine Pick.no ?_
        conv => whnf
        obtain ⟨y376, e377, h⟩ := bind_ex h
        refine CallOk.of (spec_shMake_ct e377) ?_
        conv => whnf
        refine Pick.no ?_
        conv => whnf
        obtain ⟨y378, e379, h⟩ := bind_ex h
        refine CallOk.of (spec_suReal_ct e379) ?_
        conv => whnf
        refine CutK.norm [0, 1, 4, 5, 6, 7] [0, 256, 320, 448, 1664] ?_
        conv => whnf
        refine splD (fun g380 => ?_) (fun g380 => ?_)
        · replace h := iteP h g380
          conv => whnf
          refine Pick.no ?_
          conv => whnf
          obtain ⟨y381, e382, h⟩ := bind_ex h
          refine CallOk.of (spec_l1Cur_one_ct e382) ?_
          conv => whnf
          refine spl (fun g383 => ?_) (fun g383 => ?_)
          · replace h := iteT h g383
            conv => whnf
            refine CutK.norm [0, 1, 4, 5, 6, 7, 32] [0, 256, 320, 448, 1664] ?_
            conv => whnf
            refine Pick.no ?_
            conv => whnf
            obtain ⟨y384, e385, h⟩ := bind_ex h
            refine CallOk.of (hrec_spec_l1Cur_easy _ _ _ _ _ e385) ?_
            conv => whnf
            refine CutK.norm [0, 1, 4, 5, 6, 7] [0, 256, 320, 448] ?_
            conv => whnf
            refine Pick.no ?_
            conv => whnf
            refine Take.all (by first | rfl | exact List.length_append.symm | (simp; done) | omega) ?_
            conv => whnf
            obtain ⟨y386, e387, h⟩ := bind_ex h
            refine CallOk.of (spec_l1Cur_among_ct e387) ?_
            conv => whnf
            refine Pick.no ?_
            conv => whnf
            refine Take.all (by first | rfl | exact List.length_append.symm | (simp; done) | omega) ?_
            conv => whnf
            obtain ⟨y388, e389, h⟩ := bind_ex h
            refine CallOk.of (spec_l1Cur_among_ct e389) ?_
            conv => whnf
            refine Pick.no ?_
            conv => whnf
            obtain ⟨y390, e391, h⟩ := bind_ex h
            refine CallOk.of (spec_shMake_ct e391) ?_
            conv => whnf
            refine CutK.norm [0, 1, 4, 5, 6, 7, 8] [0, 256, 320, 448, 512] ?_
            conv => whnf
            refine Pick.no ?_
            conv => whnf
            obtain ⟨y392, e393, h⟩ := bind_ex h
            refine CallOk.of (spec_suPut_ct e393) ?_
            conv => whnf
            refine spl (fun g394 => ?_) (fun g394 => ?_)
            · replace h := iteT h g394
              conv => whnf
              refine CutK.norm [0, 1, 4, 5, 6, 9, 10] [0, 256, 320, 576, 3136] ?_
              conv => whnf
              refine CutK.norm [0, 1, 4, 5, 6] [0, 256, 320, 3136] ?_
              conv => whnf
              exact LoopOk.back (spec_l1Cur_easy_l0_ct hrec_spec_l1Cur_easy n _ _ _ _ _ h) [some 0, some 256, some 320] [3136] ⟨⟨rfl, rfl⟩, ⟨rfl, ⟨rfl, rfl, rfl, rfl, trivial⟩, ⟨rfl, trivial, trivial⟩, ⟨rfl, ⟨rfl, Nat.le_of_eq rfl, eq_take rfl⟩, trivial⟩, trivial⟩, ⟨rfl, rfl⟩, rfl, ⟨rfl, rfl⟩, ⟨rfl, rfl⟩, rfl, trivial⟩
            · replace h := iteF h g394
              conv => whnf
              refine CutK.norm [0, 1, 4, 5, 6, 9, 10] [0, 256, 320, 576, 3136] ?_
              conv => whnf
              refine CutK.norm [0, 1, 4, 5, 6] [0, 256, 320] ?_
              conv => whnf
              exact LoopOk.back (spec_l1Cur_easy_l0_ct hrec_spec_l1Cur_easy n _ _ _ _ _ h) [some 0, some 256, some 320] [] ⟨⟨rfl, rfl⟩, ⟨rfl, ⟨rfl, rfl, rfl, rfl, trivial⟩, ⟨rfl, trivial, trivial⟩, ⟨rfl, rfl, trivial⟩, trivial⟩, ⟨rfl, rfl⟩, rfl, ⟨rfl, rfl⟩, ⟨rfl, rfl⟩, rfl, trivial⟩
          · replace h := iteF h g383
            conv => whnf
            refine CutK.norm [0, 1, 4, 5, 6, 7, 32] [0, 256, 320, 448, 1664] ?_
            conv => whnf
            refine CutK.norm [0, 1, 4, 5, 6, 7] [0, 256, 320, 448, 1664] ?_
            conv => whnf
            refine Pick.no ?_
            conv => whnf
            refine Take.all (by first | rfl | exact List.length_append.symm | (simp; done) | omega) ?_
            conv => whnf
            obtain ⟨y395, e396, h⟩ := bind_ex h
            refine CallOk.of (spec_l1Cur_among_ct e396) ?_
            conv => whnf
            refine Pick.no ?_
            conv => whnf
            refine Take.all (by first | rfl | exact List.length_append.symm | (simp; done) | omega) ?_
            conv => whnf
            obtain ⟨y397, e398, h⟩ := bind_ex h
            refine CallOk.of (spec_l1Cur_among_ct e398) ?_
            conv => whnf
            refine Pick.no ?_
            conv => whnf
            obtain ⟨y399, e400, h⟩ := bind_ex h
            refine CallOk.of (spec_shMake_ct e400) ?_
            conv => whnf
            refine CutK.norm [0, 1, 4, 5, 6, 7, 8] [0, 256, 320, 448, 512, 1664] ?_
            conv => whnf
            refine Pick.no ?_
            conv => whnf
            refine Take.all (rfl) ?_
            conv => whnf
            obtain ⟨y401, e402, h⟩ := bind_ex h
            refine CallOk.of (spec_suPut_ct e402) ?_
            conv => whnf
            refine spl (fun g403 => ?_) (fun g403 => ?_)
            · replace h := iteT h g403
              conv => whnf
              refine CutK.norm [0, 1, 4, 5, 6, 9, 10] [0, 256, 320, 576, 3136] ?_
              conv => whnf
              refine CutK.norm [0, 1, 4, 5, 6] [0, 256, 320, 3136] ?_
              conv => whnf
              exact LoopOk.back (spec_l1Cur_easy_l0_ct hrec_spec_l1Cur_easy n _ _ _ _ _ h) [some 0, some 256, some 320] [3136] ⟨⟨rfl, rfl⟩, ⟨rfl, ⟨rfl, rfl, rfl, rfl, trivial⟩, ⟨rfl, trivial, trivial⟩, ⟨rfl, ⟨rfl, Nat.le_of_eq rfl, eq_take rfl⟩, trivial⟩, trivial⟩, ⟨rfl, rfl⟩, rfl, ⟨rfl, rfl⟩, ⟨rfl, rfl⟩, rfl, trivial⟩
            · replace h := iteF h g403
              conv => whnf
              refine CutK.norm [0, 1, 4, 5, 6, 9, 10] [0, 256, 320, 576, 3136] ?_
              conv => whnf
              refine CutK.norm [0, 1, 4, 5, 6] [0, 256, 320] ?_
              conv => whnf
              exact LoopOk.back (spec_l1Cur_easy_l0_ct hrec_spec_l1Cur_easy n _ _ _ _ _ h) [some 0, some 256, some 320] [] ⟨⟨rfl, rfl⟩, ⟨rfl, ⟨rfl, rfl, rfl, rfl, trivial⟩, ⟨rfl, trivial, trivial⟩, ⟨rfl, rfl, trivial⟩, trivial⟩, ⟨rfl, rfl⟩, rfl, ⟨rfl, rfl⟩, ⟨rfl, rfl⟩, rfl, trivial⟩
        · replace h := iteN h g380
          conv => whnf
          refine CutK.norm [0, 1, 4, 5, 6, 7, 32] [0, 256, 320, 448, 1664] ?_
          conv => whnf
          refine CutK.norm [0, 1, 4, 5, 6, 7] [0, 256, 320, 448, 1664] ?_
          conv => whnf
          refine Pick.no ?_
          conv => whnf
          refine Take.all (by first | rfl | exact List.length_append.symm | (simp; done) | omega) ?_
          conv => whnf
          obtain ⟨y404, e405, h⟩ := bind_ex h
          refine CallOk.of (spec_l1Cur_among_ct e405) ?_
          conv => whnf
          refine Pick.no ?_
          conv => whnf
          refine Take.all (by first | rfl | exact List.length_append.symm | (simp; done) | omega) ?_
          conv => whnf
          obtain ⟨y406, e407, h⟩ := bind_ex h
          refine CallOk.of (spec_l1Cur_among_ct e407) ?_
          conv => whnf
          refine Pick.no ?_
          conv => whnf
          obtain ⟨y408, e409, h⟩ := bind_ex h
          refine CallOk.of (spec_shMake_ct e409) ?_
          conv => whnf
          refine CutK.norm [0, 1, 4, 5, 6, 7, 8] [0, 256, 320, 448, 512, 1664] ?_
          conv => whnf
          refine Pick.no ?_
          conv => whnf
          refine Take.all (rfl) ?_
          conv => whnf
          obtain ⟨y410, e411, h⟩ := bind_ex h
          refine CallOk.of (spec_suPut_ct e411) ?_
          conv => whnf
          refine spl (fun g412 => ?_) (fun g412 => ?_)
          · replace h := iteT h g412
            conv => whnf
            refine CutK.norm [0, 1, 4, 5, 6, 9, 10] [0, 256, 320, 576, 3136] ?_
            conv => whnf
            refine CutK.norm [0, 1, 4, 5, 6] [0, 256, 320, 3136] ?_
            conv => whnf
            exact LoopOk.back (spec_l1Cur_easy_l0_ct hrec_spec_l1Cur_easy n _ _ _ _ _ h) [some 0, some 256, some 320] [3136] ⟨⟨rfl, rfl⟩, ⟨rfl, ⟨rfl, rfl, rfl, rfl, trivial⟩, ⟨rfl, trivial, trivial⟩, ⟨rfl, ⟨rfl, Nat.le_of_eq rfl, eq_take rfl⟩, trivial⟩, trivial⟩, ⟨rfl, rfl⟩, rfl, ⟨rfl, rfl⟩, ⟨rfl, rfl⟩, rfl, trivial⟩
          · replace h := iteF h g412
            conv => whnf
            refine CutK.norm [0, 1, 4, 5, 6, 9, 10] [0, 256, 320, 576, 3136] ?_
            conv => whnf
            refine CutK.norm [0, 1, 4, 5, 6] [0, 256, 320] ?_
            conv => whnf
            exact LoopOk.back (spec_l1Cur_easy_l0_ct hrec_spec_l1Cur_easy n _ _ _ _ _ h) [some 0, some 256, some 320] [] ⟨⟨rfl, rfl⟩, ⟨rfl, ⟨rfl, rfl, rfl, rfl, trivial⟩, ⟨rfl, trivial, trivial⟩, ⟨rfl, rfl, trivial⟩, trivial⟩, ⟨rfl, rfl⟩, rfl, ⟨rfl, rfl⟩, ⟨rfl, rfl⟩, rfl, trivial⟩
      · replace h := iteN h g371
        conv => whnf
        exact ⟨_, _, [some 0, some 256, some 320], [], ⟨rfl, _, _, _, _, h, rfl, rfl⟩, ⟨⟨rfl, rfl⟩, ⟨rfl, ⟨rfl, rfl, rfl, rfl, trivial⟩, ⟨rfl, trivial, trivial⟩, ⟨rfl, rfl, trivial⟩, trivial⟩, ⟨rfl, rfl⟩, ⟨rfl, rfl⟩, trivial⟩⟩
def spec_l1Cur_easy_b (k : Nat) (rec_spec_l1Cur_easy : Rw → Int → Int → Int → Option (Rw × Rw × Int × Int)) (a1 : Rw) (a2 : Int) (a3 : Int) (a4 : Int) : Option (Rw × Rw × Int × Int) :=
  ((spec_l1Cur_among a1 a2 a3 ([[D.int .i64 1], [D.int .i64 1], [D.int .i64 2], [D.int .i64 2], [D.int .i64 3]] : Rw)).bind fun y190 => (spec_l1Cur_easy_l0 k rec_spec_l1Cur_easy a4 (fun (v282 : Rw) (v283 : Int) (v284 : Int) (v328 : Rw) => (spec_l1Cur_easy_p3 v282 v283 v284 v328)) k y190.1 y190.2.1 y190.2.2.1 y190.2.2.2 ([] : Rw)))
set_option maxHeartbeats 4000000 in
set_option maxRecDepth 100000 in
theorem spec_l1Cur_easy_b_ct {k : Nat} {rec_spec_l1Cur_easy : Rw → Int → Int → Int → Option (Rw × Rw × Int × Int)} (hrec_spec_l1Cur_easy : ∀ (a1 : Rw) (a2 : Int) (a3 : Int) (a4 : Int) (r : Rw × Rw × Int × Int), rec_spec_l1Cur_easy a1 a2 a3 a4 = some r → Ct prog 55 [.ptr 0 0, .d (D.int .i64 a4)] (⟨[(81, [.d (D.sl a1), .d (D.int .i64 a2), .d (D.int .u64 a3)])], []⟩) (.agg [.d (D.sl r.1)]) (⟨[(81, [.d (D.sl r.2.1), .d (D.int .i64 r.2.2.1), .d (D.int .u64 r.2.2.2)])], []⟩)) {a1 : Rw} {a2 : Int} {a3 : Int} {a4 : Int} {r : Rw × Rw × Int × Int} (h : spec_l1Cur_easy_b k rec_spec_l1Cur_easy a1 a2 a3 a4 = some r) : Ct prog 55 [.ptr 0 0, .d (D.int .i64 a4)] (⟨[(81, [.d (D.sl a1), .d (D.int .i64 a2), .d (D.int .u64 a3)])], []⟩) (.agg [.d (D.sl r.1)]) (⟨[(81, [.d (D.sl r.2.1), .d (D.int .i64 r.2.2.1), .d (D.int .u64 r.2.2.2)])], []⟩) := by
  rw [spec_l1Cur_easy_b] at h
  refine Ct.of (c := _) mixed func55 ⟨rfl, rfl, rfl⟩ ?_ rfl
  conv => whnf
  refine Pick.no ?_
  conv => whnf
  refine Take.all (by first | rfl | exact List.length_append.symm | (simp; done) | omega) ?_
  conv => whnf
  obtain ⟨y190, e191, h⟩ := bind_ex h
  refine CallOk.of (spec_l1Cur_among_ct e191) ?_
  conv => whnf
  refine CutK.norm [0, 1, 4, 5, 6] [0, 256, 320] ?_
  conv => whnf
  refine LoopOk.into (spec_l1Cur_easy_l0_ct hrec_spec_l1Cur_easy _ _ _ _ _ _ h) [some 0, some 256, some 320] [] ⟨⟨rfl, rfl⟩, ⟨rfl, ⟨rfl, rfl, rfl, rfl, trivial⟩, ⟨rfl, trivial, trivial⟩, ⟨rfl, rfl, trivial⟩, trivial⟩, ⟨rfl, rfl⟩, rfl, ⟨rfl, rfl⟩, ⟨rfl, rfl⟩, rfl, trivial⟩ ?_ (fun _ hs => hs)
  rintro i ts os ⟨rfl, v282, v283, v284, v328, h, rfl, rfl⟩
  conv => whnf
  exact CutK.piece (spec_l1Cur_easy_p3_ct  h) [some 0, some 256, some 320] [] ⟨⟨rfl, rfl⟩, ⟨rfl, ⟨rfl, rfl, rfl, rfl, trivial⟩, ⟨rfl, trivial, trivial⟩, ⟨rfl, rfl, trivial⟩, trivial⟩, ⟨rfl, rfl⟩, ⟨rfl, rfl⟩, trivial⟩
def spec_l1Cur_easy : Nat → Rw → Int → Int → Int → Option (Rw × Rw × Int × Int)
  | 0, _, _, _, _ => none
  | k + 1, a1, a2, a3, a4 => spec_l1Cur_easy_b k (spec_l1Cur_easy k) a1 a2 a3 a4
theorem spec_l1Cur_easy_ct' : ∀ (k : Nat) (a1 : Rw) (a2 : Int) (a3 : Int) (a4 : Int) (r : Rw × Rw × Int × Int), spec_l1Cur_easy k a1 a2 a3 a4 = some r → Ct prog 55 [.ptr 0 0, .d (D.int .i64 a4)] (⟨[(81, [.d (D.sl a1), .d (D.int .i64 a2), .d (D.int .u64 a3)])], []⟩) (.agg [.d (D.sl r.1)]) (⟨[(81, [.d (D.sl r.2.1), .d (D.int .i64 r.2.2.1), .d (D.int .u64 r.2.2.2)])], []⟩)
  | 0, _, _, _, _, _, h => by rw [spec_l1Cur_easy] at h; cases h
  | k + 1, _, _, _, _, _, h => by rw [spec_l1Cur_easy] at h; exact spec_l1Cur_easy_b_ct (spec_l1Cur_easy_ct' k) h
theorem spec_l1Cur_easy_ct {k : Nat} {a1 : Rw} {a2 : Int} {a3 : Int} {a4 : Int} {r : Rw × Rw × Int × Int} (h : spec_l1Cur_easy k a1 a2 a3 a4 = some r) : Ct prog 55 [.ptr 0 0, .d (D.int .i64 a4)] (⟨[(81, [.d (D.sl a1), .d (D.int .i64 a2), .d (D.int .u64 a3)])], []⟩) (.agg [.d (D.sl r.1)]) (⟨[(81, [.d (D.sl r.2.1), .d (D.int .i64 r.2.2.1), .d (D.int .u64 r.2.2.2)])], []⟩) := spec_l1Cur_easy_ct' k _ _ _ _ _ h

def spec_DrawPolynomialAt_l0 (k : Nat) (K0 : Rw → Rw → Int → Int → Option (Rw × Rw)) : Nat → Rw → Int → Rw → Int → Int → Option (Rw × Rw)
  | 0, _, _, _, _, _ => none
  | n + 1, v10, v11, v12, v13, v14 => (if (0 : Int) < v11 then ((spec_l1Cur_one v12 v13 v14 30).bind fun y48 => (if y48.1 = true then ((spec_l1Cur_fraction k y48.2.1 y48.2.2.1 y48.2.2.2).bind fun y51 => (if v10.length + 1 ≤ cap then (spec_DrawPolynomialAt_l0 k K0 n (v10 ++ ([[D.int .i64 y51.1, D.int .i64 y51.2.1]])) (IntKind.i64.wrap (v11 - 1)) y51.2.2.1 y51.2.2.2.1 y51.2.2.2.2) else none)) else ((spec_l1Cur_pick y48.2.1 y48.2.2.1 y48.2.2.2 7).bind fun y54 => ((spec_shInt (IntKind.i64.wrap (y54.1 - 3))).bind fun y56 => (if v10.length + 1 ≤ cap then (spec_DrawPolynomialAt_l0 k K0 n (v10 ++ ([[D.int .i64 y56.1, D.int .i64 y56.2]])) (IntKind.i64.wrap (v11 - 1)) y54.2.1 y54.2.2.1 y54.2.2.2) else none))))) else (K0 v10 v12 v13 v14))
set_option maxHeartbeats 4000000 in
set_option maxRecDepth 100000 in
theorem spec_DrawPolynomialAt_l0_ct {k : Nat} {K0 : Rw → Rw → Int → Int → Option (Rw × Rw)} {r : Rw × Rw} : ∀ (n : Nat) (v10 : Rw) (v11 : Int) (v12 : Rw) (v13 : Int) (v14 : Int), spec_DrawPolynomialAt_l0 k K0 n v10 v11 v12 v13 v14 = some r → LoopOk prog 0 (lp f15 0) (mk 34 [(3, .ptr 192 0), (4, .ptr 576 0), (5, .os 64000 v10.length), (6, .d (D.int .i64 v11))] [(192, .box 38 [.es]), (576, .box 81 [.d (D.sl v12), .d (D.int .i64 v13), .d (D.int .u64 v14)]), (64000, .arr 28 true v10)]) (LoopEnd prog f15 0 34 (.tup [.os 8 r.1.length, .agg [.d (D.sl r.2)]]) (⟨[], [(28, true, r.1)]⟩) (fun i ts os => (i = 0 ∧ ∃ v31 : Rw, ∃ v32 : Rw, ∃ v33 : Int, ∃ v34 : Int, K0 v31 v32 v33 v34 = some r ∧ ts = [(3, .ptr 192 0), (4, .ptr 576 0), (5, .os 67001 v31.length)] ∧ os = [(192, .box 38 [.es]), (576, .box 81 [.d (D.sl v32), .d (D.int .i64 v33), .d (D.int .u64 v34)]), (67001, .arr 28 true v31)])))
  | 0, _, _, _, _, _, h => by
      rw [spec_DrawPolynomialAt_l0] at h; cases h
  | n + 1, v10, v11, v12, v13, v14, h => by
      rw [spec_DrawPolynomialAt_l0] at h
      refine LoopOk.step ?_
      conv => whnf
      refine splD (fun g47 => ?_) (fun g47 => ?_)
      · replace h := iteP h g47
        conv => whnf
        refine Pick.no ?_
        conv => whnf
        obtain ⟨y48, e49, h⟩ := bind_ex h
        refine CallOk.of (spec_l1Cur_one_ct e49) ?_
        conv => whnf
        refine spl (fun g50 => ?_) (fun g50 => ?_)
        · replace h := iteT h g50
          conv => whnf
          refine CutK.norm [3, 4, 5, 6, 18] [192, 576, 64000] ?_
          conv => whnf
          refine Pick.no ?_
          conv => whnf
          obtain ⟨y51, e52, h⟩ := bind_ex h
          refine CallOk.of (spec_l1Cur_fraction_ct e52) ?_
          conv => whnf
          refine Take.all (rfl) ?_
          conv => whnf
          refine Take.all (by first | rfl | exact List.length_append.symm | (simp; done) | omega) ?_
          conv => whnf
          obtain ⟨g53, h⟩ := req_ex h
          refine Req.of (room (b := 16) (by decide) g53 (wide1 rfl wide0)) ?_
          conv => whnf
          refine CutK.norm [3, 4, 5, 6] [192, 576, 1472] ?_
          conv => whnf
          exact LoopOk.back (spec_DrawPolynomialAt_l0_ct  n _ _ _ _ _ h) [some 192, some 576, some 1472] [] ⟨⟨rfl, rfl⟩, ⟨rfl, ⟨rfl, trivial, trivial⟩, ⟨rfl, rfl, rfl, rfl, trivial⟩, ⟨rfl, rfl, rows_same⟩, trivial⟩, ⟨rfl, rfl⟩, ⟨rfl, rfl⟩, ⟨(by first | rfl | exact List.length_append.symm | (simp; done) | omega), rfl⟩, rfl, trivial⟩
        · replace h := iteF h g50
          conv => whnf
          refine CutK.norm [3, 4, 5, 6, 18] [192, 576, 64000] ?_
          conv => whnf
          refine Pick.no ?_
          conv => whnf
          obtain ⟨y54, e55, h⟩ := bind_ex h
          refine CallOk.of (spec_l1Cur_pick_ct e55) ?_
          conv => whnf
          refine Pick.no ?_
          conv => whnf
          obtain ⟨y56, e57, h⟩ := bind_ex h
          refine CallOk.of (spec_shInt_ct e57) ?_
          conv => whnf
          refine Take.all (rfl) ?_
          conv => whnf
          refine Take.all (by first | rfl | exact List.length_append.symm | (simp; done) | omega) ?_
          conv => whnf
          obtain ⟨g58, h⟩ := req_ex h
          refine Req.of (room (b := 16) (by decide) g58 (wide1 rfl wide0)) ?_
          conv => whnf
          refine CutK.norm [3, 4, 5, 6] [192, 576, 1920] ?_
          conv => whnf
          exact LoopOk.back (spec_DrawPolynomialAt_l0_ct  n _ _ _ _ _ h) [some 192, some 576, some 1920] [] ⟨⟨rfl, rfl⟩, ⟨rfl, ⟨rfl, trivial, trivial⟩, ⟨rfl, rfl, rfl, rfl, trivial⟩, ⟨rfl, rfl, rows_same⟩, trivial⟩, ⟨rfl, rfl⟩, ⟨rfl, rfl⟩, ⟨(by first | rfl | exact List.length_append.symm | (simp; done) | omega), rfl⟩, rfl, trivial⟩
      · replace h := iteN h g47
        conv => whnf
        exact ⟨_, _, [some 192, some 576, some 64000], [], ⟨rfl, _, _, _, _, h, rfl, rfl⟩, ⟨⟨rfl, rfl⟩, ⟨rfl, ⟨rfl, trivial, trivial⟩, ⟨rfl, rfl, rfl, rfl, trivial⟩, ⟨rfl, rfl, rows_same⟩, trivial⟩, ⟨rfl, rfl⟩, ⟨rfl, rfl⟩, ⟨rfl, rfl⟩, trivial⟩⟩
def spec_DrawPolynomialAt (k : Nat) (a1 : Rw) : Option (Rw × Rw) :=
  ((spec_l1Cur_among a1 0 0 ([[D.int .i64 0], [D.int .i64 1], [D.int .i64 2], [D.int .i64 3], [D.int .i64 4], [D.int .i64 12], [D.int .i64 13]] : Rw)).bind fun y2 => (spec_DrawPolynomialAt_l0 k (fun (v31 : Rw) (v32 : Rw) (v33 : Int) (v34 : Int) => ((spec_l1Cur_easy k v32 v33 v34 1).bind fun y59 => some (v31, y59.1))) k ([] : Rw) y2.1 y2.2.1 y2.2.2.1 y2.2.2.2))
set_option maxHeartbeats 4000000 in
set_option maxRecDepth 100000 in
theorem spec_DrawPolynomialAt_ct {k : Nat} {a1 : Rw} {r : Rw × Rw} (h : spec_DrawPolynomialAt k a1 = some r) : Ct prog 15 [.d (D.sl a1)] (⟨[], []⟩) (.tup [.os 8 r.1.length, .agg [.d (D.sl r.2)]]) (⟨[], [(28, true, r.1)]⟩) := by
  rw [spec_DrawPolynomialAt] at h
  refine Ct.of (c := _) mixed func15 ⟨rfl, rfl, rfl⟩ ?_ rfl
  conv => whnf
  refine Pick.no ?_
  conv => whnf
  refine Take.all (by first | rfl | exact List.length_append.symm | (simp; done) | omega) ?_
  conv => whnf
  obtain ⟨y2, e3, h⟩ := bind_ex h
  refine CallOk.of (spec_l1Cur_among_ct e3) ?_
  conv => whnf
  refine CutK.norm [3, 4, 5, 6] [192, 576] ?_
  conv => whnf
  refine LoopOk.into (spec_DrawPolynomialAt_l0_ct  _ _ _ _ _ _ h) [some 192, some 576, none] [] ⟨⟨rfl, rfl⟩, ⟨rfl, ⟨rfl, trivial, trivial⟩, ⟨rfl, rfl, rfl, rfl, trivial⟩, rfl, trivial⟩, ⟨rfl, rfl⟩, ⟨rfl, rfl⟩, ⟨rfl, rfl⟩, rfl, trivial⟩ ?_ (fun _ hs => hs)
  rintro i ts os ⟨rfl, v31, v32, v33, v34, h, rfl, rfl⟩
  conv => whnf
  refine CutK.norm [3, 4, 5] [192, 576, 67001] ?_
  conv => whnf
  refine Pick.no ?_
  conv => whnf
  obtain ⟨y59, e60, h⟩ := bind_ex h
  refine CallOk.of (spec_l1Cur_easy_ct e60) ?_
  conv => whnf
  refine CutK.norm [2, 3] [192, 67001] ?_
  conv => whnf
  cases h
  exact Done.of [some 67001] [] rfl rfl ⟨⟨rfl, rfl⟩, ⟨rfl, ⟨rfl, rfl, rows_same⟩, trivial⟩, ⟨⟨rfl, rfl⟩, ⟨rfl, trivial⟩, trivial⟩, trivial⟩

def laws_big  (a1 : Rw) (a2 : Rw) : Option Bool :=
  (if (1048576 : Int) < (a1.length : Int) then some true else (if (IntKind.i64.wrap (1048576 - (a1.length : Int))) < (a2.length : Int) then some true else some false))
set_option maxHeartbeats 4000000 in
set_option maxRecDepth 100000 in
theorem laws_big_ct  {a1 : Rw} {a2 : Rw} {r : Bool} (h : laws_big a1 a2 = some r) : Ct prog 7 [.d (D.sl a1), .d (D.sl a2)] (⟨[], []⟩) (.d (D.bool r)) (⟨[], []⟩) := by
  rw [laws_big] at h
  refine Ct.of (c := _) mixed func7 ⟨rfl, rfl, rfl⟩ ?_ rfl
  conv => whnf
  refine splD (fun g3 => ?_) (fun g3 => ?_)
  · replace h := iteP h g3
    conv => whnf
    cases h
    exact Done.of [] [] rfl rfl ⟨⟨rfl, rfl⟩, ⟨rfl, trivial⟩, rfl, trivial⟩
  · replace h := iteN h g3
    conv => whnf
    refine splD (fun g4 => ?_) (fun g4 => ?_)
    · replace h := iteP h g4
      conv => whnf
      cases h
      exact Done.of [] [] rfl rfl ⟨⟨rfl, rfl⟩, ⟨rfl, trivial⟩, rfl, trivial⟩
    · replace h := iteN h g4
      conv => whnf
      cases h
      exact Done.of [] [] rfl rfl ⟨⟨rfl, rfl⟩, ⟨rfl, trivial⟩, rfl, trivial⟩

def laws_FnPolynomials_p10 (v125 : Bool) : Option Bool :=
  (cond v125 (some true) (some false))
set_option maxHeartbeats 4000000 in
set_option maxRecDepth 100000 in
theorem laws_FnPolynomials_p10_ct {v125 : Bool} {r : Bool} (h : laws_FnPolynomials_p10 v125 = some r) : X prog 0 (tlF f4 10) (mk 92 [(4, .d (D.bool v125))] []) (finK prog f4 0 (.d (D.bool r)) (⟨[], []⟩)) := by
  rw [laws_FnPolynomials_p10] at h
  cases v125
  · replace h := condF h
    conv => whnf
    cases h
    exact Done.of [] [] rfl rfl ⟨⟨rfl, rfl⟩, ⟨rfl, trivial⟩, rfl, trivial⟩
  · replace h := condT h
    conv => whnf
    cases h
    exact Done.of [] [] rfl rfl ⟨⟨rfl, rfl⟩, ⟨rfl, trivial⟩, rfl, trivial⟩
def laws_FnPolynomials_p9 (k : Nat) (o120 : Rw) (o121 : Rw) : Option Bool :=
  ((laws_sameSurreal k o121 o120).bind fun y126 => (if y126 = true then (laws_FnPolynomials_p10 true) else (laws_FnPolynomials_p10 false)))
set_option maxHeartbeats 4000000 in
set_option maxRecDepth 100000 in
theorem laws_FnPolynomials_p9_ct {k : Nat} {o120 : Rw} {o121 : Rw} {r : Bool} (h : laws_FnPolynomials_p9 k o120 o121 = some r) : X prog 0 (tlF f4 9) (mk 92 [(7, .ptr 448 0), (11, .ptr 704 0)] [(448, .box 38 [.os 1109000 o120.length]), (704, .box 38 [.os 1109001 o121.length]), (1109000, .arr 109 true o120), (1109001, .arr 109 true o121)]) (finK prog f4 0 (.d (D.bool r)) (⟨[], []⟩)) := by
  rw [laws_FnPolynomials_p9] at h
  conv => whnf
  refine Pick.no ?_
  conv => whnf
  refine Take.all (rfl) ?_
  conv => whnf
  refine Take.all (rfl) ?_
  conv => whnf
  obtain ⟨y126, e127, h⟩ := bind_ex h
  refine CallOk.of (laws_sameSurreal_ct e127) ?_
  conv => whnf
  refine spl (fun g128 => ?_) (fun g128 => ?_)
  · replace h := iteT h g128
    conv => whnf
    exact CutK.piece (laws_FnPolynomials_p10_ct  h) [] [] ⟨⟨rfl, rfl⟩, ⟨rfl, trivial⟩, rfl, trivial⟩
  · replace h := iteF h g128
    conv => whnf
    exact CutK.piece (laws_FnPolynomials_p10_ct  h) [] [] ⟨⟨rfl, rfl⟩, ⟨rfl, trivial⟩, rfl, trivial⟩
def laws_FnPolynomials_l0 (k : Nat) (o32 : Rw) (o33 : Rw) (o34 : Rw) (K0 : Rw → Option Bool) : Rw → Nat → Rw → Option Bool
  | [], v143n, v144 => (K0 v144)
  | cs :: rest, v143n, v144 => (cell_ii cs fun x210 x211 => ((impl_PowerOfSurreal k o33 (v143n : Int)).bind fun y213 => (if y213.2 = true then ((impl_ScaleSurreal k y213.1 x210 x211).bind fun y216 => (if y216.2 = true then ((impl_AddSurreals k v144 y216.1).bind fun y219 => (if y219.2 = true then (laws_FnPolynomials_l0 k o32 o33 o34 K0 rest (v143n + 1) y219.1) else some true)) else ((impl_AddSurreals k v144 y216.1).bind fun y222 => (if y222.2 = true then some true else some true)))) else ((impl_ScaleSurreal k y213.1 x210 x211).bind fun y225 => (if y225.2 = true then ((impl_AddSurreals k v144 y225.1).bind fun y228 => (if y228.2 = true then some true else some true)) else ((impl_AddSurreals k v144 y225.1).bind fun y231 => (if y231.2 = true then some true else some true)))))))
set_option maxHeartbeats 4000000 in
set_option maxRecDepth 100000 in
theorem laws_FnPolynomials_l0_ct {k : Nat} {o32 : Rw} {o33 : Rw} {o34 : Rw} {K0 : Rw → Option Bool} {r : Bool} (hx : o32.length ≤ cap) : ∀ (rest : Rw) (v143n : Nat) (v144 : Rw), o32.drop v143n = rest → laws_FnPolynomials_l0 k o32 o33 o34 K0 rest v143n v144 = some r → LoopOk prog 0 (lp f4 0) (mk 92 [(6, .ptr 384 0), (7, .ptr 448 0), (11, .ptr 704 0), (52, .d (D.sl o32)), (53, .d (D.int .i64 (o32.length : Int))), (54, .d (D.int .i64 (v143n : Int)))] [(384, .box 38 [.d (D.sl o33)]), (448, .box 38 [.os 64000 o34.length]), (704, .box 38 [.os 64001 v144.length]), (64000, .arr 109 true o34), (64001, .arr 109 true v144)]) (LoopEnd prog f4 0 92 (.d (D.bool r)) (⟨[], []⟩) (fun i ts os => (i = 0 ∧ ∃ v183 : Rw, K0 v183 = some r ∧ ts = [(7, .ptr 448 0), (11, .ptr 704 0)] ∧ os = [(448, .box 38 [.os 67002 o34.length]), (704, .box 38 [.os 67003 v183.length]), (67002, .arr 109 true o34), (67003, .arr 109 true v183)])))
  | [], v143n, v144, hd, h => by
      rw [laws_FnPolynomials_l0] at h
      have hn := drop_nil hd
      refine LoopOk.step ?_
      conv => whnf
      refine splD (fun g => absurd g hn) (fun _ => ?_)
      conv => whnf
      exact ⟨_, _, [some 448, some 704, some 64000, some 64001], [], ⟨rfl, _, h, rfl, rfl⟩, ⟨⟨rfl, rfl⟩, ⟨rfl, ⟨rfl, ⟨rfl, rfl⟩, trivial⟩, ⟨rfl, ⟨rfl, rfl⟩, trivial⟩, ⟨rfl, rfl, rows_same⟩, ⟨rfl, rfl, rows_same⟩, trivial⟩, ⟨rfl, rfl⟩, ⟨rfl, rfl⟩, trivial⟩⟩
  | cs :: rest, v143n, v144, hd, h => by
      rw [laws_FnPolynomials_l0] at h
      obtain ⟨hrow, hd1, hlt⟩ := drop_cons hd
      refine LoopOk.step ?_
      conv => whnf
      refine splD (fun _ => ?_) (fun g => absurd hlt g)
      conv => whnf
      obtain ⟨x210, x211, e212, h⟩ := cell_ii_ex h
      rw [e212] at hrow
      refine Req.of (Int.natCast_nonneg _) ?_
      refine Row.of _ hrow ?_
      conv => whnf
      refine Pick.no ?_
      conv => whnf
      obtain ⟨y213, e214, h⟩ := bind_ex h
      refine CallOk.of (impl_PowerOfSurreal_ct e214) ?_
      conv => whnf
      refine spl (fun g215 => ?_) (fun g215 => ?_)
      · replace h := iteT h g215
        conv => whnf
        refine CutK.norm [6, 7, 11, 13, 14, 15, 52, 53, 54] [384, 448, 704, 832, 896, 3968, 64000, 64001] ?_
        conv => whnf
        refine Pick.no ?_
        conv => whnf
        refine Take.all (rfl) ?_
        conv => whnf
        obtain ⟨y216, e217, h⟩ := bind_ex h
        refine CallOk.of (impl_ScaleSurreal_ct e217) ?_
        conv => whnf
        refine spl (fun g218 => ?_) (fun g218 => ?_)
        · replace h := iteT h g218
          conv => whnf
          refine CutK.norm [6, 7, 11, 15, 16, 17, 52, 53, 54] [384, 448, 704, 1024, 4352, 64000, 64001] ?_
          conv => whnf
          refine Pick.no ?_
          conv => whnf
          refine Take.all (rfl) ?_
          conv => whnf
          refine Take.all (rfl) ?_
          conv => whnf
          obtain ⟨y219, e220, h⟩ := bind_ex h
          refine CallOk.of (impl_AddSurreals_ct e220) ?_
          conv => whnf
          refine spl (fun g221 => ?_) (fun g221 => ?_)
          · replace h := iteT h g221
            conv => whnf
            refine CutK.norm [6, 7, 11, 15, 17, 18, 19, 52, 53, 54] [384, 448, 704, 1152, 4736, 64000, 64001] ?_
            conv => whnf
            refine CutK.norm [6, 7, 11, 52, 53, 54] [384, 448, 704, 4736, 64000] ?_
            conv => whnf
            exact LoopOk.back (laws_FnPolynomials_l0_ct hx rest (v143n + 1) _ hd1 h) [some 384, some 448, some 704, some 64000, some 4736] [] ⟨⟨rfl, rfl⟩, ⟨rfl, ⟨rfl, rfl, trivial⟩, ⟨rfl, ⟨rfl, rfl⟩, trivial⟩, ⟨rfl, ⟨rfl, rfl⟩, trivial⟩, ⟨rfl, rfl, rows_same⟩, ⟨rfl, rfl, rows_same⟩, trivial⟩, ⟨rfl, rfl⟩, ⟨rfl, rfl⟩, ⟨rfl, rfl⟩, rfl, rfl, i64eq (wrap_up hlt hx), trivial⟩
          · replace h := iteF h g221
            conv => whnf
            refine CutK.norm [6, 7, 11, 15, 17, 18, 19, 52, 53, 54] [384, 448, 704, 1152, 4736, 64000, 64001] ?_
            conv => whnf
            cases h
            exact Done.of [] [] rfl rfl ⟨⟨rfl, rfl⟩, ⟨rfl, trivial⟩, rfl, trivial⟩
        · replace h := iteF h g218
          conv => whnf
          refine CutK.norm [6, 7, 11, 15, 16, 17, 52, 53, 54] [384, 448, 704, 1024, 4352, 64000, 64001] ?_
          conv => whnf
          refine Pick.no ?_
          conv => whnf
          refine Take.all (rfl) ?_
          conv => whnf
          refine Take.all (rfl) ?_
          conv => whnf
          obtain ⟨y222, e223, h⟩ := bind_ex h
          refine CallOk.of (impl_AddSurreals_ct e223) ?_
          conv => whnf
          refine spl (fun g224 => ?_) (fun g224 => ?_)
          · replace h := iteT h g224
            conv => whnf
            refine CutK.norm [6, 7, 11, 15, 17, 18, 19, 52, 53, 54] [384, 448, 704, 1152, 4736, 64000, 64001] ?_
            conv => whnf
            cases h
            exact Done.of [] [] rfl rfl ⟨⟨rfl, rfl⟩, ⟨rfl, trivial⟩, rfl, trivial⟩
          · replace h := iteF h g224
            conv => whnf
            refine CutK.norm [6, 7, 11, 15, 17, 18, 19, 52, 53, 54] [384, 448, 704, 1152, 4736, 64000, 64001] ?_
            conv => whnf
            cases h
            exact Done.of [] [] rfl rfl ⟨⟨rfl, rfl⟩, ⟨rfl, trivial⟩, rfl, trivial⟩
      · replace h := iteF h g215
        conv => whnf
        refine CutK.norm [6, 7, 11, 13, 14, 15, 52, 53, 54] [384, 448, 704, 832, 896, 3968, 64000, 64001] ?_
        conv => whnf
        refine Pick.no ?_
        conv => whnf
        refine Take.all (rfl) ?_
        conv => whnf
        obtain ⟨y225, e226, h⟩ := bind_ex h
        refine CallOk.of (impl_ScaleSurreal_ct e226) ?_
        conv => whnf
        refine spl (fun g227 => ?_) (fun g227 => ?_)
        · replace h := iteT h g227
          conv => whnf
          refine CutK.norm [6, 7, 11, 15, 16, 17, 52, 53, 54] [384, 448, 704, 1024, 4352, 64000, 64001] ?_
          conv => whnf
          refine Pick.no ?_
          conv => whnf
          refine Take.all (rfl) ?_
          conv => whnf
          refine Take.all (rfl) ?_
          conv => whnf
          obtain ⟨y228, e229, h⟩ := bind_ex h
          refine CallOk.of (impl_AddSurreals_ct e229) ?_
          conv => whnf
          refine spl (fun g230 => ?_) (fun g230 => ?_)
          · replace h := iteT h g230
            conv => whnf
            refine CutK.norm [6, 7, 11, 15, 17, 18, 19, 52, 53, 54] [384, 448, 704, 1152, 4736, 64000, 64001] ?_
            conv => whnf
            cases h
            exact Done.of [] [] rfl rfl ⟨⟨rfl, rfl⟩, ⟨rfl, trivial⟩, rfl, trivial⟩
          · replace h := iteF h g230
            conv => whnf
            refine CutK.norm [6, 7, 11, 15, 17, 18, 19, 52, 53, 54] [384, 448, 704, 1152, 4736, 64000, 64001] ?_
            conv => whnf
            cases h
            exact Done.of [] [] rfl rfl ⟨⟨rfl, rfl⟩, ⟨rfl, trivial⟩, rfl, trivial⟩
        · replace h := iteF h g227
          conv => whnf
          refine CutK.norm [6, 7, 11, 15, 16, 17, 52, 53, 54] [384, 448, 704, 1024, 4352, 64000, 64001] ?_
          conv => whnf
          refine Pick.no ?_
          conv => whnf
          refine Take.all (rfl) ?_
          conv => whnf
          refine Take.all (rfl) ?_
          conv => whnf
          obtain ⟨y231, e232, h⟩ := bind_ex h
          refine CallOk.of (impl_AddSurreals_ct e232) ?_
          conv => whnf
          refine spl (fun g233 => ?_) (fun g233 => ?_)
          · replace h := iteT h g233
            conv => whnf
            refine CutK.norm [6, 7, 11, 15, 17, 18, 19, 52, 53, 54] [384, 448, 704, 1152, 4736, 64000, 64001] ?_
            conv => whnf
            cases h
            exact Done.of [] [] rfl rfl ⟨⟨rfl, rfl⟩, ⟨rfl, trivial⟩, rfl, trivial⟩
          · replace h := iteF h g233
            conv => whnf
            refine CutK.norm [6, 7, 11, 15, 17, 18, 19, 52, 53, 54] [384, 448, 704, 1152, 4736, 64000, 64001] ?_
            conv => whnf
            cases h
            exact Done.of [] [] rfl rfl ⟨⟨rfl, rfl⟩, ⟨rfl, trivial⟩, rfl, trivial⟩
def laws_FnPolynomials_p6 (k : Nat) (o32 : Rw) (o33 : Rw) (o34 : Rw) (v38 : Bool) : Option Bool :=
  (cond v38 (if o32.length ≤ cap then (laws_FnPolynomials_l0 k o32 o33 o34 (fun (v183 : Rw) => (laws_FnPolynomials_p9 k o34 v183)) o32 0 ([] : Rw)) else none) (some true))
set_option maxHeartbeats 4000000 in
set_option maxRecDepth 100000 in
theorem laws_FnPolynomials_p6_ct {k : Nat} {o32 : Rw} {o33 : Rw} {o34 : Rw} {v38 : Bool} {r : Bool} (h : laws_FnPolynomials_p6 k o32 o33 o34 v38 = some r) : X prog 0 (tlF f4 6) (mk 92 [(5, .d (D.sl o32)), (6, .ptr 384 0), (7, .ptr 448 0), (8, .d (D.bool v38))] [(384, .box 38 [.d (D.sl o33)]), (448, .box 38 [.os 1094000 o34.length]), (1094000, .arr 109 true o34)]) (finK prog f4 0 (.d (D.bool r)) (⟨[], []⟩)) := by
  rw [laws_FnPolynomials_p6] at h
  cases v38
  · replace h := condF h
    conv => whnf
    cases h
    exact Done.of [] [] rfl rfl ⟨⟨rfl, rfl⟩, ⟨rfl, trivial⟩, rfl, trivial⟩
  · replace h := condT h
    conv => whnf
    obtain ⟨g234, h⟩ := req_ex h
    refine LoopOk.into (laws_FnPolynomials_l0_ct  g234 _ _ _ rfl h) [some 384, some 448, some 704, some 1094000, none] [] ⟨⟨rfl, rfl⟩, ⟨rfl, ⟨rfl, rfl, trivial⟩, ⟨rfl, ⟨rfl, rfl⟩, trivial⟩, ⟨rfl, ⟨rfl, rfl⟩, trivial⟩, ⟨rfl, rfl, rows_same⟩, rfl, trivial⟩, ⟨rfl, rfl⟩, ⟨rfl, rfl⟩, ⟨rfl, rfl⟩, rfl, rfl, rfl, trivial⟩ ?_ (fun _ hs => hs)
    rintro i ts os ⟨rfl, v183, h, rfl, rfl⟩
    conv => whnf
    exact CutK.piece (laws_FnPolynomials_p9_ct  h) [some 448, some 704, some 67002, some 67003] [] ⟨⟨rfl, rfl⟩, ⟨rfl, ⟨rfl, ⟨rfl, rfl⟩, trivial⟩, ⟨rfl, ⟨rfl, rfl⟩, trivial⟩, ⟨rfl, rfl, rows_same⟩, ⟨rfl, rfl, rows_same⟩, trivial⟩, ⟨rfl, rfl⟩, ⟨rfl, rfl⟩, trivial⟩
def laws_FnPolynomials_p5 (k : Nat) (o20 : Rw) (o21 : Rw) (o22 : Rw) (o23 : Rw) (v24 : Bool) (v28 : Bool) : Option Bool :=
  (cond v24 (cond v28 ((laws_sameSurreal k o22 o23).bind fun y238 => (if y238 = true then (laws_FnPolynomials_p6 k o20 o21 o22 true) else some false)) (some false)) (cond v28 (some false) ((laws_sameSurreal k o22 o23).bind fun y235 => (if y235 = true then (laws_FnPolynomials_p6 k o20 o21 o22 false) else some false))))
set_option maxHeartbeats 4000000 in
set_option maxRecDepth 100000 in
theorem laws_FnPolynomials_p5_ct {k : Nat} {o20 : Rw} {o21 : Rw} {o22 : Rw} {o23 : Rw} {v24 : Bool} {v28 : Bool} {r : Bool} (h : laws_FnPolynomials_p5 k o20 o21 o22 o23 v24 v28 = some r) : X prog 0 (tlF f4 5) (mk 92 [(5, .d (D.sl o20)), (6, .ptr 384 0), (7, .ptr 448 0), (8, .d (D.bool v28)), (9, .ptr 576 0), (10, .d (D.bool v24))] [(384, .box 38 [.d (D.sl o21)]), (448, .box 38 [.os 1089000 o22.length]), (576, .box 38 [.d (D.sl o23)]), (1089000, .arr 109 true o22)]) (finK prog f4 0 (.d (D.bool r)) (⟨[], []⟩)) := by
  rw [laws_FnPolynomials_p5] at h
  cases v24
  · replace h := condF h
    cases v28
    · replace h := condF h
      conv => whnf
      refine splF ?_
      conv => whnf
      refine Pick.no ?_
      conv => whnf
      refine Take.all (rfl) ?_
      conv => whnf
      obtain ⟨y235, e236, h⟩ := bind_ex h
      refine CallOk.of (laws_sameSurreal_ct e236) ?_
      conv => whnf
      refine spl (fun g237 => ?_) (fun g237 => ?_)
      · replace h := iteT h g237
        conv => whnf
        refine CutK.norm [5, 6, 7, 8, 48] [384, 448, 1089000] ?_
        conv => whnf
        exact CutK.piece (laws_FnPolynomials_p6_ct  h) [some 384, some 448, some 1089000] [] ⟨⟨rfl, rfl⟩, ⟨rfl, ⟨rfl, rfl, trivial⟩, ⟨rfl, ⟨rfl, rfl⟩, trivial⟩, ⟨rfl, rfl, rows_same⟩, trivial⟩, rfl, ⟨rfl, rfl⟩, ⟨rfl, rfl⟩, rfl, trivial⟩
      · replace h := iteF h g237
        conv => whnf
        refine CutK.norm [5, 6, 7, 8, 48] [384, 448, 1089000] ?_
        conv => whnf
        cases h
        exact Done.of [] [] rfl rfl ⟨⟨rfl, rfl⟩, ⟨rfl, trivial⟩, rfl, trivial⟩
    · replace h := condT h
      conv => whnf
      refine splT ?_
      conv => whnf
      refine CutK.norm [5, 6, 7, 8, 48] [384, 448, 1089000] ?_
      conv => whnf
      cases h
      exact Done.of [] [] rfl rfl ⟨⟨rfl, rfl⟩, ⟨rfl, trivial⟩, rfl, trivial⟩
  · replace h := condT h
    cases v28
    · replace h := condF h
      conv => whnf
      refine splT ?_
      conv => whnf
      refine CutK.norm [5, 6, 7, 8, 48] [384, 448, 1089000] ?_
      conv => whnf
      cases h
      exact Done.of [] [] rfl rfl ⟨⟨rfl, rfl⟩, ⟨rfl, trivial⟩, rfl, trivial⟩
    · replace h := condT h
      conv => whnf
      refine splF ?_
      conv => whnf
      refine Pick.no ?_
      conv => whnf
      refine Take.all (rfl) ?_
      conv => whnf
      obtain ⟨y238, e239, h⟩ := bind_ex h
      refine CallOk.of (laws_sameSurreal_ct e239) ?_
      conv => whnf
      refine spl (fun g240 => ?_) (fun g240 => ?_)
      · replace h := iteT h g240
        conv => whnf
        refine CutK.norm [5, 6, 7, 8, 48] [384, 448, 1089000] ?_
        conv => whnf
        exact CutK.piece (laws_FnPolynomials_p6_ct  h) [some 384, some 448, some 1089000] [] ⟨⟨rfl, rfl⟩, ⟨rfl, ⟨rfl, rfl, trivial⟩, ⟨rfl, ⟨rfl, rfl⟩, trivial⟩, ⟨rfl, rfl, rows_same⟩, trivial⟩, rfl, ⟨rfl, rfl⟩, ⟨rfl, rfl⟩, rfl, trivial⟩
      · replace h := iteF h g240
        conv => whnf
        refine CutK.norm [5, 6, 7, 8, 48] [384, 448, 1089000] ?_
        conv => whnf
        cases h
        exact Done.of [] [] rfl rfl ⟨⟨rfl, rfl⟩, ⟨rfl, trivial⟩, rfl, trivial⟩
def laws_FnPolynomials_p4 (k : Nat) (o13 : Rw) (o14 : Rw) (o15 : Rw) (v16 : Bool) : Option Bool :=
  (cond v16 ((spec_PolynomialAt k o13 o14).bind fun y244 => (if y244.2 = true then (laws_FnPolynomials_p5 k o13 o14 o15 y244.1 true true) else (laws_FnPolynomials_p5 k o13 o14 o15 y244.1 false true))) ((spec_PolynomialAt k o13 o14).bind fun y241 => (if y241.2 = true then (laws_FnPolynomials_p5 k o13 o14 o15 y241.1 true false) else (laws_FnPolynomials_p5 k o13 o14 o15 y241.1 false false))))
set_option maxHeartbeats 4000000 in
set_option maxRecDepth 100000 in
theorem laws_FnPolynomials_p4_ct {k : Nat} {o13 : Rw} {o14 : Rw} {o15 : Rw} {v16 : Bool} {r : Bool} (h : laws_FnPolynomials_p4 k o13 o14 o15 v16 = some r) : X prog 0 (tlF f4 4) (mk 92 [(5, .os 1084001 o13.length), (6, .ptr 384 0), (7, .ptr 448 0), (8, .d (D.bool v16))] [(384, .box 38 [.d (D.sl o14)]), (448, .box 38 [.os 1084000 o15.length]), (1084000, .arr 109 true o15), (1084001, .arr 28 true o13)]) (finK prog f4 0 (.d (D.bool r)) (⟨[], []⟩)) := by
  rw [laws_FnPolynomials_p4] at h
  cases v16
  · replace h := condF h
    conv => whnf
    refine Pick.no ?_
    conv => whnf
    refine Take.all (rfl) ?_
    conv => whnf
    obtain ⟨y241, e242, h⟩ := bind_ex h
    refine CallOk.of (spec_PolynomialAt_ct e242) ?_
    conv => whnf
    refine spl (fun g243 => ?_) (fun g243 => ?_)
    · replace h := iteT h g243
      conv => whnf
      exact CutK.piece (laws_FnPolynomials_p5_ct  h) [some 384, some 448, some 576, some 1084000] [] ⟨⟨rfl, rfl⟩, ⟨rfl, ⟨rfl, rfl, trivial⟩, ⟨rfl, ⟨rfl, rfl⟩, trivial⟩, ⟨rfl, rfl, trivial⟩, ⟨rfl, rfl, rows_same⟩, trivial⟩, ⟨Nat.le_of_eq rfl, eq_take rfl⟩, ⟨rfl, rfl⟩, ⟨rfl, rfl⟩, rfl, ⟨rfl, rfl⟩, rfl, trivial⟩
    · replace h := iteF h g243
      conv => whnf
      exact CutK.piece (laws_FnPolynomials_p5_ct  h) [some 384, some 448, some 576, some 1084000] [] ⟨⟨rfl, rfl⟩, ⟨rfl, ⟨rfl, rfl, trivial⟩, ⟨rfl, ⟨rfl, rfl⟩, trivial⟩, ⟨rfl, rfl, trivial⟩, ⟨rfl, rfl, rows_same⟩, trivial⟩, ⟨Nat.le_of_eq rfl, eq_take rfl⟩, ⟨rfl, rfl⟩, ⟨rfl, rfl⟩, rfl, ⟨rfl, rfl⟩, rfl, trivial⟩
  · replace h := condT h
    conv => whnf
    refine Pick.no ?_
    conv => whnf
    refine Take.all (rfl) ?_
    conv => whnf
    obtain ⟨y244, e245, h⟩ := bind_ex h
    refine CallOk.of (spec_PolynomialAt_ct e245) ?_
    conv => whnf
    refine spl (fun g246 => ?_) (fun g246 => ?_)
    · replace h := iteT h g246
      conv => whnf
      exact CutK.piece (laws_FnPolynomials_p5_ct  h) [some 384, some 448, some 576, some 1084000] [] ⟨⟨rfl, rfl⟩, ⟨rfl, ⟨rfl, rfl, trivial⟩, ⟨rfl, ⟨rfl, rfl⟩, trivial⟩, ⟨rfl, rfl, trivial⟩, ⟨rfl, rfl, rows_same⟩, trivial⟩, ⟨Nat.le_of_eq rfl, eq_take rfl⟩, ⟨rfl, rfl⟩, ⟨rfl, rfl⟩, rfl, ⟨rfl, rfl⟩, rfl, trivial⟩
    · replace h := iteF h g246
      conv => whnf
      exact CutK.piece (laws_FnPolynomials_p5_ct  h) [some 384, some 448, some 576, some 1084000] [] ⟨⟨rfl, rfl⟩, ⟨rfl, ⟨rfl, rfl, trivial⟩, ⟨rfl, ⟨rfl, rfl⟩, trivial⟩, ⟨rfl, rfl, trivial⟩, ⟨rfl, rfl, rows_same⟩, trivial⟩, ⟨Nat.le_of_eq rfl, eq_take rfl⟩, ⟨rfl, rfl⟩, ⟨rfl, rfl⟩, rfl, ⟨rfl, rfl⟩, rfl, trivial⟩
def laws_FnPolynomials_p3 (k : Nat) (o8 : Rw) (o9 : Rw) : Option Bool :=
  ((impl_PolynomialAt k o8 o9).bind fun y247 => (if y247.2 = true then (laws_FnPolynomials_p4 k o8 o9 y247.1 true) else (laws_FnPolynomials_p4 k o8 o9 y247.1 false)))
set_option maxHeartbeats 4000000 in
set_option maxRecDepth 100000 in
theorem laws_FnPolynomials_p3_ct {k : Nat} {o8 : Rw} {o9 : Rw} {r : Bool} (h : laws_FnPolynomials_p3 k o8 o9 = some r) : X prog 0 (tlF f4 3) (mk 92 [(5, .os 1079000 o8.length), (6, .ptr 384 0)] [(384, .box 38 [.d (D.sl o9)]), (1079000, .arr 28 true o8)]) (finK prog f4 0 (.d (D.bool r)) (⟨[], []⟩)) := by
  rw [laws_FnPolynomials_p3] at h
  conv => whnf
  refine Pick.no ?_
  conv => whnf
  refine Take.all (rfl) ?_
  conv => whnf
  obtain ⟨y247, e248, h⟩ := bind_ex h
  refine CallOk.of (impl_PolynomialAt_ct e248) ?_
  conv => whnf
  refine spl (fun g249 => ?_) (fun g249 => ?_)
  · replace h := iteT h g249
    conv => whnf
    exact CutK.piece (laws_FnPolynomials_p4_ct  h) [some 384, some 448, some 1984, some 1079000] [] ⟨⟨rfl, rfl⟩, ⟨rfl, ⟨rfl, rfl, trivial⟩, ⟨rfl, ⟨rfl, rfl⟩, trivial⟩, ⟨rfl, rfl, rows_same⟩, ⟨rfl, rfl, rows_same⟩, trivial⟩, ⟨rfl, rfl⟩, ⟨rfl, rfl⟩, ⟨rfl, rfl⟩, rfl, trivial⟩
  · replace h := iteF h g249
    conv => whnf
    exact CutK.piece (laws_FnPolynomials_p4_ct  h) [some 384, some 448, some 1984, some 1079000] [] ⟨⟨rfl, rfl⟩, ⟨rfl, ⟨rfl, rfl, trivial⟩, ⟨rfl, ⟨rfl, rfl⟩, trivial⟩, ⟨rfl, rfl, rows_same⟩, ⟨rfl, rfl, rows_same⟩, trivial⟩, ⟨rfl, rfl⟩, ⟨rfl, rfl⟩, ⟨rfl, rfl⟩, rfl, trivial⟩
def laws_FnPolynomials_p2 (k : Nat) (a1 : Rw) : Option Bool :=
  ((spec_DrawPolynomialAt k a1).bind fun y250 => (laws_FnPolynomials_p3 k y250.1 y250.2))
set_option maxHeartbeats 4000000 in
set_option maxRecDepth 100000 in
theorem laws_FnPolynomials_p2_ct {k : Nat} {a1 : Rw} {r : Bool} (h : laws_FnPolynomials_p2 k a1 = some r) : X prog 0 (tlF f4 2) (mk 92 [(0, .d (D.sl a1))] []) (finK prog f4 0 (.d (D.bool r)) (⟨[], []⟩)) := by
  rw [laws_FnPolynomials_p2] at h
  conv => whnf
  refine Pick.no ?_
  conv => whnf
  obtain ⟨y250, e251, h⟩ := bind_ex h
  refine CallOk.of (spec_DrawPolynomialAt_ct e251) ?_
  conv => whnf
  exact CutK.piece (laws_FnPolynomials_p3_ct  h) [some 384, some 1600] [] ⟨⟨rfl, rfl⟩, ⟨rfl, ⟨rfl, rfl, trivial⟩, ⟨rfl, rfl, rows_same⟩, trivial⟩, ⟨rfl, rfl⟩, ⟨rfl, rfl⟩, trivial⟩
def laws_FnPolynomials (k : Nat) (a1 : Rw) (a2 : Rw) : Option Bool :=
  ((laws_big a1 a2).bind fun y252 => (if y252 = true then some true else (laws_FnPolynomials_p2 k a1)))
set_option maxHeartbeats 4000000 in
set_option maxRecDepth 100000 in
theorem laws_FnPolynomials_ct {k : Nat} {a1 : Rw} {a2 : Rw} {r : Bool} (h : laws_FnPolynomials k a1 a2 = some r) : Ct prog 4 [.d (D.sl a1), .d (D.sl a2)] (⟨[], []⟩) (.d (D.bool r)) (⟨[], []⟩) := by
  rw [laws_FnPolynomials] at h
  refine Ct.of (c := _) mixed func4 ⟨rfl, rfl, rfl⟩ ?_ rfl
  conv => whnf
  refine Pick.no ?_
  conv => whnf
  obtain ⟨y252, e253, h⟩ := bind_ex h
  refine CallOk.of (laws_big_ct e253) ?_
  conv => whnf
  refine spl (fun g254 => ?_) (fun g254 => ?_)
  · replace h := iteT h g254
    conv => whnf
    refine CutK.norm [0, 22] [] ?_
    conv => whnf
    cases h
    exact Done.of [] [] rfl rfl ⟨⟨rfl, rfl⟩, ⟨rfl, trivial⟩, rfl, trivial⟩
  · replace h := iteF h g254
    conv => whnf
    refine CutK.norm [0, 22] [] ?_
    conv => whnf
    exact CutK.piece (laws_FnPolynomials_p2_ct  h) [] [] ⟨⟨rfl, rfl⟩, ⟨rfl, trivial⟩, rfl, trivial⟩
end
end Go.Proofs.Try
