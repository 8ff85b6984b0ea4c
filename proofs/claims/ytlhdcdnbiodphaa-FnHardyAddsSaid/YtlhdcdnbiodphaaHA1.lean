/- Printed by program (axgen): pure functions, and that the Go functions compute them. -/
import Derived.Test.YtlhdcdnbiodphaaHA0
set_option linter.unusedVariables false
set_option linter.unusedSimpArgs false
namespace Go.Proofs.Try
open Go Go.AX
noncomputable section
def spec_l1Cur_anyOrdinal_p4 (o25 : Rw) (o26 : Int) (o27 : Int) (o28 : Rw) : Option (Rw × Rw × Int × Int) :=
  some (o28, o25, o26, o27)
set_option maxHeartbeats 4000000 in
set_option maxRecDepth 100000 in
theorem spec_l1Cur_anyOrdinal_p4_ct {o25 : Rw} {o26 : Int} {o27 : Int} {o28 : Rw} {r : Rw × Rw × Int × Int} (h : spec_l1Cur_anyOrdinal_p4 o25 o26 o27 o28 = some r) : X prog 1 (tlF f69 4) (mk 59 [(2, .ptr 128 0), (3, .ptr 192 0)] [(0, .box 91 [.d (D.sl o25), .d (D.int .i64 o26), .d (D.int .u64 o27)]), (128, .box 26 [.es]), (192, .box 26 [.os 1084000 o28.length]), (1084000, .arr 104 false o28)]) (finK prog f69 1 (.agg [.os 8 r.1.length]) (⟨[(91, [.d (D.sl r.2.1), .d (D.int .i64 r.2.2.1), .d (D.int .u64 r.2.2.2)])], [(104, false, r.1)]⟩)) := by
  rw [spec_l1Cur_anyOrdinal_p4] at h
  conv => whnf
  cases h
  exact Done.of [some 0, some 1084000] [] rfl rfl ⟨⟨rfl, rfl⟩, ⟨rfl, ⟨rfl, rfl, rfl, rfl, trivial⟩, ⟨rfl, rfl, rows_same⟩, trivial⟩, ⟨⟨rfl, rfl⟩, trivial⟩, trivial⟩
def spec_l1Cur_anyOrdinal_l0 (y79 : Int × Rw × Int × Int) (K3 : Rw → Option (Rw × Rw × Int × Int)) : Nat → Int → Rw → Option (Rw × Rw × Int × Int)
  | 0, _, _ => none
  | n + 1, v84, v85 => (if (0 : Int) < v84 then ((spec_odTerm v85 1).bind fun y94 => (spec_l1Cur_anyOrdinal_l0 y79 K3 n (IntKind.i64.wrap (v84 - 1)) y94)) else (K3 v85))
set_option maxRecDepth 100000 in
theorem spec_l1Cur_anyOrdinal_l0_ct {y79 : Int × Rw × Int × Int} {K3 : Rw → Option (Rw × Rw × Int × Int)} {r : Rw × Rw × Int × Int} : ∀ (n : Nat) (v84 : Int) (v85 : Rw), spec_l1Cur_anyOrdinal_l0 y79 K3 n v84 v85 = some r → LoopOk prog 1 (lp f69 0) (mk 59 [(2, .ptr 128 0), (3, .ptr 192 0), (4, .d (D.int .i64 v84))] [(0, .box 91 [.d (D.sl y79.2.1), .d (D.int .i64 y79.2.2.1), .d (D.int .u64 y79.2.2.2)]), (128, .box 26 [.es]), (192, .box 26 [.os 64000 v85.length]), (64000, .arr 104 false v85)]) (LoopEnd prog f69 1 59 (.agg [.os 8 r.1.length]) (⟨[(91, [.d (D.sl r.2.1), .d (D.int .i64 r.2.2.1), .d (D.int .u64 r.2.2.2)])], [(104, false, r.1)]⟩) (fun i ts os => (i = 3 ∧ ∃ v89 : Rw, K3 v89 = some r ∧ ts = [(2, .ptr 128 0), (3, .ptr 192 0)] ∧ os = [(0, .box 91 [.d (D.sl y79.2.1), .d (D.int .i64 y79.2.2.1), .d (D.int .u64 y79.2.2.2)]), (128, .box 26 [.es]), (192, .box 26 [.os 67001 v89.length]), (67001, .arr 104 false v89)])))
  | 0, _, _, h => by
      rw [spec_l1Cur_anyOrdinal_l0] at h; cases h
  | n + 1, v84, v85, h => by
      rw [spec_l1Cur_anyOrdinal_l0] at h
      refine LoopOk.step ?_
      conv => whnf
      refine splD (fun g93 => ?_) (fun g93 => ?_)
      · replace h := iteP h g93
        conv => whnf
        refine Take.all (rfl) ?_
        conv => whnf
        obtain ⟨y94, e95, h⟩ := bind_ex h
        refine CallOk.of (spec_odTerm_ct e95) ?_
        conv => whnf
        refine CutK.norm [2, 3, 4] [0, 128, 192, 3648] ?_
        conv => whnf
        exact LoopOk.back (spec_l1Cur_anyOrdinal_l0_ct  n _ _ h) [some 0, some 128, some 192, some 3648] [] ⟨⟨rfl, rfl⟩, ⟨rfl, ⟨rfl, rfl, rfl, rfl, trivial⟩, ⟨rfl, trivial, trivial⟩, ⟨rfl, ⟨rfl, rfl⟩, trivial⟩, ⟨rfl, rfl, rows_same⟩, trivial⟩, ⟨rfl, rfl⟩, ⟨rfl, rfl⟩, rfl, trivial⟩
      · replace h := iteN h g93
        conv => whnf
        exact ⟨_, _, [some 0, some 128, some 192, some 64000], [], ⟨rfl, _, h, rfl, rfl⟩, ⟨⟨rfl, rfl⟩, ⟨rfl, ⟨rfl, rfl, rfl, rfl, trivial⟩, ⟨rfl, trivial, trivial⟩, ⟨rfl, ⟨rfl, rfl⟩, trivial⟩, ⟨rfl, rfl, rows_same⟩, trivial⟩, ⟨rfl, rfl⟩, ⟨rfl, rfl⟩, trivial⟩⟩
def spec_l1Cur_anyOrdinal_l1 (k : Nat) (y96 : Int × Rw × Int × Int) (K1 : Rw → Option (Rw × Rw × Int × Int)) : Nat → Int → Rw → Option (Rw × Rw × Int × Int)
  | 0, _, _ => none
  | n + 1, v103, v104 => (if (0 : Int) < v103 then ((spec_odInt v103).bind fun y117 => ((spec_odMeet k v104 y117 1000000).bind fun y119 => (spec_l1Cur_anyOrdinal_l1 k y96 K1 n (IntKind.i64.wrap (v103 - 1)) y119))) else (K1 v104))
set_option maxRecDepth 100000 in
theorem spec_l1Cur_anyOrdinal_l1_ct {k : Nat} {y96 : Int × Rw × Int × Int} {K1 : Rw → Option (Rw × Rw × Int × Int)} {r : Rw × Rw × Int × Int} : ∀ (n : Nat) (v103 : Int) (v104 : Rw), spec_l1Cur_anyOrdinal_l1 k y96 K1 n v103 v104 = some r → LoopOk prog 1 (lp f69 1) (mk 59 [(2, .ptr 128 0), (3, .ptr 192 0), (5, .d (D.int .i64 v103))] [(0, .box 91 [.d (D.sl y96.2.1), .d (D.int .i64 y96.2.2.1), .d (D.int .u64 y96.2.2.2)]), (128, .box 26 [.es]), (192, .box 26 [.os 70400 v104.length]), (70400, .arr 104 false v104)]) (LoopEnd prog f69 1 59 (.agg [.os 8 r.1.length]) (⟨[(91, [.d (D.sl r.2.1), .d (D.int .i64 r.2.2.1), .d (D.int .u64 r.2.2.2)])], [(104, false, r.1)]⟩) (fun i ts os => (i = 1 ∧ ∃ v110 : Rw, K1 v110 = some r ∧ ts = [(2, .ptr 128 0), (3, .ptr 192 0)] ∧ os = [(0, .box 91 [.d (D.sl y96.2.1), .d (D.int .i64 y96.2.2.1), .d (D.int .u64 y96.2.2.2)]), (128, .box 26 [.es]), (192, .box 26 [.os 73401 v110.length]), (73401, .arr 104 false v110)])))
  | 0, _, _, h => by
      rw [spec_l1Cur_anyOrdinal_l1] at h; cases h
  | n + 1, v103, v104, h => by
      rw [spec_l1Cur_anyOrdinal_l1] at h
      refine LoopOk.step ?_
      conv => whnf
      refine splD (fun g116 => ?_) (fun g116 => ?_)
      · replace h := iteP h g116
        conv => whnf
        obtain ⟨y117, e118, h⟩ := bind_ex h
        refine CallOk.of (spec_odInt_ct e118) ?_
        conv => whnf
        refine Take.all (rfl) ?_
        conv => whnf
        refine Take.all (rfl) ?_
        conv => whnf
        obtain ⟨y119, e120, h⟩ := bind_ex h
        refine CallOk.of (spec_odMeet_ct e120) ?_
        conv => whnf
        refine CutK.norm [2, 3, 5] [0, 128, 192, 1728] ?_
        conv => whnf
        exact LoopOk.back (spec_l1Cur_anyOrdinal_l1_ct  n _ _ h) [some 0, some 128, some 192, some 1728] [] ⟨⟨rfl, rfl⟩, ⟨rfl, ⟨rfl, rfl, rfl, rfl, trivial⟩, ⟨rfl, trivial, trivial⟩, ⟨rfl, ⟨rfl, rfl⟩, trivial⟩, ⟨rfl, rfl, rows_same⟩, trivial⟩, ⟨rfl, rfl⟩, ⟨rfl, rfl⟩, rfl, trivial⟩
      · replace h := iteN h g116
        conv => whnf
        exact ⟨_, _, [some 0, some 128, some 192, some 70400], [], ⟨rfl, _, h, rfl, rfl⟩, ⟨⟨rfl, rfl⟩, ⟨rfl, ⟨rfl, rfl, rfl, rfl, trivial⟩, ⟨rfl, trivial, trivial⟩, ⟨rfl, ⟨rfl, rfl⟩, trivial⟩, ⟨rfl, rfl, rows_same⟩, trivial⟩, ⟨rfl, rfl⟩, ⟨rfl, rfl⟩, trivial⟩⟩
def spec_l1Cur_anyOrdinal_p3 (k : Nat) (o15 : Rw) (o16 : Int) (o17 : Int) (o18 : Rw) : Option (Rw × Rw × Int × Int) :=
  ((spec_l1Cur_pick o15 o16 o17 4).bind fun y68 => (if y68.1 = (0 : Int) then ((spec_odInt 7).bind fun y71 => (if o18.length + 1 ≤ cap then (spec_l1Cur_anyOrdinal_p4 y68.2.1 y68.2.2.1 y68.2.2.2 (o18 ++ ([[D.sl y71, D.int .i64 1]]))) else none)) else (if y68.1 = (1 : Int) then ((spec_l1Cur_among y68.2.1 y68.2.2.1 y68.2.2.2 ([[D.int .i64 0], [D.int .i64 (-1)], [D.int .i64 1000001], [D.int .i64 1000000]] : Rw)).bind fun y75 => (if o18.length + 1 ≤ cap then (spec_l1Cur_anyOrdinal_p4 y75.2.1 y75.2.2.1 y75.2.2.2 (o18 ++ ([[D.sl ([]), D.int .i64 y75.1]]))) else none)) else (if y68.1 = (2 : Int) then ((spec_l1Cur_pick y68.2.1 y68.2.2.1 y68.2.2.2 9).bind fun y79 => (spec_l1Cur_anyOrdinal_l0 y79 (fun (v89 : Rw) => (spec_l1Cur_anyOrdinal_p4 y79.2.1 y79.2.2.1 y79.2.2.2 v89)) k y79.1 o18)) else ((spec_l1Cur_pick y68.2.1 y68.2.2.1 y68.2.2.2 40).bind fun y96 => (spec_l1Cur_anyOrdinal_l1 k y96 (fun (v110 : Rw) => (spec_l1Cur_anyOrdinal_p4 y96.2.1 y96.2.2.1 y96.2.2.2 v110)) k y96.1 o18))))))
set_option maxHeartbeats 4000000 in
set_option maxRecDepth 100000 in
theorem spec_l1Cur_anyOrdinal_p3_ct {k : Nat} {o15 : Rw} {o16 : Int} {o17 : Int} {o18 : Rw} {r : Rw × Rw × Int × Int} (h : spec_l1Cur_anyOrdinal_p3 k o15 o16 o17 o18 = some r) : X prog 1 (tlF f69 3) (mk 59 [(0, .ptr 0 0), (2, .ptr 128 0), (3, .ptr 192 0)] [(0, .box 91 [.d (D.sl o15), .d (D.int .i64 o16), .d (D.int .u64 o17)]), (128, .box 26 [.es]), (192, .box 26 [.os 1079000 o18.length]), (1079000, .arr 104 false o18)]) (finK prog f69 1 (.agg [.os 8 r.1.length]) (⟨[(91, [.d (D.sl r.2.1), .d (D.int .i64 r.2.2.1), .d (D.int .u64 r.2.2.2)])], [(104, false, r.1)]⟩)) := by
  rw [spec_l1Cur_anyOrdinal_p3] at h
  conv => whnf
  obtain ⟨y68, e69, h⟩ := bind_ex h
  refine CallOk.of (spec_l1Cur_pick_ct e69) ?_
  conv => whnf
  refine CutK.norm [0, 2, 3, 16] [0, 128, 192, 1079000] ?_
  conv => whnf
  refine splD (fun g70 => ?_) (fun g70 => ?_)
  · replace h := iteP h g70
    conv => whnf
    obtain ⟨y71, e72, h⟩ := bind_ex h
    refine CallOk.of (spec_odInt_ct e72) ?_
    conv => whnf
    refine Take.all (rfl) ?_
    conv => whnf
    refine Take.all (rfl) ?_
    conv => whnf
    refine Take.all (by first | rfl | exact List.length_append.symm | (simp; done) | omega) ?_
    conv => whnf
    obtain ⟨g73, h⟩ := req_ex h
    refine Req.of (room (b := 32) (by decide) g73 (wide1 rfl wide0)) ?_
    conv => whnf
    exact CutK.piece (spec_l1Cur_anyOrdinal_p4_ct  h) [some 0, some 128, some 192, some 2240] [] ⟨⟨rfl, rfl⟩, ⟨rfl, ⟨rfl, rfl, rfl, rfl, trivial⟩, ⟨rfl, trivial, trivial⟩, ⟨rfl, ⟨(by first | rfl | exact List.length_append.symm | (simp; done) | omega), rfl⟩, trivial⟩, ⟨rfl, rfl, rows_same⟩, trivial⟩, ⟨rfl, rfl⟩, ⟨rfl, rfl⟩, trivial⟩
  · replace h := iteN h g70
    conv => whnf
    refine splD (fun g74 => ?_) (fun g74 => ?_)
    · replace h := iteP h g74
      conv => whnf
      refine Take.all (by first | rfl | exact List.length_append.symm | (simp; done) | omega) ?_
      conv => whnf
      obtain ⟨y75, e76, h⟩ := bind_ex h
      refine CallOk.of (spec_l1Cur_among_ct e76) ?_
      conv => whnf
      refine Take.all (rfl) ?_
      conv => whnf
      refine Take.all (by first | rfl | exact List.length_append.symm | (simp; done) | omega) ?_
      conv => whnf
      obtain ⟨g77, h⟩ := req_ex h
      refine Req.of (room (b := 32) (by decide) g77 (wide1 rfl wide0)) ?_
      conv => whnf
      exact CutK.piece (spec_l1Cur_anyOrdinal_p4_ct  h) [some 0, some 128, some 192, some 2944] [] ⟨⟨rfl, rfl⟩, ⟨rfl, ⟨rfl, rfl, rfl, rfl, trivial⟩, ⟨rfl, trivial, trivial⟩, ⟨rfl, ⟨(by first | rfl | exact List.length_append.symm | (simp; done) | omega), rfl⟩, trivial⟩, ⟨rfl, rfl, rows_same⟩, trivial⟩, ⟨rfl, rfl⟩, ⟨rfl, rfl⟩, trivial⟩
    · replace h := iteN h g74
      conv => whnf
      refine splD (fun g78 => ?_) (fun g78 => ?_)
      · replace h := iteP h g78
        conv => whnf
        obtain ⟨y79, e80, h⟩ := bind_ex h
        refine CallOk.of (spec_l1Cur_pick_ct e80) ?_
        conv => whnf
        refine CutK.norm [2, 3, 4] [0, 128, 192, 1079000] ?_
        conv => whnf
        refine LoopOk.into (spec_l1Cur_anyOrdinal_l0_ct  _ _ _ h) [some 0, some 128, some 192, some 1079000] [] ⟨⟨rfl, rfl⟩, ⟨rfl, ⟨rfl, rfl, rfl, rfl, trivial⟩, ⟨rfl, trivial, trivial⟩, ⟨rfl, ⟨rfl, rfl⟩, trivial⟩, ⟨rfl, rfl, rows_same⟩, trivial⟩, ⟨rfl, rfl⟩, ⟨rfl, rfl⟩, rfl, trivial⟩ ?_ (fun _ hs => hs)
        rintro i ts os ⟨rfl, v89, h, rfl, rfl⟩
        conv => whnf
        exact CutK.piece (spec_l1Cur_anyOrdinal_p4_ct  h) [some 0, some 128, some 192, some 67001] [] ⟨⟨rfl, rfl⟩, ⟨rfl, ⟨rfl, rfl, rfl, rfl, trivial⟩, ⟨rfl, trivial, trivial⟩, ⟨rfl, ⟨rfl, rfl⟩, trivial⟩, ⟨rfl, rfl, rows_same⟩, trivial⟩, ⟨rfl, rfl⟩, ⟨rfl, rfl⟩, trivial⟩
      · replace h := iteN h g78
        conv => whnf
        obtain ⟨y96, e97, h⟩ := bind_ex h
        refine CallOk.of (spec_l1Cur_pick_ct e97) ?_
        conv => whnf
        refine CutK.norm [2, 3, 5] [0, 128, 192, 1079000] ?_
        conv => whnf
        refine LoopOk.into (spec_l1Cur_anyOrdinal_l1_ct  _ _ _ h) [some 0, some 128, some 192, some 1079000] [] ⟨⟨rfl, rfl⟩, ⟨rfl, ⟨rfl, rfl, rfl, rfl, trivial⟩, ⟨rfl, trivial, trivial⟩, ⟨rfl, ⟨rfl, rfl⟩, trivial⟩, ⟨rfl, rfl, rows_same⟩, trivial⟩, ⟨rfl, rfl⟩, ⟨rfl, rfl⟩, rfl, trivial⟩ ?_ (fun _ hs => hs)
        rintro i ts os ⟨rfl, v110, h, rfl, rfl⟩
        conv => whnf
        exact CutK.piece (spec_l1Cur_anyOrdinal_p4_ct  h) [some 0, some 128, some 192, some 73401] [] ⟨⟨rfl, rfl⟩, ⟨rfl, ⟨rfl, rfl, rfl, rfl, trivial⟩, ⟨rfl, trivial, trivial⟩, ⟨rfl, ⟨rfl, rfl⟩, trivial⟩, ⟨rfl, rfl, rows_same⟩, trivial⟩, ⟨rfl, rfl⟩, ⟨rfl, rfl⟩, trivial⟩
def spec_l1Cur_anyOrdinal_p2 (k : Nat) (o8 : Rw) (o9 : Int) (o10 : Int) (o11 : Rw) : Option (Rw × Rw × Int × Int) :=
  ((spec_l1Cur_one o8 o9 o10 20).bind fun y121 => (if y121.1 = true then (spec_l1Cur_anyOrdinal_p3 k y121.2.1 y121.2.2.1 y121.2.2.2 o11) else some (o11, y121.2.1, y121.2.2.1, y121.2.2.2)))
set_option maxHeartbeats 4000000 in
set_option maxRecDepth 100000 in
theorem spec_l1Cur_anyOrdinal_p2_ct {k : Nat} {o8 : Rw} {o9 : Int} {o10 : Int} {o11 : Rw} {r : Rw × Rw × Int × Int} (h : spec_l1Cur_anyOrdinal_p2 k o8 o9 o10 o11 = some r) : X prog 1 (tlF f69 2) (mk 59 [(0, .ptr 0 0), (2, .ptr 128 0), (3, .ptr 192 0)] [(0, .box 91 [.d (D.sl o8), .d (D.int .i64 o9), .d (D.int .u64 o10)]), (128, .box 26 [.es]), (192, .box 26 [.os 1074000 o11.length]), (1074000, .arr 104 false o11)]) (finK prog f69 1 (.agg [.os 8 r.1.length]) (⟨[(91, [.d (D.sl r.2.1), .d (D.int .i64 r.2.2.1), .d (D.int .u64 r.2.2.2)])], [(104, false, r.1)]⟩)) := by
  rw [spec_l1Cur_anyOrdinal_p2] at h
  conv => whnf
  obtain ⟨y121, e122, h⟩ := bind_ex h
  refine CallOk.of (spec_l1Cur_one_ct e122) ?_
  conv => whnf
  refine spl (fun g123 => ?_) (fun g123 => ?_)
  · replace h := iteT h g123
    conv => whnf
    refine CutK.norm [0, 2, 3, 13] [0, 128, 192, 1074000] ?_
    conv => whnf
    exact CutK.piece (spec_l1Cur_anyOrdinal_p3_ct  h) [some 0, some 128, some 192, some 1074000] [] ⟨⟨rfl, rfl⟩, ⟨rfl, ⟨rfl, rfl, rfl, rfl, trivial⟩, ⟨rfl, trivial, trivial⟩, ⟨rfl, ⟨rfl, rfl⟩, trivial⟩, ⟨rfl, rfl, rows_same⟩, trivial⟩, ⟨rfl, rfl⟩, ⟨rfl, rfl⟩, ⟨rfl, rfl⟩, trivial⟩
  · replace h := iteF h g123
    conv => whnf
    refine CutK.norm [0, 2, 3, 13] [0, 128, 192, 1074000] ?_
    conv => whnf
    cases h
    exact Done.of [some 0, some 1074000] [] rfl rfl ⟨⟨rfl, rfl⟩, ⟨rfl, ⟨rfl, rfl, rfl, rfl, trivial⟩, ⟨rfl, rfl, rows_same⟩, trivial⟩, ⟨⟨rfl, rfl⟩, trivial⟩, trivial⟩
def spec_l1Cur_anyOrdinal (k : Nat) (a1 : Rw) (a2 : Int) (a3 : Int) : Option (Rw × Rw × Int × Int) :=
  ((spec_l1Cur_among a1 a2 a3 ([[D.int .i64 0], [D.int .i64 1], [D.int .i64 2], [D.int .i64 3]] : Rw)).bind fun y124 => ((spec_l1Cur_ordinal k y124.2.1 y124.2.2.1 y124.2.2.2 y124.1).bind fun y126 => (spec_l1Cur_anyOrdinal_p2 k y126.2.1 y126.2.2.1 y126.2.2.2 y126.1)))
set_option maxHeartbeats 4000000 in
set_option maxRecDepth 100000 in
theorem spec_l1Cur_anyOrdinal_ct {k : Nat} {a1 : Rw} {a2 : Int} {a3 : Int} {r : Rw × Rw × Int × Int} (h : spec_l1Cur_anyOrdinal k a1 a2 a3 = some r) : Ct prog 69 [.ptr 0 0] (⟨[(91, [.d (D.sl a1), .d (D.int .i64 a2), .d (D.int .u64 a3)])], []⟩) (.agg [.os 8 r.1.length]) (⟨[(91, [.d (D.sl r.2.1), .d (D.int .i64 r.2.2.1), .d (D.int .u64 r.2.2.2)])], [(104, false, r.1)]⟩) := by
  rw [spec_l1Cur_anyOrdinal] at h
  refine Ct.of (c := _) mixed func69 ⟨rfl, rfl, rfl⟩ ?_ rfl
  conv => whnf
  refine Take.all (by first | rfl | exact List.length_append.symm | (simp; done) | omega) ?_
  conv => whnf
  obtain ⟨y124, e125, h⟩ := bind_ex h
  refine CallOk.of (spec_l1Cur_among_ct e125) ?_
  conv => whnf
  obtain ⟨y126, e127, h⟩ := bind_ex h
  refine CallOk.of (spec_l1Cur_ordinal_ct e127) ?_
  conv => whnf
  exact CutK.piece (spec_l1Cur_anyOrdinal_p2_ct  h) [some 0, some 128, some 192, some 640] [] ⟨⟨rfl, rfl⟩, ⟨rfl, ⟨rfl, rfl, rfl, rfl, trivial⟩, ⟨rfl, trivial, trivial⟩, ⟨rfl, ⟨rfl, rfl⟩, trivial⟩, ⟨rfl, rfl, rows_same⟩, trivial⟩, ⟨rfl, rfl⟩, ⟨rfl, rfl⟩, ⟨rfl, rfl⟩, trivial⟩

def spec_DrawHardyValue (k : Nat) (a1 : Rw) : Option (Rw × Int × Int) :=
  ((spec_l1Cur_pick a1 0 0 60).bind fun y2 => ((spec_l1Cur_one y2.2.1 y2.2.2.1 y2.2.2.2 6).bind fun y4 => (if y4.1 = true then ((spec_l1Cur_among y4.2.1 y4.2.2.1 y4.2.2.2 ([[D.int .i64 (-1)], [D.int .i64 0], [D.int .i64 200], [D.int .i64 201]] : Rw)).bind fun y7 => ((spec_l1Cur_pick y7.2.1 y7.2.2.1 y7.2.2.2 5).bind fun y9 => ((spec_l1Cur_one y9.2.1 y9.2.2.1 y9.2.2.2 8).bind fun y11 => (if y11.1 = true then ((spec_l1Cur_among y11.2.1 y11.2.2.1 y11.2.2.2 ([[D.int .i64 (-1)], [D.int .i64 999], [D.int .i64 1000], [D.int .i64 1001]] : Rw)).bind fun y14 => ((spec_l1Cur_one y14.2.1 y14.2.2.1 y14.2.2.2 2).bind fun y16 => (if y16.1 = true then ((spec_l1Cur_pick y16.2.1 y16.2.2.1 y16.2.2.2 9).bind fun y19 => ((spec_l1Cur_pick y19.2.1 y19.2.2.1 y19.2.2.2 3).bind fun y21 => ((spec_deForm k y19.1 (IntKind.i64.wrap (2 + y21.1))).bind fun y23 => some (y23, y14.1, y7.1)))) else ((spec_l1Cur_anyOrdinal k y16.2.1 y16.2.2.1 y16.2.2.2).bind fun y25 => some (y25.1, y14.1, y7.1))))) else ((spec_l1Cur_one y11.2.1 y11.2.2.1 y11.2.2.2 2).bind fun y27 => (if y27.1 = true then ((spec_l1Cur_pick y27.2.1 y27.2.2.1 y27.2.2.2 9).bind fun y30 => ((spec_l1Cur_pick y30.2.1 y30.2.2.1 y30.2.2.2 3).bind fun y32 => ((spec_deForm k y30.1 (IntKind.i64.wrap (2 + y32.1))).bind fun y34 => some (y34, y9.1, y7.1)))) else ((spec_l1Cur_anyOrdinal k y27.2.1 y27.2.2.1 y27.2.2.2).bind fun y36 => some (y36.1, y9.1, y7.1)))))))) else ((spec_l1Cur_pick y4.2.1 y4.2.2.1 y4.2.2.2 5).bind fun y38 => ((spec_l1Cur_one y38.2.1 y38.2.2.1 y38.2.2.2 8).bind fun y40 => (if y40.1 = true then ((spec_l1Cur_among y40.2.1 y40.2.2.1 y40.2.2.2 ([[D.int .i64 (-1)], [D.int .i64 999], [D.int .i64 1000], [D.int .i64 1001]] : Rw)).bind fun y43 => ((spec_l1Cur_one y43.2.1 y43.2.2.1 y43.2.2.2 2).bind fun y45 => (if y45.1 = true then ((spec_l1Cur_pick y45.2.1 y45.2.2.1 y45.2.2.2 9).bind fun y48 => ((spec_l1Cur_pick y48.2.1 y48.2.2.1 y48.2.2.2 3).bind fun y50 => ((spec_deForm k y48.1 (IntKind.i64.wrap (2 + y50.1))).bind fun y52 => some (y52, y43.1, y2.1)))) else ((spec_l1Cur_anyOrdinal k y45.2.1 y45.2.2.1 y45.2.2.2).bind fun y54 => some (y54.1, y43.1, y2.1))))) else ((spec_l1Cur_one y40.2.1 y40.2.2.1 y40.2.2.2 2).bind fun y56 => (if y56.1 = true then ((spec_l1Cur_pick y56.2.1 y56.2.2.1 y56.2.2.2 9).bind fun y59 => ((spec_l1Cur_pick y59.2.1 y59.2.2.1 y59.2.2.2 3).bind fun y61 => ((spec_deForm k y59.1 (IntKind.i64.wrap (2 + y61.1))).bind fun y63 => some (y63, y38.1, y2.1)))) else ((spec_l1Cur_anyOrdinal k y56.2.1 y56.2.2.1 y56.2.2.2).bind fun y65 => some (y65.1, y38.1, y2.1))))))))))
set_option maxHeartbeats 4000000 in
set_option maxRecDepth 100000 in
theorem spec_DrawHardyValue_ct {k : Nat} {a1 : Rw} {r : Rw × Int × Int} (h : spec_DrawHardyValue k a1 = some r) : Ct prog 12 [.d (D.sl a1)] (⟨[], []⟩) (.tup [.agg [.d (D.sl r.1)], .d (D.int .i64 r.2.1), .d (D.int .i64 r.2.2)]) (⟨[], []⟩) := by
  rw [spec_DrawHardyValue] at h
  refine Ct.of (c := _) mixed func12 ⟨rfl, rfl, rfl⟩ ?_ rfl
  conv => whnf
  obtain ⟨y2, e3, h⟩ := bind_ex h
  refine CallOk.of (spec_l1Cur_pick_ct e3) ?_
  conv => whnf
  refine CutK.norm [2, 5, 6] [128, 640] ?_
  conv => whnf
  obtain ⟨y4, e5, h⟩ := bind_ex h
  refine CallOk.of (spec_l1Cur_one_ct e5) ?_
  conv => whnf
  refine spl (fun g6 => ?_) (fun g6 => ?_)
  · replace h := iteT h g6
    conv => whnf
    refine CutK.norm [2, 5, 6, 14] [128, 640] ?_
    conv => whnf
    refine Take.all (by first | rfl | exact List.length_append.symm | (simp; done) | omega) ?_
    conv => whnf
    obtain ⟨y7, e8, h⟩ := bind_ex h
    refine CallOk.of (spec_l1Cur_among_ct e8) ?_
    conv => whnf
    refine CutK.norm [2, 5, 6] [128, 640] ?_
    conv => whnf
    obtain ⟨y9, e10, h⟩ := bind_ex h
    refine CallOk.of (spec_l1Cur_pick_ct e10) ?_
    conv => whnf
    refine CutK.norm [2, 5, 6, 7] [128, 640] ?_
    conv => whnf
    obtain ⟨y11, e12, h⟩ := bind_ex h
    refine CallOk.of (spec_l1Cur_one_ct e12) ?_
    conv => whnf
    refine spl (fun g13 => ?_) (fun g13 => ?_)
    · replace h := iteT h g13
      conv => whnf
      refine CutK.norm [2, 5, 6, 7, 21] [128, 640] ?_
      conv => whnf
      refine Take.all (by first | rfl | exact List.length_append.symm | (simp; done) | omega) ?_
      conv => whnf
      obtain ⟨y14, e15, h⟩ := bind_ex h
      refine CallOk.of (spec_l1Cur_among_ct e15) ?_
      conv => whnf
      refine CutK.norm [2, 5, 6, 7] [128, 640] ?_
      conv => whnf
      obtain ⟨y16, e17, h⟩ := bind_ex h
      refine CallOk.of (spec_l1Cur_one_ct e17) ?_
      conv => whnf
      refine spl (fun g18 => ?_) (fun g18 => ?_)
      · replace h := iteT h g18
        conv => whnf
        refine CutK.norm [2, 5, 6, 7, 26] [128, 640] ?_
        conv => whnf
        obtain ⟨y19, e20, h⟩ := bind_ex h
        refine CallOk.of (spec_l1Cur_pick_ct e20) ?_
        conv => whnf
        obtain ⟨y21, e22, h⟩ := bind_ex h
        refine CallOk.of (spec_l1Cur_pick_ct e22) ?_
        conv => whnf
        obtain ⟨y23, e24, h⟩ := bind_ex h
        refine CallOk.of (spec_deForm_ct e24) ?_
        conv => whnf
        refine CutK.norm [2, 3, 4] [128, 2048] ?_
        conv => whnf
        cases h
        exact Done.of [] [2048] rfl rfl ⟨⟨rfl, rfl⟩, ⟨rfl, trivial⟩, ⟨⟨⟨rfl, Nat.le_of_eq rfl, eq_take rfl⟩, trivial⟩, rfl, rfl, trivial⟩, trivial⟩
      · replace h := iteF h g18
        conv => whnf
        refine CutK.norm [2, 5, 6, 7, 26] [128, 640] ?_
        conv => whnf
        refine CutK.norm [2, 5, 6, 7] [128, 640] ?_
        conv => whnf
        obtain ⟨y25, e26, h⟩ := bind_ex h
        refine CallOk.of (spec_l1Cur_anyOrdinal_ct e26) ?_
        conv => whnf
        refine CutK.norm [2, 3, 4] [128, 2304] ?_
        conv => whnf
        cases h
        exact Done.of [] [2304] rfl rfl ⟨⟨rfl, rfl⟩, ⟨rfl, trivial⟩, ⟨⟨⟨rfl, Nat.le_of_eq rfl, eq_take rfl⟩, trivial⟩, rfl, rfl, trivial⟩, trivial⟩
    · replace h := iteF h g13
      conv => whnf
      refine CutK.norm [2, 5, 6, 7, 21] [128, 640] ?_
      conv => whnf
      refine CutK.norm [2, 5, 6, 7] [128, 640] ?_
      conv => whnf
      obtain ⟨y27, e28, h⟩ := bind_ex h
      refine CallOk.of (spec_l1Cur_one_ct e28) ?_
      conv => whnf
      refine spl (fun g29 => ?_) (fun g29 => ?_)
      · replace h := iteT h g29
        conv => whnf
        refine CutK.norm [2, 5, 6, 7, 26] [128, 640] ?_
        conv => whnf
        obtain ⟨y30, e31, h⟩ := bind_ex h
        refine CallOk.of (spec_l1Cur_pick_ct e31) ?_
        conv => whnf
        obtain ⟨y32, e33, h⟩ := bind_ex h
        refine CallOk.of (spec_l1Cur_pick_ct e33) ?_
        conv => whnf
        obtain ⟨y34, e35, h⟩ := bind_ex h
        refine CallOk.of (spec_deForm_ct e35) ?_
        conv => whnf
        refine CutK.norm [2, 3, 4] [128, 2048] ?_
        conv => whnf
        cases h
        exact Done.of [] [2048] rfl rfl ⟨⟨rfl, rfl⟩, ⟨rfl, trivial⟩, ⟨⟨⟨rfl, Nat.le_of_eq rfl, eq_take rfl⟩, trivial⟩, rfl, rfl, trivial⟩, trivial⟩
      · replace h := iteF h g29
        conv => whnf
        refine CutK.norm [2, 5, 6, 7, 26] [128, 640] ?_
        conv => whnf
        refine CutK.norm [2, 5, 6, 7] [128, 640] ?_
        conv => whnf
        obtain ⟨y36, e37, h⟩ := bind_ex h
        refine CallOk.of (spec_l1Cur_anyOrdinal_ct e37) ?_
        conv => whnf
        refine CutK.norm [2, 3, 4] [128, 2304] ?_
        conv => whnf
        cases h
        exact Done.of [] [2304] rfl rfl ⟨⟨rfl, rfl⟩, ⟨rfl, trivial⟩, ⟨⟨⟨rfl, Nat.le_of_eq rfl, eq_take rfl⟩, trivial⟩, rfl, rfl, trivial⟩, trivial⟩
  · replace h := iteF h g6
    conv => whnf
    refine CutK.norm [2, 5, 6, 14] [128, 640] ?_
    conv => whnf
    refine CutK.norm [2, 5, 6] [128, 640] ?_
    conv => whnf
    obtain ⟨y38, e39, h⟩ := bind_ex h
    refine CallOk.of (spec_l1Cur_pick_ct e39) ?_
    conv => whnf
    refine CutK.norm [2, 5, 6, 7] [128, 640] ?_
    conv => whnf
    obtain ⟨y40, e41, h⟩ := bind_ex h
    refine CallOk.of (spec_l1Cur_one_ct e41) ?_
    conv => whnf
    refine spl (fun g42 => ?_) (fun g42 => ?_)
    · replace h := iteT h g42
      conv => whnf
      refine CutK.norm [2, 5, 6, 7, 21] [128, 640] ?_
      conv => whnf
      refine Take.all (by first | rfl | exact List.length_append.symm | (simp; done) | omega) ?_
      conv => whnf
      obtain ⟨y43, e44, h⟩ := bind_ex h
      refine CallOk.of (spec_l1Cur_among_ct e44) ?_
      conv => whnf
      refine CutK.norm [2, 5, 6, 7] [128, 640] ?_
      conv => whnf
      obtain ⟨y45, e46, h⟩ := bind_ex h
      refine CallOk.of (spec_l1Cur_one_ct e46) ?_
      conv => whnf
      refine spl (fun g47 => ?_) (fun g47 => ?_)
      · replace h := iteT h g47
        conv => whnf
        refine CutK.norm [2, 5, 6, 7, 26] [128, 640] ?_
        conv => whnf
        obtain ⟨y48, e49, h⟩ := bind_ex h
        refine CallOk.of (spec_l1Cur_pick_ct e49) ?_
        conv => whnf
        obtain ⟨y50, e51, h⟩ := bind_ex h
        refine CallOk.of (spec_l1Cur_pick_ct e51) ?_
        conv => whnf
        obtain ⟨y52, e53, h⟩ := bind_ex h
        refine CallOk.of (spec_deForm_ct e53) ?_
        conv => whnf
        refine CutK.norm [2, 3, 4] [128, 2048] ?_
        conv => whnf
        cases h
        exact Done.of [] [2048] rfl rfl ⟨⟨rfl, rfl⟩, ⟨rfl, trivial⟩, ⟨⟨⟨rfl, Nat.le_of_eq rfl, eq_take rfl⟩, trivial⟩, rfl, rfl, trivial⟩, trivial⟩
      · replace h := iteF h g47
        conv => whnf
        refine CutK.norm [2, 5, 6, 7, 26] [128, 640] ?_
        conv => whnf
        refine CutK.norm [2, 5, 6, 7] [128, 640] ?_
        conv => whnf
        obtain ⟨y54, e55, h⟩ := bind_ex h
        refine CallOk.of (spec_l1Cur_anyOrdinal_ct e55) ?_
        conv => whnf
        refine CutK.norm [2, 3, 4] [128, 2304] ?_
        conv => whnf
        cases h
        exact Done.of [] [2304] rfl rfl ⟨⟨rfl, rfl⟩, ⟨rfl, trivial⟩, ⟨⟨⟨rfl, Nat.le_of_eq rfl, eq_take rfl⟩, trivial⟩, rfl, rfl, trivial⟩, trivial⟩
    · replace h := iteF h g42
      conv => whnf
      refine CutK.norm [2, 5, 6, 7, 21] [128, 640] ?_
      conv => whnf
      refine CutK.norm [2, 5, 6, 7] [128, 640] ?_
      conv => whnf
      obtain ⟨y56, e57, h⟩ := bind_ex h
      refine CallOk.of (spec_l1Cur_one_ct e57) ?_
      conv => whnf
      refine spl (fun g58 => ?_) (fun g58 => ?_)
      · replace h := iteT h g58
        conv => whnf
        refine CutK.norm [2, 5, 6, 7, 26] [128, 640] ?_
        conv => whnf
        obtain ⟨y59, e60, h⟩ := bind_ex h
        refine CallOk.of (spec_l1Cur_pick_ct e60) ?_
        conv => whnf
        obtain ⟨y61, e62, h⟩ := bind_ex h
        refine CallOk.of (spec_l1Cur_pick_ct e62) ?_
        conv => whnf
        obtain ⟨y63, e64, h⟩ := bind_ex h
        refine CallOk.of (spec_deForm_ct e64) ?_
        conv => whnf
        refine CutK.norm [2, 3, 4] [128, 2048] ?_
        conv => whnf
        cases h
        exact Done.of [] [2048] rfl rfl ⟨⟨rfl, rfl⟩, ⟨rfl, trivial⟩, ⟨⟨⟨rfl, Nat.le_of_eq rfl, eq_take rfl⟩, trivial⟩, rfl, rfl, trivial⟩, trivial⟩
      · replace h := iteF h g58
        conv => whnf
        refine CutK.norm [2, 5, 6, 7, 26] [128, 640] ?_
        conv => whnf
        refine CutK.norm [2, 5, 6, 7] [128, 640] ?_
        conv => whnf
        obtain ⟨y65, e66, h⟩ := bind_ex h
        refine CallOk.of (spec_l1Cur_anyOrdinal_ct e66) ?_
        conv => whnf
        refine CutK.norm [2, 3, 4] [128, 2304] ?_
        conv => whnf
        cases h
        exact Done.of [] [2304] rfl rfl ⟨⟨rfl, rfl⟩, ⟨rfl, trivial⟩, ⟨⟨⟨rfl, Nat.le_of_eq rfl, eq_take rfl⟩, trivial⟩, rfl, rfl, trivial⟩, trivial⟩

def laws_big  (a1 : Rw) (a2 : Rw) : Option Bool :=
  (if (1048576 : Int) < (a1.length : Int) then some true else (if (IntKind.i64.wrap (1048576 - (a1.length : Int))) < (a2.length : Int) then some true else some false))
set_option maxHeartbeats 4000000 in
set_option maxRecDepth 100000 in
theorem laws_big_ct  {a1 : Rw} {a2 : Rw} {r : Bool} (h : laws_big a1 a2 = some r) : Ct prog 11 [.d (D.sl a1), .d (D.sl a2)] (⟨[], []⟩) (.d (D.bool r)) (⟨[], []⟩) := by
  rw [laws_big] at h
  refine Ct.of (c := _) mixed func11 ⟨rfl, rfl, rfl⟩ ?_ rfl
  conv => whnf
  refine splD (fun g3 => ?_) (fun g3 => ?_)
  · replace h := iteP h g3
    conv => whnf
    cases h
    exact Done.of [] [] rfl rfl ⟨⟨rfl, rfl⟩, ⟨rfl, trivial⟩, rfl, trivial⟩
  · replace h := iteN h g3
    conv => whnf
    refine splD (fun g4 => ?_) (fun g4 => ?_)
    · replace h := iteP h g4
      conv => whnf
      cases h
      exact Done.of [] [] rfl rfl ⟨⟨rfl, rfl⟩, ⟨rfl, trivial⟩, rfl, trivial⟩
    · replace h := iteN h g4
      conv => whnf
      cases h
      exact Done.of [] [] rfl rfl ⟨⟨rfl, rfl⟩, ⟨rfl, trivial⟩, rfl, trivial⟩

def laws_FnHardyAdds_p15 (o121 : Int) (o122 : Int) (v123 : Bool) : Option Bool :=
  (cond v123 (if o122 = o121 then some true else some false) (some true))
set_option maxHeartbeats 4000000 in
set_option maxRecDepth 100000 in
theorem laws_FnHardyAdds_p15_ct {o121 : Int} {o122 : Int} {v123 : Bool} {r : Bool} (h : laws_FnHardyAdds_p15 o121 o122 v123 = some r) : X prog 0 (tlF f3 15) (mk 140 [(15, .d (D.int .i64 o121)), (23, .d (D.int .i64 o122)), (24, .d (D.bool v123))] []) (finK prog f3 0 (.d (D.bool r)) (⟨[], []⟩)) := by
  rw [laws_FnHardyAdds_p15] at h
  cases v123
  · replace h := condF h
    conv => whnf
    cases h
    exact Done.of [] [] rfl rfl ⟨⟨rfl, rfl⟩, ⟨rfl, trivial⟩, rfl, trivial⟩
  · replace h := condT h
    conv => whnf
    refine splD (fun g125 => ?_) (fun g125 => ?_)
    · replace h := iteP h g125
      conv => whnf
      cases h
      exact Done.of [] [] rfl rfl ⟨⟨rfl, rfl⟩, ⟨rfl, trivial⟩, rfl, trivial⟩
    · replace h := iteN h g125
      conv => whnf
      cases h
      exact Done.of [] [] rfl rfl ⟨⟨rfl, rfl⟩, ⟨rfl, trivial⟩, rfl, trivial⟩
def laws_FnHardyAdds_p14 (k : Nat) (o113 : Int) (o114 : Int) (o115 : Int) (o116 : Int) (o117 : Rw) : Option Bool :=
  ((impl_HardyValue k o117 o114 (IntKind.i64.wrap (o113 + o115))).bind fun y126 => (if y126.2 = true then (laws_FnHardyAdds_p15 o116 y126.1 true) else (laws_FnHardyAdds_p15 o116 y126.1 false)))
set_option maxHeartbeats 4000000 in
set_option maxRecDepth 100000 in
theorem laws_FnHardyAdds_p14_ct {k : Nat} {o113 : Int} {o114 : Int} {o115 : Int} {o116 : Int} {o117 : Rw} {r : Bool} (h : laws_FnHardyAdds_p14 k o113 o114 o115 o116 o117 = some r) : X prog 0 (tlF f3 14) (mk 140 [(7, .d (D.int .i64 o113)), (9, .d (D.int .i64 o114)), (10, .d (D.int .i64 o115)), (15, .d (D.int .i64 o116)), (19, .ptr 1216 0)] [(1216, .box 26 [.os 1134000 o117.length]), (1134000, .arr 104 true o117)]) (finK prog f3 0 (.d (D.bool r)) (⟨[], []⟩)) := by
  rw [laws_FnHardyAdds_p14] at h
  conv => whnf
  refine Take.all (rfl) ?_
  conv => whnf
  obtain ⟨y126, e127, h⟩ := bind_ex h
  refine CallOk.of (impl_HardyValue_ct e127) ?_
  conv => whnf
  refine spl (fun g128 => ?_) (fun g128 => ?_)
  · replace h := iteT h g128
    conv => whnf
    exact CutK.piece (laws_FnHardyAdds_p15_ct  h) [] [] ⟨⟨rfl, rfl⟩, ⟨rfl, trivial⟩, rfl, rfl, rfl, trivial⟩
  · replace h := iteF h g128
    conv => whnf
    exact CutK.piece (laws_FnHardyAdds_p15_ct  h) [] [] ⟨⟨rfl, rfl⟩, ⟨rfl, trivial⟩, rfl, rfl, rfl, trivial⟩
def laws_FnHardyAdds_p13 (k : Nat) (o92 : Int) (o93 : Int) (o94 : Int) (o95 : Int) (o96 : Rw) (o97 : Rw) (v98 : Bool) (v102 : Bool) (v106 : Bool) : Option Bool :=
  (cond v98 (cond v102 (cond v106 ((laws_qSameOrdinal k o96 o97).bind fun y129 => (if y129 = true then (laws_FnHardyAdds_p14 k o92 o93 o94 o95 o96) else some true)) (some true)) (cond v106 (some true) (some true))) (cond v102 (cond v106 (some true) (some true)) (cond v106 (some true) (some true))))
set_option maxHeartbeats 4000000 in
set_option maxRecDepth 100000 in
theorem laws_FnHardyAdds_p13_ct {k : Nat} {o92 : Int} {o93 : Int} {o94 : Int} {o95 : Int} {o96 : Rw} {o97 : Rw} {v98 : Bool} {v102 : Bool} {v106 : Bool} {r : Bool} (h : laws_FnHardyAdds_p13 k o92 o93 o94 o95 o96 o97 v98 v102 v106 = some r) : X prog 0 (tlF f3 13) (mk 140 [(7, .d (D.int .i64 o92)), (9, .d (D.int .i64 o93)), (10, .d (D.int .i64 o94)), (15, .d (D.int .i64 o95)), (18, .d (D.bool v102)), (19, .ptr 1216 0), (20, .d (D.bool v106)), (21, .ptr 1344 0), (22, .d (D.bool v98))] [(1216, .box 26 [.os 1129000 o96.length]), (1344, .box 26 [.os 1129001 o97.length]), (1129000, .arr 104 true o96), (1129001, .arr 104 true o97)]) (finK prog f3 0 (.d (D.bool r)) (⟨[], []⟩)) := by
  rw [laws_FnHardyAdds_p13] at h
  cases v98
  · replace h := condF h
    cases v102
    · replace h := condF h
      cases v106
      · replace h := condF h
        conv => whnf
        refine CutK.norm [7, 9, 10, 15, 19, 123] [1216, 1129000] ?_
        conv => whnf
        cases h
        exact Done.of [] [] rfl rfl ⟨⟨rfl, rfl⟩, ⟨rfl, trivial⟩, rfl, trivial⟩
      · replace h := condT h
        conv => whnf
        refine CutK.norm [7, 9, 10, 15, 19, 123] [1216, 1129000] ?_
        conv => whnf
        cases h
        exact Done.of [] [] rfl rfl ⟨⟨rfl, rfl⟩, ⟨rfl, trivial⟩, rfl, trivial⟩
    · replace h := condT h
      cases v106
      · replace h := condF h
        conv => whnf
        refine CutK.norm [7, 9, 10, 15, 19, 123] [1216, 1129000] ?_
        conv => whnf
        cases h
        exact Done.of [] [] rfl rfl ⟨⟨rfl, rfl⟩, ⟨rfl, trivial⟩, rfl, trivial⟩
      · replace h := condT h
        conv => whnf
        refine CutK.norm [7, 9, 10, 15, 19, 123] [1216, 1129000] ?_
        conv => whnf
        cases h
        exact Done.of [] [] rfl rfl ⟨⟨rfl, rfl⟩, ⟨rfl, trivial⟩, rfl, trivial⟩
  · replace h := condT h
    cases v102
    · replace h := condF h
      cases v106
      · replace h := condF h
        conv => whnf
        refine CutK.norm [7, 9, 10, 15, 19, 123] [1216, 1129000] ?_
        conv => whnf
        cases h
        exact Done.of [] [] rfl rfl ⟨⟨rfl, rfl⟩, ⟨rfl, trivial⟩, rfl, trivial⟩
      · replace h := condT h
        conv => whnf
        refine CutK.norm [7, 9, 10, 15, 19, 123] [1216, 1129000] ?_
        conv => whnf
        cases h
        exact Done.of [] [] rfl rfl ⟨⟨rfl, rfl⟩, ⟨rfl, trivial⟩, rfl, trivial⟩
    · replace h := condT h
      cases v106
      · replace h := condF h
        conv => whnf
        refine CutK.norm [7, 9, 10, 15, 19, 123] [1216, 1129000] ?_
        conv => whnf
        cases h
        exact Done.of [] [] rfl rfl ⟨⟨rfl, rfl⟩, ⟨rfl, trivial⟩, rfl, trivial⟩
      · replace h := condT h
        conv => whnf
        refine Take.all (rfl) ?_
        conv => whnf
        refine Take.all (rfl) ?_
        conv => whnf
        obtain ⟨y129, e130, h⟩ := bind_ex h
        refine CallOk.of (laws_qSameOrdinal_ct e130) ?_
        conv => whnf
        refine spl (fun g131 => ?_) (fun g131 => ?_)
        · replace h := iteT h g131
          conv => whnf
          refine CutK.norm [7, 9, 10, 15, 19, 123] [1216, 1129000] ?_
          conv => whnf
          exact CutK.piece (laws_FnHardyAdds_p14_ct  h) [some 1216, some 1129000] [] ⟨⟨rfl, rfl⟩, ⟨rfl, ⟨rfl, ⟨rfl, rfl⟩, trivial⟩, ⟨rfl, rfl, rows_same⟩, trivial⟩, rfl, rfl, rfl, rfl, ⟨rfl, rfl⟩, trivial⟩
        · replace h := iteF h g131
          conv => whnf
          refine CutK.norm [7, 9, 10, 15, 19, 123] [1216, 1129000] ?_
          conv => whnf
          cases h
          exact Done.of [] [] rfl rfl ⟨⟨rfl, rfl⟩, ⟨rfl, trivial⟩, rfl, trivial⟩
def laws_FnHardyAdds_p12 (k : Nat) (o76 : Int) (o77 : Int) (o78 : Int) (o79 : Int) (o80 : Rw) (o81 : Rw) (o82 : Rw) (v83 : Bool) (v88 : Bool) : Option Bool :=
  (cond v83 (cond v88 ((impl_NaturalSum k o80 o81).bind fun y141 => (if y141.2 = true then (laws_FnHardyAdds_p13 k o76 o77 o78 o79 o82 y141.1 true true true) else (laws_FnHardyAdds_p13 k o76 o77 o78 o79 o82 y141.1 false true true))) ((impl_NaturalSum k o80 o81).bind fun y138 => (if y138.2 = true then (laws_FnHardyAdds_p13 k o76 o77 o78 o79 o82 y138.1 true false true) else (laws_FnHardyAdds_p13 k o76 o77 o78 o79 o82 y138.1 false false true)))) (cond v88 ((impl_NaturalSum k o80 o81).bind fun y135 => (if y135.2 = true then (laws_FnHardyAdds_p13 k o76 o77 o78 o79 o82 y135.1 true true false) else (laws_FnHardyAdds_p13 k o76 o77 o78 o79 o82 y135.1 false true false))) ((impl_NaturalSum k o80 o81).bind fun y132 => (if y132.2 = true then (laws_FnHardyAdds_p13 k o76 o77 o78 o79 o82 y132.1 true false false) else (laws_FnHardyAdds_p13 k o76 o77 o78 o79 o82 y132.1 false false false)))))
set_option maxHeartbeats 4000000 in
set_option maxRecDepth 100000 in
theorem laws_FnHardyAdds_p12_ct {k : Nat} {o76 : Int} {o77 : Int} {o78 : Int} {o79 : Int} {o80 : Rw} {o81 : Rw} {o82 : Rw} {v83 : Bool} {v88 : Bool} {r : Bool} (h : laws_FnHardyAdds_p12 k o76 o77 o78 o79 o80 o81 o82 v83 v88 = some r) : X prog 0 (tlF f3 12) (mk 140 [(5, .ptr 320 0), (7, .d (D.int .i64 o76)), (8, .ptr 512 0), (9, .d (D.int .i64 o77)), (10, .d (D.int .i64 o78)), (15, .d (D.int .i64 o79)), (18, .d (D.bool v88)), (19, .ptr 1216 0), (20, .d (D.bool v83))] [(320, .box 26 [.d (D.sl o80)]), (512, .box 26 [.d (D.sl o81)]), (1216, .box 26 [.os 1124000 o82.length]), (1124000, .arr 104 true o82)]) (finK prog f3 0 (.d (D.bool r)) (⟨[], []⟩)) := by
  rw [laws_FnHardyAdds_p12] at h
  cases v83
  · replace h := condF h
    cases v88
    · replace h := condF h
      conv => whnf
      obtain ⟨y132, e133, h⟩ := bind_ex h
      refine CallOk.of (impl_NaturalSum_ct e133) ?_
      conv => whnf
      refine spl (fun g134 => ?_) (fun g134 => ?_)
      · replace h := iteT h g134
        conv => whnf
        exact CutK.piece (laws_FnHardyAdds_p13_ct  h) [some 1216, some 1344, some 1124000, some 6720] [] ⟨⟨rfl, rfl⟩, ⟨rfl, ⟨rfl, ⟨rfl, rfl⟩, trivial⟩, ⟨rfl, ⟨rfl, rfl⟩, trivial⟩, ⟨rfl, rfl, rows_same⟩, ⟨rfl, rfl, rows_same⟩, trivial⟩, rfl, rfl, rfl, rfl, rfl, ⟨rfl, rfl⟩, rfl, ⟨rfl, rfl⟩, rfl, trivial⟩
      · replace h := iteF h g134
        conv => whnf
        exact CutK.piece (laws_FnHardyAdds_p13_ct  h) [some 1216, some 1344, some 1124000, some 6720] [] ⟨⟨rfl, rfl⟩, ⟨rfl, ⟨rfl, ⟨rfl, rfl⟩, trivial⟩, ⟨rfl, ⟨rfl, rfl⟩, trivial⟩, ⟨rfl, rfl, rows_same⟩, ⟨rfl, rfl, rows_same⟩, trivial⟩, rfl, rfl, rfl, rfl, rfl, ⟨rfl, rfl⟩, rfl, ⟨rfl, rfl⟩, rfl, trivial⟩
    · replace h := condT h
      conv => whnf
      obtain ⟨y135, e136, h⟩ := bind_ex h
      refine CallOk.of (impl_NaturalSum_ct e136) ?_
      conv => whnf
      refine spl (fun g137 => ?_) (fun g137 => ?_)
      · replace h := iteT h g137
        conv => whnf
        exact CutK.piece (laws_FnHardyAdds_p13_ct  h) [some 1216, some 1344, some 1124000, some 6720] [] ⟨⟨rfl, rfl⟩, ⟨rfl, ⟨rfl, ⟨rfl, rfl⟩, trivial⟩, ⟨rfl, ⟨rfl, rfl⟩, trivial⟩, ⟨rfl, rfl, rows_same⟩, ⟨rfl, rfl, rows_same⟩, trivial⟩, rfl, rfl, rfl, rfl, rfl, ⟨rfl, rfl⟩, rfl, ⟨rfl, rfl⟩, rfl, trivial⟩
      · replace h := iteF h g137
        conv => whnf
        exact CutK.piece (laws_FnHardyAdds_p13_ct  h) [some 1216, some 1344, some 1124000, some 6720] [] ⟨⟨rfl, rfl⟩, ⟨rfl, ⟨rfl, ⟨rfl, rfl⟩, trivial⟩, ⟨rfl, ⟨rfl, rfl⟩, trivial⟩, ⟨rfl, rfl, rows_same⟩, ⟨rfl, rfl, rows_same⟩, trivial⟩, rfl, rfl, rfl, rfl, rfl, ⟨rfl, rfl⟩, rfl, ⟨rfl, rfl⟩, rfl, trivial⟩
  · replace h := condT h
    cases v88
    · replace h := condF h
      conv => whnf
      obtain ⟨y138, e139, h⟩ := bind_ex h
      refine CallOk.of (impl_NaturalSum_ct e139) ?_
      conv => whnf
      refine spl (fun g140 => ?_) (fun g140 => ?_)
      · replace h := iteT h g140
        conv => whnf
        exact CutK.piece (laws_FnHardyAdds_p13_ct  h) [some 1216, some 1344, some 1124000, some 6720] [] ⟨⟨rfl, rfl⟩, ⟨rfl, ⟨rfl, ⟨rfl, rfl⟩, trivial⟩, ⟨rfl, ⟨rfl, rfl⟩, trivial⟩, ⟨rfl, rfl, rows_same⟩, ⟨rfl, rfl, rows_same⟩, trivial⟩, rfl, rfl, rfl, rfl, rfl, ⟨rfl, rfl⟩, rfl, ⟨rfl, rfl⟩, rfl, trivial⟩
      · replace h := iteF h g140
        conv => whnf
        exact CutK.piece (laws_FnHardyAdds_p13_ct  h) [some 1216, some 1344, some 1124000, some 6720] [] ⟨⟨rfl, rfl⟩, ⟨rfl, ⟨rfl, ⟨rfl, rfl⟩, trivial⟩, ⟨rfl, ⟨rfl, rfl⟩, trivial⟩, ⟨rfl, rfl, rows_same⟩, ⟨rfl, rfl, rows_same⟩, trivial⟩, rfl, rfl, rfl, rfl, rfl, ⟨rfl, rfl⟩, rfl, ⟨rfl, rfl⟩, rfl, trivial⟩
    · replace h := condT h
      conv => whnf
      obtain ⟨y141, e142, h⟩ := bind_ex h
      refine CallOk.of (impl_NaturalSum_ct e142) ?_
      conv => whnf
      refine spl (fun g143 => ?_) (fun g143 => ?_)
      · replace h := iteT h g143
        conv => whnf
        exact CutK.piece (laws_FnHardyAdds_p13_ct  h) [some 1216, some 1344, some 1124000, some 6720] [] ⟨⟨rfl, rfl⟩, ⟨rfl, ⟨rfl, ⟨rfl, rfl⟩, trivial⟩, ⟨rfl, ⟨rfl, rfl⟩, trivial⟩, ⟨rfl, rfl, rows_same⟩, ⟨rfl, rfl, rows_same⟩, trivial⟩, rfl, rfl, rfl, rfl, rfl, ⟨rfl, rfl⟩, rfl, ⟨rfl, rfl⟩, rfl, trivial⟩
      · replace h := iteF h g143
        conv => whnf
        exact CutK.piece (laws_FnHardyAdds_p13_ct  h) [some 1216, some 1344, some 1124000, some 6720] [] ⟨⟨rfl, rfl⟩, ⟨rfl, ⟨rfl, ⟨rfl, rfl⟩, trivial⟩, ⟨rfl, ⟨rfl, rfl⟩, trivial⟩, ⟨rfl, rfl, rows_same⟩, ⟨rfl, rfl, rows_same⟩, trivial⟩, rfl, rfl, rfl, rfl, rfl, ⟨rfl, rfl⟩, rfl, ⟨rfl, rfl⟩, rfl, trivial⟩
def laws_FnHardyAdds_p10 (k : Nat) (o60 : Int) (o61 : Int) (o62 : Int) (o63 : Int) (o64 : Int) (o65 : Rw) (o66 : Rw) (v67 : Bool) (v71 : Bool) : Option Bool :=
  (cond v67 (cond v71 (if o63 = o64 then ((impl_AddOrdinals k o65 o66).bind fun y149 => (if y149.2 = true then (laws_FnHardyAdds_p12 k o60 o61 o62 o63 o65 o66 y149.1 true true) else (laws_FnHardyAdds_p12 k o60 o61 o62 o63 o65 o66 y149.1 false true))) else some false) (some false)) (cond v71 (some false) (if o63 = o64 then ((impl_AddOrdinals k o65 o66).bind fun y145 => (if y145.2 = true then (laws_FnHardyAdds_p12 k o60 o61 o62 o63 o65 o66 y145.1 true false) else (laws_FnHardyAdds_p12 k o60 o61 o62 o63 o65 o66 y145.1 false false))) else some false)))
set_option maxHeartbeats 4000000 in
set_option maxRecDepth 100000 in
theorem laws_FnHardyAdds_p10_ct {k : Nat} {o60 : Int} {o61 : Int} {o62 : Int} {o63 : Int} {o64 : Int} {o65 : Rw} {o66 : Rw} {v67 : Bool} {v71 : Bool} {r : Bool} (h : laws_FnHardyAdds_p10 k o60 o61 o62 o63 o64 o65 o66 v67 v71 = some r) : X prog 0 (tlF f3 10) (mk 140 [(5, .ptr 320 0), (7, .d (D.int .i64 o60)), (8, .ptr 512 0), (9, .d (D.int .i64 o61)), (10, .d (D.int .i64 o62)), (15, .d (D.int .i64 o63)), (16, .d (D.bool v71)), (17, .d (D.int .i64 o64)), (18, .d (D.bool v67))] [(320, .box 26 [.d (D.sl o65)]), (512, .box 26 [.d (D.sl o66)])]) (finK prog f3 0 (.d (D.bool r)) (⟨[], []⟩)) := by
  rw [laws_FnHardyAdds_p10] at h
  cases v67
  · replace h := condF h
    cases v71
    · replace h := condF h
      conv => whnf
      refine splF ?_
      conv => whnf
      refine splN (fun g144 => ?_) (fun g144 => ?_)
      · replace h := iteN h g144
        conv => whnf
        cases h
        exact Done.of [] [] rfl rfl ⟨⟨rfl, rfl⟩, ⟨rfl, trivial⟩, rfl, trivial⟩
      · replace h := iteP h g144
        conv => whnf
        obtain ⟨y145, e146, h⟩ := bind_ex h
        refine CallOk.of (impl_AddOrdinals_ct e146) ?_
        conv => whnf
        refine spl (fun g147 => ?_) (fun g147 => ?_)
        · replace h := iteT h g147
          conv => whnf
          exact CutK.piece (laws_FnHardyAdds_p12_ct  h) [some 320, some 512, some 1216, some 6336] [] ⟨⟨rfl, rfl⟩, ⟨rfl, ⟨rfl, rfl, trivial⟩, ⟨rfl, rfl, trivial⟩, ⟨rfl, ⟨rfl, rfl⟩, trivial⟩, ⟨rfl, rfl, rows_same⟩, trivial⟩, ⟨rfl, rfl⟩, rfl, ⟨rfl, rfl⟩, rfl, rfl, rfl, rfl, ⟨rfl, rfl⟩, rfl, trivial⟩
        · replace h := iteF h g147
          conv => whnf
          exact CutK.piece (laws_FnHardyAdds_p12_ct  h) [some 320, some 512, some 1216, some 6336] [] ⟨⟨rfl, rfl⟩, ⟨rfl, ⟨rfl, rfl, trivial⟩, ⟨rfl, rfl, trivial⟩, ⟨rfl, ⟨rfl, rfl⟩, trivial⟩, ⟨rfl, rfl, rows_same⟩, trivial⟩, ⟨rfl, rfl⟩, rfl, ⟨rfl, rfl⟩, rfl, rfl, rfl, rfl, ⟨rfl, rfl⟩, rfl, trivial⟩
    · replace h := condT h
      conv => whnf
      refine splT ?_
      conv => whnf
      cases h
      exact Done.of [] [] rfl rfl ⟨⟨rfl, rfl⟩, ⟨rfl, trivial⟩, rfl, trivial⟩
  · replace h := condT h
    cases v71
    · replace h := condF h
      conv => whnf
      refine splT ?_
      conv => whnf
      cases h
      exact Done.of [] [] rfl rfl ⟨⟨rfl, rfl⟩, ⟨rfl, trivial⟩, rfl, trivial⟩
    · replace h := condT h
      conv => whnf
      refine splF ?_
      conv => whnf
      refine splN (fun g148 => ?_) (fun g148 => ?_)
      · replace h := iteN h g148
        conv => whnf
        cases h
        exact Done.of [] [] rfl rfl ⟨⟨rfl, rfl⟩, ⟨rfl, trivial⟩, rfl, trivial⟩
      · replace h := iteP h g148
        conv => whnf
        obtain ⟨y149, e150, h⟩ := bind_ex h
        refine CallOk.of (impl_AddOrdinals_ct e150) ?_
        conv => whnf
        refine spl (fun g151 => ?_) (fun g151 => ?_)
        · replace h := iteT h g151
          conv => whnf
          exact CutK.piece (laws_FnHardyAdds_p12_ct  h) [some 320, some 512, some 1216, some 6336] [] ⟨⟨rfl, rfl⟩, ⟨rfl, ⟨rfl, rfl, trivial⟩, ⟨rfl, rfl, trivial⟩, ⟨rfl, ⟨rfl, rfl⟩, trivial⟩, ⟨rfl, rfl, rows_same⟩, trivial⟩, ⟨rfl, rfl⟩, rfl, ⟨rfl, rfl⟩, rfl, rfl, rfl, rfl, ⟨rfl, rfl⟩, rfl, trivial⟩
        · replace h := iteF h g151
          conv => whnf
          exact CutK.piece (laws_FnHardyAdds_p12_ct  h) [some 320, some 512, some 1216, some 6336] [] ⟨⟨rfl, rfl⟩, ⟨rfl, ⟨rfl, rfl, trivial⟩, ⟨rfl, rfl, trivial⟩, ⟨rfl, ⟨rfl, rfl⟩, trivial⟩, ⟨rfl, rfl, rows_same⟩, trivial⟩, ⟨rfl, rfl⟩, rfl, ⟨rfl, rfl⟩, rfl, rfl, rfl, rfl, ⟨rfl, rfl⟩, rfl, trivial⟩
def laws_FnHardyAdds_p9 (k : Nat) (o49 : Int) (o50 : Int) (o51 : Int) (o52 : Int) (o53 : Int) (o54 : Rw) (o55 : Rw) (v56 : Bool) : Option Bool :=
  (cond v56 ((spec_HardyValue k o54 o52 o49).bind fun y155 => (if y155.2 = true then (laws_FnHardyAdds_p10 k o49 o50 o51 o53 y155.1 o54 o55 true true) else (laws_FnHardyAdds_p10 k o49 o50 o51 o53 y155.1 o54 o55 false true))) ((spec_HardyValue k o54 o52 o49).bind fun y152 => (if y152.2 = true then (laws_FnHardyAdds_p10 k o49 o50 o51 o53 y152.1 o54 o55 true false) else (laws_FnHardyAdds_p10 k o49 o50 o51 o53 y152.1 o54 o55 false false))))
set_option maxHeartbeats 4000000 in
set_option maxRecDepth 100000 in
theorem laws_FnHardyAdds_p9_ct {k : Nat} {o49 : Int} {o50 : Int} {o51 : Int} {o52 : Int} {o53 : Int} {o54 : Rw} {o55 : Rw} {v56 : Bool} {r : Bool} (h : laws_FnHardyAdds_p9 k o49 o50 o51 o52 o53 o54 o55 v56 = some r) : X prog 0 (tlF f3 9) (mk 140 [(5, .ptr 320 0), (7, .d (D.int .i64 o49)), (8, .ptr 512 0), (9, .d (D.int .i64 o50)), (10, .d (D.int .i64 o51)), (11, .d (D.int .i64 o52)), (15, .d (D.int .i64 o53)), (16, .d (D.bool v56))] [(320, .box 26 [.d (D.sl o54)]), (512, .box 26 [.d (D.sl o55)])]) (finK prog f3 0 (.d (D.bool r)) (⟨[], []⟩)) := by
  rw [laws_FnHardyAdds_p9] at h
  cases v56
  · replace h := condF h
    conv => whnf
    obtain ⟨y152, e153, h⟩ := bind_ex h
    refine CallOk.of (spec_HardyValue_ct e153) ?_
    conv => whnf
    refine spl (fun g154 => ?_) (fun g154 => ?_)
    · replace h := iteT h g154
      conv => whnf
      exact CutK.piece (laws_FnHardyAdds_p10_ct  h) [some 320, some 512] [] ⟨⟨rfl, rfl⟩, ⟨rfl, ⟨rfl, rfl, trivial⟩, ⟨rfl, rfl, trivial⟩, trivial⟩, ⟨rfl, rfl⟩, rfl, ⟨rfl, rfl⟩, rfl, rfl, rfl, rfl, rfl, rfl, trivial⟩
    · replace h := iteF h g154
      conv => whnf
      exact CutK.piece (laws_FnHardyAdds_p10_ct  h) [some 320, some 512] [] ⟨⟨rfl, rfl⟩, ⟨rfl, ⟨rfl, rfl, trivial⟩, ⟨rfl, rfl, trivial⟩, trivial⟩, ⟨rfl, rfl⟩, rfl, ⟨rfl, rfl⟩, rfl, rfl, rfl, rfl, rfl, rfl, trivial⟩
  · replace h := condT h
    conv => whnf
    obtain ⟨y155, e156, h⟩ := bind_ex h
    refine CallOk.of (spec_HardyValue_ct e156) ?_
    conv => whnf
    refine spl (fun g157 => ?_) (fun g157 => ?_)
    · replace h := iteT h g157
      conv => whnf
      exact CutK.piece (laws_FnHardyAdds_p10_ct  h) [some 320, some 512] [] ⟨⟨rfl, rfl⟩, ⟨rfl, ⟨rfl, rfl, trivial⟩, ⟨rfl, rfl, trivial⟩, trivial⟩, ⟨rfl, rfl⟩, rfl, ⟨rfl, rfl⟩, rfl, rfl, rfl, rfl, rfl, rfl, trivial⟩
    · replace h := iteF h g157
      conv => whnf
      exact CutK.piece (laws_FnHardyAdds_p10_ct  h) [some 320, some 512] [] ⟨⟨rfl, rfl⟩, ⟨rfl, ⟨rfl, rfl, trivial⟩, ⟨rfl, rfl, trivial⟩, trivial⟩, ⟨rfl, rfl⟩, rfl, ⟨rfl, rfl⟩, rfl, rfl, rfl, rfl, rfl, rfl, trivial⟩
def laws_FnHardyAdds_p6 (k : Nat) (o30 : Int) (o31 : Int) (o32 : Int) (o33 : Int) (o34 : Int) (o35 : Rw) (o36 : Rw) (v37 : Bool) (v41 : Bool) : Option Bool :=
  (cond v37 (cond v41 (if o33 = o34 then (if (1000 : Int) < o33 then some true else (if (200 : Int) < (IntKind.i64.wrap (o30 + o32)) then some true else ((impl_HardyValue k o35 o33 o30).bind fun y162 => (if y162.2 = true then (laws_FnHardyAdds_p9 k o30 o31 o32 o33 y162.1 o35 o36 true) else (laws_FnHardyAdds_p9 k o30 o31 o32 o33 y162.1 o35 o36 false))))) else some false) (some false)) (cond v41 (some false) (if o33 = o34 then some true else some false)))
set_option maxHeartbeats 4000000 in
set_option maxRecDepth 100000 in
theorem laws_FnHardyAdds_p6_ct {k : Nat} {o30 : Int} {o31 : Int} {o32 : Int} {o33 : Int} {o34 : Int} {o35 : Rw} {o36 : Rw} {v37 : Bool} {v41 : Bool} {r : Bool} (h : laws_FnHardyAdds_p6 k o30 o31 o32 o33 o34 o35 o36 v37 v41 = some r) : X prog 0 (tlF f3 6) (mk 140 [(5, .ptr 320 0), (7, .d (D.int .i64 o30)), (8, .ptr 512 0), (9, .d (D.int .i64 o31)), (10, .d (D.int .i64 o32)), (11, .d (D.int .i64 o33)), (12, .d (D.bool v41)), (13, .d (D.int .i64 o34)), (14, .d (D.bool v37))] [(320, .box 26 [.d (D.sl o35)]), (512, .box 26 [.d (D.sl o36)])]) (finK prog f3 0 (.d (D.bool r)) (⟨[], []⟩)) := by
  rw [laws_FnHardyAdds_p6] at h
  cases v37
  · replace h := condF h
    cases v41
    · replace h := condF h
      conv => whnf
      refine splF ?_
      conv => whnf
      refine splN (fun g158 => ?_) (fun g158 => ?_)
      · replace h := iteN h g158
        conv => whnf
        cases h
        exact Done.of [] [] rfl rfl ⟨⟨rfl, rfl⟩, ⟨rfl, trivial⟩, rfl, trivial⟩
      · replace h := iteP h g158
        conv => whnf
        cases h
        exact Done.of [] [] rfl rfl ⟨⟨rfl, rfl⟩, ⟨rfl, trivial⟩, rfl, trivial⟩
    · replace h := condT h
      conv => whnf
      refine splT ?_
      conv => whnf
      cases h
      exact Done.of [] [] rfl rfl ⟨⟨rfl, rfl⟩, ⟨rfl, trivial⟩, rfl, trivial⟩
  · replace h := condT h
    cases v41
    · replace h := condF h
      conv => whnf
      refine splT ?_
      conv => whnf
      cases h
      exact Done.of [] [] rfl rfl ⟨⟨rfl, rfl⟩, ⟨rfl, trivial⟩, rfl, trivial⟩
    · replace h := condT h
      conv => whnf
      refine splF ?_
      conv => whnf
      refine splN (fun g159 => ?_) (fun g159 => ?_)
      · replace h := iteN h g159
        conv => whnf
        cases h
        exact Done.of [] [] rfl rfl ⟨⟨rfl, rfl⟩, ⟨rfl, trivial⟩, rfl, trivial⟩
      · replace h := iteP h g159
        conv => whnf
        refine splD (fun g160 => ?_) (fun g160 => ?_)
        · replace h := iteP h g160
          conv => whnf
          cases h
          exact Done.of [] [] rfl rfl ⟨⟨rfl, rfl⟩, ⟨rfl, trivial⟩, rfl, trivial⟩
        · replace h := iteN h g160
          conv => whnf
          refine splD (fun g161 => ?_) (fun g161 => ?_)
          · replace h := iteP h g161
            conv => whnf
            cases h
            exact Done.of [] [] rfl rfl ⟨⟨rfl, rfl⟩, ⟨rfl, trivial⟩, rfl, trivial⟩
          · replace h := iteN h g161
            conv => whnf
            obtain ⟨y162, e163, h⟩ := bind_ex h
            refine CallOk.of (impl_HardyValue_ct e163) ?_
            conv => whnf
            refine spl (fun g164 => ?_) (fun g164 => ?_)
            · replace h := iteT h g164
              conv => whnf
              exact CutK.piece (laws_FnHardyAdds_p9_ct  h) [some 320, some 512] [] ⟨⟨rfl, rfl⟩, ⟨rfl, ⟨rfl, rfl, trivial⟩, ⟨rfl, rfl, trivial⟩, trivial⟩, ⟨rfl, rfl⟩, rfl, ⟨rfl, rfl⟩, rfl, rfl, rfl, rfl, rfl, trivial⟩
            · replace h := iteF h g164
              conv => whnf
              exact CutK.piece (laws_FnHardyAdds_p9_ct  h) [some 320, some 512] [] ⟨⟨rfl, rfl⟩, ⟨rfl, ⟨rfl, rfl, trivial⟩, ⟨rfl, rfl, trivial⟩, trivial⟩, ⟨rfl, rfl⟩, rfl, ⟨rfl, rfl⟩, rfl, rfl, rfl, rfl, rfl, trivial⟩
def laws_FnHardyAdds_p5 (k : Nat) (o20 : Int) (o21 : Int) (o22 : Int) (o23 : Int) (o24 : Rw) (o25 : Rw) (v26 : Bool) : Option Bool :=
  (cond v26 ((spec_HardyValue k o25 o21 o22).bind fun y168 => (if y168.2 = true then (laws_FnHardyAdds_p6 k o20 o21 o22 o23 y168.1 o24 o25 true true) else (laws_FnHardyAdds_p6 k o20 o21 o22 o23 y168.1 o24 o25 false true))) ((spec_HardyValue k o25 o21 o22).bind fun y165 => (if y165.2 = true then (laws_FnHardyAdds_p6 k o20 o21 o22 o23 y165.1 o24 o25 true false) else (laws_FnHardyAdds_p6 k o20 o21 o22 o23 y165.1 o24 o25 false false))))
set_option maxHeartbeats 4000000 in
set_option maxRecDepth 100000 in
theorem laws_FnHardyAdds_p5_ct {k : Nat} {o20 : Int} {o21 : Int} {o22 : Int} {o23 : Int} {o24 : Rw} {o25 : Rw} {v26 : Bool} {r : Bool} (h : laws_FnHardyAdds_p5 k o20 o21 o22 o23 o24 o25 v26 = some r) : X prog 0 (tlF f3 5) (mk 140 [(5, .ptr 320 0), (7, .d (D.int .i64 o20)), (8, .ptr 512 0), (9, .d (D.int .i64 o21)), (10, .d (D.int .i64 o22)), (11, .d (D.int .i64 o23)), (12, .d (D.bool v26))] [(320, .box 26 [.d (D.sl o24)]), (512, .box 26 [.d (D.sl o25)])]) (finK prog f3 0 (.d (D.bool r)) (⟨[], []⟩)) := by
  rw [laws_FnHardyAdds_p5] at h
  cases v26
  · replace h := condF h
    conv => whnf
    obtain ⟨y165, e166, h⟩ := bind_ex h
    refine CallOk.of (spec_HardyValue_ct e166) ?_
    conv => whnf
    refine spl (fun g167 => ?_) (fun g167 => ?_)
    · replace h := iteT h g167
      conv => whnf
      exact CutK.piece (laws_FnHardyAdds_p6_ct  h) [some 320, some 512] [] ⟨⟨rfl, rfl⟩, ⟨rfl, ⟨rfl, rfl, trivial⟩, ⟨rfl, rfl, trivial⟩, trivial⟩, ⟨rfl, rfl⟩, rfl, ⟨rfl, rfl⟩, rfl, rfl, rfl, rfl, rfl, rfl, trivial⟩
    · replace h := iteF h g167
      conv => whnf
      exact CutK.piece (laws_FnHardyAdds_p6_ct  h) [some 320, some 512] [] ⟨⟨rfl, rfl⟩, ⟨rfl, ⟨rfl, rfl, trivial⟩, ⟨rfl, rfl, trivial⟩, trivial⟩, ⟨rfl, rfl⟩, rfl, ⟨rfl, rfl⟩, rfl, rfl, rfl, rfl, rfl, rfl, trivial⟩
  · replace h := condT h
    conv => whnf
    obtain ⟨y168, e169, h⟩ := bind_ex h
    refine CallOk.of (spec_HardyValue_ct e169) ?_
    conv => whnf
    refine spl (fun g170 => ?_) (fun g170 => ?_)
    · replace h := iteT h g170
      conv => whnf
      exact CutK.piece (laws_FnHardyAdds_p6_ct  h) [some 320, some 512] [] ⟨⟨rfl, rfl⟩, ⟨rfl, ⟨rfl, rfl, trivial⟩, ⟨rfl, rfl, trivial⟩, trivial⟩, ⟨rfl, rfl⟩, rfl, ⟨rfl, rfl⟩, rfl, rfl, rfl, rfl, rfl, rfl, trivial⟩
    · replace h := iteF h g170
      conv => whnf
      exact CutK.piece (laws_FnHardyAdds_p6_ct  h) [some 320, some 512] [] ⟨⟨rfl, rfl⟩, ⟨rfl, ⟨rfl, rfl, trivial⟩, ⟨rfl, rfl, trivial⟩, trivial⟩, ⟨rfl, rfl⟩, rfl, ⟨rfl, rfl⟩, rfl, rfl, rfl, rfl, rfl, rfl, trivial⟩
def laws_FnHardyAdds_p4 (k : Nat) (o12 : Int) (o13 : Int) (o14 : Int) (o15 : Rw) (o16 : Rw) : Option Bool :=
  ((impl_HardyValue k o16 o13 o14).bind fun y171 => (if y171.2 = true then (laws_FnHardyAdds_p5 k o12 o13 o14 y171.1 o15 o16 true) else (laws_FnHardyAdds_p5 k o12 o13 o14 y171.1 o15 o16 false)))
set_option maxHeartbeats 4000000 in
set_option maxRecDepth 100000 in
theorem laws_FnHardyAdds_p4_ct {k : Nat} {o12 : Int} {o13 : Int} {o14 : Int} {o15 : Rw} {o16 : Rw} {r : Bool} (h : laws_FnHardyAdds_p4 k o12 o13 o14 o15 o16 = some r) : X prog 0 (tlF f3 4) (mk 140 [(5, .ptr 320 0), (7, .d (D.int .i64 o12)), (8, .ptr 512 0), (9, .d (D.int .i64 o13)), (10, .d (D.int .i64 o14))] [(320, .box 26 [.d (D.sl o15)]), (512, .box 26 [.d (D.sl o16)])]) (finK prog f3 0 (.d (D.bool r)) (⟨[], []⟩)) := by
  rw [laws_FnHardyAdds_p4] at h
  conv => whnf
  obtain ⟨y171, e172, h⟩ := bind_ex h
  refine CallOk.of (impl_HardyValue_ct e172) ?_
  conv => whnf
  refine spl (fun g173 => ?_) (fun g173 => ?_)
  · replace h := iteT h g173
    conv => whnf
    exact CutK.piece (laws_FnHardyAdds_p5_ct  h) [some 320, some 512] [] ⟨⟨rfl, rfl⟩, ⟨rfl, ⟨rfl, rfl, trivial⟩, ⟨rfl, rfl, trivial⟩, trivial⟩, ⟨rfl, rfl⟩, rfl, ⟨rfl, rfl⟩, rfl, rfl, rfl, rfl, trivial⟩
  · replace h := iteF h g173
    conv => whnf
    exact CutK.piece (laws_FnHardyAdds_p5_ct  h) [some 320, some 512] [] ⟨⟨rfl, rfl⟩, ⟨rfl, ⟨rfl, rfl, trivial⟩, ⟨rfl, rfl, trivial⟩, trivial⟩, ⟨rfl, rfl⟩, rfl, ⟨rfl, rfl⟩, rfl, rfl, rfl, rfl, trivial⟩
def laws_FnHardyAdds_p3 (k : Nat) (a2 : Rw) (o8 : Int) (o9 : Rw) : Option Bool :=
  ((spec_DrawHardyValue k a2).bind fun y174 => (laws_FnHardyAdds_p4 k o8 y174.2.1 y174.2.2 o9 y174.1))
set_option maxHeartbeats 4000000 in
set_option maxRecDepth 100000 in
theorem laws_FnHardyAdds_p3_ct {k : Nat} {a2 : Rw} {o8 : Int} {o9 : Rw} {r : Bool} (h : laws_FnHardyAdds_p3 k a2 o8 o9 = some r) : X prog 0 (tlF f3 3) (mk 140 [(1, .d (D.sl a2)), (5, .ptr 320 0), (7, .d (D.int .i64 o8))] [(320, .box 26 [.d (D.sl o9)])]) (finK prog f3 0 (.d (D.bool r)) (⟨[], []⟩)) := by
  rw [laws_FnHardyAdds_p3] at h
  conv => whnf
  obtain ⟨y174, e175, h⟩ := bind_ex h
  refine CallOk.of (spec_DrawHardyValue_ct e175) ?_
  conv => whnf
  exact CutK.piece (laws_FnHardyAdds_p4_ct  h) [some 320, some 512] [] ⟨⟨rfl, rfl⟩, ⟨rfl, ⟨rfl, rfl, trivial⟩, ⟨rfl, rfl, trivial⟩, trivial⟩, ⟨rfl, rfl⟩, rfl, ⟨rfl, rfl⟩, rfl, rfl, trivial⟩
def laws_FnHardyAdds_p2 (k : Nat) (a1 : Rw) (a2 : Rw) : Option Bool :=
  ((spec_DrawHardyValue k a1).bind fun y176 => (laws_FnHardyAdds_p3 k a2 y176.2.2 y176.1))
set_option maxHeartbeats 4000000 in
set_option maxRecDepth 100000 in
theorem laws_FnHardyAdds_p2_ct {k : Nat} {a1 : Rw} {a2 : Rw} {r : Bool} (h : laws_FnHardyAdds_p2 k a1 a2 = some r) : X prog 0 (tlF f3 2) (mk 140 [(0, .d (D.sl a1)), (1, .d (D.sl a2))] []) (finK prog f3 0 (.d (D.bool r)) (⟨[], []⟩)) := by
  rw [laws_FnHardyAdds_p2] at h
  conv => whnf
  obtain ⟨y176, e177, h⟩ := bind_ex h
  refine CallOk.of (spec_DrawHardyValue_ct e177) ?_
  conv => whnf
  exact CutK.piece (laws_FnHardyAdds_p3_ct  h) [some 320] [] ⟨⟨rfl, rfl⟩, ⟨rfl, ⟨rfl, rfl, trivial⟩, trivial⟩, rfl, ⟨rfl, rfl⟩, rfl, trivial⟩
def laws_FnHardyAdds (k : Nat) (a1 : Rw) (a2 : Rw) : Option Bool :=
  ((laws_big a1 a2).bind fun y178 => (if y178 = true then some true else (laws_FnHardyAdds_p2 k a1 a2)))
set_option maxHeartbeats 4000000 in
set_option maxRecDepth 100000 in
theorem laws_FnHardyAdds_ct {k : Nat} {a1 : Rw} {a2 : Rw} {r : Bool} (h : laws_FnHardyAdds k a1 a2 = some r) : Ct prog 3 [.d (D.sl a1), .d (D.sl a2)] (⟨[], []⟩) (.d (D.bool r)) (⟨[], []⟩) := by
  rw [laws_FnHardyAdds] at h
  refine Ct.of (c := _) mixed func3 ⟨rfl, rfl, rfl⟩ ?_ rfl
  conv => whnf
  obtain ⟨y178, e179, h⟩ := bind_ex h
  refine CallOk.of (laws_big_ct e179) ?_
  conv => whnf
  refine spl (fun g180 => ?_) (fun g180 => ?_)
  · replace h := iteT h g180
    conv => whnf
    refine CutK.norm [0, 1, 27] [] ?_
    conv => whnf
    cases h
    exact Done.of [] [] rfl rfl ⟨⟨rfl, rfl⟩, ⟨rfl, trivial⟩, rfl, trivial⟩
  · replace h := iteF h g180
    conv => whnf
    refine CutK.norm [0, 1, 27] [] ?_
    conv => whnf
    exact CutK.piece (laws_FnHardyAdds_p2_ct  h) [] [] ⟨⟨rfl, rfl⟩, ⟨rfl, trivial⟩, rfl, rfl, trivial⟩
end
end Go.Proofs.Try
