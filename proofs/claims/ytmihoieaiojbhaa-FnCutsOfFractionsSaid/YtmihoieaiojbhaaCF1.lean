/- Printed by program (axgen): pure functions, and that the Go functions compute them. -/
import Derived.Test.YtmihoieaiojbhaaCF0
set_option linter.unusedVariables false
set_option linter.unusedSimpArgs false
namespace Go.Proofs.Try
open Go Go.AX
noncomputable section
def spec_l1Cur_fraction (k : Nat) (a1 : Rw) (a2 : Int) (a3 : Int) : Option (Int × Int × Rw × Int × Int) :=
  ((spec_l1Cur_pick a1 a2 a3 8).bind fun y4 => (if y4.1 = (0 : Int) then ((spec_l1Cur_pick y4.2.1 y4.2.2.1 y4.2.2.2 41).bind fun y7 => ((spec_l1Cur_pick y7.2.1 y7.2.2.1 y7.2.2.2 30).bind fun y9 => ((spec_shMake k (IntKind.i64.wrap (y7.1 - 20)) (IntKind.i64.wrap (1 + y9.1))).bind fun y11 => some (y11.1, y11.2, y9.2.1, y9.2.2.1, y9.2.2.2)))) else (if y4.1 = (1 : Int) then ((spec_l1Cur_pick y4.2.1 y4.2.2.1 y4.2.2.2 9).bind fun y14 => ((spec_shInt (IntKind.i64.wrap (y14.1 - 4))).bind fun y16 => some (y16.1, y16.2, y14.2.1, y14.2.2.1, y14.2.2.2))) else (if y4.1 = (2 : Int) then ((spec_l1Cur_among y4.2.1 y4.2.2.1 y4.2.2.2 ([[D.int .i64 0], [D.int .i64 0], [D.int .i64 2], [D.int .i64 (-2)], [D.int .i64 1000000], [D.int .i64 (-999999)], [D.int .i64 (-9223372036854775808)], [D.int .i64 1000001]] : Rw)).bind fun y19 => ((spec_l1Cur_among y19.2.1 y19.2.2.1 y19.2.2.2 ([[D.int .i64 1], [D.int .i64 1], [D.int .i64 1], [D.int .i64 3], [D.int .i64 1000000], [D.int .i64 0], [D.int .i64 (-1)], [D.int .i64 1000001]] : Rw)).bind fun y21 => some (y19.1, y21.1, y21.2.1, y21.2.2.1, y21.2.2.2))) else (if y4.1 = (3 : Int) then ((spec_l1Cur_pick y4.2.1 y4.2.2.1 y4.2.2.2 2000).bind fun y24 => ((spec_l1Cur_pick y24.2.1 y24.2.2.1 y24.2.2.2 2000).bind fun y26 => ((spec_shMake k (IntKind.i64.wrap (y24.1 - 1000)) (IntKind.i64.wrap (1 + y26.1))).bind fun y28 => some (y28.1, y28.2, y26.2.1, y26.2.2.1, y26.2.2.2)))) else ((spec_l1Cur_among y4.2.1 y4.2.2.1 y4.2.2.2 ([[D.int .i64 2], [D.int .i64 4], [D.int .i64 8], [D.int .i64 20]] : Rw)).bind fun y30 => ((spec_l1Cur_word k y30.2.1 y30.2.2.1 y30.2.2.2 y30.1).bind fun y32 => ((spec_shValue k y32.1).bind fun y34 => some (y34.1, y34.2, y32.2.1, y32.2.2.1, y32.2.2.2)))))))))
set_option maxHeartbeats 4000000 in
set_option maxRecDepth 100000 in
theorem spec_l1Cur_fraction_ct {k : Nat} {a1 : Rw} {a2 : Int} {a3 : Int} {r : Int × Int × Rw × Int × Int} (h : spec_l1Cur_fraction k a1 a2 a3 = some r) : Ct prog 48 [.ptr 0 0] (⟨[(81, [.d (D.sl a1), .d (D.int .i64 a2), .d (D.int .u64 a3)])], []⟩) (.agg [.d (D.int .i64 r.1), .d (D.int .i64 r.2.1)]) (⟨[(81, [.d (D.sl r.2.2.1), .d (D.int .i64 r.2.2.2.1), .d (D.int .u64 r.2.2.2.2)])], []⟩) := by
  rw [spec_l1Cur_fraction] at h
  refine Ct.of (c := _) mixed func48 ⟨rfl, rfl, rfl⟩ ?_ rfl
  conv => whnf
  refine Pick.no ?_
  conv => whnf
  obtain ⟨y4, e5, h⟩ := bind_ex h
  refine CallOk.of (spec_l1Cur_pick_ct e5) ?_
  conv => whnf
  refine CutK.norm [0, 2, 4] [0, 128] ?_
  conv => whnf
  refine splD (fun g6 => ?_) (fun g6 => ?_)
  · replace h := iteP h g6
    conv => whnf
    refine Pick.no ?_
    conv => whnf
    obtain ⟨y7, e8, h⟩ := bind_ex h
    refine CallOk.of (spec_l1Cur_pick_ct e8) ?_
    conv => whnf
    refine Pick.no ?_
    conv => whnf
    obtain ⟨y9, e10, h⟩ := bind_ex h
    refine CallOk.of (spec_l1Cur_pick_ct e10) ?_
    conv => whnf
    refine Pick.no ?_
    conv => whnf
    obtain ⟨y11, e12, h⟩ := bind_ex h
    refine CallOk.of (spec_shMake_ct e12) ?_
    conv => whnf
    refine CutK.norm [2] [0, 128] ?_
    conv => whnf
    cases h
    exact Done.of [some 0] [] rfl rfl ⟨⟨rfl, rfl⟩, ⟨rfl, ⟨rfl, rfl, rfl, rfl, trivial⟩, trivial⟩, ⟨rfl, rfl, trivial⟩, trivial⟩
  · replace h := iteN h g6
    conv => whnf
    refine splD (fun g13 => ?_) (fun g13 => ?_)
    · replace h := iteP h g13
      conv => whnf
      refine Pick.no ?_
      conv => whnf
      obtain ⟨y14, e15, h⟩ := bind_ex h
      refine CallOk.of (spec_l1Cur_pick_ct e15) ?_
      conv => whnf
      refine Pick.no ?_
      conv => whnf
      obtain ⟨y16, e17, h⟩ := bind_ex h
      refine CallOk.of (spec_shInt_ct e17) ?_
      conv => whnf
      refine CutK.norm [2] [0, 128] ?_
      conv => whnf
      cases h
      exact Done.of [some 0] [] rfl rfl ⟨⟨rfl, rfl⟩, ⟨rfl, ⟨rfl, rfl, rfl, rfl, trivial⟩, trivial⟩, ⟨rfl, rfl, trivial⟩, trivial⟩
    · replace h := iteN h g13
      conv => whnf
      refine splD (fun g18 => ?_) (fun g18 => ?_)
      · replace h := iteP h g18
        conv => whnf
        refine Pick.no ?_
        conv => whnf
        refine Take.all (by first | rfl | exact List.length_append.symm | (simp; done) | omega) ?_
        conv => whnf
        obtain ⟨y19, e20, h⟩ := bind_ex h
        refine CallOk.of (spec_l1Cur_among_ct e20) ?_
        conv => whnf
        refine Pick.no ?_
        conv => whnf
        refine Take.all (by first | rfl | exact List.length_append.symm | (simp; done) | omega) ?_
        conv => whnf
        obtain ⟨y21, e22, h⟩ := bind_ex h
        refine CallOk.of (spec_l1Cur_among_ct e22) ?_
        conv => whnf
        refine CutK.norm [2] [0, 128] ?_
        conv => whnf
        cases h
        exact Done.of [some 0] [] rfl rfl ⟨⟨rfl, rfl⟩, ⟨rfl, ⟨rfl, rfl, rfl, rfl, trivial⟩, trivial⟩, ⟨rfl, rfl, trivial⟩, trivial⟩
      · replace h := iteN h g18
        conv => whnf
        refine splD (fun g23 => ?_) (fun g23 => ?_)
        · replace h := iteP h g23
          conv => whnf
          refine Pick.no ?_
          conv => whnf
          obtain ⟨y24, e25, h⟩ := bind_ex h
          refine CallOk.of (spec_l1Cur_pick_ct e25) ?_
          conv => whnf
          refine Pick.no ?_
          conv => whnf
          obtain ⟨y26, e27, h⟩ := bind_ex h
          refine CallOk.of (spec_l1Cur_pick_ct e27) ?_
          conv => whnf
          refine Pick.no ?_
          conv => whnf
          obtain ⟨y28, e29, h⟩ := bind_ex h
          refine CallOk.of (spec_shMake_ct e29) ?_
          conv => whnf
          refine CutK.norm [2] [0, 128] ?_
          conv => whnf
          cases h
          exact Done.of [some 0] [] rfl rfl ⟨⟨rfl, rfl⟩, ⟨rfl, ⟨rfl, rfl, rfl, rfl, trivial⟩, trivial⟩, ⟨rfl, rfl, trivial⟩, trivial⟩
        · replace h := iteN h g23
          conv => whnf
          refine CutK.norm [0, 2] [0, 128] ?_
          conv => whnf
          refine Pick.no ?_
          conv => whnf
          refine Take.all (by first | rfl | exact List.length_append.symm | (simp; done) | omega) ?_
          conv => whnf
          obtain ⟨y30, e31, h⟩ := bind_ex h
          refine CallOk.of (spec_l1Cur_among_ct e31) ?_
          conv => whnf
          refine Pick.no ?_
          conv => whnf
          obtain ⟨y32, e33, h⟩ := bind_ex h
          refine CallOk.of (spec_l1Cur_word_ct e33) ?_
          conv => whnf
          refine Pick.no ?_
          conv => whnf
          obtain ⟨y34, e35, h⟩ := bind_ex h
          refine CallOk.of (spec_shValue_ct e35) ?_
          conv => whnf
          refine CutK.norm [2] [0, 128] ?_
          conv => whnf
          cases h
          exact Done.of [some 0] [] rfl rfl ⟨⟨rfl, rfl⟩, ⟨rfl, ⟨rfl, rfl, rfl, rfl, trivial⟩, trivial⟩, ⟨rfl, rfl, trivial⟩, trivial⟩

def spec_DrawWordOf (k : Nat) (a1 : Rw) : Option (Int × Int) :=
  ((spec_l1Cur_fraction k a1 0 0).bind fun y2 => some (y2.1, y2.2.1))
set_option maxHeartbeats 4000000 in
set_option maxRecDepth 100000 in
theorem spec_DrawWordOf_ct {k : Nat} {a1 : Rw} {r : Int × Int} (h : spec_DrawWordOf k a1 = some r) : Ct prog 12 [.d (D.sl a1)] (⟨[], []⟩) (.agg [.d (D.int .i64 r.1), .d (D.int .i64 r.2)]) (⟨[], []⟩) := by
  rw [spec_DrawWordOf] at h
  refine Ct.of (c := _) mixed func12 ⟨rfl, rfl, rfl⟩ ?_ rfl
  conv => whnf
  refine Pick.no ?_
  conv => whnf
  obtain ⟨y2, e3, h⟩ := bind_ex h
  refine CallOk.of (spec_l1Cur_fraction_ct e3) ?_
  conv => whnf
  refine CutK.go ?_
  conv => whnf
  cases h
  exact Done.of [] [] rfl rfl ⟨⟨rfl, rfl⟩, ⟨rfl, trivial⟩, ⟨rfl, rfl, trivial⟩, trivial⟩

def spec_l1In  (a1 : Int) (a2 : Int) (a3 : Int) : Option Bool :=
  (if a2 ≤ a1 then (if a1 ≤ a3 then some true else some false) else some false)
set_option maxHeartbeats 4000000 in
set_option maxRecDepth 100000 in
theorem spec_l1In_ct  {a1 : Int} {a2 : Int} {a3 : Int} {r : Bool} (h : spec_l1In a1 a2 a3 = some r) : Ct prog 142 [.d (D.int .i64 a1), .d (D.int .i64 a2), .d (D.int .i64 a3)] (⟨[], []⟩) (.d (D.bool r)) (⟨[], []⟩) := by
  rw [spec_l1In] at h
  refine Ct.of (c := _) mixed func142 ⟨rfl, rfl, rfl⟩ ?_ rfl
  conv => whnf
  refine splD (fun g4 => ?_) (fun g4 => ?_)
  · replace h := iteP h g4
    conv => whnf
    refine splD (fun g5 => ?_) (fun g5 => ?_)
    · replace h := iteP h g5
      conv => whnf
      cases h
      exact Done.of [] [] rfl rfl ⟨⟨rfl, rfl⟩, ⟨rfl, trivial⟩, rfl, trivial⟩
    · replace h := iteN h g5
      conv => whnf
      cases h
      exact Done.of [] [] rfl rfl ⟨⟨rfl, rfl⟩, ⟨rfl, trivial⟩, rfl, trivial⟩
  · replace h := iteN h g4
    conv => whnf
    cases h
    exact Done.of [] [] rfl rfl ⟨⟨rfl, rfl⟩, ⟨rfl, trivial⟩, rfl, trivial⟩

def spec_shGood (k : Nat) (a1 : Int) (a2 : Int) : Option Bool :=
  ((spec_l1In a2 1 1000000).bind fun y3 => (if y3 = true then ((spec_l1In a1 (-1000000) 1000000).bind fun y6 => (if y6 = true then ((spec_shGcd k a1 a2).bind fun y9 => (if y9 = (1 : Int) then some true else some false)) else some false)) else some false))
set_option maxHeartbeats 4000000 in
set_option maxRecDepth 100000 in
theorem spec_shGood_ct {k : Nat} {a1 : Int} {a2 : Int} {r : Bool} (h : spec_shGood k a1 a2 = some r) : Ct prog 101 [.agg [.d (D.int .i64 a1), .d (D.int .i64 a2)]] (⟨[], []⟩) (.d (D.bool r)) (⟨[], []⟩) := by
  rw [spec_shGood] at h
  refine Ct.of (c := _) mixed func101 ⟨rfl, rfl, rfl⟩ ?_ rfl
  conv => whnf
  refine Pick.no ?_
  conv => whnf
  obtain ⟨y3, e4, h⟩ := bind_ex h
  refine CallOk.of (spec_l1In_ct e4) ?_
  conv => whnf
  refine spl (fun g5 => ?_) (fun g5 => ?_)
  · replace h := iteT h g5
    conv => whnf
    refine Pick.no ?_
    conv => whnf
    obtain ⟨y6, e7, h⟩ := bind_ex h
    refine CallOk.of (spec_l1In_ct e7) ?_
    conv => whnf
    refine spl (fun g8 => ?_) (fun g8 => ?_)
    · replace h := iteT h g8
      conv => whnf
      refine Pick.no ?_
      conv => whnf
      obtain ⟨y9, e10, h⟩ := bind_ex h
      refine CallOk.of (spec_shGcd_ct e10) ?_
      conv => whnf
      refine splD (fun g11 => ?_) (fun g11 => ?_)
      · replace h := iteP h g11
        conv => whnf
        refine CutK.go ?_
        conv => whnf
        cases h
        exact Done.of [] [] rfl rfl ⟨⟨rfl, rfl⟩, ⟨rfl, trivial⟩, rfl, trivial⟩
      · replace h := iteN h g11
        conv => whnf
        refine CutK.go ?_
        conv => whnf
        cases h
        exact Done.of [] [] rfl rfl ⟨⟨rfl, rfl⟩, ⟨rfl, trivial⟩, rfl, trivial⟩
    · replace h := iteF h g8
      conv => whnf
      refine CutK.go ?_
      conv => whnf
      cases h
      exact Done.of [] [] rfl rfl ⟨⟨rfl, rfl⟩, ⟨rfl, trivial⟩, rfl, trivial⟩
  · replace h := iteF h g5
    conv => whnf
    refine CutK.go ?_
    conv => whnf
    cases h
    exact Done.of [] [] rfl rfl ⟨⟨rfl, rfl⟩, ⟨rfl, trivial⟩, rfl, trivial⟩

def spec_shList_l0 (k : Nat) (a1 : Rw) (a2 : Int) (K0 : Option Bool) : Rw → Option Bool
  | [] => (K0)
  | cs :: rest => (cell_ii cs fun x20 x21 => ((spec_shGood k x20 x21).bind fun y23 => (if y23 = true then (spec_shList_l0 k a1 a2 K0 rest) else some false)))
set_option maxHeartbeats 4000000 in
set_option maxRecDepth 100000 in
theorem spec_shList_l0_ct {k : Nat} {a1 : Rw} {a2 : Int} {K0 : Option Bool} {r : Bool} (hx : a1.length ≤ cap) : ∀ (rest : Rw) (v11n : Nat), a1.drop v11n = rest → spec_shList_l0 k a1 a2 K0 rest = some r → LoopOk prog 0 (lp f45 0) (mk 21 [(0, .d (D.sl a1)), (1, .d (D.int .i64 a2)), (7, .d (D.sl a1)), (8, .d (D.int .i64 (a1.length : Int))), (9, .d (D.int .i64 (v11n : Int)))] []) (LoopEnd prog f45 0 21 (.d (D.bool r)) (⟨[], []⟩) (fun i ts os => (i = 0 ∧ K0 = some r ∧ ts = [(0, .d (D.sl a1)), (1, .d (D.int .i64 a2))] ∧ os = [])))
  | [], v11n, hd, h => by
      rw [spec_shList_l0] at h
      have hn := drop_nil hd
      refine LoopOk.step ?_
      conv => whnf
      refine splD (fun g => absurd g hn) (fun _ => ?_)
      conv => whnf
      exact ⟨_, _, [], [], ⟨rfl, h, rfl, rfl⟩, ⟨⟨rfl, rfl⟩, ⟨rfl, trivial⟩, rfl, rfl, trivial⟩⟩
  | cs :: rest, v11n, hd, h => by
      rw [spec_shList_l0] at h
      obtain ⟨hrow, hd1, hlt⟩ := drop_cons hd
      refine LoopOk.step ?_
      conv => whnf
      refine splD (fun _ => ?_) (fun g => absurd hlt g)
      conv => whnf
      obtain ⟨x20, x21, e22, h⟩ := cell_ii_ex h
      rw [e22] at hrow
      refine Req.of (Int.natCast_nonneg _) ?_
      refine Row.of _ hrow ?_
      conv => whnf
      refine Pick.no ?_
      conv => whnf
      obtain ⟨y23, e24, h⟩ := bind_ex h
      refine CallOk.of (spec_shGood_ct e24) ?_
      conv => whnf
      refine spl (fun g25 => ?_) (fun g25 => ?_)
      · replace h := iteT h g25
        conv => whnf
        refine CutK.go ?_
        conv => whnf
        refine CutK.go ?_
        conv => whnf
        exact LoopOk.back (spec_shList_l0_ct hx rest (v11n + 1)  hd1 h) [] [] ⟨⟨rfl, rfl⟩, ⟨rfl, trivial⟩, rfl, rfl, rfl, rfl, i64eq (wrap_up hlt hx), trivial⟩
      · replace h := iteF h g25
        conv => whnf
        refine CutK.go ?_
        conv => whnf
        cases h
        exact Done.of [] [] rfl rfl ⟨⟨rfl, rfl⟩, ⟨rfl, trivial⟩, rfl, trivial⟩
def spec_shList (k : Nat) (a1 : Rw) (a2 : Int) : Option Bool :=
  (if a1.length ≤ cap then (spec_shList_l0 k a1 a2 (if (a1.length : Int) ≤ a2 then some true else some false) a1) else none)
set_option maxHeartbeats 4000000 in
set_option maxRecDepth 100000 in
theorem spec_shList_ct {k : Nat} {a1 : Rw} {a2 : Int} {r : Bool} (h : spec_shList k a1 a2 = some r) : Ct prog 45 [.d (D.sl a1), .d (D.int .i64 a2)] (⟨[], []⟩) (.d (D.bool r)) (⟨[], []⟩) := by
  rw [spec_shList] at h
  refine Ct.of (c := _) mixed func45 ⟨rfl, rfl, rfl⟩ ?_ rfl
  conv => whnf
  obtain ⟨g26, h⟩ := req_ex h
  refine LoopOk.into (spec_shList_l0_ct  g26 _ _  rfl h) [] [] ⟨⟨rfl, rfl⟩, ⟨rfl, trivial⟩, rfl, rfl, rfl, rfl, rfl, trivial⟩ ?_ (fun _ hs => hs)
  rintro i ts os ⟨rfl, h, rfl, rfl⟩
  conv => whnf
  refine CutK.go ?_
  conv => whnf
  refine splD (fun g27 => ?_) (fun g27 => ?_)
  · replace h := iteP h g27
    conv => whnf
    cases h
    exact Done.of [] [] rfl rfl ⟨⟨rfl, rfl⟩, ⟨rfl, trivial⟩, rfl, trivial⟩
  · replace h := iteN h g27
    conv => whnf
    cases h
    exact Done.of [] [] rfl rfl ⟨⟨rfl, rfl⟩, ⟨rfl, trivial⟩, rfl, trivial⟩

def spec_l1Sign  (a1 : Int) : Option Int :=
  (if (0 : Int) < a1 then some 1 else (if a1 < (0 : Int) then some (-1) else some 0))
set_option maxHeartbeats 4000000 in
set_option maxRecDepth 100000 in
theorem spec_l1Sign_ct  {a1 : Int} {r : Int} (h : spec_l1Sign a1 = some r) : Ct prog 103 [.d (D.int .i64 a1)] (⟨[], []⟩) (.d (D.int .i64 r)) (⟨[], []⟩) := by
  rw [spec_l1Sign] at h
  refine Ct.of (c := _) mixed func103 ⟨rfl, rfl, rfl⟩ ?_ rfl
  conv => whnf
  refine splD (fun g2 => ?_) (fun g2 => ?_)
  · replace h := iteP h g2
    conv => whnf
    cases h
    exact Done.of [] [] rfl rfl ⟨⟨rfl, rfl⟩, ⟨rfl, trivial⟩, rfl, trivial⟩
  · replace h := iteN h g2
    conv => whnf
    refine splD (fun g3 => ?_) (fun g3 => ?_)
    · replace h := iteP h g3
      conv => whnf
      cases h
      exact Done.of [] [] rfl rfl ⟨⟨rfl, rfl⟩, ⟨rfl, trivial⟩, rfl, trivial⟩
    · replace h := iteN h g3
      conv => whnf
      cases h
      exact Done.of [] [] rfl rfl ⟨⟨rfl, rfl⟩, ⟨rfl, trivial⟩, rfl, trivial⟩

def spec_shCmp  (a1 : Int) (a2 : Int) (a3 : Int) (a4 : Int) : Option Int :=
  ((spec_l1Sign (IntKind.i64.wrap ((IntKind.i64.wrap (a1 * a4)) - (IntKind.i64.wrap (a3 * a2))))).bind fun y5 => some y5)
set_option maxHeartbeats 4000000 in
set_option maxRecDepth 100000 in
theorem spec_shCmp_ct  {a1 : Int} {a2 : Int} {a3 : Int} {a4 : Int} {r : Int} (h : spec_shCmp a1 a2 a3 a4 = some r) : Ct prog 42 [.agg [.d (D.int .i64 a1), .d (D.int .i64 a2)], .agg [.d (D.int .i64 a3), .d (D.int .i64 a4)]] (⟨[], []⟩) (.d (D.int .i64 r)) (⟨[], []⟩) := by
  rw [spec_shCmp] at h
  refine Ct.of (c := _) mixed func42 ⟨rfl, rfl, rfl⟩ ?_ rfl
  conv => whnf
  refine Pick.no ?_
  conv => whnf
  obtain ⟨y5, e6, h⟩ := bind_ex h
  refine CallOk.of (spec_l1Sign_ct e6) ?_
  conv => whnf
  refine CutK.go ?_
  conv => whnf
  cases h
  exact Done.of [] [] rfl rfl ⟨⟨rfl, rfl⟩, ⟨rfl, trivial⟩, rfl, trivial⟩

def spec_shMost_l0 (a1 : Rw) (K0 : Int → Int → Option (Int × Int)) : Rw → Int → Int → Option (Int × Int)
  | [], v15, v16 => (K0 v15 v16)
  | cs :: rest, v15, v16 => (cell_ii cs fun x35 x36 => ((spec_shCmp x35 x36 v15 v16).bind fun y38 => (if (0 : Int) < y38 then (spec_shMost_l0 a1 K0 rest x35 x36) else (spec_shMost_l0 a1 K0 rest v15 v16))))
set_option maxHeartbeats 4000000 in
set_option maxRecDepth 100000 in
theorem spec_shMost_l0_ct {a1 : Rw} {K0 : Int → Int → Option (Int × Int)} {r : Int × Int} (hx : a1.length ≤ cap) : ∀ (rest : Rw) (v14n : Nat) (v15 : Int) (v16 : Int), a1.drop v14n = rest → spec_shMost_l0 a1 K0 rest v15 v16 = some r → LoopOk prog 0 (lp f112 0) (mk 22 [(2, .ptr 128 0), (3, .ptr 192 0), (9, .d (D.sl a1)), (10, .d (D.int .i64 (a1.length : Int))), (11, .d (D.int .i64 (v14n : Int)))] [(128, .box 28 [.d (D.int .i64 0), .d (D.int .i64 0)]), (192, .box 28 [.d (D.int .i64 v15), .d (D.int .i64 v16)])]) (LoopEnd prog f112 0 22 (.agg [.d (D.int .i64 r.1), .d (D.int .i64 r.2)]) (⟨[], []⟩) (fun i ts os => (i = 0 ∧ ∃ v25 : Int, ∃ v26 : Int, K0 v25 v26 = some r ∧ ts = [(2, .ptr 128 0), (3, .ptr 192 0)] ∧ os = [(128, .box 28 [.d (D.int .i64 0), .d (D.int .i64 0)]), (192, .box 28 [.d (D.int .i64 v25), .d (D.int .i64 v26)])])))
  | [], v14n, v15, v16, hd, h => by
      rw [spec_shMost_l0] at h
      have hn := drop_nil hd
      refine LoopOk.step ?_
      conv => whnf
      refine splD (fun g => absurd g hn) (fun _ => ?_)
      conv => whnf
      exact ⟨_, _, [some 128, some 192], [], ⟨rfl, _, _, h, rfl, rfl⟩, ⟨⟨rfl, rfl⟩, ⟨rfl, ⟨rfl, rfl, rfl, trivial⟩, ⟨rfl, rfl, rfl, trivial⟩, trivial⟩, ⟨rfl, rfl⟩, ⟨rfl, rfl⟩, trivial⟩⟩
  | cs :: rest, v14n, v15, v16, hd, h => by
      rw [spec_shMost_l0] at h
      obtain ⟨hrow, hd1, hlt⟩ := drop_cons hd
      refine LoopOk.step ?_
      conv => whnf
      refine splD (fun _ => ?_) (fun g => absurd hlt g)
      conv => whnf
      obtain ⟨x35, x36, e37, h⟩ := cell_ii_ex h
      rw [e37] at hrow
      refine Req.of (Int.natCast_nonneg _) ?_
      refine Row.of _ hrow ?_
      conv => whnf
      refine Pick.no ?_
      conv => whnf
      obtain ⟨y38, e39, h⟩ := bind_ex h
      refine CallOk.of (spec_shCmp_ct e39) ?_
      conv => whnf
      refine splD (fun g40 => ?_) (fun g40 => ?_)
      · replace h := iteP h g40
        conv => whnf
        refine CutK.go ?_
        conv => whnf
        refine CutK.go ?_
        conv => whnf
        exact LoopOk.back (spec_shMost_l0_ct hx rest (v14n + 1) _ _ hd1 h) [some 128, some 192] [] ⟨⟨rfl, rfl⟩, ⟨rfl, ⟨rfl, rfl, rfl, trivial⟩, ⟨rfl, rfl, rfl, trivial⟩, trivial⟩, ⟨rfl, rfl⟩, ⟨rfl, rfl⟩, rfl, rfl, i64eq (wrap_up hlt hx), trivial⟩
      · replace h := iteN h g40
        conv => whnf
        refine CutK.go ?_
        conv => whnf
        refine CutK.go ?_
        conv => whnf
        exact LoopOk.back (spec_shMost_l0_ct hx rest (v14n + 1) _ _ hd1 h) [some 128, some 192] [] ⟨⟨rfl, rfl⟩, ⟨rfl, ⟨rfl, rfl, rfl, trivial⟩, ⟨rfl, rfl, rfl, trivial⟩, trivial⟩, ⟨rfl, rfl⟩, ⟨rfl, rfl⟩, rfl, rfl, i64eq (wrap_up hlt hx), trivial⟩
def spec_shMost  (a1 : Rw) : Option (Int × Int) :=
  (row_ii a1 0 fun x2 x3 => (if a1.length ≤ cap then (spec_shMost_l0 a1 (fun (v25 : Int) (v26 : Int) => some (v25, v26)) a1 x2 x3) else none))
set_option maxHeartbeats 4000000 in
set_option maxRecDepth 100000 in
theorem spec_shMost_ct  {a1 : Rw} {r : Int × Int} (h : spec_shMost a1 = some r) : Ct prog 112 [.d (D.sl a1)] (⟨[], []⟩) (.agg [.d (D.int .i64 r.1), .d (D.int .i64 r.2)]) (⟨[], []⟩) := by
  rw [spec_shMost] at h
  refine Ct.of (c := _) mixed func112 ⟨rfl, rfl, rfl⟩ ?_ rfl
  conv => whnf
  obtain ⟨g5, x2, x3, e4, h⟩ := row_ii_ex h
  refine Req.of g5 ?_
  refine Row.of _ e4 ?_
  conv => whnf
  obtain ⟨g41, h⟩ := req_ex h
  refine LoopOk.into (spec_shMost_l0_ct  g41 _ _ _ _ rfl h) [some 128, some 192] [] ⟨⟨rfl, rfl⟩, ⟨rfl, ⟨rfl, rfl, rfl, trivial⟩, ⟨rfl, rfl, rfl, trivial⟩, trivial⟩, ⟨rfl, rfl⟩, ⟨rfl, rfl⟩, rfl, rfl, rfl, trivial⟩ ?_ (fun _ hs => hs)
  rintro i ts os ⟨rfl, v25, v26, h, rfl, rfl⟩
  conv => whnf
  refine CutK.go ?_
  conv => whnf
  cases h
  exact Done.of [] [] rfl rfl ⟨⟨rfl, rfl⟩, ⟨rfl, trivial⟩, ⟨rfl, rfl, trivial⟩, trivial⟩

def spec_shNeg  (a1 : Int) (a2 : Int) : Option (Int × Int) :=
  some (IntKind.i64.wrap (0 - a1), a2)
set_option maxHeartbeats 4000000 in
set_option maxRecDepth 100000 in
theorem spec_shNeg_ct  {a1 : Int} {a2 : Int} {r : Int × Int} (h : spec_shNeg a1 a2 = some r) : Ct prog 113 [.agg [.d (D.int .i64 a1), .d (D.int .i64 a2)]] (⟨[], []⟩) (.agg [.d (D.int .i64 r.1), .d (D.int .i64 r.2)]) (⟨[], []⟩) := by
  rw [spec_shNeg] at h
  refine Ct.of (c := _) mixed func113 ⟨rfl, rfl, rfl⟩ ?_ rfl
  conv => whnf
  cases h
  exact Done.of [] [] rfl rfl ⟨⟨rfl, rfl⟩, ⟨rfl, trivial⟩, ⟨rfl, rfl, trivial⟩, trivial⟩

def spec_shNegAll_l0 (a1 : Rw) (K0 : Rw → Option Rw) : Rw → Rw → Option Rw
  | [], v9 => (K0 v9)
  | cs :: rest, v9 => (cell_ii cs fun x28 x29 => ((spec_shNeg x28 x29).bind fun y31 => (if v9.length + 1 ≤ cap then (spec_shNegAll_l0 a1 K0 rest (v9 ++ ([[D.int .i64 y31.1, D.int .i64 y31.2]]))) else none)))
set_option maxHeartbeats 4000000 in
set_option maxRecDepth 100000 in
theorem spec_shNegAll_l0_ct {a1 : Rw} {K0 : Rw → Option Rw} {r : Rw} (hx : a1.length ≤ cap) : ∀ (rest : Rw) (v10n : Nat) (v9 : Rw), a1.drop v10n = rest → spec_shNegAll_l0 a1 K0 rest v9 = some r → LoopOk prog 0 (lp f114 0) (mk 19 [(3, .os 64000 v9.length), (6, .d (D.sl a1)), (7, .d (D.int .i64 (a1.length : Int))), (8, .d (D.int .i64 (v10n : Int)))] [(64000, .arr 28 true v9)]) (LoopEnd prog f114 0 19 (.os 8 r.length) (⟨[], [(28, true, r)]⟩) (fun i ts os => (i = 0 ∧ ∃ v19 : Rw, K0 v19 = some r ∧ ts = [(3, .os 67001 v19.length)] ∧ os = [(67001, .arr 28 true v19)])))
  | [], v10n, v9, hd, h => by
      rw [spec_shNegAll_l0] at h
      have hn := drop_nil hd
      refine LoopOk.step ?_
      conv => whnf
      refine splD (fun g => absurd g hn) (fun _ => ?_)
      conv => whnf
      exact ⟨_, _, [some 64000], [], ⟨rfl, _, h, rfl, rfl⟩, ⟨⟨rfl, rfl⟩, ⟨rfl, ⟨rfl, rfl, rows_same⟩, trivial⟩, ⟨rfl, rfl⟩, trivial⟩⟩
  | cs :: rest, v10n, v9, hd, h => by
      rw [spec_shNegAll_l0] at h
      obtain ⟨hrow, hd1, hlt⟩ := drop_cons hd
      refine LoopOk.step ?_
      conv => whnf
      refine splD (fun _ => ?_) (fun g => absurd hlt g)
      conv => whnf
      obtain ⟨x28, x29, e30, h⟩ := cell_ii_ex h
      rw [e30] at hrow
      refine Req.of (Int.natCast_nonneg _) ?_
      refine Row.of _ hrow ?_
      conv => whnf
      refine Pick.no ?_
      conv => whnf
      obtain ⟨y31, e32, h⟩ := bind_ex h
      refine CallOk.of (spec_shNeg_ct e32) ?_
      conv => whnf
      refine Take.all (rfl) ?_
      conv => whnf
      refine Take.all (by first | rfl | exact List.length_append.symm | (simp; done) | omega) ?_
      conv => whnf
      obtain ⟨g33, h⟩ := req_ex h
      refine Req.of (room (b := 16) (by decide) g33 (wide1 rfl wide0)) ?_
      conv => whnf
      refine CutK.go ?_
      conv => whnf
      exact LoopOk.back (spec_shNegAll_l0_ct hx rest (v10n + 1) _ hd1 h) [some 1024] [] ⟨⟨rfl, rfl⟩, ⟨rfl, ⟨rfl, rfl, rows_same⟩, trivial⟩, ⟨(by first | rfl | exact List.length_append.symm | (simp; done) | omega), rfl⟩, rfl, rfl, i64eq (wrap_up hlt hx), trivial⟩
def spec_shNegAll  (a1 : Rw) : Option Rw :=
  (if a1.length ≤ cap then (spec_shNegAll_l0 a1 (fun (v19 : Rw) => some v19) a1 ([] : Rw)) else none)
set_option maxHeartbeats 4000000 in
set_option maxRecDepth 100000 in
theorem spec_shNegAll_ct  {a1 : Rw} {r : Rw} (h : spec_shNegAll a1 = some r) : Ct prog 114 [.d (D.sl a1)] (⟨[], []⟩) (.os 8 r.length) (⟨[], [(28, true, r)]⟩) := by
  rw [spec_shNegAll] at h
  refine Ct.of (c := _) mixed func114 ⟨rfl, rfl, rfl⟩ ?_ rfl
  conv => whnf
  obtain ⟨g34, h⟩ := req_ex h
  refine LoopOk.into (spec_shNegAll_l0_ct  g34 _ _ _ rfl h) [none] [] ⟨⟨rfl, rfl⟩, ⟨rfl, rfl, trivial⟩, ⟨rfl, rfl⟩, rfl, rfl, rfl, trivial⟩ ?_ (fun _ hs => hs)
  rintro i ts os ⟨rfl, v19, h, rfl, rfl⟩
  conv => whnf
  refine CutK.go ?_
  conv => whnf
  cases h
  exact Done.of [some 67001] [] rfl rfl ⟨⟨rfl, rfl⟩, ⟨rfl, ⟨rfl, rfl, rows_same⟩, trivial⟩, ⟨rfl, rfl⟩, trivial⟩

def spec_shSimplest_p3  : Option (Int × Int × Bool) :=
  some (0, 0, false)
set_option maxHeartbeats 4000000 in
set_option maxRecDepth 100000 in
theorem spec_shSimplest_p3_ct  {r : Int × Int × Bool} (h : spec_shSimplest_p3 = some r) : X prog 0 (tlF f46 3) (mk 56 [(4, .ptr 256 0)] [(256, .box 28 [.d (D.int .i64 0), .d (D.int .i64 0)])]) (finK prog f46 0 (.tup [.agg [.d (D.int .i64 r.1), .d (D.int .i64 r.2.1)], .d (D.bool r.2.2)]) (⟨[], []⟩)) := by
  rw [spec_shSimplest_p3] at h
  conv => whnf
  cases h
  exact Done.of [] [] rfl rfl ⟨⟨rfl, rfl⟩, ⟨rfl, trivial⟩, ⟨⟨rfl, rfl, trivial⟩, rfl, trivial⟩, trivial⟩
def spec_shSimplest_l0 (k : Nat) (a1 : Rw) (a2 : Rw) (K0 : Option (Int × Int × Bool)) : Nat → Int → Int → Int → Int → Int → Int → Int → Bool → Bool → Option (Int × Int × Bool)
  | 0, _, _, _, _, _, _, _, _, _ => none
  | n + 1, v2120, v2121, v2122, v2123, v2124, v2125, v2126, v2127, v2128 => (cond v2127 (cond v2128 (if v2120 ≤ (20 : Int) then (if (0 : Int) < (a1.length : Int) then ((spec_shMost a1).bind fun y2794 => ((spec_shCmp y2794.1 y2794.2 v2121 v2122).bind fun y2796 => (if (0 : Int) ≤ y2796 then (if (0 : Int) < (a2.length : Int) then ((spec_shNegAll a2).bind fun y2800 => ((spec_shMost y2800).bind fun y2802 => ((spec_shNeg y2802.1 y2802.2).bind fun y2804 => ((spec_shCmp y2804.1 y2804.2 v2121 v2122).bind fun y2806 => (if y2806 ≤ (0 : Int) then some (0, 0, false) else ((spec_shWalk_step k v2121 v2122 v2123 v2124 v2125 v2126 true true true).bind fun y2809 => (if y2809.2.2.2.2.2.2.1 = true then (if y2809.2.2.2.2.2.2.2 = true then (spec_shSimplest_l0 k a1 a2 K0 n (IntKind.i64.wrap (v2120 + 1)) y2809.1 y2809.2.1 y2809.2.2.1 y2809.2.2.2.1 y2809.2.2.2.2.1 y2809.2.2.2.2.2.1 true true) else (spec_shSimplest_l0 k a1 a2 K0 n (IntKind.i64.wrap (v2120 + 1)) y2809.1 y2809.2.1 y2809.2.2.1 y2809.2.2.2.1 y2809.2.2.2.2.1 y2809.2.2.2.2.2.1 true false)) else (if y2809.2.2.2.2.2.2.2 = true then (spec_shSimplest_l0 k a1 a2 K0 n (IntKind.i64.wrap (v2120 + 1)) y2809.1 y2809.2.1 y2809.2.2.1 y2809.2.2.2.1 y2809.2.2.2.2.1 y2809.2.2.2.2.2.1 false true) else (spec_shSimplest_l0 k a1 a2 K0 n (IntKind.i64.wrap (v2120 + 1)) y2809.1 y2809.2.1 y2809.2.2.1 y2809.2.2.2.1 y2809.2.2.2.2.1 y2809.2.2.2.2.2.1 false false))))))))) else ((spec_shWalk_step k v2121 v2122 v2123 v2124 v2125 v2126 true true true).bind fun y2814 => (if y2814.2.2.2.2.2.2.1 = true then (if y2814.2.2.2.2.2.2.2 = true then (spec_shSimplest_l0 k a1 a2 K0 n (IntKind.i64.wrap (v2120 + 1)) y2814.1 y2814.2.1 y2814.2.2.1 y2814.2.2.2.1 y2814.2.2.2.2.1 y2814.2.2.2.2.2.1 true true) else (spec_shSimplest_l0 k a1 a2 K0 n (IntKind.i64.wrap (v2120 + 1)) y2814.1 y2814.2.1 y2814.2.2.1 y2814.2.2.2.1 y2814.2.2.2.2.1 y2814.2.2.2.2.2.1 true false)) else (if y2814.2.2.2.2.2.2.2 = true then (spec_shSimplest_l0 k a1 a2 K0 n (IntKind.i64.wrap (v2120 + 1)) y2814.1 y2814.2.1 y2814.2.2.1 y2814.2.2.2.1 y2814.2.2.2.2.1 y2814.2.2.2.2.2.1 false true) else (spec_shSimplest_l0 k a1 a2 K0 n (IntKind.i64.wrap (v2120 + 1)) y2814.1 y2814.2.1 y2814.2.2.1 y2814.2.2.2.1 y2814.2.2.2.2.1 y2814.2.2.2.2.2.1 false false))))) else (if (0 : Int) < (a2.length : Int) then ((spec_shNegAll a2).bind fun y2820 => ((spec_shMost y2820).bind fun y2822 => ((spec_shNeg y2822.1 y2822.2).bind fun y2824 => ((spec_shCmp y2824.1 y2824.2 v2121 v2122).bind fun y2826 => (if y2826 ≤ (0 : Int) then ((spec_shWalk_step k v2121 v2122 v2123 v2124 v2125 v2126 true true false).bind fun y2829 => (if y2829.2.2.2.2.2.2.1 = true then (if y2829.2.2.2.2.2.2.2 = true then (spec_shSimplest_l0 k a1 a2 K0 n (IntKind.i64.wrap (v2120 + 1)) y2829.1 y2829.2.1 y2829.2.2.1 y2829.2.2.2.1 y2829.2.2.2.2.1 y2829.2.2.2.2.2.1 true true) else (spec_shSimplest_l0 k a1 a2 K0 n (IntKind.i64.wrap (v2120 + 1)) y2829.1 y2829.2.1 y2829.2.2.1 y2829.2.2.2.1 y2829.2.2.2.2.1 y2829.2.2.2.2.2.1 true false)) else (if y2829.2.2.2.2.2.2.2 = true then (spec_shSimplest_l0 k a1 a2 K0 n (IntKind.i64.wrap (v2120 + 1)) y2829.1 y2829.2.1 y2829.2.2.1 y2829.2.2.2.1 y2829.2.2.2.2.1 y2829.2.2.2.2.2.1 false true) else (spec_shSimplest_l0 k a1 a2 K0 n (IntKind.i64.wrap (v2120 + 1)) y2829.1 y2829.2.1 y2829.2.2.1 y2829.2.2.2.1 y2829.2.2.2.2.1 y2829.2.2.2.2.2.1 false false)))) else some (v2121, v2122, true)))))) else some (v2121, v2122, true))))) else (if (0 : Int) < (a2.length : Int) then ((spec_shNegAll a2).bind fun y2835 => ((spec_shMost y2835).bind fun y2837 => ((spec_shNeg y2837.1 y2837.2).bind fun y2839 => ((spec_shCmp y2839.1 y2839.2 v2121 v2122).bind fun y2841 => (if y2841 ≤ (0 : Int) then ((spec_shWalk_step k v2121 v2122 v2123 v2124 v2125 v2126 true true false).bind fun y2844 => (if y2844.2.2.2.2.2.2.1 = true then (if y2844.2.2.2.2.2.2.2 = true then (spec_shSimplest_l0 k a1 a2 K0 n (IntKind.i64.wrap (v2120 + 1)) y2844.1 y2844.2.1 y2844.2.2.1 y2844.2.2.2.1 y2844.2.2.2.2.1 y2844.2.2.2.2.2.1 true true) else (spec_shSimplest_l0 k a1 a2 K0 n (IntKind.i64.wrap (v2120 + 1)) y2844.1 y2844.2.1 y2844.2.2.1 y2844.2.2.2.1 y2844.2.2.2.2.1 y2844.2.2.2.2.2.1 true false)) else (if y2844.2.2.2.2.2.2.2 = true then (spec_shSimplest_l0 k a1 a2 K0 n (IntKind.i64.wrap (v2120 + 1)) y2844.1 y2844.2.1 y2844.2.2.1 y2844.2.2.2.1 y2844.2.2.2.2.1 y2844.2.2.2.2.2.1 false true) else (spec_shSimplest_l0 k a1 a2 K0 n (IntKind.i64.wrap (v2120 + 1)) y2844.1 y2844.2.1 y2844.2.2.1 y2844.2.2.2.1 y2844.2.2.2.2.1 y2844.2.2.2.2.2.1 false false)))) else some (v2121, v2122, true)))))) else some (v2121, v2122, true))) else (K0)) (if v2120 ≤ (20 : Int) then (if (0 : Int) < (a1.length : Int) then ((spec_shMost a1).bind fun y2737 => ((spec_shCmp y2737.1 y2737.2 v2121 v2122).bind fun y2739 => (if (0 : Int) ≤ y2739 then (if (0 : Int) < (a2.length : Int) then ((spec_shNegAll a2).bind fun y2743 => ((spec_shMost y2743).bind fun y2745 => ((spec_shNeg y2745.1 y2745.2).bind fun y2747 => ((spec_shCmp y2747.1 y2747.2 v2121 v2122).bind fun y2749 => (if y2749 ≤ (0 : Int) then some (0, 0, false) else ((spec_shWalk_step k v2121 v2122 v2123 v2124 v2125 v2126 true false true).bind fun y2752 => (if y2752.2.2.2.2.2.2.1 = true then (if y2752.2.2.2.2.2.2.2 = true then (spec_shSimplest_l0 k a1 a2 K0 n (IntKind.i64.wrap (v2120 + 1)) y2752.1 y2752.2.1 y2752.2.2.1 y2752.2.2.2.1 y2752.2.2.2.2.1 y2752.2.2.2.2.2.1 true true) else (spec_shSimplest_l0 k a1 a2 K0 n (IntKind.i64.wrap (v2120 + 1)) y2752.1 y2752.2.1 y2752.2.2.1 y2752.2.2.2.1 y2752.2.2.2.2.1 y2752.2.2.2.2.2.1 true false)) else (if y2752.2.2.2.2.2.2.2 = true then (spec_shSimplest_l0 k a1 a2 K0 n (IntKind.i64.wrap (v2120 + 1)) y2752.1 y2752.2.1 y2752.2.2.1 y2752.2.2.2.1 y2752.2.2.2.2.1 y2752.2.2.2.2.2.1 false true) else (spec_shSimplest_l0 k a1 a2 K0 n (IntKind.i64.wrap (v2120 + 1)) y2752.1 y2752.2.1 y2752.2.2.1 y2752.2.2.2.1 y2752.2.2.2.2.1 y2752.2.2.2.2.2.1 false false))))))))) else ((spec_shWalk_step k v2121 v2122 v2123 v2124 v2125 v2126 true false true).bind fun y2757 => (if y2757.2.2.2.2.2.2.1 = true then (if y2757.2.2.2.2.2.2.2 = true then (spec_shSimplest_l0 k a1 a2 K0 n (IntKind.i64.wrap (v2120 + 1)) y2757.1 y2757.2.1 y2757.2.2.1 y2757.2.2.2.1 y2757.2.2.2.2.1 y2757.2.2.2.2.2.1 true true) else (spec_shSimplest_l0 k a1 a2 K0 n (IntKind.i64.wrap (v2120 + 1)) y2757.1 y2757.2.1 y2757.2.2.1 y2757.2.2.2.1 y2757.2.2.2.2.1 y2757.2.2.2.2.2.1 true false)) else (if y2757.2.2.2.2.2.2.2 = true then (spec_shSimplest_l0 k a1 a2 K0 n (IntKind.i64.wrap (v2120 + 1)) y2757.1 y2757.2.1 y2757.2.2.1 y2757.2.2.2.1 y2757.2.2.2.2.1 y2757.2.2.2.2.2.1 false true) else (spec_shSimplest_l0 k a1 a2 K0 n (IntKind.i64.wrap (v2120 + 1)) y2757.1 y2757.2.1 y2757.2.2.1 y2757.2.2.2.1 y2757.2.2.2.2.1 y2757.2.2.2.2.2.1 false false))))) else (if (0 : Int) < (a2.length : Int) then ((spec_shNegAll a2).bind fun y2763 => ((spec_shMost y2763).bind fun y2765 => ((spec_shNeg y2765.1 y2765.2).bind fun y2767 => ((spec_shCmp y2767.1 y2767.2 v2121 v2122).bind fun y2769 => (if y2769 ≤ (0 : Int) then ((spec_shWalk_step k v2121 v2122 v2123 v2124 v2125 v2126 true false false).bind fun y2772 => (if y2772.2.2.2.2.2.2.1 = true then (if y2772.2.2.2.2.2.2.2 = true then (spec_shSimplest_l0 k a1 a2 K0 n (IntKind.i64.wrap (v2120 + 1)) y2772.1 y2772.2.1 y2772.2.2.1 y2772.2.2.2.1 y2772.2.2.2.2.1 y2772.2.2.2.2.2.1 true true) else (spec_shSimplest_l0 k a1 a2 K0 n (IntKind.i64.wrap (v2120 + 1)) y2772.1 y2772.2.1 y2772.2.2.1 y2772.2.2.2.1 y2772.2.2.2.2.1 y2772.2.2.2.2.2.1 true false)) else (if y2772.2.2.2.2.2.2.2 = true then (spec_shSimplest_l0 k a1 a2 K0 n (IntKind.i64.wrap (v2120 + 1)) y2772.1 y2772.2.1 y2772.2.2.1 y2772.2.2.2.1 y2772.2.2.2.2.1 y2772.2.2.2.2.2.1 false true) else (spec_shSimplest_l0 k a1 a2 K0 n (IntKind.i64.wrap (v2120 + 1)) y2772.1 y2772.2.1 y2772.2.2.1 y2772.2.2.2.1 y2772.2.2.2.2.1 y2772.2.2.2.2.2.1 false false)))) else some (v2121, v2122, true)))))) else some (v2121, v2122, true))))) else (if (0 : Int) < (a2.length : Int) then ((spec_shNegAll a2).bind fun y2778 => ((spec_shMost y2778).bind fun y2780 => ((spec_shNeg y2780.1 y2780.2).bind fun y2782 => ((spec_shCmp y2782.1 y2782.2 v2121 v2122).bind fun y2784 => (if y2784 ≤ (0 : Int) then ((spec_shWalk_step k v2121 v2122 v2123 v2124 v2125 v2126 true false false).bind fun y2787 => (if y2787.2.2.2.2.2.2.1 = true then (if y2787.2.2.2.2.2.2.2 = true then (spec_shSimplest_l0 k a1 a2 K0 n (IntKind.i64.wrap (v2120 + 1)) y2787.1 y2787.2.1 y2787.2.2.1 y2787.2.2.2.1 y2787.2.2.2.2.1 y2787.2.2.2.2.2.1 true true) else (spec_shSimplest_l0 k a1 a2 K0 n (IntKind.i64.wrap (v2120 + 1)) y2787.1 y2787.2.1 y2787.2.2.1 y2787.2.2.2.1 y2787.2.2.2.2.1 y2787.2.2.2.2.2.1 true false)) else (if y2787.2.2.2.2.2.2.2 = true then (spec_shSimplest_l0 k a1 a2 K0 n (IntKind.i64.wrap (v2120 + 1)) y2787.1 y2787.2.1 y2787.2.2.1 y2787.2.2.2.1 y2787.2.2.2.2.1 y2787.2.2.2.2.2.1 false true) else (spec_shSimplest_l0 k a1 a2 K0 n (IntKind.i64.wrap (v2120 + 1)) y2787.1 y2787.2.1 y2787.2.2.1 y2787.2.2.2.1 y2787.2.2.2.2.1 y2787.2.2.2.2.2.1 false false)))) else some (v2121, v2122, true)))))) else some (v2121, v2122, true))) else (K0))) (cond v2128 (if v2120 ≤ (20 : Int) then (if (0 : Int) < (a1.length : Int) then ((spec_shMost a1).bind fun y2680 => ((spec_shCmp y2680.1 y2680.2 v2121 v2122).bind fun y2682 => (if (0 : Int) ≤ y2682 then (if (0 : Int) < (a2.length : Int) then ((spec_shNegAll a2).bind fun y2686 => ((spec_shMost y2686).bind fun y2688 => ((spec_shNeg y2688.1 y2688.2).bind fun y2690 => ((spec_shCmp y2690.1 y2690.2 v2121 v2122).bind fun y2692 => (if y2692 ≤ (0 : Int) then some (0, 0, false) else ((spec_shWalk_step k v2121 v2122 v2123 v2124 v2125 v2126 false true true).bind fun y2695 => (if y2695.2.2.2.2.2.2.1 = true then (if y2695.2.2.2.2.2.2.2 = true then (spec_shSimplest_l0 k a1 a2 K0 n (IntKind.i64.wrap (v2120 + 1)) y2695.1 y2695.2.1 y2695.2.2.1 y2695.2.2.2.1 y2695.2.2.2.2.1 y2695.2.2.2.2.2.1 true true) else (spec_shSimplest_l0 k a1 a2 K0 n (IntKind.i64.wrap (v2120 + 1)) y2695.1 y2695.2.1 y2695.2.2.1 y2695.2.2.2.1 y2695.2.2.2.2.1 y2695.2.2.2.2.2.1 true false)) else (if y2695.2.2.2.2.2.2.2 = true then (spec_shSimplest_l0 k a1 a2 K0 n (IntKind.i64.wrap (v2120 + 1)) y2695.1 y2695.2.1 y2695.2.2.1 y2695.2.2.2.1 y2695.2.2.2.2.1 y2695.2.2.2.2.2.1 false true) else (spec_shSimplest_l0 k a1 a2 K0 n (IntKind.i64.wrap (v2120 + 1)) y2695.1 y2695.2.1 y2695.2.2.1 y2695.2.2.2.1 y2695.2.2.2.2.1 y2695.2.2.2.2.2.1 false false))))))))) else ((spec_shWalk_step k v2121 v2122 v2123 v2124 v2125 v2126 false true true).bind fun y2700 => (if y2700.2.2.2.2.2.2.1 = true then (if y2700.2.2.2.2.2.2.2 = true then (spec_shSimplest_l0 k a1 a2 K0 n (IntKind.i64.wrap (v2120 + 1)) y2700.1 y2700.2.1 y2700.2.2.1 y2700.2.2.2.1 y2700.2.2.2.2.1 y2700.2.2.2.2.2.1 true true) else (spec_shSimplest_l0 k a1 a2 K0 n (IntKind.i64.wrap (v2120 + 1)) y2700.1 y2700.2.1 y2700.2.2.1 y2700.2.2.2.1 y2700.2.2.2.2.1 y2700.2.2.2.2.2.1 true false)) else (if y2700.2.2.2.2.2.2.2 = true then (spec_shSimplest_l0 k a1 a2 K0 n (IntKind.i64.wrap (v2120 + 1)) y2700.1 y2700.2.1 y2700.2.2.1 y2700.2.2.2.1 y2700.2.2.2.2.1 y2700.2.2.2.2.2.1 false true) else (spec_shSimplest_l0 k a1 a2 K0 n (IntKind.i64.wrap (v2120 + 1)) y2700.1 y2700.2.1 y2700.2.2.1 y2700.2.2.2.1 y2700.2.2.2.2.1 y2700.2.2.2.2.2.1 false false))))) else (if (0 : Int) < (a2.length : Int) then ((spec_shNegAll a2).bind fun y2706 => ((spec_shMost y2706).bind fun y2708 => ((spec_shNeg y2708.1 y2708.2).bind fun y2710 => ((spec_shCmp y2710.1 y2710.2 v2121 v2122).bind fun y2712 => (if y2712 ≤ (0 : Int) then ((spec_shWalk_step k v2121 v2122 v2123 v2124 v2125 v2126 false true false).bind fun y2715 => (if y2715.2.2.2.2.2.2.1 = true then (if y2715.2.2.2.2.2.2.2 = true then (spec_shSimplest_l0 k a1 a2 K0 n (IntKind.i64.wrap (v2120 + 1)) y2715.1 y2715.2.1 y2715.2.2.1 y2715.2.2.2.1 y2715.2.2.2.2.1 y2715.2.2.2.2.2.1 true true) else (spec_shSimplest_l0 k a1 a2 K0 n (IntKind.i64.wrap (v2120 + 1)) y2715.1 y2715.2.1 y2715.2.2.1 y2715.2.2.2.1 y2715.2.2.2.2.1 y2715.2.2.2.2.2.1 true false)) else (if y2715.2.2.2.2.2.2.2 = true then (spec_shSimplest_l0 k a1 a2 K0 n (IntKind.i64.wrap (v2120 + 1)) y2715.1 y2715.2.1 y2715.2.2.1 y2715.2.2.2.1 y2715.2.2.2.2.1 y2715.2.2.2.2.2.1 false true) else (spec_shSimplest_l0 k a1 a2 K0 n (IntKind.i64.wrap (v2120 + 1)) y2715.1 y2715.2.1 y2715.2.2.1 y2715.2.2.2.1 y2715.2.2.2.2.1 y2715.2.2.2.2.2.1 false false)))) else some (v2121, v2122, true)))))) else some (v2121, v2122, true))))) else (if (0 : Int) < (a2.length : Int) then ((spec_shNegAll a2).bind fun y2721 => ((spec_shMost y2721).bind fun y2723 => ((spec_shNeg y2723.1 y2723.2).bind fun y2725 => ((spec_shCmp y2725.1 y2725.2 v2121 v2122).bind fun y2727 => (if y2727 ≤ (0 : Int) then ((spec_shWalk_step k v2121 v2122 v2123 v2124 v2125 v2126 false true false).bind fun y2730 => (if y2730.2.2.2.2.2.2.1 = true then (if y2730.2.2.2.2.2.2.2 = true then (spec_shSimplest_l0 k a1 a2 K0 n (IntKind.i64.wrap (v2120 + 1)) y2730.1 y2730.2.1 y2730.2.2.1 y2730.2.2.2.1 y2730.2.2.2.2.1 y2730.2.2.2.2.2.1 true true) else (spec_shSimplest_l0 k a1 a2 K0 n (IntKind.i64.wrap (v2120 + 1)) y2730.1 y2730.2.1 y2730.2.2.1 y2730.2.2.2.1 y2730.2.2.2.2.1 y2730.2.2.2.2.2.1 true false)) else (if y2730.2.2.2.2.2.2.2 = true then (spec_shSimplest_l0 k a1 a2 K0 n (IntKind.i64.wrap (v2120 + 1)) y2730.1 y2730.2.1 y2730.2.2.1 y2730.2.2.2.1 y2730.2.2.2.2.1 y2730.2.2.2.2.2.1 false true) else (spec_shSimplest_l0 k a1 a2 K0 n (IntKind.i64.wrap (v2120 + 1)) y2730.1 y2730.2.1 y2730.2.2.1 y2730.2.2.2.1 y2730.2.2.2.2.1 y2730.2.2.2.2.2.1 false false)))) else some (v2121, v2122, true)))))) else some (v2121, v2122, true))) else (K0)) (if v2120 ≤ (20 : Int) then (if (0 : Int) < (a1.length : Int) then ((spec_shMost a1).bind fun y2623 => ((spec_shCmp y2623.1 y2623.2 v2121 v2122).bind fun y2625 => (if (0 : Int) ≤ y2625 then (if (0 : Int) < (a2.length : Int) then ((spec_shNegAll a2).bind fun y2629 => ((spec_shMost y2629).bind fun y2631 => ((spec_shNeg y2631.1 y2631.2).bind fun y2633 => ((spec_shCmp y2633.1 y2633.2 v2121 v2122).bind fun y2635 => (if y2635 ≤ (0 : Int) then some (0, 0, false) else ((spec_shWalk_step k v2121 v2122 v2123 v2124 v2125 v2126 false false true).bind fun y2638 => (if y2638.2.2.2.2.2.2.1 = true then (if y2638.2.2.2.2.2.2.2 = true then (spec_shSimplest_l0 k a1 a2 K0 n (IntKind.i64.wrap (v2120 + 1)) y2638.1 y2638.2.1 y2638.2.2.1 y2638.2.2.2.1 y2638.2.2.2.2.1 y2638.2.2.2.2.2.1 true true) else (spec_shSimplest_l0 k a1 a2 K0 n (IntKind.i64.wrap (v2120 + 1)) y2638.1 y2638.2.1 y2638.2.2.1 y2638.2.2.2.1 y2638.2.2.2.2.1 y2638.2.2.2.2.2.1 true false)) else (if y2638.2.2.2.2.2.2.2 = true then (spec_shSimplest_l0 k a1 a2 K0 n (IntKind.i64.wrap (v2120 + 1)) y2638.1 y2638.2.1 y2638.2.2.1 y2638.2.2.2.1 y2638.2.2.2.2.1 y2638.2.2.2.2.2.1 false true) else (spec_shSimplest_l0 k a1 a2 K0 n (IntKind.i64.wrap (v2120 + 1)) y2638.1 y2638.2.1 y2638.2.2.1 y2638.2.2.2.1 y2638.2.2.2.2.1 y2638.2.2.2.2.2.1 false false))))))))) else ((spec_shWalk_step k v2121 v2122 v2123 v2124 v2125 v2126 false false true).bind fun y2643 => (if y2643.2.2.2.2.2.2.1 = true then (if y2643.2.2.2.2.2.2.2 = true then (spec_shSimplest_l0 k a1 a2 K0 n (IntKind.i64.wrap (v2120 + 1)) y2643.1 y2643.2.1 y2643.2.2.1 y2643.2.2.2.1 y2643.2.2.2.2.1 y2643.2.2.2.2.2.1 true true) else (spec_shSimplest_l0 k a1 a2 K0 n (IntKind.i64.wrap (v2120 + 1)) y2643.1 y2643.2.1 y2643.2.2.1 y2643.2.2.2.1 y2643.2.2.2.2.1 y2643.2.2.2.2.2.1 true false)) else (if y2643.2.2.2.2.2.2.2 = true then (spec_shSimplest_l0 k a1 a2 K0 n (IntKind.i64.wrap (v2120 + 1)) y2643.1 y2643.2.1 y2643.2.2.1 y2643.2.2.2.1 y2643.2.2.2.2.1 y2643.2.2.2.2.2.1 false true) else (spec_shSimplest_l0 k a1 a2 K0 n (IntKind.i64.wrap (v2120 + 1)) y2643.1 y2643.2.1 y2643.2.2.1 y2643.2.2.2.1 y2643.2.2.2.2.1 y2643.2.2.2.2.2.1 false false))))) else (if (0 : Int) < (a2.length : Int) then ((spec_shNegAll a2).bind fun y2649 => ((spec_shMost y2649).bind fun y2651 => ((spec_shNeg y2651.1 y2651.2).bind fun y2653 => ((spec_shCmp y2653.1 y2653.2 v2121 v2122).bind fun y2655 => (if y2655 ≤ (0 : Int) then ((spec_shWalk_step k v2121 v2122 v2123 v2124 v2125 v2126 false false false).bind fun y2658 => (if y2658.2.2.2.2.2.2.1 = true then (if y2658.2.2.2.2.2.2.2 = true then (spec_shSimplest_l0 k a1 a2 K0 n (IntKind.i64.wrap (v2120 + 1)) y2658.1 y2658.2.1 y2658.2.2.1 y2658.2.2.2.1 y2658.2.2.2.2.1 y2658.2.2.2.2.2.1 true true) else (spec_shSimplest_l0 k a1 a2 K0 n (IntKind.i64.wrap (v2120 + 1)) y2658.1 y2658.2.1 y2658.2.2.1 y2658.2.2.2.1 y2658.2.2.2.2.1 y2658.2.2.2.2.2.1 true false)) else (if y2658.2.2.2.2.2.2.2 = true then (spec_shSimplest_l0 k a1 a2 K0 n (IntKind.i64.wrap (v2120 + 1)) y2658.1 y2658.2.1 y2658.2.2.1 y2658.2.2.2.1 y2658.2.2.2.2.1 y2658.2.2.2.2.2.1 false true) else (spec_shSimplest_l0 k a1 a2 K0 n (IntKind.i64.wrap (v2120 + 1)) y2658.1 y2658.2.1 y2658.2.2.1 y2658.2.2.2.1 y2658.2.2.2.2.1 y2658.2.2.2.2.2.1 false false)))) else some (v2121, v2122, true)))))) else some (v2121, v2122, true))))) else (if (0 : Int) < (a2.length : Int) then ((spec_shNegAll a2).bind fun y2664 => ((spec_shMost y2664).bind fun y2666 => ((spec_shNeg y2666.1 y2666.2).bind fun y2668 => ((spec_shCmp y2668.1 y2668.2 v2121 v2122).bind fun y2670 => (if y2670 ≤ (0 : Int) then ((spec_shWalk_step k v2121 v2122 v2123 v2124 v2125 v2126 false false false).bind fun y2673 => (if y2673.2.2.2.2.2.2.1 = true then (if y2673.2.2.2.2.2.2.2 = true then (spec_shSimplest_l0 k a1 a2 K0 n (IntKind.i64.wrap (v2120 + 1)) y2673.1 y2673.2.1 y2673.2.2.1 y2673.2.2.2.1 y2673.2.2.2.2.1 y2673.2.2.2.2.2.1 true true) else (spec_shSimplest_l0 k a1 a2 K0 n (IntKind.i64.wrap (v2120 + 1)) y2673.1 y2673.2.1 y2673.2.2.1 y2673.2.2.2.1 y2673.2.2.2.2.1 y2673.2.2.2.2.2.1 true false)) else (if y2673.2.2.2.2.2.2.2 = true then (spec_shSimplest_l0 k a1 a2 K0 n (IntKind.i64.wrap (v2120 + 1)) y2673.1 y2673.2.1 y2673.2.2.1 y2673.2.2.2.1 y2673.2.2.2.2.1 y2673.2.2.2.2.2.1 false true) else (spec_shSimplest_l0 k a1 a2 K0 n (IntKind.i64.wrap (v2120 + 1)) y2673.1 y2673.2.1 y2673.2.2.1 y2673.2.2.2.1 y2673.2.2.2.2.1 y2673.2.2.2.2.2.1 false false)))) else some (v2121, v2122, true)))))) else some (v2121, v2122, true))) else (K0))))
set_option maxHeartbeats 4000000 in
set_option maxRecDepth 100000 in
theorem spec_shSimplest_l0_ct {k : Nat} {a1 : Rw} {a2 : Rw} {K0 : Option (Int × Int × Bool)} {r : Int × Int × Bool} : ∀ (n : Nat) (v2120 : Int) (v2121 : Int) (v2122 : Int) (v2123 : Int) (v2124 : Int) (v2125 : Int) (v2126 : Int) (v2127 : Bool) (v2128 : Bool), spec_shSimplest_l0 k a1 a2 K0 n v2120 v2121 v2122 v2123 v2124 v2125 v2126 v2127 v2128 = some r → LoopOk prog 0 (lp f46 0) (mk 56 [(0, .d (D.sl a1)), (1, .d (D.sl a2)), (4, .ptr 256 0), (6, .ptr 384 0), (7, .d (D.int .i64 v2120))] [(256, .box 28 [.d (D.int .i64 0), .d (D.int .i64 0)]), (384, .box 139 [.d (D.int .i64 v2121), .d (D.int .i64 v2122), .d (D.int .i64 v2123), .d (D.int .i64 v2124), .d (D.int .i64 v2125), .d (D.int .i64 v2126), .d (D.bool v2127), .d (D.bool v2128)])]) (LoopEnd prog f46 0 56 (.tup [.agg [.d (D.int .i64 r.1), .d (D.int .i64 r.2.1)], .d (D.bool r.2.2)]) (⟨[], []⟩) (fun i ts os => (i = 0 ∧ K0 = some r ∧ ts = [(4, .ptr 256 0)] ∧ os = [(256, .box 28 [.d (D.int .i64 0), .d (D.int .i64 0)])])))
  | 0, _, _, _, _, _, _, _, _, _, h => by
      rw [spec_shSimplest_l0] at h; cases h
  | n + 1, v2120, v2121, v2122, v2123, v2124, v2125, v2126, v2127, v2128, h => by
      rw [spec_shSimplest_l0] at h
      cases v2127
      · replace h := condF h
        cases v2128
        · replace h := condF h
          refine LoopOk.step ?_
          conv => whnf
          refine splD (fun g2621 => ?_) (fun g2621 => ?_)
          · replace h := iteP h g2621
            conv => whnf
            refine splD (fun g2622 => ?_) (fun g2622 => ?_)
            · replace h := iteP h g2622
              conv => whnf
              refine Pick.no ?_
              conv => whnf
              obtain ⟨y2623, e2624, h⟩ := bind_ex h
              refine CallOk.of (spec_shMost_ct e2624) ?_
              conv => whnf
              refine Pick.no ?_
              conv => whnf
              obtain ⟨y2625, e2626, h⟩ := bind_ex h
              refine CallOk.of (spec_shCmp_ct e2626) ?_
              conv => whnf
              refine splD (fun g2627 => ?_) (fun g2627 => ?_)
              · replace h := iteP h g2627
                conv => whnf
                refine CutK.norm [0, 1, 4, 6, 7, 8] [256, 384] ?_
                conv => whnf
                refine splD (fun g2628 => ?_) (fun g2628 => ?_)
                · replace h := iteP h g2628
                  conv => whnf
                  refine Pick.no ?_
                  conv => whnf
                  obtain ⟨y2629, e2630, h⟩ := bind_ex h
                  refine CallOk.of (spec_shNegAll_ct e2630) ?_
                  conv => whnf
                  refine Pick.no ?_
                  conv => whnf
                  refine Take.all (rfl) ?_
                  conv => whnf
                  obtain ⟨y2631, e2632, h⟩ := bind_ex h
                  refine CallOk.of (spec_shMost_ct e2632) ?_
                  conv => whnf
                  refine Pick.no ?_
                  conv => whnf
                  obtain ⟨y2633, e2634, h⟩ := bind_ex h
                  refine CallOk.of (spec_shNeg_ct e2634) ?_
                  conv => whnf
                  refine Pick.no ?_
                  conv => whnf
                  obtain ⟨y2635, e2636, h⟩ := bind_ex h
                  refine CallOk.of (spec_shCmp_ct e2636) ?_
                  conv => whnf
                  refine splD (fun g2637 => ?_) (fun g2637 => ?_)
                  · replace h := iteP h g2637
                    conv => whnf
                    refine CutK.norm [0, 1, 4, 6, 7, 8, 9] [256, 384] ?_
                    conv => whnf
                    cases h
                    exact Done.of [] [] rfl rfl ⟨⟨rfl, rfl⟩, ⟨rfl, trivial⟩, ⟨⟨rfl, rfl, trivial⟩, rfl, trivial⟩, trivial⟩
                  · replace h := iteN h g2637
                    conv => whnf
                    refine CutK.norm [0, 1, 4, 6, 7, 8, 9] [256, 384] ?_
                    conv => whnf
                    refine splF ?_
                    conv => whnf
                    refine splF ?_
                    conv => whnf
                    refine Pick.no ?_
                    conv => whnf
                    obtain ⟨y2638, e2639, h⟩ := bind_ex h
                    refine CallOk.of (spec_shWalk_step_ct e2639) ?_
                    conv => whnf
                    refine spl (fun g2640 => ?_) (fun g2640 => ?_)
                    · replace h := iteT h g2640
                      conv => whnf
                      refine spl (fun g2641 => ?_) (fun g2641 => ?_)
                      · replace h := iteT h g2641
                        conv => whnf
                        refine CutK.norm [0, 1, 4, 6, 7] [256, 384] ?_
                        conv => whnf
                        exact LoopOk.back (spec_shSimplest_l0_ct  n _ _ _ _ _ _ _ _ _ h) [some 256, some 384] [] ⟨⟨rfl, rfl⟩, ⟨rfl, ⟨rfl, rfl, rfl, trivial⟩, ⟨rfl, rfl, rfl, rfl, rfl, rfl, rfl, rfl, rfl, trivial⟩, trivial⟩, rfl, rfl, ⟨rfl, rfl⟩, ⟨rfl, rfl⟩, rfl, trivial⟩
                      · replace h := iteF h g2641
                        conv => whnf
                        refine CutK.norm [0, 1, 4, 6, 7] [256, 384] ?_
                        conv => whnf
                        exact LoopOk.back (spec_shSimplest_l0_ct  n _ _ _ _ _ _ _ _ _ h) [some 256, some 384] [] ⟨⟨rfl, rfl⟩, ⟨rfl, ⟨rfl, rfl, rfl, trivial⟩, ⟨rfl, rfl, rfl, rfl, rfl, rfl, rfl, rfl, rfl, trivial⟩, trivial⟩, rfl, rfl, ⟨rfl, rfl⟩, ⟨rfl, rfl⟩, rfl, trivial⟩
                    · replace h := iteF h g2640
                      conv => whnf
                      refine spl (fun g2642 => ?_) (fun g2642 => ?_)
                      · replace h := iteT h g2642
                        conv => whnf
                        refine CutK.norm [0, 1, 4, 6, 7] [256, 384] ?_
                        conv => whnf
                        exact LoopOk.back (spec_shSimplest_l0_ct  n _ _ _ _ _ _ _ _ _ h) [some 256, some 384] [] ⟨⟨rfl, rfl⟩, ⟨rfl, ⟨rfl, rfl, rfl, trivial⟩, ⟨rfl, rfl, rfl, rfl, rfl, rfl, rfl, rfl, rfl, trivial⟩, trivial⟩, rfl, rfl, ⟨rfl, rfl⟩, ⟨rfl, rfl⟩, rfl, trivial⟩
                      · replace h := iteF h g2642
                        conv => whnf
                        refine CutK.norm [0, 1, 4, 6, 7] [256, 384] ?_
                        conv => whnf
                        exact LoopOk.back (spec_shSimplest_l0_ct  n _ _ _ _ _ _ _ _ _ h) [some 256, some 384] [] ⟨⟨rfl, rfl⟩, ⟨rfl, ⟨rfl, rfl, rfl, trivial⟩, ⟨rfl, rfl, rfl, rfl, rfl, rfl, rfl, rfl, rfl, trivial⟩, trivial⟩, rfl, rfl, ⟨rfl, rfl⟩, ⟨rfl, rfl⟩, rfl, trivial⟩
                · replace h := iteN h g2628
                  conv => whnf
                  refine CutK.norm [0, 1, 4, 6, 7, 8, 9] [256, 384] ?_
                  conv => whnf
                  refine splF ?_
                  conv => whnf
                  refine splF ?_
                  conv => whnf
                  refine Pick.no ?_
                  conv => whnf
                  obtain ⟨y2643, e2644, h⟩ := bind_ex h
                  refine CallOk.of (spec_shWalk_step_ct e2644) ?_
                  conv => whnf
                  refine spl (fun g2645 => ?_) (fun g2645 => ?_)
                  · replace h := iteT h g2645
                    conv => whnf
                    refine spl (fun g2646 => ?_) (fun g2646 => ?_)
                    · replace h := iteT h g2646
                      conv => whnf
                      refine CutK.norm [0, 1, 4, 6, 7] [256, 384] ?_
                      conv => whnf
                      exact LoopOk.back (spec_shSimplest_l0_ct  n _ _ _ _ _ _ _ _ _ h) [some 256, some 384] [] ⟨⟨rfl, rfl⟩, ⟨rfl, ⟨rfl, rfl, rfl, trivial⟩, ⟨rfl, rfl, rfl, rfl, rfl, rfl, rfl, rfl, rfl, trivial⟩, trivial⟩, rfl, rfl, ⟨rfl, rfl⟩, ⟨rfl, rfl⟩, rfl, trivial⟩
                    · replace h := iteF h g2646
                      conv => whnf
                      refine CutK.norm [0, 1, 4, 6, 7] [256, 384] ?_
                      conv => whnf
                      exact LoopOk.back (spec_shSimplest_l0_ct  n _ _ _ _ _ _ _ _ _ h) [some 256, some 384] [] ⟨⟨rfl, rfl⟩, ⟨rfl, ⟨rfl, rfl, rfl, trivial⟩, ⟨rfl, rfl, rfl, rfl, rfl, rfl, rfl, rfl, rfl, trivial⟩, trivial⟩, rfl, rfl, ⟨rfl, rfl⟩, ⟨rfl, rfl⟩, rfl, trivial⟩
                  · replace h := iteF h g2645
                    conv => whnf
                    refine spl (fun g2647 => ?_) (fun g2647 => ?_)
                    · replace h := iteT h g2647
                      conv => whnf
                      refine CutK.norm [0, 1, 4, 6, 7] [256, 384] ?_
                      conv => whnf
                      exact LoopOk.back (spec_shSimplest_l0_ct  n _ _ _ _ _ _ _ _ _ h) [some 256, some 384] [] ⟨⟨rfl, rfl⟩, ⟨rfl, ⟨rfl, rfl, rfl, trivial⟩, ⟨rfl, rfl, rfl, rfl, rfl, rfl, rfl, rfl, rfl, trivial⟩, trivial⟩, rfl, rfl, ⟨rfl, rfl⟩, ⟨rfl, rfl⟩, rfl, trivial⟩
                    · replace h := iteF h g2647
                      conv => whnf
                      refine CutK.norm [0, 1, 4, 6, 7] [256, 384] ?_
                      conv => whnf
                      exact LoopOk.back (spec_shSimplest_l0_ct  n _ _ _ _ _ _ _ _ _ h) [some 256, some 384] [] ⟨⟨rfl, rfl⟩, ⟨rfl, ⟨rfl, rfl, rfl, trivial⟩, ⟨rfl, rfl, rfl, rfl, rfl, rfl, rfl, rfl, rfl, trivial⟩, trivial⟩, rfl, rfl, ⟨rfl, rfl⟩, ⟨rfl, rfl⟩, rfl, trivial⟩
              · replace h := iteN h g2627
                conv => whnf
                refine CutK.norm [0, 1, 4, 6, 7, 8] [256, 384] ?_
                conv => whnf
                refine splD (fun g2648 => ?_) (fun g2648 => ?_)
                · replace h := iteP h g2648
                  conv => whnf
                  refine Pick.no ?_
                  conv => whnf
                  obtain ⟨y2649, e2650, h⟩ := bind_ex h
                  refine CallOk.of (spec_shNegAll_ct e2650) ?_
                  conv => whnf
                  refine Pick.no ?_
                  conv => whnf
                  refine Take.all (rfl) ?_
                  conv => whnf
                  obtain ⟨y2651, e2652, h⟩ := bind_ex h
                  refine CallOk.of (spec_shMost_ct e2652) ?_
                  conv => whnf
                  refine Pick.no ?_
                  conv => whnf
                  obtain ⟨y2653, e2654, h⟩ := bind_ex h
                  refine CallOk.of (spec_shNeg_ct e2654) ?_
                  conv => whnf
                  refine Pick.no ?_
                  conv => whnf
                  obtain ⟨y2655, e2656, h⟩ := bind_ex h
                  refine CallOk.of (spec_shCmp_ct e2656) ?_
                  conv => whnf
                  refine splD (fun g2657 => ?_) (fun g2657 => ?_)
                  · replace h := iteP h g2657
                    conv => whnf
                    refine CutK.norm [0, 1, 4, 6, 7, 8, 9] [256, 384] ?_
                    conv => whnf
                    refine splF ?_
                    conv => whnf
                    refine splF ?_
                    conv => whnf
                    refine Pick.no ?_
                    conv => whnf
                    obtain ⟨y2658, e2659, h⟩ := bind_ex h
                    refine CallOk.of (spec_shWalk_step_ct e2659) ?_
                    conv => whnf
                    refine spl (fun g2660 => ?_) (fun g2660 => ?_)
                    · replace h := iteT h g2660
                      conv => whnf
                      refine spl (fun g2661 => ?_) (fun g2661 => ?_)
                      · replace h := iteT h g2661
                        conv => whnf
                        refine CutK.norm [0, 1, 4, 6, 7] [256, 384] ?_
                        conv => whnf
                        exact LoopOk.back (spec_shSimplest_l0_ct  n _ _ _ _ _ _ _ _ _ h) [some 256, some 384] [] ⟨⟨rfl, rfl⟩, ⟨rfl, ⟨rfl, rfl, rfl, trivial⟩, ⟨rfl, rfl, rfl, rfl, rfl, rfl, rfl, rfl, rfl, trivial⟩, trivial⟩, rfl, rfl, ⟨rfl, rfl⟩, ⟨rfl, rfl⟩, rfl, trivial⟩
                      · replace h := iteF h g2661
                        conv => whnf
                        refine CutK.norm [0, 1, 4, 6, 7] [256, 384] ?_
                        conv => whnf
                        exact LoopOk.back (spec_shSimplest_l0_ct  n _ _ _ _ _ _ _ _ _ h) [some 256, some 384] [] ⟨⟨rfl, rfl⟩, ⟨rfl, ⟨rfl, rfl, rfl, trivial⟩, ⟨rfl, rfl, rfl, rfl, rfl, rfl, rfl, rfl, rfl, trivial⟩, trivial⟩, rfl, rfl, ⟨rfl, rfl⟩, ⟨rfl, rfl⟩, rfl, trivial⟩
                    · replace h := iteF h g2660
                      conv => whnf
                      refine spl (fun g2662 => ?_) (fun g2662 => ?_)
                      · replace h := iteT h g2662
                        conv => whnf
                        refine CutK.norm [0, 1, 4, 6, 7] [256, 384] ?_
                        conv => whnf
                        exact LoopOk.back (spec_shSimplest_l0_ct  n _ _ _ _ _ _ _ _ _ h) [some 256, some 384] [] ⟨⟨rfl, rfl⟩, ⟨rfl, ⟨rfl, rfl, rfl, trivial⟩, ⟨rfl, rfl, rfl, rfl, rfl, rfl, rfl, rfl, rfl, trivial⟩, trivial⟩, rfl, rfl, ⟨rfl, rfl⟩, ⟨rfl, rfl⟩, rfl, trivial⟩
                      · replace h := iteF h g2662
                        conv => whnf
                        refine CutK.norm [0, 1, 4, 6, 7] [256, 384] ?_
                        conv => whnf
                        exact LoopOk.back (spec_shSimplest_l0_ct  n _ _ _ _ _ _ _ _ _ h) [some 256, some 384] [] ⟨⟨rfl, rfl⟩, ⟨rfl, ⟨rfl, rfl, rfl, trivial⟩, ⟨rfl, rfl, rfl, rfl, rfl, rfl, rfl, rfl, rfl, trivial⟩, trivial⟩, rfl, rfl, ⟨rfl, rfl⟩, ⟨rfl, rfl⟩, rfl, trivial⟩
                  · replace h := iteN h g2657
                    conv => whnf
                    refine CutK.norm [0, 1, 4, 6, 7, 8, 9] [256, 384] ?_
                    conv => whnf
                    cases h
                    exact Done.of [] [] rfl rfl ⟨⟨rfl, rfl⟩, ⟨rfl, trivial⟩, ⟨⟨rfl, rfl, trivial⟩, rfl, trivial⟩, trivial⟩
                · replace h := iteN h g2648
                  conv => whnf
                  refine CutK.norm [0, 1, 4, 6, 7, 8, 9] [256, 384] ?_
                  conv => whnf
                  cases h
                  exact Done.of [] [] rfl rfl ⟨⟨rfl, rfl⟩, ⟨rfl, trivial⟩, ⟨⟨rfl, rfl, trivial⟩, rfl, trivial⟩, trivial⟩
            · replace h := iteN h g2622
              conv => whnf
              refine CutK.norm [0, 1, 4, 6, 7, 8] [256, 384] ?_
              conv => whnf
              refine splD (fun g2663 => ?_) (fun g2663 => ?_)
              · replace h := iteP h g2663
                conv => whnf
                refine Pick.no ?_
                conv => whnf
                obtain ⟨y2664, e2665, h⟩ := bind_ex h
                refine CallOk.of (spec_shNegAll_ct e2665) ?_
                conv => whnf
                refine Pick.no ?_
                conv => whnf
                refine Take.all (rfl) ?_
                conv => whnf
                obtain ⟨y2666, e2667, h⟩ := bind_ex h
                refine CallOk.of (spec_shMost_ct e2667) ?_
                conv => whnf
                refine Pick.no ?_
                conv => whnf
                obtain ⟨y2668, e2669, h⟩ := bind_ex h
                refine CallOk.of (spec_shNeg_ct e2669) ?_
                conv => whnf
                refine Pick.no ?_
                conv => whnf
                obtain ⟨y2670, e2671, h⟩ := bind_ex h
                refine CallOk.of (spec_shCmp_ct e2671) ?_
                conv => whnf
                refine splD (fun g2672 => ?_) (fun g2672 => ?_)
                · replace h := iteP h g2672
                  conv => whnf
                  refine CutK.norm [0, 1, 4, 6, 7, 8, 9] [256, 384] ?_
                  conv => whnf
                  refine splF ?_
                  conv => whnf
                  refine splF ?_
                  conv => whnf
                  refine Pick.no ?_
                  conv => whnf
                  obtain ⟨y2673, e2674, h⟩ := bind_ex h
                  refine CallOk.of (spec_shWalk_step_ct e2674) ?_
                  conv => whnf
                  refine spl (fun g2675 => ?_) (fun g2675 => ?_)
                  · replace h := iteT h g2675
                    conv => whnf
                    refine spl (fun g2676 => ?_) (fun g2676 => ?_)
                    · replace h := iteT h g2676
                      conv => whnf
                      refine CutK.norm [0, 1, 4, 6, 7] [256, 384] ?_
                      conv => whnf
                      exact LoopOk.back (spec_shSimplest_l0_ct  n _ _ _ _ _ _ _ _ _ h) [some 256, some 384] [] ⟨⟨rfl, rfl⟩, ⟨rfl, ⟨rfl, rfl, rfl, trivial⟩, ⟨rfl, rfl, rfl, rfl, rfl, rfl, rfl, rfl, rfl, trivial⟩, trivial⟩, rfl, rfl, ⟨rfl, rfl⟩, ⟨rfl, rfl⟩, rfl, trivial⟩
                    · replace h := iteF h g2676
                      conv => whnf
                      refine CutK.norm [0, 1, 4, 6, 7] [256, 384] ?_
                      conv => whnf
                      exact LoopOk.back (spec_shSimplest_l0_ct  n _ _ _ _ _ _ _ _ _ h) [some 256, some 384] [] ⟨⟨rfl, rfl⟩, ⟨rfl, ⟨rfl, rfl, rfl, trivial⟩, ⟨rfl, rfl, rfl, rfl, rfl, rfl, rfl, rfl, rfl, trivial⟩, trivial⟩, rfl, rfl, ⟨rfl, rfl⟩, ⟨rfl, rfl⟩, rfl, trivial⟩
                  · replace h := iteF h g2675
                    conv => whnf
                    refine spl (fun g2677 => ?_) (fun g2677 => ?_)
                    · replace h := iteT h g2677
                      conv => whnf
                      refine CutK.norm [0, 1, 4, 6, 7] [256, 384] ?_
                      conv => whnf
                      exact LoopOk.back (spec_shSimplest_l0_ct  n _ _ _ _ _ _ _ _ _ h) [some 256, some 384] [] ⟨⟨rfl, rfl⟩, ⟨rfl, ⟨rfl, rfl, rfl, trivial⟩, ⟨rfl, rfl, rfl, rfl, rfl, rfl, rfl, rfl, rfl, trivial⟩, trivial⟩, rfl, rfl, ⟨rfl, rfl⟩, ⟨rfl, rfl⟩, rfl, trivial⟩
                    · replace h := iteF h g2677
                      conv => whnf
                      refine CutK.norm [0, 1, 4, 6, 7] [256, 384] ?_
                      conv => whnf
                      exact LoopOk.back (spec_shSimplest_l0_ct  n _ _ _ _ _ _ _ _ _ h) [some 256, some 384] [] ⟨⟨rfl, rfl⟩, ⟨rfl, ⟨rfl, rfl, rfl, trivial⟩, ⟨rfl, rfl, rfl, rfl, rfl, rfl, rfl, rfl, rfl, trivial⟩, trivial⟩, rfl, rfl, ⟨rfl, rfl⟩, ⟨rfl, rfl⟩, rfl, trivial⟩
                · replace h := iteN h g2672
                  conv => whnf
                  refine CutK.norm [0, 1, 4, 6, 7, 8, 9] [256, 384] ?_
                  conv => whnf
                  cases h
                  exact Done.of [] [] rfl rfl ⟨⟨rfl, rfl⟩, ⟨rfl, trivial⟩, ⟨⟨rfl, rfl, trivial⟩, rfl, trivial⟩, trivial⟩
              · replace h := iteN h g2663
                conv => whnf
                refine CutK.norm [0, 1, 4, 6, 7, 8, 9] [256, 384] ?_
                conv => whnf
                cases h
                exact Done.of [] [] rfl rfl ⟨⟨rfl, rfl⟩, ⟨rfl, trivial⟩, ⟨⟨rfl, rfl, trivial⟩, rfl, trivial⟩, trivial⟩
          · replace h := iteN h g2621
            conv => whnf
            exact ⟨_, _, [some 256], [], ⟨rfl, h, rfl, rfl⟩, ⟨⟨rfl, rfl⟩, ⟨rfl, ⟨rfl, rfl, rfl, trivial⟩, trivial⟩, ⟨rfl, rfl⟩, trivial⟩⟩
        · replace h := condT h
          refine LoopOk.step ?_
          conv => whnf
          refine splD (fun g2678 => ?_) (fun g2678 => ?_)
          · replace h := iteP h g2678
            conv => whnf
            refine splD (fun g2679 => ?_) (fun g2679 => ?_)
            · replace h := iteP h g2679
              conv => whnf
              refine Pick.no ?_
              conv => whnf
              obtain ⟨y2680, e2681, h⟩ := bind_ex h
              refine CallOk.of (spec_shMost_ct e2681) ?_
              conv => whnf
              refine Pick.no ?_
              conv => whnf
              obtain ⟨y2682, e2683, h⟩ := bind_ex h
              refine CallOk.of (spec_shCmp_ct e2683) ?_
              conv => whnf
              refine splD (fun g2684 => ?_) (fun g2684 => ?_)
              · replace h := iteP h g2684
                conv => whnf
                refine CutK.norm [0, 1, 4, 6, 7, 8] [256, 384] ?_
                conv => whnf
                refine splD (fun g2685 => ?_) (fun g2685 => ?_)
                · replace h := iteP h g2685
                  conv => whnf
                  refine Pick.no ?_
                  conv => whnf
                  obtain ⟨y2686, e2687, h⟩ := bind_ex h
                  refine CallOk.of (spec_shNegAll_ct e2687) ?_
                  conv => whnf
                  refine Pick.no ?_
                  conv => whnf
                  refine Take.all (rfl) ?_
                  conv => whnf
                  obtain ⟨y2688, e2689, h⟩ := bind_ex h
                  refine CallOk.of (spec_shMost_ct e2689) ?_
                  conv => whnf
                  refine Pick.no ?_
                  conv => whnf
                  obtain ⟨y2690, e2691, h⟩ := bind_ex h
                  refine CallOk.of (spec_shNeg_ct e2691) ?_
                  conv => whnf
                  refine Pick.no ?_
                  conv => whnf
                  obtain ⟨y2692, e2693, h⟩ := bind_ex h
                  refine CallOk.of (spec_shCmp_ct e2693) ?_
                  conv => whnf
                  refine splD (fun g2694 => ?_) (fun g2694 => ?_)
                  · replace h := iteP h g2694
                    conv => whnf
                    refine CutK.norm [0, 1, 4, 6, 7, 8, 9] [256, 384] ?_
                    conv => whnf
                    cases h
                    exact Done.of [] [] rfl rfl ⟨⟨rfl, rfl⟩, ⟨rfl, trivial⟩, ⟨⟨rfl, rfl, trivial⟩, rfl, trivial⟩, trivial⟩
                  · replace h := iteN h g2694
                    conv => whnf
                    refine CutK.norm [0, 1, 4, 6, 7, 8, 9] [256, 384] ?_
                    conv => whnf
                    refine splF ?_
                    conv => whnf
                    refine splT ?_
                    conv => whnf
                    refine Pick.no ?_
                    conv => whnf
                    obtain ⟨y2695, e2696, h⟩ := bind_ex h
                    refine CallOk.of (spec_shWalk_step_ct e2696) ?_
                    conv => whnf
                    refine spl (fun g2697 => ?_) (fun g2697 => ?_)
                    · replace h := iteT h g2697
                      conv => whnf
                      refine spl (fun g2698 => ?_) (fun g2698 => ?_)
                      · replace h := iteT h g2698
                        conv => whnf
                        refine CutK.norm [0, 1, 4, 6, 7] [256, 384] ?_
                        conv => whnf
                        exact LoopOk.back (spec_shSimplest_l0_ct  n _ _ _ _ _ _ _ _ _ h) [some 256, some 384] [] ⟨⟨rfl, rfl⟩, ⟨rfl, ⟨rfl, rfl, rfl, trivial⟩, ⟨rfl, rfl, rfl, rfl, rfl, rfl, rfl, rfl, rfl, trivial⟩, trivial⟩, rfl, rfl, ⟨rfl, rfl⟩, ⟨rfl, rfl⟩, rfl, trivial⟩
                      · replace h := iteF h g2698
                        conv => whnf
                        refine CutK.norm [0, 1, 4, 6, 7] [256, 384] ?_
                        conv => whnf
                        exact LoopOk.back (spec_shSimplest_l0_ct  n _ _ _ _ _ _ _ _ _ h) [some 256, some 384] [] ⟨⟨rfl, rfl⟩, ⟨rfl, ⟨rfl, rfl, rfl, trivial⟩, ⟨rfl, rfl, rfl, rfl, rfl, rfl, rfl, rfl, rfl, trivial⟩, trivial⟩, rfl, rfl, ⟨rfl, rfl⟩, ⟨rfl, rfl⟩, rfl, trivial⟩
                    · replace h := iteF h g2697
                      conv => whnf
                      refine spl (fun g2699 => ?_) (fun g2699 => ?_)
                      · replace h := iteT h g2699
                        conv => whnf
                        refine CutK.norm [0, 1, 4, 6, 7] [256, 384] ?_
                        conv => whnf
                        exact LoopOk.back (spec_shSimplest_l0_ct  n _ _ _ _ _ _ _ _ _ h) [some 256, some 384] [] ⟨⟨rfl, rfl⟩, ⟨rfl, ⟨rfl, rfl, rfl, trivial⟩, ⟨rfl, rfl, rfl, rfl, rfl, rfl, rfl, rfl, rfl, trivial⟩, trivial⟩, rfl, rfl, ⟨rfl, rfl⟩, ⟨rfl, rfl⟩, rfl, trivial⟩
                      · replace h := iteF h g2699
                        conv => whnf
                        refine CutK.norm [0, 1, 4, 6, 7] [256, 384] ?_
                        conv => whnf
                        exact LoopOk.back (spec_shSimplest_l0_ct  n _ _ _ _ _ _ _ _ _ h) [some 256, some 384] [] ⟨⟨rfl, rfl⟩, ⟨rfl, ⟨rfl, rfl, rfl, trivial⟩, ⟨rfl, rfl, rfl, rfl, rfl, rfl, rfl, rfl, rfl, trivial⟩, trivial⟩, rfl, rfl, ⟨rfl, rfl⟩, ⟨rfl, rfl⟩, rfl, trivial⟩
                · replace h := iteN h g2685
                  conv => whnf
                  refine CutK.norm [0, 1, 4, 6, 7, 8, 9] [256, 384] ?_
                  conv => whnf
                  refine splF ?_
                  conv => whnf
                  refine splT ?_
                  conv => whnf
                  refine Pick.no ?_
                  conv => whnf
                  obtain ⟨y2700, e2701, h⟩ := bind_ex h
                  refine CallOk.of (spec_shWalk_step_ct e2701) ?_
                  conv => whnf
                  refine spl (fun g2702 => ?_) (fun g2702 => ?_)
                  · replace h := iteT h g2702
                    conv => whnf
                    refine spl (fun g2703 => ?_) (fun g2703 => ?_)
                    · replace h := iteT h g2703
                      conv => whnf
                      refine CutK.norm [0, 1, 4, 6, 7] [256, 384] ?_
                      conv => whnf
                      exact LoopOk.back (spec_shSimplest_l0_ct  n _ _ _ _ _ _ _ _ _ h) [some 256, some 384] [] ⟨⟨rfl, rfl⟩, ⟨rfl, ⟨rfl, rfl, rfl, trivial⟩, ⟨rfl, rfl, rfl, rfl, rfl, rfl, rfl, rfl, rfl, trivial⟩, trivial⟩, rfl, rfl, ⟨rfl, rfl⟩, ⟨rfl, rfl⟩, rfl, trivial⟩
                    · replace h := iteF h g2703
                      conv => whnf
                      refine CutK.norm [0, 1, 4, 6, 7] [256, 384] ?_
                      conv => whnf
                      exact LoopOk.back (spec_shSimplest_l0_ct  n _ _ _ _ _ _ _ _ _ h) [some 256, some 384] [] ⟨⟨rfl, rfl⟩, ⟨rfl, ⟨rfl, rfl, rfl, trivial⟩, ⟨rfl, rfl, rfl, rfl, rfl, rfl, rfl, rfl, rfl, trivial⟩, trivial⟩, rfl, rfl, ⟨rfl, rfl⟩, ⟨rfl, rfl⟩, rfl, trivial⟩
                  · replace h := iteF h g2702
                    conv => whnf
                    refine spl (fun g2704 => ?_) (fun g2704 => ?_)
                    · replace h := iteT h g2704
                      conv => whnf
                      refine CutK.norm [0, 1, 4, 6, 7] [256, 384] ?_
                      conv => whnf
                      exact LoopOk.back (spec_shSimplest_l0_ct  n _ _ _ _ _ _ _ _ _ h) [some 256, some 384] [] ⟨⟨rfl, rfl⟩, ⟨rfl, ⟨rfl, rfl, rfl, trivial⟩, ⟨rfl, rfl, rfl, rfl, rfl, rfl, rfl, rfl, rfl, trivial⟩, trivial⟩, rfl, rfl, ⟨rfl, rfl⟩, ⟨rfl, rfl⟩, rfl, trivial⟩
                    · replace h := iteF h g2704
                      conv => whnf
                      refine CutK.norm [0, 1, 4, 6, 7] [256, 384] ?_
                      conv => whnf
                      exact LoopOk.back (spec_shSimplest_l0_ct  n _ _ _ _ _ _ _ _ _ h) [some 256, some 384] [] ⟨⟨rfl, rfl⟩, ⟨rfl, ⟨rfl, rfl, rfl, trivial⟩, ⟨rfl, rfl, rfl, rfl, rfl, rfl, rfl, rfl, rfl, trivial⟩, trivial⟩, rfl, rfl, ⟨rfl, rfl⟩, ⟨rfl, rfl⟩, rfl, trivial⟩
              · replace h := iteN h g2684
                conv => whnf
                refine CutK.norm [0, 1, 4, 6, 7, 8] [256, 384] ?_
                conv => whnf
                refine splD (fun g2705 => ?_) (fun g2705 => ?_)
                · replace h := iteP h g2705
                  conv => whnf
                  refine Pick.no ?_
                  conv => whnf
                  obtain ⟨y2706, e2707, h⟩ := bind_ex h
                  refine CallOk.of (spec_shNegAll_ct e2707) ?_
                  conv => whnf
                  refine Pick.no ?_
                  conv => whnf
                  refine Take.all (rfl) ?_
                  conv => whnf
                  obtain ⟨y2708, e2709, h⟩ := bind_ex h
                  refine CallOk.of (spec_shMost_ct e2709) ?_
                  conv => whnf
                  refine Pick.no ?_
                  conv => whnf
                  obtain ⟨y2710, e2711, h⟩ := bind_ex h
                  refine CallOk.of (spec_shNeg_ct e2711) ?_
                  conv => whnf
                  refine Pick.no ?_
                  conv => whnf
                  obtain ⟨y2712, e2713, h⟩ := bind_ex h
                  refine CallOk.of (spec_shCmp_ct e2713) ?_
                  conv => whnf
                  refine splD (fun g2714 => ?_) (fun g2714 => ?_)
                  · replace h := iteP h g2714
                    conv => whnf
                    refine CutK.norm [0, 1, 4, 6, 7, 8, 9] [256, 384] ?_
                    conv => whnf
                    refine splF ?_
                    conv => whnf
                    refine splT ?_
                    conv => whnf
                    refine Pick.no ?_
                    conv => whnf
                    obtain ⟨y2715, e2716, h⟩ := bind_ex h
                    refine CallOk.of (spec_shWalk_step_ct e2716) ?_
                    conv => whnf
                    refine spl (fun g2717 => ?_) (fun g2717 => ?_)
                    · replace h := iteT h g2717
                      conv => whnf
                      refine spl (fun g2718 => ?_) (fun g2718 => ?_)
                      · replace h := iteT h g2718
                        conv => whnf
                        refine CutK.norm [0, 1, 4, 6, 7] [256, 384] ?_
                        conv => whnf
                        exact LoopOk.back (spec_shSimplest_l0_ct  n _ _ _ _ _ _ _ _ _ h) [some 256, some 384] [] ⟨⟨rfl, rfl⟩, ⟨rfl, ⟨rfl, rfl, rfl, trivial⟩, ⟨rfl, rfl, rfl, rfl, rfl, rfl, rfl, rfl, rfl, trivial⟩, trivial⟩, rfl, rfl, ⟨rfl, rfl⟩, ⟨rfl, rfl⟩, rfl, trivial⟩
                      · replace h := iteF h g2718
                        conv => whnf
                        refine CutK.norm [0, 1, 4, 6, 7] [256, 384] ?_
                        conv => whnf
                        exact LoopOk.back (spec_shSimplest_l0_ct  n _ _ _ _ _ _ _ _ _ h) [some 256, some 384] [] ⟨⟨rfl, rfl⟩, ⟨rfl, ⟨rfl, rfl, rfl, trivial⟩, ⟨rfl, rfl, rfl, rfl, rfl, rfl, rfl, rfl, rfl, trivial⟩, trivial⟩, rfl, rfl, ⟨rfl, rfl⟩, ⟨rfl, rfl⟩, rfl, trivial⟩
                    · replace h := iteF h g2717
                      conv => whnf
                      refine spl (fun g2719 => ?_) (fun g2719 => ?_)
                      · replace h := iteT h g2719
                        conv => whnf
                        refine CutK.norm [0, 1, 4, 6, 7] [256, 384] ?_
                        conv => whnf
                        exact LoopOk.back (spec_shSimplest_l0_ct  n _ _ _ _ _ _ _ _ _ h) [some 256, some 384] [] ⟨⟨rfl, rfl⟩, ⟨rfl, ⟨rfl, rfl, rfl, trivial⟩, ⟨rfl, rfl, rfl, rfl, rfl, rfl, rfl, rfl, rfl, trivial⟩, trivial⟩, rfl, rfl, ⟨rfl, rfl⟩, ⟨rfl, rfl⟩, rfl, trivial⟩
                      · replace h := iteF h g2719
                        conv => whnf
                        refine CutK.norm [0, 1, 4, 6, 7] [256, 384] ?_
                        conv => whnf
                        exact LoopOk.back (spec_shSimplest_l0_ct  n _ _ _ _ _ _ _ _ _ h) [some 256, some 384] [] ⟨⟨rfl, rfl⟩, ⟨rfl, ⟨rfl, rfl, rfl, trivial⟩, ⟨rfl, rfl, rfl, rfl, rfl, rfl, rfl, rfl, rfl, trivial⟩, trivial⟩, rfl, rfl, ⟨rfl, rfl⟩, ⟨rfl, rfl⟩, rfl, trivial⟩
                  · replace h := iteN h g2714
                    conv => whnf
                    refine CutK.norm [0, 1, 4, 6, 7, 8, 9] [256, 384] ?_
                    conv => whnf
                    cases h
                    exact Done.of [] [] rfl rfl ⟨⟨rfl, rfl⟩, ⟨rfl, trivial⟩, ⟨⟨rfl, rfl, trivial⟩, rfl, trivial⟩, trivial⟩
                · replace h := iteN h g2705
                  conv => whnf
                  refine CutK.norm [0, 1, 4, 6, 7, 8, 9] [256, 384] ?_
                  conv => whnf
                  cases h
                  exact Done.of [] [] rfl rfl ⟨⟨rfl, rfl⟩, ⟨rfl, trivial⟩, ⟨⟨rfl, rfl, trivial⟩, rfl, trivial⟩, trivial⟩
            · replace h := iteN h g2679
              conv => whnf
              refine CutK.norm [0, 1, 4, 6, 7, 8] [256, 384] ?_
              conv => whnf
              refine splD (fun g2720 => ?_) (fun g2720 => ?_)
              · replace h := iteP h g2720
                conv => whnf
                refine Pick.no ?_
                conv => whnf
                obtain ⟨y2721, e2722, h⟩ := bind_ex h
                refine CallOk.of (spec_shNegAll_ct e2722) ?_
                conv => whnf
                refine Pick.no ?_
                conv => whnf
                refine Take.all (rfl) ?_
                conv => whnf
                obtain ⟨y2723, e2724, h⟩ := bind_ex h
                refine CallOk.of (spec_shMost_ct e2724) ?_
                conv => whnf
                refine Pick.no ?_
                conv => whnf
                obtain ⟨y2725, e2726, h⟩ := bind_ex h
                refine CallOk.of (spec_shNeg_ct e2726) ?_
                conv => whnf
                refine Pick.no ?_
                conv => whnf
                obtain ⟨y2727, e2728, h⟩ := bind_ex h
                refine CallOk.of (spec_shCmp_ct e2728) ?_
                conv => whnf
                refine splD (fun g2729 => ?_) (fun g2729 => ?_)
                · replace h := iteP h g2729
                  conv => whnf
                  refine CutK.norm [0, 1, 4, 6, 7, 8, 9] [256, 384] ?_
                  conv => whnf
                  refine splF ?_
                  conv => whnf
                  refine splT ?_
                  conv => whnf
                  refine Pick.no ?_
                  conv => whnf
                  obtain ⟨y2730, e2731, h⟩ := bind_ex h
                  refine CallOk.of (spec_shWalk_step_ct e2731) ?_
                  conv => whnf
                  refine spl (fun g2732 => ?_) (fun g2732 => ?_)
                  · replace h := iteT h g2732
                    conv => whnf
                    refine spl (fun g2733 => ?_) (fun g2733 => ?_)
                    · replace h := iteT h g2733
                      conv => whnf
                      refine CutK.norm [0, 1, 4, 6, 7] [256, 384] ?_
                      conv => whnf
                      exact LoopOk.back (spec_shSimplest_l0_ct  n _ _ _ _ _ _ _ _ _ h) [some 256, some 384] [] ⟨⟨rfl, rfl⟩, ⟨rfl, ⟨rfl, rfl, rfl, trivial⟩, ⟨rfl, rfl, rfl, rfl, rfl, rfl, rfl, rfl, rfl, trivial⟩, trivial⟩, rfl, rfl, ⟨rfl, rfl⟩, ⟨rfl, rfl⟩, rfl, trivial⟩
                    · replace h := iteF h g2733
                      conv => whnf
                      refine CutK.norm [0, 1, 4, 6, 7] [256, 384] ?_
                      conv => whnf
                      exact LoopOk.back (spec_shSimplest_l0_ct  n _ _ _ _ _ _ _ _ _ h) [some 256, some 384] [] ⟨⟨rfl, rfl⟩, ⟨rfl, ⟨rfl, rfl, rfl, trivial⟩, ⟨rfl, rfl, rfl, rfl, rfl, rfl, rfl, rfl, rfl, trivial⟩, trivial⟩, rfl, rfl, ⟨rfl, rfl⟩, ⟨rfl, rfl⟩, rfl, trivial⟩
                  · replace h := iteF h g2732
                    conv => whnf
                    refine spl (fun g2734 => ?_) (fun g2734 => ?_)
                    · replace h := iteT h g2734
                      conv => whnf
                      refine CutK.norm [0, 1, 4, 6, 7] [256, 384] ?_
                      conv => whnf
                      exact LoopOk.back (spec_shSimplest_l0_ct  n _ _ _ _ _ _ _ _ _ h) [some 256, some 384] [] ⟨⟨rfl, rfl⟩, ⟨rfl, ⟨rfl, rfl, rfl, trivial⟩, ⟨rfl, rfl, rfl, rfl, rfl, rfl, rfl, rfl, rfl, trivial⟩, trivial⟩, rfl, rfl, ⟨rfl, rfl⟩, ⟨rfl, rfl⟩, rfl, trivial⟩
                    · replace h := iteF h g2734
                      conv => whnf
                      refine CutK.norm [0, 1, 4, 6, 7] [256, 384] ?_
                      conv => whnf
                      exact LoopOk.back (spec_shSimplest_l0_ct  n _ _ _ _ _ _ _ _ _ h) [some 256, some 384] [] ⟨⟨rfl, rfl⟩, ⟨rfl, ⟨rfl, rfl, rfl, trivial⟩, ⟨rfl, rfl, rfl, rfl, rfl, rfl, rfl, rfl, rfl, trivial⟩, trivial⟩, rfl, rfl, ⟨rfl, rfl⟩, ⟨rfl, rfl⟩, rfl, trivial⟩
                · replace h := iteN h g2729
                  conv => whnf
                  refine CutK.norm [0, 1, 4, 6, 7, 8, 9] [256, 384] ?_
                  conv => whnf
                  cases h
                  exact Done.of [] [] rfl rfl ⟨⟨rfl, rfl⟩, ⟨rfl, trivial⟩, ⟨⟨rfl, rfl, trivial⟩, rfl, trivial⟩, trivial⟩
              · replace h := iteN h g2720
                conv => whnf
                refine CutK.norm [0, 1, 4, 6, 7, 8, 9] [256, 384] ?_
                conv => whnf
                cases h
                exact Done.of [] [] rfl rfl ⟨⟨rfl, rfl⟩, ⟨rfl, trivial⟩, ⟨⟨rfl, rfl, trivial⟩, rfl, trivial⟩, trivial⟩
          · replace h := iteN h g2678
            conv => whnf
            exact ⟨_, _, [some 256], [], ⟨rfl, h, rfl, rfl⟩, ⟨⟨rfl, rfl⟩, ⟨rfl, ⟨rfl, rfl, rfl, trivial⟩, trivial⟩, ⟨rfl, rfl⟩, trivial⟩⟩
      · replace h := condT h
        cases v2128
        · replace h := condF h
          refine LoopOk.step ?_
          conv => whnf
          refine splD (fun g2735 => ?_) (fun g2735 => ?_)
          · replace h := iteP h g2735
            conv => whnf
            refine splD (fun g2736 => ?_) (fun g2736 => ?_)
            · replace h := iteP h g2736
              conv => whnf
              refine Pick.no ?_
              conv => whnf
              obtain ⟨y2737, e2738, h⟩ := bind_ex h
              refine CallOk.of (spec_shMost_ct e2738) ?_
              conv => whnf
              refine Pick.no ?_
              conv => whnf
              obtain ⟨y2739, e2740, h⟩ := bind_ex h
              refine CallOk.of (spec_shCmp_ct e2740) ?_
              conv => whnf
              refine splD (fun g2741 => ?_) (fun g2741 => ?_)
              · replace h := iteP h g2741
                conv => whnf
                refine CutK.norm [0, 1, 4, 6, 7, 8] [256, 384] ?_
                conv => whnf
                refine splD (fun g2742 => ?_) (fun g2742 => ?_)
                · replace h := iteP h g2742
                  conv => whnf
                  refine Pick.no ?_
                  conv => whnf
                  obtain ⟨y2743, e2744, h⟩ := bind_ex h
                  refine CallOk.of (spec_shNegAll_ct e2744) ?_
                  conv => whnf
                  refine Pick.no ?_
                  conv => whnf
                  refine Take.all (rfl) ?_
                  conv => whnf
                  obtain ⟨y2745, e2746, h⟩ := bind_ex h
                  refine CallOk.of (spec_shMost_ct e2746) ?_
                  conv => whnf
                  refine Pick.no ?_
                  conv => whnf
                  obtain ⟨y2747, e2748, h⟩ := bind_ex h
                  refine CallOk.of (spec_shNeg_ct e2748) ?_
                  conv => whnf
                  refine Pick.no ?_
                  conv => whnf
                  obtain ⟨y2749, e2750, h⟩ := bind_ex h
                  refine CallOk.of (spec_shCmp_ct e2750) ?_
                  conv => whnf
                  refine splD (fun g2751 => ?_) (fun g2751 => ?_)
                  · replace h := iteP h g2751
                    conv => whnf
                    refine CutK.norm [0, 1, 4, 6, 7, 8, 9] [256, 384] ?_
                    conv => whnf
                    cases h
                    exact Done.of [] [] rfl rfl ⟨⟨rfl, rfl⟩, ⟨rfl, trivial⟩, ⟨⟨rfl, rfl, trivial⟩, rfl, trivial⟩, trivial⟩
                  · replace h := iteN h g2751
                    conv => whnf
                    refine CutK.norm [0, 1, 4, 6, 7, 8, 9] [256, 384] ?_
                    conv => whnf
                    refine splT ?_
                    conv => whnf
                    refine splF ?_
                    conv => whnf
                    refine Pick.no ?_
                    conv => whnf
                    obtain ⟨y2752, e2753, h⟩ := bind_ex h
                    refine CallOk.of (spec_shWalk_step_ct e2753) ?_
                    conv => whnf
                    refine spl (fun g2754 => ?_) (fun g2754 => ?_)
                    · replace h := iteT h g2754
                      conv => whnf
                      refine spl (fun g2755 => ?_) (fun g2755 => ?_)
                      · replace h := iteT h g2755
                        conv => whnf
                        refine CutK.norm [0, 1, 4, 6, 7] [256, 384] ?_
                        conv => whnf
                        exact LoopOk.back (spec_shSimplest_l0_ct  n _ _ _ _ _ _ _ _ _ h) [some 256, some 384] [] ⟨⟨rfl, rfl⟩, ⟨rfl, ⟨rfl, rfl, rfl, trivial⟩, ⟨rfl, rfl, rfl, rfl, rfl, rfl, rfl, rfl, rfl, trivial⟩, trivial⟩, rfl, rfl, ⟨rfl, rfl⟩, ⟨rfl, rfl⟩, rfl, trivial⟩
                      · replace h := iteF h g2755
                        conv => whnf
                        refine CutK.norm [0, 1, 4, 6, 7] [256, 384] ?_
                        conv => whnf
                        exact LoopOk.back (spec_shSimplest_l0_ct  n _ _ _ _ _ _ _ _ _ h) [some 256, some 384] [] ⟨⟨rfl, rfl⟩, ⟨rfl, ⟨rfl, rfl, rfl, trivial⟩, ⟨rfl, rfl, rfl, rfl, rfl, rfl, rfl, rfl, rfl, trivial⟩, trivial⟩, rfl, rfl, ⟨rfl, rfl⟩, ⟨rfl, rfl⟩, rfl, trivial⟩
                    · replace h := iteF h g2754
                      conv => whnf
                      refine spl (fun g2756 => ?_) (fun g2756 => ?_)
                      · replace h := iteT h g2756
                        conv => whnf
                        refine CutK.norm [0, 1, 4, 6, 7] [256, 384] ?_
                        conv => whnf
                        exact LoopOk.back (spec_shSimplest_l0_ct  n _ _ _ _ _ _ _ _ _ h) [some 256, some 384] [] ⟨⟨rfl, rfl⟩, ⟨rfl, ⟨rfl, rfl, rfl, trivial⟩, ⟨rfl, rfl, rfl, rfl, rfl, rfl, rfl, rfl, rfl, trivial⟩, trivial⟩, rfl, rfl, ⟨rfl, rfl⟩, ⟨rfl, rfl⟩, rfl, trivial⟩
                      · replace h := iteF h g2756
                        conv => whnf
                        refine CutK.norm [0, 1, 4, 6, 7] [256, 384] ?_
                        conv => whnf
                        exact LoopOk.back (spec_shSimplest_l0_ct  n _ _ _ _ _ _ _ _ _ h) [some 256, some 384] [] ⟨⟨rfl, rfl⟩, ⟨rfl, ⟨rfl, rfl, rfl, trivial⟩, ⟨rfl, rfl, rfl, rfl, rfl, rfl, rfl, rfl, rfl, trivial⟩, trivial⟩, rfl, rfl, ⟨rfl, rfl⟩, ⟨rfl, rfl⟩, rfl, trivial⟩
                · replace h := iteN h g2742
                  conv => whnf
                  refine CutK.norm [0, 1, 4, 6, 7, 8, 9] [256, 384] ?_
                  conv => whnf
                  refine splT ?_
                  conv => whnf
                  refine splF ?_
                  conv => whnf
                  refine Pick.no ?_
                  conv => whnf
                  obtain ⟨y2757, e2758, h⟩ := bind_ex h
                  refine CallOk.of (spec_shWalk_step_ct e2758) ?_
                  conv => whnf
                  refine spl (fun g2759 => ?_) (fun g2759 => ?_)
                  · replace h := iteT h g2759
                    conv => whnf
                    refine spl (fun g2760 => ?_) (fun g2760 => ?_)
                    · replace h := iteT h g2760
                      conv => whnf
                      refine CutK.norm [0, 1, 4, 6, 7] [256, 384] ?_
                      conv => whnf
                      exact LoopOk.back (spec_shSimplest_l0_ct  n _ _ _ _ _ _ _ _ _ h) [some 256, some 384] [] ⟨⟨rfl, rfl⟩, ⟨rfl, ⟨rfl, rfl, rfl, trivial⟩, ⟨rfl, rfl, rfl, rfl, rfl, rfl, rfl, rfl, rfl, trivial⟩, trivial⟩, rfl, rfl, ⟨rfl, rfl⟩, ⟨rfl, rfl⟩, rfl, trivial⟩
                    · replace h := iteF h g2760
                      conv => whnf
                      refine CutK.norm [0, 1, 4, 6, 7] [256, 384] ?_
                      conv => whnf
                      exact LoopOk.back (spec_shSimplest_l0_ct  n _ _ _ _ _ _ _ _ _ h) [some 256, some 384] [] ⟨⟨rfl, rfl⟩, ⟨rfl, ⟨rfl, rfl, rfl, trivial⟩, ⟨rfl, rfl, rfl, rfl, rfl, rfl, rfl, rfl, rfl, trivial⟩, trivial⟩, rfl, rfl, ⟨rfl, rfl⟩, ⟨rfl, rfl⟩, rfl, trivial⟩
                  · replace h := iteF h g2759
                    conv => whnf
                    refine spl (fun g2761 => ?_) (fun g2761 => ?_)
                    · replace h := iteT h g2761
                      conv => whnf
                      refine CutK.norm [0, 1, 4, 6, 7] [256, 384] ?_
                      conv => whnf
                      exact LoopOk.back (spec_shSimplest_l0_ct  n _ _ _ _ _ _ _ _ _ h) [some 256, some 384] [] ⟨⟨rfl, rfl⟩, ⟨rfl, ⟨rfl, rfl, rfl, trivial⟩, ⟨rfl, rfl, rfl, rfl, rfl, rfl, rfl, rfl, rfl, trivial⟩, trivial⟩, rfl, rfl, ⟨rfl, rfl⟩, ⟨rfl, rfl⟩, rfl, trivial⟩
                    · replace h := iteF h g2761
                      conv => whnf
                      refine CutK.norm [0, 1, 4, 6, 7] [256, 384] ?_
                      conv => whnf
                      exact LoopOk.back (spec_shSimplest_l0_ct  n _ _ _ _ _ _ _ _ _ h) [some 256, some 384] [] ⟨⟨rfl, rfl⟩, ⟨rfl, ⟨rfl, rfl, rfl, trivial⟩, ⟨rfl, rfl, rfl, rfl, rfl, rfl, rfl, rfl, rfl, trivial⟩, trivial⟩, rfl, rfl, ⟨rfl, rfl⟩, ⟨rfl, rfl⟩, rfl, trivial⟩
              · replace h := iteN h g2741
                conv => whnf
                refine CutK.norm [0, 1, 4, 6, 7, 8] [256, 384] ?_
                conv => whnf
                refine splD (fun g2762 => ?_) (fun g2762 => ?_)
                · replace h := iteP h g2762
                  conv => whnf
                  refine Pick.no ?_
                  conv => whnf
                  obtain ⟨y2763, e2764, h⟩ := bind_ex h
                  refine CallOk.of (spec_shNegAll_ct e2764) ?_
                  conv => whnf
                  refine Pick.no ?_
                  conv => whnf
                  refine Take.all (rfl) ?_
                  conv => whnf
                  obtain ⟨y2765, e2766, h⟩ := bind_ex h
                  refine CallOk.of (spec_shMost_ct e2766) ?_
                  conv => whnf
                  refine Pick.no ?_
                  conv => whnf
                  obtain ⟨y2767, e2768, h⟩ := bind_ex h
                  refine CallOk.of (spec_shNeg_ct e2768) ?_
                  conv => whnf
                  refine Pick.no ?_
                  conv => whnf
                  obtain ⟨y2769, e2770, h⟩ := bind_ex h
                  refine CallOk.of (spec_shCmp_ct e2770) ?_
                  conv => whnf
                  refine splD (fun g2771 => ?_) (fun g2771 => ?_)
                  · replace h := iteP h g2771
                    conv => whnf
                    refine CutK.norm [0, 1, 4, 6, 7, 8, 9] [256, 384] ?_
                    conv => whnf
                    refine splT ?_
                    conv => whnf
                    refine splF ?_
                    conv => whnf
                    refine Pick.no ?_
                    conv => whnf
                    obtain ⟨y2772, e2773, h⟩ := bind_ex h
                    refine CallOk.of (spec_shWalk_step_ct e2773) ?_
                    conv => whnf
                    refine spl (fun g2774 => ?_) (fun g2774 => ?_)
                    · replace h := iteT h g2774
                      conv => whnf
                      refine spl (fun g2775 => ?_) (fun g2775 => ?_)
                      · replace h := iteT h g2775
                        conv => whnf
                        refine CutK.norm [0, 1, 4, 6, 7] [256, 384] ?_
                        conv => whnf
                        exact LoopOk.back (spec_shSimplest_l0_ct  n _ _ _ _ _ _ _ _ _ h) [some 256, some 384] [] ⟨⟨rfl, rfl⟩, ⟨rfl, ⟨rfl, rfl, rfl, trivial⟩, ⟨rfl, rfl, rfl, rfl, rfl, rfl, rfl, rfl, rfl, trivial⟩, trivial⟩, rfl, rfl, ⟨rfl, rfl⟩, ⟨rfl, rfl⟩, rfl, trivial⟩
                      · replace h := iteF h g2775
                        conv => whnf
                        refine CutK.norm [0, 1, 4, 6, 7] [256, 384] ?_
                        conv => whnf
                        exact LoopOk.back (spec_shSimplest_l0_ct  n _ _ _ _ _ _ _ _ _ h) [some 256, some 384] [] ⟨⟨rfl, rfl⟩, ⟨rfl, ⟨rfl, rfl, rfl, trivial⟩, ⟨rfl, rfl, rfl, rfl, rfl, rfl, rfl, rfl, rfl, trivial⟩, trivial⟩, rfl, rfl, ⟨rfl, rfl⟩, ⟨rfl, rfl⟩, rfl, trivial⟩
                    · replace h := iteF h g2774
                      conv => whnf
                      refine spl (fun g2776 => ?_) (fun g2776 => ?_)
                      · replace h := iteT h g2776
                        conv => whnf
                        refine CutK.norm [0, 1, 4, 6, 7] [256, 384] ?_
                        conv => whnf
                        exact LoopOk.back (spec_shSimplest_l0_ct  n _ _ _ _ _ _ _ _ _ h) [some 256, some 384] [] ⟨⟨rfl, rfl⟩, ⟨rfl, ⟨rfl, rfl, rfl, trivial⟩, ⟨rfl, rfl, rfl, rfl, rfl, rfl, rfl, rfl, rfl, trivial⟩, trivial⟩, rfl, rfl, ⟨rfl, rfl⟩, ⟨rfl, rfl⟩, rfl, trivial⟩
                      · replace h := iteF h g2776
                        conv => whnf
                        refine CutK.norm [0, 1, 4, 6, 7] [256, 384] ?_
                        conv => whnf
                        exact LoopOk.back (spec_shSimplest_l0_ct  n _ _ _ _ _ _ _ _ _ h) [some 256, some 384] [] ⟨⟨rfl, rfl⟩, ⟨rfl, ⟨rfl, rfl, rfl, trivial⟩, ⟨rfl, rfl, rfl, rfl, rfl, rfl, rfl, rfl, rfl, trivial⟩, trivial⟩, rfl, rfl, ⟨rfl, rfl⟩, ⟨rfl, rfl⟩, rfl, trivial⟩
                  · replace h := iteN h g2771
                    conv => whnf
                    refine CutK.norm [0, 1, 4, 6, 7, 8, 9] [256, 384] ?_
                    conv => whnf
                    cases h
                    exact Done.of [] [] rfl rfl ⟨⟨rfl, rfl⟩, ⟨rfl, trivial⟩, ⟨⟨rfl, rfl, trivial⟩, rfl, trivial⟩, trivial⟩
                · replace h := iteN h g2762
                  conv => whnf
                  refine CutK.norm [0, 1, 4, 6, 7, 8, 9] [256, 384] ?_
                  conv => whnf
                  cases h
                  exact Done.of [] [] rfl rfl ⟨⟨rfl, rfl⟩, ⟨rfl, trivial⟩, ⟨⟨rfl, rfl, trivial⟩, rfl, trivial⟩, trivial⟩
            · replace h := iteN h g2736
              conv => whnf
              refine CutK.norm [0, 1, 4, 6, 7, 8] [256, 384] ?_
              conv => whnf
              refine splD (fun g2777 => ?_) (fun g2777 => ?_)
              · replace h := iteP h g2777
                conv => whnf
                refine Pick.no ?_
                conv => whnf
                obtain ⟨y2778, e2779, h⟩ := bind_ex h
                refine CallOk.of (spec_shNegAll_ct e2779) ?_
                conv => whnf
                refine Pick.no ?_
                conv => whnf
                refine Take.all (rfl) ?_
                conv => whnf
                obtain ⟨y2780, e2781, h⟩ := bind_ex h
                refine CallOk.of (spec_shMost_ct e2781) ?_
                conv => whnf
                refine Pick.no ?_
                conv => whnf
                obtain ⟨y2782, e2783, h⟩ := bind_ex h
                refine CallOk.of (spec_shNeg_ct e2783) ?_
                conv => whnf
                refine Pick.no ?_
                conv => whnf
                obtain ⟨y2784, e2785, h⟩ := bind_ex h
                refine CallOk.of (spec_shCmp_ct e2785) ?_
                conv => whnf
                refine splD (fun g2786 => ?_) (fun g2786 => ?_)
                · replace h := iteP h g2786
                  conv => whnf
                  refine CutK.norm [0, 1, 4, 6, 7, 8, 9] [256, 384] ?_
                  conv => whnf
                  refine splT ?_
                  conv => whnf
                  refine splF ?_
                  conv => whnf
                  refine Pick.no ?_
                  conv => whnf
                  obtain ⟨y2787, e2788, h⟩ := bind_ex h
                  refine CallOk.of (spec_shWalk_step_ct e2788) ?_
                  conv => whnf
                  refine spl (fun g2789 => ?_) (fun g2789 => ?_)
                  · replace h := iteT h g2789
                    conv => whnf
                    refine spl (fun g2790 => ?_) (fun g2790 => ?_)
                    · replace h := iteT h g2790
                      conv => whnf
                      refine CutK.norm [0, 1, 4, 6, 7] [256, 384] ?_
                      conv => whnf
                      exact LoopOk.back (spec_shSimplest_l0_ct  n _ _ _ _ _ _ _ _ _ h) [some 256, some 384] [] ⟨⟨rfl, rfl⟩, ⟨rfl, ⟨rfl, rfl, rfl, trivial⟩, ⟨rfl, rfl, rfl, rfl, rfl, rfl, rfl, rfl, rfl, trivial⟩, trivial⟩, rfl, rfl, ⟨rfl, rfl⟩, ⟨rfl, rfl⟩, rfl, trivial⟩
                    · replace h := iteF h g2790
                      conv => whnf
                      refine CutK.norm [0, 1, 4, 6, 7] [256, 384] ?_
                      conv => whnf
                      exact LoopOk.back (spec_shSimplest_l0_ct  n _ _ _ _ _ _ _ _ _ h) [some 256, some 384] [] ⟨⟨rfl, rfl⟩, ⟨rfl, ⟨rfl, rfl, rfl, trivial⟩, ⟨rfl, rfl, rfl, rfl, rfl, rfl, rfl, rfl, rfl, trivial⟩, trivial⟩, rfl, rfl, ⟨rfl, rfl⟩, ⟨rfl, rfl⟩, rfl, trivial⟩
                  · replace h := iteF h g2789
                    conv => whnf
                    refine spl (fun g2791 => ?_) (fun g2791 => ?_)
                    · replace h := iteT h g2791
                      conv => whnf
                      refine CutK.norm [0, 1, 4, 6, 7] [256, 384] ?_
                      conv => whnf
                      exact LoopOk.back (spec_shSimplest_l0_ct  n _ _ _ _ _ _ _ _ _ h) [some 256, some 384] [] ⟨⟨rfl, rfl⟩, ⟨rfl, ⟨rfl, rfl, rfl, trivial⟩, ⟨rfl, rfl, rfl, rfl, rfl, rfl, rfl, rfl, rfl, trivial⟩, trivial⟩, rfl, rfl, ⟨rfl, rfl⟩, ⟨rfl, rfl⟩, rfl, trivial⟩
                    · replace h := iteF h g2791
                      conv => whnf
                      refine CutK.norm [0, 1, 4, 6, 7] [256, 384] ?_
                      conv => whnf
                      exact LoopOk.back (spec_shSimplest_l0_ct  n _ _ _ _ _ _ _ _ _ h) [some 256, some 384] [] ⟨⟨rfl, rfl⟩, ⟨rfl, ⟨rfl, rfl, rfl, trivial⟩, ⟨rfl, rfl, rfl, rfl, rfl, rfl, rfl, rfl, rfl, trivial⟩, trivial⟩, rfl, rfl, ⟨rfl, rfl⟩, ⟨rfl, rfl⟩, rfl, trivial⟩
                · replace h := iteN h g2786
                  conv => whnf
                  refine CutK.norm [0, 1, 4, 6, 7, 8, 9] [256, 384] ?_
                  conv => whnf
                  cases h
                  exact Done.of [] [] rfl rfl ⟨⟨rfl, rfl⟩, ⟨rfl, trivial⟩, ⟨⟨rfl, rfl, trivial⟩, rfl, trivial⟩, trivial⟩
              · replace h := iteN h g2777
                conv => whnf
                refine CutK.norm [0, 1, 4, 6, 7, 8, 9] [256, 384] ?_
                conv => whnf
                cases h
                exact Done.of [] [] rfl rfl ⟨⟨rfl, rfl⟩, ⟨rfl, trivial⟩, ⟨⟨rfl, rfl, trivial⟩, rfl, trivial⟩, trivial⟩
          · replace h := iteN h g2735
            conv => whnf
            exact ⟨_, _, [some 256], [], ⟨rfl, h, rfl, rfl⟩, ⟨⟨rfl, rfl⟩, ⟨rfl, ⟨rfl, rfl, rfl, trivial⟩, trivial⟩, ⟨rfl, rfl⟩, trivial⟩⟩
        · replace h := condT h
          refine LoopOk.step ?_
          conv => whnf
          refine splD (fun g2792 => ?_) (fun g2792 => ?_)
          · replace h := iteP h g2792
            conv => whnf
            refine splD (fun g2793 => ?_) (fun g2793 => ?_)
            · replace h := iteP h g2793
              conv => whnf
              refine Pick.no ?_
              conv => whnf
              obtain ⟨y2794, e2795, h⟩ := bind_ex h
              refine CallOk.of (spec_shMost_ct e2795) ?_
              conv => whnf
              refine Pick.no ?_
              conv => whnf
              obtain ⟨y2796, e2797, h⟩ := bind_ex h
              refine CallOk.of (spec_shCmp_ct e2797) ?_
              conv => whnf
              refine splD (fun g2798 => ?_) (fun g2798 => ?_)
              · replace h := iteP h g2798
                conv => whnf
                refine CutK.norm [0, 1, 4, 6, 7, 8] [256, 384] ?_
                conv => whnf
                refine splD (fun g2799 => ?_) (fun g2799 => ?_)
                · replace h := iteP h g2799
                  conv => whnf
                  refine Pick.no ?_
                  conv => whnf
                  obtain ⟨y2800, e2801, h⟩ := bind_ex h
                  refine CallOk.of (spec_shNegAll_ct e2801) ?_
                  conv => whnf
                  refine Pick.no ?_
                  conv => whnf
                  refine Take.all (rfl) ?_
                  conv => whnf
                  obtain ⟨y2802, e2803, h⟩ := bind_ex h
                  refine CallOk.of (spec_shMost_ct e2803) ?_
                  conv => whnf
                  refine Pick.no ?_
                  conv => whnf
                  obtain ⟨y2804, e2805, h⟩ := bind_ex h
                  refine CallOk.of (spec_shNeg_ct e2805) ?_
                  conv => whnf
                  refine Pick.no ?_
                  conv => whnf
                  obtain ⟨y2806, e2807, h⟩ := bind_ex h
                  refine CallOk.of (spec_shCmp_ct e2807) ?_
                  conv => whnf
                  refine splD (fun g2808 => ?_) (fun g2808 => ?_)
                  · replace h := iteP h g2808
                    conv => whnf
                    refine CutK.norm [0, 1, 4, 6, 7, 8, 9] [256, 384] ?_
                    conv => whnf
                    cases h
                    exact Done.of [] [] rfl rfl ⟨⟨rfl, rfl⟩, ⟨rfl, trivial⟩, ⟨⟨rfl, rfl, trivial⟩, rfl, trivial⟩, trivial⟩
                  · replace h := iteN h g2808
                    conv => whnf
                    refine CutK.norm [0, 1, 4, 6, 7, 8, 9] [256, 384] ?_
                    conv => whnf
                    refine splT ?_
                    conv => whnf
                    refine splT ?_
                    conv => whnf
                    refine Pick.no ?_
                    conv => whnf
                    obtain ⟨y2809, e2810, h⟩ := bind_ex h
                    refine CallOk.of (spec_shWalk_step_ct e2810) ?_
                    conv => whnf
                    refine spl (fun g2811 => ?_) (fun g2811 => ?_)
                    · replace h := iteT h g2811
                      conv => whnf
                      refine spl (fun g2812 => ?_) (fun g2812 => ?_)
                      · replace h := iteT h g2812
                        conv => whnf
                        refine CutK.norm [0, 1, 4, 6, 7] [256, 384] ?_
                        conv => whnf
                        exact LoopOk.back (spec_shSimplest_l0_ct  n _ _ _ _ _ _ _ _ _ h) [some 256, some 384] [] ⟨⟨rfl, rfl⟩, ⟨rfl, ⟨rfl, rfl, rfl, trivial⟩, ⟨rfl, rfl, rfl, rfl, rfl, rfl, rfl, rfl, rfl, trivial⟩, trivial⟩, rfl, rfl, ⟨rfl, rfl⟩, ⟨rfl, rfl⟩, rfl, trivial⟩
                      · replace h := iteF h g2812
                        conv => whnf
                        refine CutK.norm [0, 1, 4, 6, 7] [256, 384] ?_
                        conv => whnf
                        exact LoopOk.back (spec_shSimplest_l0_ct  n _ _ _ _ _ _ _ _ _ h) [some 256, some 384] [] ⟨⟨rfl, rfl⟩, ⟨rfl, ⟨rfl, rfl, rfl, trivial⟩, ⟨rfl, rfl, rfl, rfl, rfl, rfl, rfl, rfl, rfl, trivial⟩, trivial⟩, rfl, rfl, ⟨rfl, rfl⟩, ⟨rfl, rfl⟩, rfl, trivial⟩
                    · replace h := iteF h g2811
                      conv => whnf
                      refine spl (fun g2813 => ?_) (fun g2813 => ?_)
                      · replace h := iteT h g2813
                        conv => whnf
                        refine CutK.norm [0, 1, 4, 6, 7] [256, 384] ?_
                        conv => whnf
                        exact LoopOk.back (spec_shSimplest_l0_ct  n _ _ _ _ _ _ _ _ _ h) [some 256, some 384] [] ⟨⟨rfl, rfl⟩, ⟨rfl, ⟨rfl, rfl, rfl, trivial⟩, ⟨rfl, rfl, rfl, rfl, rfl, rfl, rfl, rfl, rfl, trivial⟩, trivial⟩, rfl, rfl, ⟨rfl, rfl⟩, ⟨rfl, rfl⟩, rfl, trivial⟩
                      · replace h := iteF h g2813
                        conv => whnf
                        refine CutK.norm [0, 1, 4, 6, 7] [256, 384] ?_
                        conv => whnf
                        exact LoopOk.back (spec_shSimplest_l0_ct  n _ _ _ _ _ _ _ _ _ h) [some 256, some 384] [] ⟨⟨rfl, rfl⟩, ⟨rfl, ⟨rfl, rfl, rfl, trivial⟩, ⟨rfl, rfl, rfl, rfl, rfl, rfl, rfl, rfl, rfl, trivial⟩, trivial⟩, rfl, rfl, ⟨rfl, rfl⟩, ⟨rfl, rfl⟩, rfl, trivial⟩
                · replace h := iteN h g2799
                  conv => whnf
                  refine CutK.norm [0, 1, 4, 6, 7, 8, 9] [256, 384] ?_
                  conv => whnf
                  refine splT ?_
                  conv => whnf
                  refine splT ?_
                  conv => whnf
                  refine Pick.no ?_
                  conv => whnf
                  obtain ⟨y2814, e2815, h⟩ := bind_ex h
                  refine CallOk.of (spec_shWalk_step_ct e2815) ?_
                  conv => whnf
                  refine spl (fun g2816 => ?_) (fun g2816 => ?_)
                  · replace h := iteT h g2816
                    conv => whnf
                    refine spl (fun g2817 => ?_) (fun g2817 => ?_)
                    · replace h := iteT h g2817
                      conv => whnf
                      refine CutK.norm [0, 1, 4, 6, 7] [256, 384] ?_
                      conv => whnf
                      exact LoopOk.back (spec_shSimplest_l0_ct  n _ _ _ _ _ _ _ _ _ h) [some 256, some 384] [] ⟨⟨rfl, rfl⟩, ⟨rfl, ⟨rfl, rfl, rfl, trivial⟩, ⟨rfl, rfl, rfl, rfl, rfl, rfl, rfl, rfl, rfl, trivial⟩, trivial⟩, rfl, rfl, ⟨rfl, rfl⟩, ⟨rfl, rfl⟩, rfl, trivial⟩
                    · replace h := iteF h g2817
                      conv => whnf
                      refine CutK.norm [0, 1, 4, 6, 7] [256, 384] ?_
                      conv => whnf
                      exact LoopOk.back (spec_shSimplest_l0_ct  n _ _ _ _ _ _ _ _ _ h) [some 256, some 384] [] ⟨⟨rfl, rfl⟩, ⟨rfl, ⟨rfl, rfl, rfl, trivial⟩, ⟨rfl, rfl, rfl, rfl, rfl, rfl, rfl, rfl, rfl, trivial⟩, trivial⟩, rfl, rfl, ⟨rfl, rfl⟩, ⟨rfl, rfl⟩, rfl, trivial⟩
                  · replace h := iteF h g2816
                    conv => whnf
                    refine spl (fun g2818 => ?_) (fun g2818 => ?_)
                    · replace h := iteT h g2818
                      conv => whnf
                      refine CutK.norm [0, 1, 4, 6, 7] [256, 384] ?_
                      conv => whnf
                      exact LoopOk.back (spec_shSimplest_l0_ct  n _ _ _ _ _ _ _ _ _ h) [some 256, some 384] [] ⟨⟨rfl, rfl⟩, ⟨rfl, ⟨rfl, rfl, rfl, trivial⟩, ⟨rfl, rfl, rfl, rfl, rfl, rfl, rfl, rfl, rfl, trivial⟩, trivial⟩, rfl, rfl, ⟨rfl, rfl⟩, ⟨rfl, rfl⟩, rfl, trivial⟩
                    · replace h := iteF h g2818
                      conv => whnf
                      refine CutK.norm [0, 1, 4, 6, 7] [256, 384] ?_
                      conv => whnf
                      exact LoopOk.back (spec_shSimplest_l0_ct  n _ _ _ _ _ _ _ _ _ h) [some 256, some 384] [] ⟨⟨rfl, rfl⟩, ⟨rfl, ⟨rfl, rfl, rfl, trivial⟩, ⟨rfl, rfl, rfl, rfl, rfl, rfl, rfl, rfl, rfl, trivial⟩, trivial⟩, rfl, rfl, ⟨rfl, rfl⟩, ⟨rfl, rfl⟩, rfl, trivial⟩
              · replace h := iteN h g2798
                conv => whnf
                refine CutK.norm [0, 1, 4, 6, 7, 8] [256, 384] ?_
                conv => whnf
                refine splD (fun g2819 => ?_) (fun g2819 => ?_)
                · replace h := iteP h g2819
                  conv => whnf
                  refine Pick.no ?_
                  conv => whnf
                  obtain ⟨y2820, e2821, h⟩ := bind_ex h
                  refine CallOk.of (spec_shNegAll_ct e2821) ?_
                  conv => whnf
                  refine Pick.no ?_
                  conv => whnf
                  refine Take.all (rfl) ?_
                  conv => whnf
                  obtain ⟨y2822, e2823, h⟩ := bind_ex h
                  refine CallOk.of (spec_shMost_ct e2823) ?_
                  conv => whnf
                  refine Pick.no ?_
                  conv => whnf
                  obtain ⟨y2824, e2825, h⟩ := bind_ex h
                  refine CallOk.of (spec_shNeg_ct e2825) ?_
                  conv => whnf
                  refine Pick.no ?_
                  conv => whnf
                  obtain ⟨y2826, e2827, h⟩ := bind_ex h
                  refine CallOk.of (spec_shCmp_ct e2827) ?_
                  conv => whnf
                  refine splD (fun g2828 => ?_) (fun g2828 => ?_)
                  · replace h := iteP h g2828
                    conv => whnf
                    refine CutK.norm [0, 1, 4, 6, 7, 8, 9] [256, 384] ?_
                    conv => whnf
                    refine splT ?_
                    conv => whnf
                    refine splT ?_
                    conv => whnf
                    refine Pick.no ?_
                    conv => whnf
                    obtain ⟨y2829, e2830, h⟩ := bind_ex h
                    refine CallOk.of (spec_shWalk_step_ct e2830) ?_
                    conv => whnf
                    refine spl (fun g2831 => ?_) (fun g2831 => ?_)
                    · replace h := iteT h g2831
                      conv => whnf
                      refine spl (fun g2832 => ?_) (fun g2832 => ?_)
                      · replace h := iteT h g2832
                        conv => whnf
                        refine CutK.norm [0, 1, 4, 6, 7] [256, 384] ?_
                        conv => whnf
                        exact LoopOk.back (spec_shSimplest_l0_ct  n _ _ _ _ _ _ _ _ _ h) [some 256, some 384] [] ⟨⟨rfl, rfl⟩, ⟨rfl, ⟨rfl, rfl, rfl, trivial⟩, ⟨rfl, rfl, rfl, rfl, rfl, rfl, rfl, rfl, rfl, trivial⟩, trivial⟩, rfl, rfl, ⟨rfl, rfl⟩, ⟨rfl, rfl⟩, rfl, trivial⟩
                      · replace h := iteF h g2832
                        conv => whnf
                        refine CutK.norm [0, 1, 4, 6, 7] [256, 384] ?_
                        conv => whnf
                        exact LoopOk.back (spec_shSimplest_l0_ct  n _ _ _ _ _ _ _ _ _ h) [some 256, some 384] [] ⟨⟨rfl, rfl⟩, ⟨rfl, ⟨rfl, rfl, rfl, trivial⟩, ⟨rfl, rfl, rfl, rfl, rfl, rfl, rfl, rfl, rfl, trivial⟩, trivial⟩, rfl, rfl, ⟨rfl, rfl⟩, ⟨rfl, rfl⟩, rfl, trivial⟩
                    · replace h := iteF h g2831
                      conv => whnf
                      refine spl (fun g2833 => ?_) (fun g2833 => ?_)
                      · replace h := iteT h g2833
                        conv => whnf
                        refine CutK.norm [0, 1, 4, 6, 7] [256, 384] ?_
                        conv => whnf
                        exact LoopOk.back (spec_shSimplest_l0_ct  n _ _ _ _ _ _ _ _ _ h) [some 256, some 384] [] ⟨⟨rfl, rfl⟩, ⟨rfl, ⟨rfl, rfl, rfl, trivial⟩, ⟨rfl, rfl, rfl, rfl, rfl, rfl, rfl, rfl, rfl, trivial⟩, trivial⟩, rfl, rfl, ⟨rfl, rfl⟩, ⟨rfl, rfl⟩, rfl, trivial⟩
                      · replace h := iteF h g2833
                        conv => whnf
                        refine CutK.norm [0, 1, 4, 6, 7] [256, 384] ?_
                        conv => whnf
                        exact LoopOk.back (spec_shSimplest_l0_ct  n _ _ _ _ _ _ _ _ _ h) [some 256, some 384] [] ⟨⟨rfl, rfl⟩, ⟨rfl, ⟨rfl, rfl, rfl, trivial⟩, ⟨rfl, rfl, rfl, rfl, rfl, rfl, rfl, rfl, rfl, trivial⟩, trivial⟩, rfl, rfl, ⟨rfl, rfl⟩, ⟨rfl, rfl⟩, rfl, trivial⟩
                  · replace h := iteN h g2828
                    conv => whnf
                    refine CutK.norm [0, 1, 4, 6, 7, 8, 9] [256, 384] ?_
                    conv => whnf
                    cases h
                    exact Done.of [] [] rfl rfl ⟨⟨rfl, rfl⟩, ⟨rfl, trivial⟩, ⟨⟨rfl, rfl, trivial⟩, rfl, trivial⟩, trivial⟩
                · replace h := iteN h g2819
                  conv => whnf
                  refine CutK.norm [0, 1, 4, 6, 7, 8, 9] [256, 384] ?_
                  conv => whnf
                  cases h
                  exact Done.of [] [] rfl rfl ⟨⟨rfl, rfl⟩, ⟨rfl, trivial⟩, ⟨⟨rfl, rfl, trivial⟩, rfl, trivial⟩, trivial⟩
            · replace h := iteN h g2793
              conv => whnf
              refine CutK.norm [0, 1, 4, 6, 7, 8] [256, 384] ?_
              conv => whnf
              refine splD (fun g2834 => ?_) (fun g2834 => ?_)
              · replace h := iteP h g2834
                conv => whnf
                refine Pick.no ?_
                conv => whnf
                obtain ⟨y2835, e2836, h⟩ := bind_ex h
                refine CallOk.of (spec_shNegAll_ct e2836) ?_
                conv => whnf
                refine Pick.no ?_
                conv => whnf
                refine Take.all (rfl) ?_
                conv => whnf
                obtain ⟨y2837, e2838, h⟩ := bind_ex h
                refine CallOk.of (spec_shMost_ct e2838) ?_
                conv => whnf
                refine Pick.no ?_
                conv => whnf
                obtain ⟨y2839, e2840, h⟩ := bind_ex h
                refine CallOk.of (spec_shNeg_ct e2840) ?_
                conv => whnf
                refine Pick.no ?_
                conv => whnf
                obtain ⟨y2841, e2842, h⟩ := bind_ex h
                refine CallOk.of (spec_shCmp_ct e2842) ?_
                conv => whnf
                refine splD (fun g2843 => ?_) (fun g2843 => ?_)
                · replace h := iteP h g2843
                  conv => whnf
                  refine CutK.norm [0, 1, 4, 6, 7, 8, 9] [256, 384] ?_
                  conv => whnf
                  refine splT ?_
                  conv => whnf
                  refine splT ?_
                  conv => whnf
                  refine Pick.no ?_
                  conv => whnf
                  obtain ⟨y2844, e2845, h⟩ := bind_ex h
                  refine CallOk.of (spec_shWalk_step_ct e2845) ?_
                  conv => whnf
                  refine spl (fun g2846 => ?_) (fun g2846 => ?_)
                  · replace h := iteT h g2846
                    conv => whnf
                    refine spl (fun g2847 => ?_) (fun g2847 => ?_)
                    · replace h := iteT h g2847
                      conv => whnf
                      refine CutK.norm [0, 1, 4, 6, 7] [256, 384] ?_
                      conv => whnf
                      exact LoopOk.back (spec_shSimplest_l0_ct  n _ _ _ _ _ _ _ _ _ h) [some 256, some 384] [] ⟨⟨rfl, rfl⟩, ⟨rfl, ⟨rfl, rfl, rfl, trivial⟩, ⟨rfl, rfl, rfl, rfl, rfl, rfl, rfl, rfl, rfl, trivial⟩, trivial⟩, rfl, rfl, ⟨rfl, rfl⟩, ⟨rfl, rfl⟩, rfl, trivial⟩
                    · replace h := iteF h g2847
                      conv => whnf
                      refine CutK.norm [0, 1, 4, 6, 7] [256, 384] ?_
                      conv => whnf
                      exact LoopOk.back (spec_shSimplest_l0_ct  n _ _ _ _ _ _ _ _ _ h) [some 256, some 384] [] ⟨⟨rfl, rfl⟩, ⟨rfl, ⟨rfl, rfl, rfl, trivial⟩, ⟨rfl, rfl, rfl, rfl, rfl, rfl, rfl, rfl, rfl, trivial⟩, trivial⟩, rfl, rfl, ⟨rfl, rfl⟩, ⟨rfl, rfl⟩, rfl, trivial⟩
                  · replace h := iteF h g2846
                    conv => whnf
                    refine spl (fun g2848 => ?_) (fun g2848 => ?_)
                    · replace h := iteT h g2848
                      conv => whnf
                      refine CutK.norm [0, 1, 4, 6, 7] [256, 384] ?_
                      conv => whnf
                      exact LoopOk.back (spec_shSimplest_l0_ct  n _ _ _ _ _ _ _ _ _ h) [some 256, some 384] [] ⟨⟨rfl, rfl⟩, ⟨rfl, ⟨rfl, rfl, rfl, trivial⟩, ⟨rfl, rfl, rfl, rfl, rfl, rfl, rfl, rfl, rfl, trivial⟩, trivial⟩, rfl, rfl, ⟨rfl, rfl⟩, ⟨rfl, rfl⟩, rfl, trivial⟩
                    · replace h := iteF h g2848
                      conv => whnf
                      refine CutK.norm [0, 1, 4, 6, 7] [256, 384] ?_
                      conv => whnf
                      exact LoopOk.back (spec_shSimplest_l0_ct  n _ _ _ _ _ _ _ _ _ h) [some 256, some 384] [] ⟨⟨rfl, rfl⟩, ⟨rfl, ⟨rfl, rfl, rfl, trivial⟩, ⟨rfl, rfl, rfl, rfl, rfl, rfl, rfl, rfl, rfl, trivial⟩, trivial⟩, rfl, rfl, ⟨rfl, rfl⟩, ⟨rfl, rfl⟩, rfl, trivial⟩
                · replace h := iteN h g2843
                  conv => whnf
                  refine CutK.norm [0, 1, 4, 6, 7, 8, 9] [256, 384] ?_
                  conv => whnf
                  cases h
                  exact Done.of [] [] rfl rfl ⟨⟨rfl, rfl⟩, ⟨rfl, trivial⟩, ⟨⟨rfl, rfl, trivial⟩, rfl, trivial⟩, trivial⟩
              · replace h := iteN h g2834
                conv => whnf
                refine CutK.norm [0, 1, 4, 6, 7, 8, 9] [256, 384] ?_
                conv => whnf
                cases h
                exact Done.of [] [] rfl rfl ⟨⟨rfl, rfl⟩, ⟨rfl, trivial⟩, ⟨⟨rfl, rfl, trivial⟩, rfl, trivial⟩, trivial⟩
          · replace h := iteN h g2792
            conv => whnf
            exact ⟨_, _, [some 256], [], ⟨rfl, h, rfl, rfl⟩, ⟨⟨rfl, rfl⟩, ⟨rfl, ⟨rfl, rfl, rfl, trivial⟩, trivial⟩, ⟨rfl, rfl⟩, trivial⟩⟩
def spec_shSimplest_l0_2 (k : Nat) (a1 : Rw) (a2 : Rw) (K0 : Option (Int × Int × Bool)) : Nat → Int → Int → Int → Int → Int → Int → Int → Bool → Bool → Option (Int × Int × Bool)
  | 0, _, _, _, _, _, _, _, _, _ => none
  | n + 1, v2869, v2870, v2871, v2872, v2873, v2874, v2875, v2876, v2878 => (cond v2876 (cond v2878 (if v2869 ≤ (20 : Int) then (if (0 : Int) < (a1.length : Int) then ((spec_shMost a1).bind fun y3543 => ((spec_shCmp y3543.1 y3543.2 v2870 v2871).bind fun y3545 => (if (0 : Int) ≤ y3545 then (if (0 : Int) < (a2.length : Int) then ((spec_shNegAll a2).bind fun y3549 => ((spec_shMost y3549).bind fun y3551 => ((spec_shNeg y3551.1 y3551.2).bind fun y3553 => ((spec_shCmp y3553.1 y3553.2 v2870 v2871).bind fun y3555 => (if y3555 ≤ (0 : Int) then some (0, 0, false) else ((spec_shWalk_step k v2870 v2871 v2872 v2873 v2874 v2875 true true true).bind fun y3558 => (if y3558.2.2.2.2.2.2.1 = true then (if y3558.2.2.2.2.2.2.2 = true then (spec_shSimplest_l0_2 k a1 a2 K0 n (IntKind.i64.wrap (v2869 + 1)) y3558.1 y3558.2.1 y3558.2.2.1 y3558.2.2.2.1 y3558.2.2.2.2.1 y3558.2.2.2.2.2.1 true true) else (spec_shSimplest_l0_2 k a1 a2 K0 n (IntKind.i64.wrap (v2869 + 1)) y3558.1 y3558.2.1 y3558.2.2.1 y3558.2.2.2.1 y3558.2.2.2.2.1 y3558.2.2.2.2.2.1 false true)) else (if y3558.2.2.2.2.2.2.2 = true then (spec_shSimplest_l0_2 k a1 a2 K0 n (IntKind.i64.wrap (v2869 + 1)) y3558.1 y3558.2.1 y3558.2.2.1 y3558.2.2.2.1 y3558.2.2.2.2.1 y3558.2.2.2.2.2.1 true false) else (spec_shSimplest_l0_2 k a1 a2 K0 n (IntKind.i64.wrap (v2869 + 1)) y3558.1 y3558.2.1 y3558.2.2.1 y3558.2.2.2.1 y3558.2.2.2.2.1 y3558.2.2.2.2.2.1 false false))))))))) else ((spec_shWalk_step k v2870 v2871 v2872 v2873 v2874 v2875 true true true).bind fun y3563 => (if y3563.2.2.2.2.2.2.1 = true then (if y3563.2.2.2.2.2.2.2 = true then (spec_shSimplest_l0_2 k a1 a2 K0 n (IntKind.i64.wrap (v2869 + 1)) y3563.1 y3563.2.1 y3563.2.2.1 y3563.2.2.2.1 y3563.2.2.2.2.1 y3563.2.2.2.2.2.1 true true) else (spec_shSimplest_l0_2 k a1 a2 K0 n (IntKind.i64.wrap (v2869 + 1)) y3563.1 y3563.2.1 y3563.2.2.1 y3563.2.2.2.1 y3563.2.2.2.2.1 y3563.2.2.2.2.2.1 false true)) else (if y3563.2.2.2.2.2.2.2 = true then (spec_shSimplest_l0_2 k a1 a2 K0 n (IntKind.i64.wrap (v2869 + 1)) y3563.1 y3563.2.1 y3563.2.2.1 y3563.2.2.2.1 y3563.2.2.2.2.1 y3563.2.2.2.2.2.1 true false) else (spec_shSimplest_l0_2 k a1 a2 K0 n (IntKind.i64.wrap (v2869 + 1)) y3563.1 y3563.2.1 y3563.2.2.1 y3563.2.2.2.1 y3563.2.2.2.2.1 y3563.2.2.2.2.2.1 false false))))) else (if (0 : Int) < (a2.length : Int) then ((spec_shNegAll a2).bind fun y3569 => ((spec_shMost y3569).bind fun y3571 => ((spec_shNeg y3571.1 y3571.2).bind fun y3573 => ((spec_shCmp y3573.1 y3573.2 v2870 v2871).bind fun y3575 => (if y3575 ≤ (0 : Int) then ((spec_shWalk_step k v2870 v2871 v2872 v2873 v2874 v2875 true true false).bind fun y3578 => (if y3578.2.2.2.2.2.2.1 = true then (if y3578.2.2.2.2.2.2.2 = true then (spec_shSimplest_l0_2 k a1 a2 K0 n (IntKind.i64.wrap (v2869 + 1)) y3578.1 y3578.2.1 y3578.2.2.1 y3578.2.2.2.1 y3578.2.2.2.2.1 y3578.2.2.2.2.2.1 true true) else (spec_shSimplest_l0_2 k a1 a2 K0 n (IntKind.i64.wrap (v2869 + 1)) y3578.1 y3578.2.1 y3578.2.2.1 y3578.2.2.2.1 y3578.2.2.2.2.1 y3578.2.2.2.2.2.1 false true)) else (if y3578.2.2.2.2.2.2.2 = true then (spec_shSimplest_l0_2 k a1 a2 K0 n (IntKind.i64.wrap (v2869 + 1)) y3578.1 y3578.2.1 y3578.2.2.1 y3578.2.2.2.1 y3578.2.2.2.2.1 y3578.2.2.2.2.2.1 true false) else (spec_shSimplest_l0_2 k a1 a2 K0 n (IntKind.i64.wrap (v2869 + 1)) y3578.1 y3578.2.1 y3578.2.2.1 y3578.2.2.2.1 y3578.2.2.2.2.1 y3578.2.2.2.2.2.1 false false)))) else some (v2870, v2871, true)))))) else some (v2870, v2871, true))))) else (if (0 : Int) < (a2.length : Int) then ((spec_shNegAll a2).bind fun y3584 => ((spec_shMost y3584).bind fun y3586 => ((spec_shNeg y3586.1 y3586.2).bind fun y3588 => ((spec_shCmp y3588.1 y3588.2 v2870 v2871).bind fun y3590 => (if y3590 ≤ (0 : Int) then ((spec_shWalk_step k v2870 v2871 v2872 v2873 v2874 v2875 true true false).bind fun y3593 => (if y3593.2.2.2.2.2.2.1 = true then (if y3593.2.2.2.2.2.2.2 = true then (spec_shSimplest_l0_2 k a1 a2 K0 n (IntKind.i64.wrap (v2869 + 1)) y3593.1 y3593.2.1 y3593.2.2.1 y3593.2.2.2.1 y3593.2.2.2.2.1 y3593.2.2.2.2.2.1 true true) else (spec_shSimplest_l0_2 k a1 a2 K0 n (IntKind.i64.wrap (v2869 + 1)) y3593.1 y3593.2.1 y3593.2.2.1 y3593.2.2.2.1 y3593.2.2.2.2.1 y3593.2.2.2.2.2.1 false true)) else (if y3593.2.2.2.2.2.2.2 = true then (spec_shSimplest_l0_2 k a1 a2 K0 n (IntKind.i64.wrap (v2869 + 1)) y3593.1 y3593.2.1 y3593.2.2.1 y3593.2.2.2.1 y3593.2.2.2.2.1 y3593.2.2.2.2.2.1 true false) else (spec_shSimplest_l0_2 k a1 a2 K0 n (IntKind.i64.wrap (v2869 + 1)) y3593.1 y3593.2.1 y3593.2.2.1 y3593.2.2.2.1 y3593.2.2.2.2.1 y3593.2.2.2.2.2.1 false false)))) else some (v2870, v2871, true)))))) else some (v2870, v2871, true))) else (K0)) (if v2869 ≤ (20 : Int) then (if (0 : Int) < (a1.length : Int) then ((spec_shMost a1).bind fun y3486 => ((spec_shCmp y3486.1 y3486.2 v2870 v2871).bind fun y3488 => (if (0 : Int) ≤ y3488 then (if (0 : Int) < (a2.length : Int) then ((spec_shNegAll a2).bind fun y3492 => ((spec_shMost y3492).bind fun y3494 => ((spec_shNeg y3494.1 y3494.2).bind fun y3496 => ((spec_shCmp y3496.1 y3496.2 v2870 v2871).bind fun y3498 => (if y3498 ≤ (0 : Int) then some (0, 0, false) else ((spec_shWalk_step k v2870 v2871 v2872 v2873 v2874 v2875 false true true).bind fun y3501 => (if y3501.2.2.2.2.2.2.1 = true then (if y3501.2.2.2.2.2.2.2 = true then (spec_shSimplest_l0_2 k a1 a2 K0 n (IntKind.i64.wrap (v2869 + 1)) y3501.1 y3501.2.1 y3501.2.2.1 y3501.2.2.2.1 y3501.2.2.2.2.1 y3501.2.2.2.2.2.1 true true) else (spec_shSimplest_l0_2 k a1 a2 K0 n (IntKind.i64.wrap (v2869 + 1)) y3501.1 y3501.2.1 y3501.2.2.1 y3501.2.2.2.1 y3501.2.2.2.2.1 y3501.2.2.2.2.2.1 false true)) else (if y3501.2.2.2.2.2.2.2 = true then (spec_shSimplest_l0_2 k a1 a2 K0 n (IntKind.i64.wrap (v2869 + 1)) y3501.1 y3501.2.1 y3501.2.2.1 y3501.2.2.2.1 y3501.2.2.2.2.1 y3501.2.2.2.2.2.1 true false) else (spec_shSimplest_l0_2 k a1 a2 K0 n (IntKind.i64.wrap (v2869 + 1)) y3501.1 y3501.2.1 y3501.2.2.1 y3501.2.2.2.1 y3501.2.2.2.2.1 y3501.2.2.2.2.2.1 false false))))))))) else ((spec_shWalk_step k v2870 v2871 v2872 v2873 v2874 v2875 false true true).bind fun y3506 => (if y3506.2.2.2.2.2.2.1 = true then (if y3506.2.2.2.2.2.2.2 = true then (spec_shSimplest_l0_2 k a1 a2 K0 n (IntKind.i64.wrap (v2869 + 1)) y3506.1 y3506.2.1 y3506.2.2.1 y3506.2.2.2.1 y3506.2.2.2.2.1 y3506.2.2.2.2.2.1 true true) else (spec_shSimplest_l0_2 k a1 a2 K0 n (IntKind.i64.wrap (v2869 + 1)) y3506.1 y3506.2.1 y3506.2.2.1 y3506.2.2.2.1 y3506.2.2.2.2.1 y3506.2.2.2.2.2.1 false true)) else (if y3506.2.2.2.2.2.2.2 = true then (spec_shSimplest_l0_2 k a1 a2 K0 n (IntKind.i64.wrap (v2869 + 1)) y3506.1 y3506.2.1 y3506.2.2.1 y3506.2.2.2.1 y3506.2.2.2.2.1 y3506.2.2.2.2.2.1 true false) else (spec_shSimplest_l0_2 k a1 a2 K0 n (IntKind.i64.wrap (v2869 + 1)) y3506.1 y3506.2.1 y3506.2.2.1 y3506.2.2.2.1 y3506.2.2.2.2.1 y3506.2.2.2.2.2.1 false false))))) else (if (0 : Int) < (a2.length : Int) then ((spec_shNegAll a2).bind fun y3512 => ((spec_shMost y3512).bind fun y3514 => ((spec_shNeg y3514.1 y3514.2).bind fun y3516 => ((spec_shCmp y3516.1 y3516.2 v2870 v2871).bind fun y3518 => (if y3518 ≤ (0 : Int) then ((spec_shWalk_step k v2870 v2871 v2872 v2873 v2874 v2875 false true false).bind fun y3521 => (if y3521.2.2.2.2.2.2.1 = true then (if y3521.2.2.2.2.2.2.2 = true then (spec_shSimplest_l0_2 k a1 a2 K0 n (IntKind.i64.wrap (v2869 + 1)) y3521.1 y3521.2.1 y3521.2.2.1 y3521.2.2.2.1 y3521.2.2.2.2.1 y3521.2.2.2.2.2.1 true true) else (spec_shSimplest_l0_2 k a1 a2 K0 n (IntKind.i64.wrap (v2869 + 1)) y3521.1 y3521.2.1 y3521.2.2.1 y3521.2.2.2.1 y3521.2.2.2.2.1 y3521.2.2.2.2.2.1 false true)) else (if y3521.2.2.2.2.2.2.2 = true then (spec_shSimplest_l0_2 k a1 a2 K0 n (IntKind.i64.wrap (v2869 + 1)) y3521.1 y3521.2.1 y3521.2.2.1 y3521.2.2.2.1 y3521.2.2.2.2.1 y3521.2.2.2.2.2.1 true false) else (spec_shSimplest_l0_2 k a1 a2 K0 n (IntKind.i64.wrap (v2869 + 1)) y3521.1 y3521.2.1 y3521.2.2.1 y3521.2.2.2.1 y3521.2.2.2.2.1 y3521.2.2.2.2.2.1 false false)))) else some (v2870, v2871, true)))))) else some (v2870, v2871, true))))) else (if (0 : Int) < (a2.length : Int) then ((spec_shNegAll a2).bind fun y3527 => ((spec_shMost y3527).bind fun y3529 => ((spec_shNeg y3529.1 y3529.2).bind fun y3531 => ((spec_shCmp y3531.1 y3531.2 v2870 v2871).bind fun y3533 => (if y3533 ≤ (0 : Int) then ((spec_shWalk_step k v2870 v2871 v2872 v2873 v2874 v2875 false true false).bind fun y3536 => (if y3536.2.2.2.2.2.2.1 = true then (if y3536.2.2.2.2.2.2.2 = true then (spec_shSimplest_l0_2 k a1 a2 K0 n (IntKind.i64.wrap (v2869 + 1)) y3536.1 y3536.2.1 y3536.2.2.1 y3536.2.2.2.1 y3536.2.2.2.2.1 y3536.2.2.2.2.2.1 true true) else (spec_shSimplest_l0_2 k a1 a2 K0 n (IntKind.i64.wrap (v2869 + 1)) y3536.1 y3536.2.1 y3536.2.2.1 y3536.2.2.2.1 y3536.2.2.2.2.1 y3536.2.2.2.2.2.1 false true)) else (if y3536.2.2.2.2.2.2.2 = true then (spec_shSimplest_l0_2 k a1 a2 K0 n (IntKind.i64.wrap (v2869 + 1)) y3536.1 y3536.2.1 y3536.2.2.1 y3536.2.2.2.1 y3536.2.2.2.2.1 y3536.2.2.2.2.2.1 true false) else (spec_shSimplest_l0_2 k a1 a2 K0 n (IntKind.i64.wrap (v2869 + 1)) y3536.1 y3536.2.1 y3536.2.2.1 y3536.2.2.2.1 y3536.2.2.2.2.1 y3536.2.2.2.2.2.1 false false)))) else some (v2870, v2871, true)))))) else some (v2870, v2871, true))) else (K0))) (cond v2878 (if v2869 ≤ (20 : Int) then (if (0 : Int) < (a1.length : Int) then ((spec_shMost a1).bind fun y3429 => ((spec_shCmp y3429.1 y3429.2 v2870 v2871).bind fun y3431 => (if (0 : Int) ≤ y3431 then (if (0 : Int) < (a2.length : Int) then ((spec_shNegAll a2).bind fun y3435 => ((spec_shMost y3435).bind fun y3437 => ((spec_shNeg y3437.1 y3437.2).bind fun y3439 => ((spec_shCmp y3439.1 y3439.2 v2870 v2871).bind fun y3441 => (if y3441 ≤ (0 : Int) then some (0, 0, false) else ((spec_shWalk_step k v2870 v2871 v2872 v2873 v2874 v2875 true false true).bind fun y3444 => (if y3444.2.2.2.2.2.2.1 = true then (if y3444.2.2.2.2.2.2.2 = true then (spec_shSimplest_l0_2 k a1 a2 K0 n (IntKind.i64.wrap (v2869 + 1)) y3444.1 y3444.2.1 y3444.2.2.1 y3444.2.2.2.1 y3444.2.2.2.2.1 y3444.2.2.2.2.2.1 true true) else (spec_shSimplest_l0_2 k a1 a2 K0 n (IntKind.i64.wrap (v2869 + 1)) y3444.1 y3444.2.1 y3444.2.2.1 y3444.2.2.2.1 y3444.2.2.2.2.1 y3444.2.2.2.2.2.1 false true)) else (if y3444.2.2.2.2.2.2.2 = true then (spec_shSimplest_l0_2 k a1 a2 K0 n (IntKind.i64.wrap (v2869 + 1)) y3444.1 y3444.2.1 y3444.2.2.1 y3444.2.2.2.1 y3444.2.2.2.2.1 y3444.2.2.2.2.2.1 true false) else (spec_shSimplest_l0_2 k a1 a2 K0 n (IntKind.i64.wrap (v2869 + 1)) y3444.1 y3444.2.1 y3444.2.2.1 y3444.2.2.2.1 y3444.2.2.2.2.1 y3444.2.2.2.2.2.1 false false))))))))) else ((spec_shWalk_step k v2870 v2871 v2872 v2873 v2874 v2875 true false true).bind fun y3449 => (if y3449.2.2.2.2.2.2.1 = true then (if y3449.2.2.2.2.2.2.2 = true then (spec_shSimplest_l0_2 k a1 a2 K0 n (IntKind.i64.wrap (v2869 + 1)) y3449.1 y3449.2.1 y3449.2.2.1 y3449.2.2.2.1 y3449.2.2.2.2.1 y3449.2.2.2.2.2.1 true true) else (spec_shSimplest_l0_2 k a1 a2 K0 n (IntKind.i64.wrap (v2869 + 1)) y3449.1 y3449.2.1 y3449.2.2.1 y3449.2.2.2.1 y3449.2.2.2.2.1 y3449.2.2.2.2.2.1 false true)) else (if y3449.2.2.2.2.2.2.2 = true then (spec_shSimplest_l0_2 k a1 a2 K0 n (IntKind.i64.wrap (v2869 + 1)) y3449.1 y3449.2.1 y3449.2.2.1 y3449.2.2.2.1 y3449.2.2.2.2.1 y3449.2.2.2.2.2.1 true false) else (spec_shSimplest_l0_2 k a1 a2 K0 n (IntKind.i64.wrap (v2869 + 1)) y3449.1 y3449.2.1 y3449.2.2.1 y3449.2.2.2.1 y3449.2.2.2.2.1 y3449.2.2.2.2.2.1 false false))))) else (if (0 : Int) < (a2.length : Int) then ((spec_shNegAll a2).bind fun y3455 => ((spec_shMost y3455).bind fun y3457 => ((spec_shNeg y3457.1 y3457.2).bind fun y3459 => ((spec_shCmp y3459.1 y3459.2 v2870 v2871).bind fun y3461 => (if y3461 ≤ (0 : Int) then ((spec_shWalk_step k v2870 v2871 v2872 v2873 v2874 v2875 true false false).bind fun y3464 => (if y3464.2.2.2.2.2.2.1 = true then (if y3464.2.2.2.2.2.2.2 = true then (spec_shSimplest_l0_2 k a1 a2 K0 n (IntKind.i64.wrap (v2869 + 1)) y3464.1 y3464.2.1 y3464.2.2.1 y3464.2.2.2.1 y3464.2.2.2.2.1 y3464.2.2.2.2.2.1 true true) else (spec_shSimplest_l0_2 k a1 a2 K0 n (IntKind.i64.wrap (v2869 + 1)) y3464.1 y3464.2.1 y3464.2.2.1 y3464.2.2.2.1 y3464.2.2.2.2.1 y3464.2.2.2.2.2.1 false true)) else (if y3464.2.2.2.2.2.2.2 = true then (spec_shSimplest_l0_2 k a1 a2 K0 n (IntKind.i64.wrap (v2869 + 1)) y3464.1 y3464.2.1 y3464.2.2.1 y3464.2.2.2.1 y3464.2.2.2.2.1 y3464.2.2.2.2.2.1 true false) else (spec_shSimplest_l0_2 k a1 a2 K0 n (IntKind.i64.wrap (v2869 + 1)) y3464.1 y3464.2.1 y3464.2.2.1 y3464.2.2.2.1 y3464.2.2.2.2.1 y3464.2.2.2.2.2.1 false false)))) else some (v2870, v2871, true)))))) else some (v2870, v2871, true))))) else (if (0 : Int) < (a2.length : Int) then ((spec_shNegAll a2).bind fun y3470 => ((spec_shMost y3470).bind fun y3472 => ((spec_shNeg y3472.1 y3472.2).bind fun y3474 => ((spec_shCmp y3474.1 y3474.2 v2870 v2871).bind fun y3476 => (if y3476 ≤ (0 : Int) then ((spec_shWalk_step k v2870 v2871 v2872 v2873 v2874 v2875 true false false).bind fun y3479 => (if y3479.2.2.2.2.2.2.1 = true then (if y3479.2.2.2.2.2.2.2 = true then (spec_shSimplest_l0_2 k a1 a2 K0 n (IntKind.i64.wrap (v2869 + 1)) y3479.1 y3479.2.1 y3479.2.2.1 y3479.2.2.2.1 y3479.2.2.2.2.1 y3479.2.2.2.2.2.1 true true) else (spec_shSimplest_l0_2 k a1 a2 K0 n (IntKind.i64.wrap (v2869 + 1)) y3479.1 y3479.2.1 y3479.2.2.1 y3479.2.2.2.1 y3479.2.2.2.2.1 y3479.2.2.2.2.2.1 false true)) else (if y3479.2.2.2.2.2.2.2 = true then (spec_shSimplest_l0_2 k a1 a2 K0 n (IntKind.i64.wrap (v2869 + 1)) y3479.1 y3479.2.1 y3479.2.2.1 y3479.2.2.2.1 y3479.2.2.2.2.1 y3479.2.2.2.2.2.1 true false) else (spec_shSimplest_l0_2 k a1 a2 K0 n (IntKind.i64.wrap (v2869 + 1)) y3479.1 y3479.2.1 y3479.2.2.1 y3479.2.2.2.1 y3479.2.2.2.2.1 y3479.2.2.2.2.2.1 false false)))) else some (v2870, v2871, true)))))) else some (v2870, v2871, true))) else (K0)) (if v2869 ≤ (20 : Int) then (if (0 : Int) < (a1.length : Int) then ((spec_shMost a1).bind fun y3372 => ((spec_shCmp y3372.1 y3372.2 v2870 v2871).bind fun y3374 => (if (0 : Int) ≤ y3374 then (if (0 : Int) < (a2.length : Int) then ((spec_shNegAll a2).bind fun y3378 => ((spec_shMost y3378).bind fun y3380 => ((spec_shNeg y3380.1 y3380.2).bind fun y3382 => ((spec_shCmp y3382.1 y3382.2 v2870 v2871).bind fun y3384 => (if y3384 ≤ (0 : Int) then some (0, 0, false) else ((spec_shWalk_step k v2870 v2871 v2872 v2873 v2874 v2875 false false true).bind fun y3387 => (if y3387.2.2.2.2.2.2.1 = true then (if y3387.2.2.2.2.2.2.2 = true then (spec_shSimplest_l0_2 k a1 a2 K0 n (IntKind.i64.wrap (v2869 + 1)) y3387.1 y3387.2.1 y3387.2.2.1 y3387.2.2.2.1 y3387.2.2.2.2.1 y3387.2.2.2.2.2.1 true true) else (spec_shSimplest_l0_2 k a1 a2 K0 n (IntKind.i64.wrap (v2869 + 1)) y3387.1 y3387.2.1 y3387.2.2.1 y3387.2.2.2.1 y3387.2.2.2.2.1 y3387.2.2.2.2.2.1 false true)) else (if y3387.2.2.2.2.2.2.2 = true then (spec_shSimplest_l0_2 k a1 a2 K0 n (IntKind.i64.wrap (v2869 + 1)) y3387.1 y3387.2.1 y3387.2.2.1 y3387.2.2.2.1 y3387.2.2.2.2.1 y3387.2.2.2.2.2.1 true false) else (spec_shSimplest_l0_2 k a1 a2 K0 n (IntKind.i64.wrap (v2869 + 1)) y3387.1 y3387.2.1 y3387.2.2.1 y3387.2.2.2.1 y3387.2.2.2.2.1 y3387.2.2.2.2.2.1 false false))))))))) else ((spec_shWalk_step k v2870 v2871 v2872 v2873 v2874 v2875 false false true).bind fun y3392 => (if y3392.2.2.2.2.2.2.1 = true then (if y3392.2.2.2.2.2.2.2 = true then (spec_shSimplest_l0_2 k a1 a2 K0 n (IntKind.i64.wrap (v2869 + 1)) y3392.1 y3392.2.1 y3392.2.2.1 y3392.2.2.2.1 y3392.2.2.2.2.1 y3392.2.2.2.2.2.1 true true) else (spec_shSimplest_l0_2 k a1 a2 K0 n (IntKind.i64.wrap (v2869 + 1)) y3392.1 y3392.2.1 y3392.2.2.1 y3392.2.2.2.1 y3392.2.2.2.2.1 y3392.2.2.2.2.2.1 false true)) else (if y3392.2.2.2.2.2.2.2 = true then (spec_shSimplest_l0_2 k a1 a2 K0 n (IntKind.i64.wrap (v2869 + 1)) y3392.1 y3392.2.1 y3392.2.2.1 y3392.2.2.2.1 y3392.2.2.2.2.1 y3392.2.2.2.2.2.1 true false) else (spec_shSimplest_l0_2 k a1 a2 K0 n (IntKind.i64.wrap (v2869 + 1)) y3392.1 y3392.2.1 y3392.2.2.1 y3392.2.2.2.1 y3392.2.2.2.2.1 y3392.2.2.2.2.2.1 false false))))) else (if (0 : Int) < (a2.length : Int) then ((spec_shNegAll a2).bind fun y3398 => ((spec_shMost y3398).bind fun y3400 => ((spec_shNeg y3400.1 y3400.2).bind fun y3402 => ((spec_shCmp y3402.1 y3402.2 v2870 v2871).bind fun y3404 => (if y3404 ≤ (0 : Int) then ((spec_shWalk_step k v2870 v2871 v2872 v2873 v2874 v2875 false false false).bind fun y3407 => (if y3407.2.2.2.2.2.2.1 = true then (if y3407.2.2.2.2.2.2.2 = true then (spec_shSimplest_l0_2 k a1 a2 K0 n (IntKind.i64.wrap (v2869 + 1)) y3407.1 y3407.2.1 y3407.2.2.1 y3407.2.2.2.1 y3407.2.2.2.2.1 y3407.2.2.2.2.2.1 true true) else (spec_shSimplest_l0_2 k a1 a2 K0 n (IntKind.i64.wrap (v2869 + 1)) y3407.1 y3407.2.1 y3407.2.2.1 y3407.2.2.2.1 y3407.2.2.2.2.1 y3407.2.2.2.2.2.1 false true)) else (if y3407.2.2.2.2.2.2.2 = true then (spec_shSimplest_l0_2 k a1 a2 K0 n (IntKind.i64.wrap (v2869 + 1)) y3407.1 y3407.2.1 y3407.2.2.1 y3407.2.2.2.1 y3407.2.2.2.2.1 y3407.2.2.2.2.2.1 true false) else (spec_shSimplest_l0_2 k a1 a2 K0 n (IntKind.i64.wrap (v2869 + 1)) y3407.1 y3407.2.1 y3407.2.2.1 y3407.2.2.2.1 y3407.2.2.2.2.1 y3407.2.2.2.2.2.1 false false)))) else some (v2870, v2871, true)))))) else some (v2870, v2871, true))))) else (if (0 : Int) < (a2.length : Int) then ((spec_shNegAll a2).bind fun y3413 => ((spec_shMost y3413).bind fun y3415 => ((spec_shNeg y3415.1 y3415.2).bind fun y3417 => ((spec_shCmp y3417.1 y3417.2 v2870 v2871).bind fun y3419 => (if y3419 ≤ (0 : Int) then ((spec_shWalk_step k v2870 v2871 v2872 v2873 v2874 v2875 false false false).bind fun y3422 => (if y3422.2.2.2.2.2.2.1 = true then (if y3422.2.2.2.2.2.2.2 = true then (spec_shSimplest_l0_2 k a1 a2 K0 n (IntKind.i64.wrap (v2869 + 1)) y3422.1 y3422.2.1 y3422.2.2.1 y3422.2.2.2.1 y3422.2.2.2.2.1 y3422.2.2.2.2.2.1 true true) else (spec_shSimplest_l0_2 k a1 a2 K0 n (IntKind.i64.wrap (v2869 + 1)) y3422.1 y3422.2.1 y3422.2.2.1 y3422.2.2.2.1 y3422.2.2.2.2.1 y3422.2.2.2.2.2.1 false true)) else (if y3422.2.2.2.2.2.2.2 = true then (spec_shSimplest_l0_2 k a1 a2 K0 n (IntKind.i64.wrap (v2869 + 1)) y3422.1 y3422.2.1 y3422.2.2.1 y3422.2.2.2.1 y3422.2.2.2.2.1 y3422.2.2.2.2.2.1 true false) else (spec_shSimplest_l0_2 k a1 a2 K0 n (IntKind.i64.wrap (v2869 + 1)) y3422.1 y3422.2.1 y3422.2.2.1 y3422.2.2.2.1 y3422.2.2.2.2.1 y3422.2.2.2.2.2.1 false false)))) else some (v2870, v2871, true)))))) else some (v2870, v2871, true))) else (K0))))
set_option maxHeartbeats 4000000 in
set_option maxRecDepth 100000 in
theorem spec_shSimplest_l0_2_ct {k : Nat} {a1 : Rw} {a2 : Rw} {K0 : Option (Int × Int × Bool)} {r : Int × Int × Bool} : ∀ (n : Nat) (v2869 : Int) (v2870 : Int) (v2871 : Int) (v2872 : Int) (v2873 : Int) (v2874 : Int) (v2875 : Int) (v2876 : Bool) (v2878 : Bool), spec_shSimplest_l0_2 k a1 a2 K0 n v2869 v2870 v2871 v2872 v2873 v2874 v2875 v2876 v2878 = some r → LoopOk prog 0 (lp f46 0) (mk 56 [(0, .d (D.sl a1)), (1, .d (D.sl a2)), (4, .ptr 256 0), (6, .ptr 384 0), (7, .d (D.int .i64 v2869))] [(256, .box 28 [.d (D.int .i64 0), .d (D.int .i64 0)]), (384, .box 139 [.d (D.int .i64 v2870), .d (D.int .i64 v2871), .d (D.int .i64 v2872), .d (D.int .i64 v2873), .d (D.int .i64 v2874), .d (D.int .i64 v2875), .d (D.bool v2878), .d (D.bool v2876)])]) (LoopEnd prog f46 0 56 (.tup [.agg [.d (D.int .i64 r.1), .d (D.int .i64 r.2.1)], .d (D.bool r.2.2)]) (⟨[], []⟩) (fun i ts os => (i = 0 ∧ K0 = some r ∧ ts = [(4, .ptr 256 0)] ∧ os = [(256, .box 28 [.d (D.int .i64 0), .d (D.int .i64 0)])])))
  | 0, _, _, _, _, _, _, _, _, _, h => by
      rw [spec_shSimplest_l0_2] at h; cases h
  | n + 1, v2869, v2870, v2871, v2872, v2873, v2874, v2875, v2876, v2878, h => by
      rw [spec_shSimplest_l0_2] at h
      cases v2876
      · replace h := condF h
        cases v2878
        · replace h := condF h
          refine LoopOk.step ?_
          conv => whnf
          refine splD (fun g3370 => ?_) (fun g3370 => ?_)
          · replace h := iteP h g3370
            conv => whnf
            refine splD (fun g3371 => ?_) (fun g3371 => ?_)
            · replace h := iteP h g3371
              conv => whnf
              refine Pick.no ?_
              conv => whnf
              obtain ⟨y3372, e3373, h⟩ := bind_ex h
              refine CallOk.of (spec_shMost_ct e3373) ?_
              conv => whnf
              refine Pick.no ?_
              conv => whnf
              obtain ⟨y3374, e3375, h⟩ := bind_ex h
              refine CallOk.of (spec_shCmp_ct e3375) ?_
              conv => whnf
              refine splD (fun g3376 => ?_) (fun g3376 => ?_)
              · replace h := iteP h g3376
                conv => whnf
                refine CutK.norm [0, 1, 4, 6, 7, 8] [256, 384] ?_
                conv => whnf
                refine splD (fun g3377 => ?_) (fun g3377 => ?_)
                · replace h := iteP h g3377
                  conv => whnf
                  refine Pick.no ?_
                  conv => whnf
                  obtain ⟨y3378, e3379, h⟩ := bind_ex h
                  refine CallOk.of (spec_shNegAll_ct e3379) ?_
                  conv => whnf
                  refine Pick.no ?_
                  conv => whnf
                  refine Take.all (rfl) ?_
                  conv => whnf
                  obtain ⟨y3380, e3381, h⟩ := bind_ex h
                  refine CallOk.of (spec_shMost_ct e3381) ?_
                  conv => whnf
                  refine Pick.no ?_
                  conv => whnf
                  obtain ⟨y3382, e3383, h⟩ := bind_ex h
                  refine CallOk.of (spec_shNeg_ct e3383) ?_
                  conv => whnf
                  refine Pick.no ?_
                  conv => whnf
                  obtain ⟨y3384, e3385, h⟩ := bind_ex h
                  refine CallOk.of (spec_shCmp_ct e3385) ?_
                  conv => whnf
                  refine splD (fun g3386 => ?_) (fun g3386 => ?_)
                  · replace h := iteP h g3386
                    conv => whnf
                    refine CutK.norm [0, 1, 4, 6, 7, 8, 9] [256, 384] ?_
                    conv => whnf
                    cases h
                    exact Done.of [] [] rfl rfl ⟨⟨rfl, rfl⟩, ⟨rfl, trivial⟩, ⟨⟨rfl, rfl, trivial⟩, rfl, trivial⟩, trivial⟩
                  · replace h := iteN h g3386
                    conv => whnf
                    refine CutK.norm [0, 1, 4, 6, 7, 8, 9] [256, 384] ?_
                    conv => whnf
                    refine splF ?_
                    conv => whnf
                    refine splF ?_
                    conv => whnf
                    refine Pick.no ?_
                    conv => whnf
                    obtain ⟨y3387, e3388, h⟩ := bind_ex h
                    refine CallOk.of (spec_shWalk_step_ct e3388) ?_
                    conv => whnf
                    refine spl (fun g3389 => ?_) (fun g3389 => ?_)
                    · replace h := iteT h g3389
                      conv => whnf
                      refine spl (fun g3390 => ?_) (fun g3390 => ?_)
                      · replace h := iteT h g3390
                        conv => whnf
                        refine CutK.norm [0, 1, 4, 6, 7] [256, 384] ?_
                        conv => whnf
                        exact LoopOk.back (spec_shSimplest_l0_2_ct  n _ _ _ _ _ _ _ _ _ h) [some 256, some 384] [] ⟨⟨rfl, rfl⟩, ⟨rfl, ⟨rfl, rfl, rfl, trivial⟩, ⟨rfl, rfl, rfl, rfl, rfl, rfl, rfl, rfl, rfl, trivial⟩, trivial⟩, rfl, rfl, ⟨rfl, rfl⟩, ⟨rfl, rfl⟩, rfl, trivial⟩
                      · replace h := iteF h g3390
                        conv => whnf
                        refine CutK.norm [0, 1, 4, 6, 7] [256, 384] ?_
                        conv => whnf
                        exact LoopOk.back (spec_shSimplest_l0_2_ct  n _ _ _ _ _ _ _ _ _ h) [some 256, some 384] [] ⟨⟨rfl, rfl⟩, ⟨rfl, ⟨rfl, rfl, rfl, trivial⟩, ⟨rfl, rfl, rfl, rfl, rfl, rfl, rfl, rfl, rfl, trivial⟩, trivial⟩, rfl, rfl, ⟨rfl, rfl⟩, ⟨rfl, rfl⟩, rfl, trivial⟩
                    · replace h := iteF h g3389
                      conv => whnf
                      refine spl (fun g3391 => ?_) (fun g3391 => ?_)
                      · replace h := iteT h g3391
                        conv => whnf
                        refine CutK.norm [0, 1, 4, 6, 7] [256, 384] ?_
                        conv => whnf
                        exact LoopOk.back (spec_shSimplest_l0_2_ct  n _ _ _ _ _ _ _ _ _ h) [some 256, some 384] [] ⟨⟨rfl, rfl⟩, ⟨rfl, ⟨rfl, rfl, rfl, trivial⟩, ⟨rfl, rfl, rfl, rfl, rfl, rfl, rfl, rfl, rfl, trivial⟩, trivial⟩, rfl, rfl, ⟨rfl, rfl⟩, ⟨rfl, rfl⟩, rfl, trivial⟩
                      · replace h := iteF h g3391
                        conv => whnf
                        refine CutK.norm [0, 1, 4, 6, 7] [256, 384] ?_
                        conv => whnf
                        exact LoopOk.back (spec_shSimplest_l0_2_ct  n _ _ _ _ _ _ _ _ _ h) [some 256, some 384] [] ⟨⟨rfl, rfl⟩, ⟨rfl, ⟨rfl, rfl, rfl, trivial⟩, ⟨rfl, rfl, rfl, rfl, rfl, rfl, rfl, rfl, rfl, trivial⟩, trivial⟩, rfl, rfl, ⟨rfl, rfl⟩, ⟨rfl, rfl⟩, rfl, trivial⟩
                · replace h := iteN h g3377
                  conv => whnf
                  refine CutK.norm [0, 1, 4, 6, 7, 8, 9] [256, 384] ?_
                  conv => whnf
                  refine splF ?_
                  conv => whnf
                  refine splF ?_
                  conv => whnf
                  refine Pick.no ?_
                  conv => whnf
                  obtain ⟨y3392, e3393, h⟩ := bind_ex h
                  refine CallOk.of (spec_shWalk_step_ct e3393) ?_
                  conv => whnf
                  refine spl (fun g3394 => ?_) (fun g3394 => ?_)
                  · replace h := iteT h g3394
                    conv => whnf
                    refine spl (fun g3395 => ?_) (fun g3395 => ?_)
                    · replace h := iteT h g3395
                      conv => whnf
                      refine CutK.norm [0, 1, 4, 6, 7] [256, 384] ?_
                      conv => whnf
                      exact LoopOk.back (spec_shSimplest_l0_2_ct  n _ _ _ _ _ _ _ _ _ h) [some 256, some 384] [] ⟨⟨rfl, rfl⟩, ⟨rfl, ⟨rfl, rfl, rfl, trivial⟩, ⟨rfl, rfl, rfl, rfl, rfl, rfl, rfl, rfl, rfl, trivial⟩, trivial⟩, rfl, rfl, ⟨rfl, rfl⟩, ⟨rfl, rfl⟩, rfl, trivial⟩
                    · replace h := iteF h g3395
                      conv => whnf
                      refine CutK.norm [0, 1, 4, 6, 7] [256, 384] ?_
                      conv => whnf
                      exact LoopOk.back (spec_shSimplest_l0_2_ct  n _ _ _ _ _ _ _ _ _ h) [some 256, some 384] [] ⟨⟨rfl, rfl⟩, ⟨rfl, ⟨rfl, rfl, rfl, trivial⟩, ⟨rfl, rfl, rfl, rfl, rfl, rfl, rfl, rfl, rfl, trivial⟩, trivial⟩, rfl, rfl, ⟨rfl, rfl⟩, ⟨rfl, rfl⟩, rfl, trivial⟩
                  · replace h := iteF h g3394
                    conv => whnf
                    refine spl (fun g3396 => ?_) (fun g3396 => ?_)
                    · replace h := iteT h g3396
                      conv => whnf
                      refine CutK.norm [0, 1, 4, 6, 7] [256, 384] ?_
                      conv => whnf
                      exact LoopOk.back (spec_shSimplest_l0_2_ct  n _ _ _ _ _ _ _ _ _ h) [some 256, some 384] [] ⟨⟨rfl, rfl⟩, ⟨rfl, ⟨rfl, rfl, rfl, trivial⟩, ⟨rfl, rfl, rfl, rfl, rfl, rfl, rfl, rfl, rfl, trivial⟩, trivial⟩, rfl, rfl, ⟨rfl, rfl⟩, ⟨rfl, rfl⟩, rfl, trivial⟩
                    · replace h := iteF h g3396
                      conv => whnf
                      refine CutK.norm [0, 1, 4, 6, 7] [256, 384] ?_
                      conv => whnf
                      exact LoopOk.back (spec_shSimplest_l0_2_ct  n _ _ _ _ _ _ _ _ _ h) [some 256, some 384] [] ⟨⟨rfl, rfl⟩, ⟨rfl, ⟨rfl, rfl, rfl, trivial⟩, ⟨rfl, rfl, rfl, rfl, rfl, rfl, rfl, rfl, rfl, trivial⟩, trivial⟩, rfl, rfl, ⟨rfl, rfl⟩, ⟨rfl, rfl⟩, rfl, trivial⟩
              · replace h := iteN h g3376
                conv => whnf
                refine CutK.norm [0, 1, 4, 6, 7, 8] [256, 384] ?_
                conv => whnf
                refine splD (fun g3397 => ?_) (fun g3397 => ?_)
                · replace h := iteP h g3397
                  conv => whnf
                  refine Pick.no ?_
                  conv => whnf
                  obtain ⟨y3398, e3399, h⟩ := bind_ex h
                  refine CallOk.of (spec_shNegAll_ct e3399) ?_
                  conv => whnf
                  refine Pick.no ?_
                  conv => whnf
                  refine Take.all (rfl) ?_
                  conv => whnf
                  obtain ⟨y3400, e3401, h⟩ := bind_ex h
                  refine CallOk.of (spec_shMost_ct e3401) ?_
                  conv => whnf
                  refine Pick.no ?_
                  conv => whnf
                  obtain ⟨y3402, e3403, h⟩ := bind_ex h
                  refine CallOk.of (spec_shNeg_ct e3403) ?_
                  conv => whnf
                  refine Pick.no ?_
                  conv => whnf
                  obtain ⟨y3404, e3405, h⟩ := bind_ex h
                  refine CallOk.of (spec_shCmp_ct e3405) ?_
                  conv => whnf
                  refine splD (fun g3406 => ?_) (fun g3406 => ?_)
                  · replace h := iteP h g3406
                    conv => whnf
                    refine CutK.norm [0, 1, 4, 6, 7, 8, 9] [256, 384] ?_
                    conv => whnf
                    refine splF ?_
                    conv => whnf
                    refine splF ?_
                    conv => whnf
                    refine Pick.no ?_
                    conv => whnf
                    obtain ⟨y3407, e3408, h⟩ := bind_ex h
                    refine CallOk.of (spec_shWalk_step_ct e3408) ?_
                    conv => whnf
                    refine spl (fun g3409 => ?_) (fun g3409 => ?_)
                    · replace h := iteT h g3409
                      conv => whnf
                      refine spl (fun g3410 => ?_) (fun g3410 => ?_)
                      · replace h := iteT h g3410
                        conv => whnf
                        refine CutK.norm [0, 1, 4, 6, 7] [256, 384] ?_
                        conv => whnf
                        exact LoopOk.back (spec_shSimplest_l0_2_ct  n _ _ _ _ _ _ _ _ _ h) [some 256, some 384] [] ⟨⟨rfl, rfl⟩, ⟨rfl, ⟨rfl, rfl, rfl, trivial⟩, ⟨rfl, rfl, rfl, rfl, rfl, rfl, rfl, rfl, rfl, trivial⟩, trivial⟩, rfl, rfl, ⟨rfl, rfl⟩, ⟨rfl, rfl⟩, rfl, trivial⟩
                      · replace h := iteF h g3410
                        conv => whnf
                        refine CutK.norm [0, 1, 4, 6, 7] [256, 384] ?_
                        conv => whnf
                        exact LoopOk.back (spec_shSimplest_l0_2_ct  n _ _ _ _ _ _ _ _ _ h) [some 256, some 384] [] ⟨⟨rfl, rfl⟩, ⟨rfl, ⟨rfl, rfl, rfl, trivial⟩, ⟨rfl, rfl, rfl, rfl, rfl, rfl, rfl, rfl, rfl, trivial⟩, trivial⟩, rfl, rfl, ⟨rfl, rfl⟩, ⟨rfl, rfl⟩, rfl, trivial⟩
                    · replace h := iteF h g3409
                      conv => whnf
                      refine spl (fun g3411 => ?_) (fun g3411 => ?_)
                      · replace h := iteT h g3411
                        conv => whnf
                        refine CutK.norm [0, 1, 4, 6, 7] [256, 384] ?_
                        conv => whnf
                        exact LoopOk.back (spec_shSimplest_l0_2_ct  n _ _ _ _ _ _ _ _ _ h) [some 256, some 384] [] ⟨⟨rfl, rfl⟩, ⟨rfl, ⟨rfl, rfl, rfl, trivial⟩, ⟨rfl, rfl, rfl, rfl, rfl, rfl, rfl, rfl, rfl, trivial⟩, trivial⟩, rfl, rfl, ⟨rfl, rfl⟩, ⟨rfl, rfl⟩, rfl, trivial⟩
                      · replace h := iteF h g3411
                        conv => whnf
                        refine CutK.norm [0, 1, 4, 6, 7] [256, 384] ?_
                        conv => whnf
                        exact LoopOk.back (spec_shSimplest_l0_2_ct  n _ _ _ _ _ _ _ _ _ h) [some 256, some 384] [] ⟨⟨rfl, rfl⟩, ⟨rfl, ⟨rfl, rfl, rfl, trivial⟩, ⟨rfl, rfl, rfl, rfl, rfl, rfl, rfl, rfl, rfl, trivial⟩, trivial⟩, rfl, rfl, ⟨rfl, rfl⟩, ⟨rfl, rfl⟩, rfl, trivial⟩
                  · replace h := iteN h g3406
                    conv => whnf
                    refine CutK.norm [0, 1, 4, 6, 7, 8, 9] [256, 384] ?_
                    conv => whnf
                    cases h
                    exact Done.of [] [] rfl rfl ⟨⟨rfl, rfl⟩, ⟨rfl, trivial⟩, ⟨⟨rfl, rfl, trivial⟩, rfl, trivial⟩, trivial⟩
                · replace h := iteN h g3397
                  conv => whnf
                  refine CutK.norm [0, 1, 4, 6, 7, 8, 9] [256, 384] ?_
                  conv => whnf
                  cases h
                  exact Done.of [] [] rfl rfl ⟨⟨rfl, rfl⟩, ⟨rfl, trivial⟩, ⟨⟨rfl, rfl, trivial⟩, rfl, trivial⟩, trivial⟩
            · replace h := iteN h g3371
              conv => whnf
              refine CutK.norm [0, 1, 4, 6, 7, 8] [256, 384] ?_
              conv => whnf
              refine splD (fun g3412 => ?_) (fun g3412 => ?_)
              · replace h := iteP h g3412
                conv => whnf
                refine Pick.no ?_
                conv => whnf
                obtain ⟨y3413, e3414, h⟩ := bind_ex h
                refine CallOk.of (spec_shNegAll_ct e3414) ?_
                conv => whnf
                refine Pick.no ?_
                conv => whnf
                refine Take.all (rfl) ?_
                conv => whnf
                obtain ⟨y3415, e3416, h⟩ := bind_ex h
                refine CallOk.of (spec_shMost_ct e3416) ?_
                conv => whnf
                refine Pick.no ?_
                conv => whnf
                obtain ⟨y3417, e3418, h⟩ := bind_ex h
                refine CallOk.of (spec_shNeg_ct e3418) ?_
                conv => whnf
                refine Pick.no ?_
                conv => whnf
                obtain ⟨y3419, e3420, h⟩ := bind_ex h
                refine CallOk.of (spec_shCmp_ct e3420) ?_
                conv => whnf
                refine splD (fun g3421 => ?_) (fun g3421 => ?_)
                · replace h := iteP h g3421
                  conv => whnf
                  refine CutK.norm [0, 1, 4, 6, 7, 8, 9] [256, 384] ?_
                  conv => whnf
                  refine splF ?_
                  conv => whnf
                  refine splF ?_
                  conv => whnf
                  refine Pick.no ?_
                  conv => whnf
                  obtain ⟨y3422, e3423, h⟩ := bind_ex h
                  refine CallOk.of (spec_shWalk_step_ct e3423) ?_
                  conv => whnf
                  refine spl (fun g3424 => ?_) (fun g3424 => ?_)
                  · replace h := iteT h g3424
                    conv => whnf
                    refine spl (fun g3425 => ?_) (fun g3425 => ?_)
                    · replace h := iteT h g3425
                      conv => whnf
                      refine CutK.norm [0, 1, 4, 6, 7] [256, 384] ?_
                      conv => whnf
                      exact LoopOk.back (spec_shSimplest_l0_2_ct  n _ _ _ _ _ _ _ _ _ h) [some 256, some 384] [] ⟨⟨rfl, rfl⟩, ⟨rfl, ⟨rfl, rfl, rfl, trivial⟩, ⟨rfl, rfl, rfl, rfl, rfl, rfl, rfl, rfl, rfl, trivial⟩, trivial⟩, rfl, rfl, ⟨rfl, rfl⟩, ⟨rfl, rfl⟩, rfl, trivial⟩
                    · replace h := iteF h g3425
                      conv => whnf
                      refine CutK.norm [0, 1, 4, 6, 7] [256, 384] ?_
                      conv => whnf
                      exact LoopOk.back (spec_shSimplest_l0_2_ct  n _ _ _ _ _ _ _ _ _ h) [some 256, some 384] [] ⟨⟨rfl, rfl⟩, ⟨rfl, ⟨rfl, rfl, rfl, trivial⟩, ⟨rfl, rfl, rfl, rfl, rfl, rfl, rfl, rfl, rfl, trivial⟩, trivial⟩, rfl, rfl, ⟨rfl, rfl⟩, ⟨rfl, rfl⟩, rfl, trivial⟩
                  · replace h := iteF h g3424
                    conv => whnf
                    refine spl (fun g3426 => ?_) (fun g3426 => ?_)
                    · replace h := iteT h g3426
                      conv => whnf
                      refine CutK.norm [0, 1, 4, 6, 7] [256, 384] ?_
                      conv => whnf
                      exact LoopOk.back (spec_shSimplest_l0_2_ct  n _ _ _ _ _ _ _ _ _ h) [some 256, some 384] [] ⟨⟨rfl, rfl⟩, ⟨rfl, ⟨rfl, rfl, rfl, trivial⟩, ⟨rfl, rfl, rfl, rfl, rfl, rfl, rfl, rfl, rfl, trivial⟩, trivial⟩, rfl, rfl, ⟨rfl, rfl⟩, ⟨rfl, rfl⟩, rfl, trivial⟩
                    · replace h := iteF h g3426
                      conv => whnf
                      refine CutK.norm [0, 1, 4, 6, 7] [256, 384] ?_
                      conv => whnf
                      exact LoopOk.back (spec_shSimplest_l0_2_ct  n _ _ _ _ _ _ _ _ _ h) [some 256, some 384] [] ⟨⟨rfl, rfl⟩, ⟨rfl, ⟨rfl, rfl, rfl, trivial⟩, ⟨rfl, rfl, rfl, rfl, rfl, rfl, rfl, rfl, rfl, trivial⟩, trivial⟩, rfl, rfl, ⟨rfl, rfl⟩, ⟨rfl, rfl⟩, rfl, trivial⟩
                · replace h := iteN h g3421
                  conv => whnf
                  refine CutK.norm [0, 1, 4, 6, 7, 8, 9] [256, 384] ?_
                  conv => whnf
                  cases h
                  exact Done.of [] [] rfl rfl ⟨⟨rfl, rfl⟩, ⟨rfl, trivial⟩, ⟨⟨rfl, rfl, trivial⟩, rfl, trivial⟩, trivial⟩
              · replace h := iteN h g3412
                conv => whnf
                refine CutK.norm [0, 1, 4, 6, 7, 8, 9] [256, 384] ?_
                conv => whnf
                cases h
                exact Done.of [] [] rfl rfl ⟨⟨rfl, rfl⟩, ⟨rfl, trivial⟩, ⟨⟨rfl, rfl, trivial⟩, rfl, trivial⟩, trivial⟩
          · replace h := iteN h g3370
            conv => whnf
            exact ⟨_, _, [some 256], [], ⟨rfl, h, rfl, rfl⟩, ⟨⟨rfl, rfl⟩, ⟨rfl, ⟨rfl, rfl, rfl, trivial⟩, trivial⟩, ⟨rfl, rfl⟩, trivial⟩⟩
        · replace h := condT h
          refine LoopOk.step ?_
          conv => whnf
          refine splD (fun g3427 => ?_) (fun g3427 => ?_)
          · replace h := iteP h g3427
            conv => whnf
            refine splD (fun g3428 => ?_) (fun g3428 => ?_)
            · replace h := iteP h g3428
              conv => whnf
              refine Pick.no ?_
              conv => whnf
              obtain ⟨y3429, e3430, h⟩ := bind_ex h
              refine CallOk.of (spec_shMost_ct e3430) ?_
              conv => whnf
              refine Pick.no ?_
              conv => whnf
              obtain ⟨y3431, e3432, h⟩ := bind_ex h
              refine CallOk.of (spec_shCmp_ct e3432) ?_
              conv => whnf
              refine splD (fun g3433 => ?_) (fun g3433 => ?_)
              · replace h := iteP h g3433
                conv => whnf
                refine CutK.norm [0, 1, 4, 6, 7, 8] [256, 384] ?_
                conv => whnf
                refine splD (fun g3434 => ?_) (fun g3434 => ?_)
                · replace h := iteP h g3434
                  conv => whnf
                  refine Pick.no ?_
                  conv => whnf
                  obtain ⟨y3435, e3436, h⟩ := bind_ex h
                  refine CallOk.of (spec_shNegAll_ct e3436) ?_
                  conv => whnf
                  refine Pick.no ?_
                  conv => whnf
                  refine Take.all (rfl) ?_
                  conv => whnf
                  obtain ⟨y3437, e3438, h⟩ := bind_ex h
                  refine CallOk.of (spec_shMost_ct e3438) ?_
                  conv => whnf
                  refine Pick.no ?_
                  conv => whnf
                  obtain ⟨y3439, e3440, h⟩ := bind_ex h
                  refine CallOk.of (spec_shNeg_ct e3440) ?_
                  conv => whnf
                  refine Pick.no ?_
                  conv => whnf
                  obtain ⟨y3441, e3442, h⟩ := bind_ex h
                  refine CallOk.of (spec_shCmp_ct e3442) ?_
                  conv => whnf
                  refine splD (fun g3443 => ?_) (fun g3443 => ?_)
                  · replace h := iteP h g3443
                    conv => whnf
                    refine CutK.norm [0, 1, 4, 6, 7, 8, 9] [256, 384] ?_
                    conv => whnf
                    cases h
                    exact Done.of [] [] rfl rfl ⟨⟨rfl, rfl⟩, ⟨rfl, trivial⟩, ⟨⟨rfl, rfl, trivial⟩, rfl, trivial⟩, trivial⟩
                  · replace h := iteN h g3443
                    conv => whnf
                    refine CutK.norm [0, 1, 4, 6, 7, 8, 9] [256, 384] ?_
                    conv => whnf
                    refine splT ?_
                    conv => whnf
                    refine splF ?_
                    conv => whnf
                    refine Pick.no ?_
                    conv => whnf
                    obtain ⟨y3444, e3445, h⟩ := bind_ex h
                    refine CallOk.of (spec_shWalk_step_ct e3445) ?_
                    conv => whnf
                    refine spl (fun g3446 => ?_) (fun g3446 => ?_)
                    · replace h := iteT h g3446
                      conv => whnf
                      refine spl (fun g3447 => ?_) (fun g3447 => ?_)
                      · replace h := iteT h g3447
                        conv => whnf
                        refine CutK.norm [0, 1, 4, 6, 7] [256, 384] ?_
                        conv => whnf
                        exact LoopOk.back (spec_shSimplest_l0_2_ct  n _ _ _ _ _ _ _ _ _ h) [some 256, some 384] [] ⟨⟨rfl, rfl⟩, ⟨rfl, ⟨rfl, rfl, rfl, trivial⟩, ⟨rfl, rfl, rfl, rfl, rfl, rfl, rfl, rfl, rfl, trivial⟩, trivial⟩, rfl, rfl, ⟨rfl, rfl⟩, ⟨rfl, rfl⟩, rfl, trivial⟩
                      · replace h := iteF h g3447
                        conv => whnf
                        refine CutK.norm [0, 1, 4, 6, 7] [256, 384] ?_
                        conv => whnf
                        exact LoopOk.back (spec_shSimplest_l0_2_ct  n _ _ _ _ _ _ _ _ _ h) [some 256, some 384] [] ⟨⟨rfl, rfl⟩, ⟨rfl, ⟨rfl, rfl, rfl, trivial⟩, ⟨rfl, rfl, rfl, rfl, rfl, rfl, rfl, rfl, rfl, trivial⟩, trivial⟩, rfl, rfl, ⟨rfl, rfl⟩, ⟨rfl, rfl⟩, rfl, trivial⟩
                    · replace h := iteF h g3446
                      conv => whnf
                      refine spl (fun g3448 => ?_) (fun g3448 => ?_)
                      · replace h := iteT h g3448
                        conv => whnf
                        refine CutK.norm [0, 1, 4, 6, 7] [256, 384] ?_
                        conv => whnf
                        exact LoopOk.back (spec_shSimplest_l0_2_ct  n _ _ _ _ _ _ _ _ _ h) [some 256, some 384] [] ⟨⟨rfl, rfl⟩, ⟨rfl, ⟨rfl, rfl, rfl, trivial⟩, ⟨rfl, rfl, rfl, rfl, rfl, rfl, rfl, rfl, rfl, trivial⟩, trivial⟩, rfl, rfl, ⟨rfl, rfl⟩, ⟨rfl, rfl⟩, rfl, trivial⟩
                      · replace h := iteF h g3448
                        conv => whnf
                        refine CutK.norm [0, 1, 4, 6, 7] [256, 384] ?_
                        conv => whnf
                        exact LoopOk.back (spec_shSimplest_l0_2_ct  n _ _ _ _ _ _ _ _ _ h) [some 256, some 384] [] ⟨⟨rfl, rfl⟩, ⟨rfl, ⟨rfl, rfl, rfl, trivial⟩, ⟨rfl, rfl, rfl, rfl, rfl, rfl, rfl, rfl, rfl, trivial⟩, trivial⟩, rfl, rfl, ⟨rfl, rfl⟩, ⟨rfl, rfl⟩, rfl, trivial⟩
                · replace h := iteN h g3434
                  conv => whnf
                  refine CutK.norm [0, 1, 4, 6, 7, 8, 9] [256, 384] ?_
                  conv => whnf
                  refine splT ?_
                  conv => whnf
                  refine splF ?_
                  conv => whnf
                  refine Pick.no ?_
                  conv => whnf
                  obtain ⟨y3449, e3450, h⟩ := bind_ex h
                  refine CallOk.of (spec_shWalk_step_ct e3450) ?_
                  conv => whnf
                  refine spl (fun g3451 => ?_) (fun g3451 => ?_)
                  · replace h := iteT h g3451
                    conv => whnf
                    refine spl (fun g3452 => ?_) (fun g3452 => ?_)
                    · replace h := iteT h g3452
                      conv => whnf
                      refine CutK.norm [0, 1, 4, 6, 7] [256, 384] ?_
                      conv => whnf
                      exact LoopOk.back (spec_shSimplest_l0_2_ct  n _ _ _ _ _ _ _ _ _ h) [some 256, some 384] [] ⟨⟨rfl, rfl⟩, ⟨rfl, ⟨rfl, rfl, rfl, trivial⟩, ⟨rfl, rfl, rfl, rfl, rfl, rfl, rfl, rfl, rfl, trivial⟩, trivial⟩, rfl, rfl, ⟨rfl, rfl⟩, ⟨rfl, rfl⟩, rfl, trivial⟩
                    · replace h := iteF h g3452
                      conv => whnf
                      refine CutK.norm [0, 1, 4, 6, 7] [256, 384] ?_
                      conv => whnf
                      exact LoopOk.back (spec_shSimplest_l0_2_ct  n _ _ _ _ _ _ _ _ _ h) [some 256, some 384] [] ⟨⟨rfl, rfl⟩, ⟨rfl, ⟨rfl, rfl, rfl, trivial⟩, ⟨rfl, rfl, rfl, rfl, rfl, rfl, rfl, rfl, rfl, trivial⟩, trivial⟩, rfl, rfl, ⟨rfl, rfl⟩, ⟨rfl, rfl⟩, rfl, trivial⟩
                  · replace h := iteF h g3451
                    conv => whnf
                    refine spl (fun g3453 => ?_) (fun g3453 => ?_)
                    · replace h := iteT h g3453
                      conv => whnf
                      refine CutK.norm [0, 1, 4, 6, 7] [256, 384] ?_
                      conv => whnf
                      exact LoopOk.back (spec_shSimplest_l0_2_ct  n _ _ _ _ _ _ _ _ _ h) [some 256, some 384] [] ⟨⟨rfl, rfl⟩, ⟨rfl, ⟨rfl, rfl, rfl, trivial⟩, ⟨rfl, rfl, rfl, rfl, rfl, rfl, rfl, rfl, rfl, trivial⟩, trivial⟩, rfl, rfl, ⟨rfl, rfl⟩, ⟨rfl, rfl⟩, rfl, trivial⟩
                    · replace h := iteF h g3453
                      conv => whnf
                      refine CutK.norm [0, 1, 4, 6, 7] [256, 384] ?_
                      conv => whnf
                      exact LoopOk.back (spec_shSimplest_l0_2_ct  n _ _ _ _ _ _ _ _ _ h) [some 256, some 384] [] ⟨⟨rfl, rfl⟩, ⟨rfl, ⟨rfl, rfl, rfl, trivial⟩, ⟨rfl, rfl, rfl, rfl, rfl, rfl, rfl, rfl, rfl, trivial⟩, trivial⟩, rfl, rfl, ⟨rfl, rfl⟩, ⟨rfl, rfl⟩, rfl, trivial⟩
              · replace h := iteN h g3433
                conv => whnf
                refine CutK.norm [0, 1, 4, 6, 7, 8] [256, 384] ?_
                conv => whnf
                refine splD (fun g3454 => ?_) (fun g3454 => ?_)
                · replace h := iteP h g3454
                  conv => whnf
                  refine Pick.no ?_
                  conv => whnf
                  obtain ⟨y3455, e3456, h⟩ := bind_ex h
                  refine CallOk.of (spec_shNegAll_ct e3456) ?_
                  conv => whnf
                  refine Pick.no ?_
                  conv => whnf
                  refine Take.all (rfl) ?_
                  conv => whnf
                  obtain ⟨y3457, e3458, h⟩ := bind_ex h
                  refine CallOk.of (spec_shMost_ct e3458) ?_
                  conv => whnf
                  refine Pick.no ?_
                  conv => whnf
                  obtain ⟨y3459, e3460, h⟩ := bind_ex h
                  refine CallOk.of (spec_shNeg_ct e3460) ?_
                  conv => whnf
                  refine Pick.no ?_
                  conv => whnf
                  obtain ⟨y3461, e3462, h⟩ := bind_ex h
                  refine CallOk.of (spec_shCmp_ct e3462) ?_
                  conv => whnf
                  refine splD (fun g3463 => ?_) (fun g3463 => ?_)
                  · replace h := iteP h g3463
                    conv => whnf
                    refine CutK.norm [0, 1, 4, 6, 7, 8, 9] [256, 384] ?_
                    conv => whnf
                    refine splT ?_
                    conv => whnf
                    refine splF ?_
                    conv => whnf
                    refine Pick.no ?_
                    conv => whnf
                    obtain ⟨y3464, e3465, h⟩ := bind_ex h
                    refine CallOk.of (spec_shWalk_step_ct e3465) ?_
                    conv => whnf
                    refine spl (fun g3466 => ?_) (fun g3466 => ?_)
                    · replace h := iteT h g3466
                      conv => whnf
                      refine spl (fun g3467 => ?_) (fun g3467 => ?_)
                      · replace h := iteT h g3467
                        conv => whnf
                        refine CutK.norm [0, 1, 4, 6, 7] [256, 384] ?_
                        conv => whnf
                        exact LoopOk.back (spec_shSimplest_l0_2_ct  n _ _ _ _ _ _ _ _ _ h) [some 256, some 384] [] ⟨⟨rfl, rfl⟩, ⟨rfl, ⟨rfl, rfl, rfl, trivial⟩, ⟨rfl, rfl, rfl, rfl, rfl, rfl, rfl, rfl, rfl, trivial⟩, trivial⟩, rfl, rfl, ⟨rfl, rfl⟩, ⟨rfl, rfl⟩, rfl, trivial⟩
                      · replace h := iteF h g3467
                        conv => whnf
                        refine CutK.norm [0, 1, 4, 6, 7] [256, 384] ?_
                        conv => whnf
                        exact LoopOk.back (spec_shSimplest_l0_2_ct  n _ _ _ _ _ _ _ _ _ h) [some 256, some 384] [] ⟨⟨rfl, rfl⟩, ⟨rfl, ⟨rfl, rfl, rfl, trivial⟩, ⟨rfl, rfl, rfl, rfl, rfl, rfl, rfl, rfl, rfl, trivial⟩, trivial⟩, rfl, rfl, ⟨rfl, rfl⟩, ⟨rfl, rfl⟩, rfl, trivial⟩
                    · replace h := iteF h g3466
                      conv => whnf
                      refine spl (fun g3468 => ?_) (fun g3468 => ?_)
                      · replace h := iteT h g3468
                        conv => whnf
                        refine CutK.norm [0, 1, 4, 6, 7] [256, 384] ?_
                        conv => whnf
                        exact LoopOk.back (spec_shSimplest_l0_2_ct  n _ _ _ _ _ _ _ _ _ h) [some 256, some 384] [] ⟨⟨rfl, rfl⟩, ⟨rfl, ⟨rfl, rfl, rfl, trivial⟩, ⟨rfl, rfl, rfl, rfl, rfl, rfl, rfl, rfl, rfl, trivial⟩, trivial⟩, rfl, rfl, ⟨rfl, rfl⟩, ⟨rfl, rfl⟩, rfl, trivial⟩
                      · replace h := iteF h g3468
                        conv => whnf
                        refine CutK.norm [0, 1, 4, 6, 7] [256, 384] ?_
                        conv => whnf
                        exact LoopOk.back (spec_shSimplest_l0_2_ct  n _ _ _ _ _ _ _ _ _ h) [some 256, some 384] [] ⟨⟨rfl, rfl⟩, ⟨rfl, ⟨rfl, rfl, rfl, trivial⟩, ⟨rfl, rfl, rfl, rfl, rfl, rfl, rfl, rfl, rfl, trivial⟩, trivial⟩, rfl, rfl, ⟨rfl, rfl⟩, ⟨rfl, rfl⟩, rfl, trivial⟩
                  · replace h := iteN h g3463
                    conv => whnf
                    refine CutK.norm [0, 1, 4, 6, 7, 8, 9] [256, 384] ?_
                    conv => whnf
                    cases h
                    exact Done.of [] [] rfl rfl ⟨⟨rfl, rfl⟩, ⟨rfl, trivial⟩, ⟨⟨rfl, rfl, trivial⟩, rfl, trivial⟩, trivial⟩
                · replace h := iteN h g3454
                  conv => whnf
                  refine CutK.norm [0, 1, 4, 6, 7, 8, 9] [256, 384] ?_
                  conv => whnf
                  cases h
                  exact Done.of [] [] rfl rfl ⟨⟨rfl, rfl⟩, ⟨rfl, trivial⟩, ⟨⟨rfl, rfl, trivial⟩, rfl, trivial⟩, trivial⟩
            · replace h := iteN h g3428
              conv => whnf
              refine CutK.norm [0, 1, 4, 6, 7, 8] [256, 384] ?_
              conv => whnf
              refine splD (fun g3469 => ?_) (fun g3469 => ?_)
              · replace h := iteP h g3469
                conv => whnf
                refine Pick.no ?_
                conv => whnf
                obtain ⟨y3470, e3471, h⟩ := bind_ex h
                refine CallOk.of (spec_shNegAll_ct e3471) ?_
                conv => whnf
                refine Pick.no ?_
                conv => whnf
                refine Take.all (rfl) ?_
                conv => whnf
                obtain ⟨y3472, e3473, h⟩ := bind_ex h
                refine CallOk.of (spec_shMost_ct e3473) ?_
                conv => whnf
                refine Pick.no ?_
                conv => whnf
                obtain ⟨y3474, e3475, h⟩ := bind_ex h
                refine CallOk.of (spec_shNeg_ct e3475) ?_
                conv => whnf
                refine Pick.no ?_
                conv => whnf
                obtain ⟨y3476, e3477, h⟩ := bind_ex h
                refine CallOk.of (spec_shCmp_ct e3477) ?_
                conv => whnf
                refine splD (fun g3478 => ?_) (fun g3478 => ?_)
                · replace h := iteP h g3478
                  conv => whnf
                  refine CutK.norm [0, 1, 4, 6, 7, 8, 9] [256, 384] ?_
                  conv => whnf
                  refine splT ?_
                  conv => whnf
                  refine splF ?_
                  conv => whnf
                  refine Pick.no ?_
                  conv => whnf
                  obtain ⟨y3479, e3480, h⟩ := bind_ex h
                  refine CallOk.of (spec_shWalk_step_ct e3480) ?_
                  conv => whnf
                  refine spl (fun g3481 => ?_) (fun g3481 => ?_)
                  · replace h := iteT h g3481
                    conv => whnf
                    refine spl (fun g3482 => ?_) (fun g3482 => ?_)
                    · replace h := iteT h g3482
                      conv => whnf
                      refine CutK.norm [0, 1, 4, 6, 7] [256, 384] ?_
                      conv => whnf
                      exact LoopOk.back (spec_shSimplest_l0_2_ct  n _ _ _ _ _ _ _ _ _ h) [some 256, some 384] [] ⟨⟨rfl, rfl⟩, ⟨rfl, ⟨rfl, rfl, rfl, trivial⟩, ⟨rfl, rfl, rfl, rfl, rfl, rfl, rfl, rfl, rfl, trivial⟩, trivial⟩, rfl, rfl, ⟨rfl, rfl⟩, ⟨rfl, rfl⟩, rfl, trivial⟩
                    · replace h := iteF h g3482
                      conv => whnf
                      refine CutK.norm [0, 1, 4, 6, 7] [256, 384] ?_
                      conv => whnf
                      exact LoopOk.back (spec_shSimplest_l0_2_ct  n _ _ _ _ _ _ _ _ _ h) [some 256, some 384] [] ⟨⟨rfl, rfl⟩, ⟨rfl, ⟨rfl, rfl, rfl, trivial⟩, ⟨rfl, rfl, rfl, rfl, rfl, rfl, rfl, rfl, rfl, trivial⟩, trivial⟩, rfl, rfl, ⟨rfl, rfl⟩, ⟨rfl, rfl⟩, rfl, trivial⟩
                  · replace h := iteF h g3481
                    conv => whnf
                    refine spl (fun g3483 => ?_) (fun g3483 => ?_)
                    · replace h := iteT h g3483
                      conv => whnf
                      refine CutK.norm [0, 1, 4, 6, 7] [256, 384] ?_
                      conv => whnf
                      exact LoopOk.back (spec_shSimplest_l0_2_ct  n _ _ _ _ _ _ _ _ _ h) [some 256, some 384] [] ⟨⟨rfl, rfl⟩, ⟨rfl, ⟨rfl, rfl, rfl, trivial⟩, ⟨rfl, rfl, rfl, rfl, rfl, rfl, rfl, rfl, rfl, trivial⟩, trivial⟩, rfl, rfl, ⟨rfl, rfl⟩, ⟨rfl, rfl⟩, rfl, trivial⟩
                    · replace h := iteF h g3483
                      conv => whnf
                      refine CutK.norm [0, 1, 4, 6, 7] [256, 384] ?_
                      conv => whnf
                      exact LoopOk.back (spec_shSimplest_l0_2_ct  n _ _ _ _ _ _ _ _ _ h) [some 256, some 384] [] ⟨⟨rfl, rfl⟩, ⟨rfl, ⟨rfl, rfl, rfl, trivial⟩, ⟨rfl, rfl, rfl, rfl, rfl, rfl, rfl, rfl, rfl, trivial⟩, trivial⟩, rfl, rfl, ⟨rfl, rfl⟩, ⟨rfl, rfl⟩, rfl, trivial⟩
                · replace h := iteN h g3478
                  conv => whnf
                  refine CutK.norm [0, 1, 4, 6, 7, 8, 9] [256, 384] ?_
                  conv => whnf
                  cases h
                  exact Done.of [] [] rfl rfl ⟨⟨rfl, rfl⟩, ⟨rfl, trivial⟩, ⟨⟨rfl, rfl, trivial⟩, rfl, trivial⟩, trivial⟩
              · replace h := iteN h g3469
                conv => whnf
                refine CutK.norm [0, 1, 4, 6, 7, 8, 9] [256, 384] ?_
                conv => whnf
                cases h
                exact Done.of [] [] rfl rfl ⟨⟨rfl, rfl⟩, ⟨rfl, trivial⟩, ⟨⟨rfl, rfl, trivial⟩, rfl, trivial⟩, trivial⟩
          · replace h := iteN h g3427
            conv => whnf
            exact ⟨_, _, [some 256], [], ⟨rfl, h, rfl, rfl⟩, ⟨⟨rfl, rfl⟩, ⟨rfl, ⟨rfl, rfl, rfl, trivial⟩, trivial⟩, ⟨rfl, rfl⟩, trivial⟩⟩
      · replace h := condT h
        cases v2878
        · replace h := condF h
          refine LoopOk.step ?_
          conv => whnf
          refine splD (fun g3484 => ?_) (fun g3484 => ?_)
          · replace h := iteP h g3484
            conv => whnf
            refine splD (fun g3485 => ?_) (fun g3485 => ?_)
            · replace h := iteP h g3485
              conv => whnf
              refine Pick.no ?_
              conv => whnf
              obtain ⟨y3486, e3487, h⟩ := bind_ex h
              refine CallOk.of (spec_shMost_ct e3487) ?_
              conv => whnf
              refine Pick.no ?_
              conv => whnf
              obtain ⟨y3488, e3489, h⟩ := bind_ex h
              refine CallOk.of (spec_shCmp_ct e3489) ?_
              conv => whnf
              refine splD (fun g3490 => ?_) (fun g3490 => ?_)
              · replace h := iteP h g3490
                conv => whnf
                refine CutK.norm [0, 1, 4, 6, 7, 8] [256, 384] ?_
                conv => whnf
                refine splD (fun g3491 => ?_) (fun g3491 => ?_)
                · replace h := iteP h g3491
                  conv => whnf
                  refine Pick.no ?_
                  conv => whnf
                  obtain ⟨y3492, e3493, h⟩ := bind_ex h
                  refine CallOk.of (spec_shNegAll_ct e3493) ?_
                  conv => whnf
                  refine Pick.no ?_
                  conv => whnf
                  refine Take.all (rfl) ?_
                  conv => whnf
                  obtain ⟨y3494, e3495, h⟩ := bind_ex h
                  refine CallOk.of (spec_shMost_ct e3495) ?_
                  conv => whnf
                  refine Pick.no ?_
                  conv => whnf
                  obtain ⟨y3496, e3497, h⟩ := bind_ex h
                  refine CallOk.of (spec_shNeg_ct e3497) ?_
                  conv => whnf
                  refine Pick.no ?_
                  conv => whnf
                  obtain ⟨y3498, e3499, h⟩ := bind_ex h
                  refine CallOk.of (spec_shCmp_ct e3499) ?_
                  conv => whnf
                  refine splD (fun g3500 => ?_) (fun g3500 => ?_)
                  · replace h := iteP h g3500
                    conv => whnf
                    refine CutK.norm [0, 1, 4, 6, 7, 8, 9] [256, 384] ?_
                    conv => whnf
                    cases h
                    exact Done.of [] [] rfl rfl ⟨⟨rfl, rfl⟩, ⟨rfl, trivial⟩, ⟨⟨rfl, rfl, trivial⟩, rfl, trivial⟩, trivial⟩
                  · replace h := iteN h g3500
                    conv => whnf
                    refine CutK.norm [0, 1, 4, 6, 7, 8, 9] [256, 384] ?_
                    conv => whnf
                    refine splF ?_
                    conv => whnf
                    refine splT ?_
                    conv => whnf
                    refine Pick.no ?_
                    conv => whnf
                    obtain ⟨y3501, e3502, h⟩ := bind_ex h
                    refine CallOk.of (spec_shWalk_step_ct e3502) ?_
                    conv => whnf
                    refine spl (fun g3503 => ?_) (fun g3503 => ?_)
                    · replace h := iteT h g3503
                      conv => whnf
                      refine spl (fun g3504 => ?_) (fun g3504 => ?_)
                      · replace h := iteT h g3504
                        conv => whnf
                        refine CutK.norm [0, 1, 4, 6, 7] [256, 384] ?_
                        conv => whnf
                        exact LoopOk.back (spec_shSimplest_l0_2_ct  n _ _ _ _ _ _ _ _ _ h) [some 256, some 384] [] ⟨⟨rfl, rfl⟩, ⟨rfl, ⟨rfl, rfl, rfl, trivial⟩, ⟨rfl, rfl, rfl, rfl, rfl, rfl, rfl, rfl, rfl, trivial⟩, trivial⟩, rfl, rfl, ⟨rfl, rfl⟩, ⟨rfl, rfl⟩, rfl, trivial⟩
                      · replace h := iteF h g3504
                        conv => whnf
                        refine CutK.norm [0, 1, 4, 6, 7] [256, 384] ?_
                        conv => whnf
                        exact LoopOk.back (spec_shSimplest_l0_2_ct  n _ _ _ _ _ _ _ _ _ h) [some 256, some 384] [] ⟨⟨rfl, rfl⟩, ⟨rfl, ⟨rfl, rfl, rfl, trivial⟩, ⟨rfl, rfl, rfl, rfl, rfl, rfl, rfl, rfl, rfl, trivial⟩, trivial⟩, rfl, rfl, ⟨rfl, rfl⟩, ⟨rfl, rfl⟩, rfl, trivial⟩
                    · replace h := iteF h g3503
                      conv => whnf
                      refine spl (fun g3505 => ?_) (fun g3505 => ?_)
                      · replace h := iteT h g3505
                        conv => whnf
                        refine CutK.norm [0, 1, 4, 6, 7] [256, 384] ?_
                        conv => whnf
                        exact LoopOk.back (spec_shSimplest_l0_2_ct  n _ _ _ _ _ _ _ _ _ h) [some 256, some 384] [] ⟨⟨rfl, rfl⟩, ⟨rfl, ⟨rfl, rfl, rfl, trivial⟩, ⟨rfl, rfl, rfl, rfl, rfl, rfl, rfl, rfl, rfl, trivial⟩, trivial⟩, rfl, rfl, ⟨rfl, rfl⟩, ⟨rfl, rfl⟩, rfl, trivial⟩
                      · replace h := iteF h g3505
                        conv => whnf
                        refine CutK.norm [0, 1, 4, 6, 7] [256, 384] ?_
                        conv => whnf
                        exact LoopOk.back (spec_shSimplest_l0_2_ct  n _ _ _ _ _ _ _ _ _ h) [some 256, some 384] [] ⟨⟨rfl, rfl⟩, ⟨rfl, ⟨rfl, rfl, rfl, trivial⟩, ⟨rfl, rfl, rfl, rfl, rfl, rfl, rfl, rfl, rfl, trivial⟩, trivial⟩, rfl, rfl, ⟨rfl, rfl⟩, ⟨rfl, rfl⟩, rfl, trivial⟩
                · replace h := iteN h g3491
                  conv => whnf
                  refine CutK.norm [0, 1, 4, 6, 7, 8, 9] [256, 384] ?_
                  conv => whnf
                  refine splF ?_
                  conv => whnf
                  refine splT ?_
                  conv => whnf
                  refine Pick.no ?_
                  conv => whnf
                  obtain ⟨y3506, e3507, h⟩ := bind_ex h
                  refine CallOk.of (spec_shWalk_step_ct e3507) ?_
                  conv => whnf
                  refine spl (fun g3508 => ?_) (fun g3508 => ?_)
                  · replace h := iteT h g3508
                    conv => whnf
                    refine spl (fun g3509 => ?_) (fun g3509 => ?_)
                    · replace h := iteT h g3509
                      conv => whnf
                      refine CutK.norm [0, 1, 4, 6, 7] [256, 384] ?_
                      conv => whnf
                      exact LoopOk.back (spec_shSimplest_l0_2_ct  n _ _ _ _ _ _ _ _ _ h) [some 256, some 384] [] ⟨⟨rfl, rfl⟩, ⟨rfl, ⟨rfl, rfl, rfl, trivial⟩, ⟨rfl, rfl, rfl, rfl, rfl, rfl, rfl, rfl, rfl, trivial⟩, trivial⟩, rfl, rfl, ⟨rfl, rfl⟩, ⟨rfl, rfl⟩, rfl, trivial⟩
                    · replace h := iteF h g3509
                      conv => whnf
                      refine CutK.norm [0, 1, 4, 6, 7] [256, 384] ?_
                      conv => whnf
                      exact LoopOk.back (spec_shSimplest_l0_2_ct  n _ _ _ _ _ _ _ _ _ h) [some 256, some 384] [] ⟨⟨rfl, rfl⟩, ⟨rfl, ⟨rfl, rfl, rfl, trivial⟩, ⟨rfl, rfl, rfl, rfl, rfl, rfl, rfl, rfl, rfl, trivial⟩, trivial⟩, rfl, rfl, ⟨rfl, rfl⟩, ⟨rfl, rfl⟩, rfl, trivial⟩
                  · replace h := iteF h g3508
                    conv => whnf
                    refine spl (fun g3510 => ?_) (fun g3510 => ?_)
                    · replace h := iteT h g3510
                      conv => whnf
                      refine CutK.norm [0, 1, 4, 6, 7] [256, 384] ?_
                      conv => whnf
                      exact LoopOk.back (spec_shSimplest_l0_2_ct  n _ _ _ _ _ _ _ _ _ h) [some 256, some 384] [] ⟨⟨rfl, rfl⟩, ⟨rfl, ⟨rfl, rfl, rfl, trivial⟩, ⟨rfl, rfl, rfl, rfl, rfl, rfl, rfl, rfl, rfl, trivial⟩, trivial⟩, rfl, rfl, ⟨rfl, rfl⟩, ⟨rfl, rfl⟩, rfl, trivial⟩
                    · replace h := iteF h g3510
                      conv => whnf
                      refine CutK.norm [0, 1, 4, 6, 7] [256, 384] ?_
                      conv => whnf
                      exact LoopOk.back (spec_shSimplest_l0_2_ct  n _ _ _ _ _ _ _ _ _ h) [some 256, some 384] [] ⟨⟨rfl, rfl⟩, ⟨rfl, ⟨rfl, rfl, rfl, trivial⟩, ⟨rfl, rfl, rfl, rfl, rfl, rfl, rfl, rfl, rfl, trivial⟩, trivial⟩, rfl, rfl, ⟨rfl, rfl⟩, ⟨rfl, rfl⟩, rfl, trivial⟩
              · replace h := iteN h g3490
                conv => whnf
                refine CutK.norm [0, 1, 4, 6, 7, 8] [256, 384] ?_
                conv => whnf
                refine splD (fun g3511 => ?_) (fun g3511 => ?_)
                · replace h := iteP h g3511
                  conv => whnf
                  refine Pick.no ?_
                  conv => whnf
                  obtain ⟨y3512, e3513, h⟩ := bind_ex h
                  refine CallOk.of (spec_shNegAll_ct e3513) ?_
                  conv => whnf
                  refine Pick.no ?_
                  conv => whnf
                  refine Take.all (rfl) ?_
                  conv => whnf
                  obtain ⟨y3514, e3515, h⟩ := bind_ex h
                  refine CallOk.of (spec_shMost_ct e3515) ?_
                  conv => whnf
                  refine Pick.no ?_
                  conv => whnf
                  obtain ⟨y3516, e3517, h⟩ := bind_ex h
                  refine CallOk.of (spec_shNeg_ct e3517) ?_
                  conv => whnf
                  refine Pick.no ?_
                  conv => whnf
                  obtain ⟨y3518, e3519, h⟩ := bind_ex h
                  refine CallOk.of (spec_shCmp_ct e3519) ?_
                  conv => whnf
                  refine splD (fun g3520 => ?_) (fun g3520 => ?_)
                  · replace h := iteP h g3520
                    conv => whnf
                    refine CutK.norm [0, 1, 4, 6, 7, 8, 9] [256, 384] ?_
                    conv => whnf
                    refine splF ?_
                    conv => whnf
                    refine splT ?_
                    conv => whnf
                    refine Pick.no ?_
                    conv => whnf
                    obtain ⟨y3521, e3522, h⟩ := bind_ex h
                    refine CallOk.of (spec_shWalk_step_ct e3522) ?_
                    conv => whnf
                    refine spl (fun g3523 => ?_) (fun g3523 => ?_)
                    · replace h := iteT h g3523
                      conv => whnf
                      refine spl (fun g3524 => ?_) (fun g3524 => ?_)
                      · replace h := iteT h g3524
                        conv => whnf
                        refine CutK.norm [0, 1, 4, 6, 7] [256, 384] ?_
                        conv => whnf
                        exact LoopOk.back (spec_shSimplest_l0_2_ct  n _ _ _ _ _ _ _ _ _ h) [some 256, some 384] [] ⟨⟨rfl, rfl⟩, ⟨rfl, ⟨rfl, rfl, rfl, trivial⟩, ⟨rfl, rfl, rfl, rfl, rfl, rfl, rfl, rfl, rfl, trivial⟩, trivial⟩, rfl, rfl, ⟨rfl, rfl⟩, ⟨rfl, rfl⟩, rfl, trivial⟩
                      · replace h := iteF h g3524
                        conv => whnf
                        refine CutK.norm [0, 1, 4, 6, 7] [256, 384] ?_
                        conv => whnf
                        exact LoopOk.back (spec_shSimplest_l0_2_ct  n _ _ _ _ _ _ _ _ _ h) [some 256, some 384] [] ⟨⟨rfl, rfl⟩, ⟨rfl, ⟨rfl, rfl, rfl, trivial⟩, ⟨rfl, rfl, rfl, rfl, rfl, rfl, rfl, rfl, rfl, trivial⟩, trivial⟩, rfl, rfl, ⟨rfl, rfl⟩, ⟨rfl, rfl⟩, rfl, trivial⟩
                    · replace h := iteF h g3523
                      conv => whnf
                      refine spl (fun g3525 => ?_) (fun g3525 => ?_)
                      · replace h := iteT h g3525
                        conv => whnf
                        refine CutK.norm [0, 1, 4, 6, 7] [256, 384] ?_
                        conv => whnf
                        exact LoopOk.back (spec_shSimplest_l0_2_ct  n _ _ _ _ _ _ _ _ _ h) [some 256, some 384] [] ⟨⟨rfl, rfl⟩, ⟨rfl, ⟨rfl, rfl, rfl, trivial⟩, ⟨rfl, rfl, rfl, rfl, rfl, rfl, rfl, rfl, rfl, trivial⟩, trivial⟩, rfl, rfl, ⟨rfl, rfl⟩, ⟨rfl, rfl⟩, rfl, trivial⟩
                      · replace h := iteF h g3525
                        conv => whnf
                        refine CutK.norm [0, 1, 4, 6, 7] [256, 384] ?_
                        conv => whnf
                        exact LoopOk.back (spec_shSimplest_l0_2_ct  n _ _ _ _ _ _ _ _ _ h) [some 256, some 384] [] ⟨⟨rfl, rfl⟩, ⟨rfl, ⟨rfl, rfl, rfl, trivial⟩, ⟨rfl, rfl, rfl, rfl, rfl, rfl, rfl, rfl, rfl, trivial⟩, trivial⟩, rfl, rfl, ⟨rfl, rfl⟩, ⟨rfl, rfl⟩, rfl, trivial⟩
                  · replace h := iteN h g3520
                    conv => whnf
                    refine CutK.norm [0, 1, 4, 6, 7, 8, 9] [256, 384] ?_
                    conv => whnf
                    cases h
                    exact Done.of [] [] rfl rfl ⟨⟨rfl, rfl⟩, ⟨rfl, trivial⟩, ⟨⟨rfl, rfl, trivial⟩, rfl, trivial⟩, trivial⟩
                · replace h := iteN h g3511
                  conv => whnf
                  refine CutK.norm [0, 1, 4, 6, 7, 8, 9] [256, 384] ?_
                  conv => whnf
                  cases h
                  exact Done.of [] [] rfl rfl ⟨⟨rfl, rfl⟩, ⟨rfl, trivial⟩, ⟨⟨rfl, rfl, trivial⟩, rfl, trivial⟩, trivial⟩
            · replace h := iteN h g3485
              conv => whnf
              refine CutK.norm [0, 1, 4, 6, 7, 8] [256, 384] ?_
              conv => whnf
              refine splD (fun g3526 => ?_) (fun g3526 => ?_)
              · replace h := iteP h g3526
                conv => whnf
                refine Pick.no ?_
                conv => whnf
                obtain ⟨y3527, e3528, h⟩ := bind_ex h
                refine CallOk.of (spec_shNegAll_ct e3528) ?_
                conv => whnf
                refine Pick.no ?_
                conv => whnf
                refine Take.all (rfl) ?_
                conv => whnf
                obtain ⟨y3529, e3530, h⟩ := bind_ex h
                refine CallOk.of (spec_shMost_ct e3530) ?_
                conv => whnf
                refine Pick.no ?_
                conv => whnf
                obtain ⟨y3531, e3532, h⟩ := bind_ex h
                refine CallOk.of (spec_shNeg_ct e3532) ?_
                conv => whnf
                refine Pick.no ?_
                conv => whnf
                obtain ⟨y3533, e3534, h⟩ := bind_ex h
                refine CallOk.of (spec_shCmp_ct e3534) ?_
                conv => whnf
                refine splD (fun g3535 => ?_) (fun g3535 => ?_)
                · replace h := iteP h g3535
                  conv => whnf
                  refine CutK.norm [0, 1, 4, 6, 7, 8, 9] [256, 384] ?_
                  conv => whnf
                  refine splF ?_
                  conv => whnf
                  refine splT ?_
                  conv => whnf
                  refine Pick.no ?_
                  conv => whnf
                  obtain ⟨y3536, e3537, h⟩ := bind_ex h
                  refine CallOk.of (spec_shWalk_step_ct e3537) ?_
                  conv => whnf
                  refine spl (fun g3538 => ?_) (fun g3538 => ?_)
                  · replace h := iteT h g3538
                    conv => whnf
                    refine spl (fun g3539 => ?_) (fun g3539 => ?_)
                    · replace h := iteT h g3539
                      conv => whnf
                      refine CutK.norm [0, 1, 4, 6, 7] [256, 384] ?_
                      conv => whnf
                      exact LoopOk.back (spec_shSimplest_l0_2_ct  n _ _ _ _ _ _ _ _ _ h) [some 256, some 384] [] ⟨⟨rfl, rfl⟩, ⟨rfl, ⟨rfl, rfl, rfl, trivial⟩, ⟨rfl, rfl, rfl, rfl, rfl, rfl, rfl, rfl, rfl, trivial⟩, trivial⟩, rfl, rfl, ⟨rfl, rfl⟩, ⟨rfl, rfl⟩, rfl, trivial⟩
                    · replace h := iteF h g3539
                      conv => whnf
                      refine CutK.norm [0, 1, 4, 6, 7] [256, 384] ?_
                      conv => whnf
                      exact LoopOk.back (spec_shSimplest_l0_2_ct  n _ _ _ _ _ _ _ _ _ h) [some 256, some 384] [] ⟨⟨rfl, rfl⟩, ⟨rfl, ⟨rfl, rfl, rfl, trivial⟩, ⟨rfl, rfl, rfl, rfl, rfl, rfl, rfl, rfl, rfl, trivial⟩, trivial⟩, rfl, rfl, ⟨rfl, rfl⟩, ⟨rfl, rfl⟩, rfl, trivial⟩
                  · replace h := iteF h g3538
                    conv => whnf
                    refine spl (fun g3540 => ?_) (fun g3540 => ?_)
                    · replace h := iteT h g3540
                      conv => whnf
                      refine CutK.norm [0, 1, 4, 6, 7] [256, 384] ?_
                      conv => whnf
                      exact LoopOk.back (spec_shSimplest_l0_2_ct  n _ _ _ _ _ _ _ _ _ h) [some 256, some 384] [] ⟨⟨rfl, rfl⟩, ⟨rfl, ⟨rfl, rfl, rfl, trivial⟩, ⟨rfl, rfl, rfl, rfl, rfl, rfl, rfl, rfl, rfl, trivial⟩, trivial⟩, rfl, rfl, ⟨rfl, rfl⟩, ⟨rfl, rfl⟩, rfl, trivial⟩
                    · replace h := iteF h g3540
                      conv => whnf
                      refine CutK.norm [0, 1, 4, 6, 7] [256, 384] ?_
                      conv => whnf
                      exact LoopOk.back (spec_shSimplest_l0_2_ct  n _ _ _ _ _ _ _ _ _ h) [some 256, some 384] [] ⟨⟨rfl, rfl⟩, ⟨rfl, ⟨rfl, rfl, rfl, trivial⟩, ⟨rfl, rfl, rfl, rfl, rfl, rfl, rfl, rfl, rfl, trivial⟩, trivial⟩, rfl, rfl, ⟨rfl, rfl⟩, ⟨rfl, rfl⟩, rfl, trivial⟩
                · replace h := iteN h g3535
                  conv => whnf
                  refine CutK.norm [0, 1, 4, 6, 7, 8, 9] [256, 384] ?_
                  conv => whnf
                  cases h
                  exact Done.of [] [] rfl rfl ⟨⟨rfl, rfl⟩, ⟨rfl, trivial⟩, ⟨⟨rfl, rfl, trivial⟩, rfl, trivial⟩, trivial⟩
              · replace h := iteN h g3526
                conv => whnf
                refine CutK.norm [0, 1, 4, 6, 7, 8, 9] [256, 384] ?_
                conv => whnf
                cases h
                exact Done.of [] [] rfl rfl ⟨⟨rfl, rfl⟩, ⟨rfl, trivial⟩, ⟨⟨rfl, rfl, trivial⟩, rfl, trivial⟩, trivial⟩
          · replace h := iteN h g3484
            conv => whnf
            exact ⟨_, _, [some 256], [], ⟨rfl, h, rfl, rfl⟩, ⟨⟨rfl, rfl⟩, ⟨rfl, ⟨rfl, rfl, rfl, trivial⟩, trivial⟩, ⟨rfl, rfl⟩, trivial⟩⟩
        · replace h := condT h
          refine LoopOk.step ?_
          conv => whnf
          refine splD (fun g3541 => ?_) (fun g3541 => ?_)
          · replace h := iteP h g3541
            conv => whnf
            refine splD (fun g3542 => ?_) (fun g3542 => ?_)
            · replace h := iteP h g3542
              conv => whnf
              refine Pick.no ?_
              conv => whnf
              obtain ⟨y3543, e3544, h⟩ := bind_ex h
              refine CallOk.of (spec_shMost_ct e3544) ?_
              conv => whnf
              refine Pick.no ?_
              conv => whnf
              obtain ⟨y3545, e3546, h⟩ := bind_ex h
              refine CallOk.of (spec_shCmp_ct e3546) ?_
              conv => whnf
              refine splD (fun g3547 => ?_) (fun g3547 => ?_)
              · replace h := iteP h g3547
                conv => whnf
                refine CutK.norm [0, 1, 4, 6, 7, 8] [256, 384] ?_
                conv => whnf
                refine splD (fun g3548 => ?_) (fun g3548 => ?_)
                · replace h := iteP h g3548
                  conv => whnf
                  refine Pick.no ?_
                  conv => whnf
                  obtain ⟨y3549, e3550, h⟩ := bind_ex h
                  refine CallOk.of (spec_shNegAll_ct e3550) ?_
                  conv => whnf
                  refine Pick.no ?_
                  conv => whnf
                  refine Take.all (rfl) ?_
                  conv => whnf
                  obtain ⟨y3551, e3552, h⟩ := bind_ex h
                  refine CallOk.of (spec_shMost_ct e3552) ?_
                  conv => whnf
                  refine Pick.no ?_
                  conv => whnf
                  obtain ⟨y3553, e3554, h⟩ := bind_ex h
                  refine CallOk.of (spec_shNeg_ct e3554) ?_
                  conv => whnf
                  refine Pick.no ?_
                  conv => whnf
                  obtain ⟨y3555, e3556, h⟩ := bind_ex h
                  refine CallOk.of (spec_shCmp_ct e3556) ?_
                  conv => whnf
                  refine splD (fun g3557 => ?_) (fun g3557 => ?_)
                  · replace h := iteP h g3557
                    conv => whnf
                    refine CutK.norm [0, 1, 4, 6, 7, 8, 9] [256, 384] ?_
                    conv => whnf
                    cases h
                    exact Done.of [] [] rfl rfl ⟨⟨rfl, rfl⟩, ⟨rfl, trivial⟩, ⟨⟨rfl, rfl, trivial⟩, rfl, trivial⟩, trivial⟩
                  · replace h := iteN h g3557
                    conv => whnf
                    refine CutK.norm [0, 1, 4, 6, 7, 8, 9] [256, 384] ?_
                    conv => whnf
                    refine splT ?_
                    conv => whnf
                    refine splT ?_
                    conv => whnf
                    refine Pick.no ?_
                    conv => whnf
                    obtain ⟨y3558, e3559, h⟩ := bind_ex h
                    refine CallOk.of (spec_shWalk_step_ct e3559) ?_
                    conv => whnf
                    refine spl (fun g3560 => ?_) (fun g3560 => ?_)
                    · replace h := iteT h g3560
                      conv => whnf
                      refine spl (fun g3561 => ?_) (fun g3561 => ?_)
                      · replace h := iteT h g3561
                        conv => whnf
                        refine CutK.norm [0, 1, 4, 6, 7] [256, 384] ?_
                        conv => whnf
                        exact LoopOk.back (spec_shSimplest_l0_2_ct  n _ _ _ _ _ _ _ _ _ h) [some 256, some 384] [] ⟨⟨rfl, rfl⟩, ⟨rfl, ⟨rfl, rfl, rfl, trivial⟩, ⟨rfl, rfl, rfl, rfl, rfl, rfl, rfl, rfl, rfl, trivial⟩, trivial⟩, rfl, rfl, ⟨rfl, rfl⟩, ⟨rfl, rfl⟩, rfl, trivial⟩
                      · replace h := iteF h g3561
                        conv => whnf
                        refine CutK.norm [0, 1, 4, 6, 7] [256, 384] ?_
                        conv => whnf
                        exact LoopOk.back (spec_shSimplest_l0_2_ct  n _ _ _ _ _ _ _ _ _ h) [some 256, some 384] [] ⟨⟨rfl, rfl⟩, ⟨rfl, ⟨rfl, rfl, rfl, trivial⟩, ⟨rfl, rfl, rfl, rfl, rfl, rfl, rfl, rfl, rfl, trivial⟩, trivial⟩, rfl, rfl, ⟨rfl, rfl⟩, ⟨rfl, rfl⟩, rfl, trivial⟩
                    · replace h := iteF h g3560
                      conv => whnf
                      refine spl (fun g3562 => ?_) (fun g3562 => ?_)
                      · replace h := iteT h g3562
                        conv => whnf
                        refine CutK.norm [0, 1, 4, 6, 7] [256, 384] ?_
                        conv => whnf
                        exact LoopOk.back (spec_shSimplest_l0_2_ct  n _ _ _ _ _ _ _ _ _ h) [some 256, some 384] [] ⟨⟨rfl, rfl⟩, ⟨rfl, ⟨rfl, rfl, rfl, trivial⟩, ⟨rfl, rfl, rfl, rfl, rfl, rfl, rfl, rfl, rfl, trivial⟩, trivial⟩, rfl, rfl, ⟨rfl, rfl⟩, ⟨rfl, rfl⟩, rfl, trivial⟩
                      · replace h := iteF h g3562
                        conv => whnf
                        refine CutK.norm [0, 1, 4, 6, 7] [256, 384] ?_
                        conv => whnf
                        exact LoopOk.back (spec_shSimplest_l0_2_ct  n _ _ _ _ _ _ _ _ _ h) [some 256, some 384] [] ⟨⟨rfl, rfl⟩, ⟨rfl, ⟨rfl, rfl, rfl, trivial⟩, ⟨rfl, rfl, rfl, rfl, rfl, rfl, rfl, rfl, rfl, trivial⟩, trivial⟩, rfl, rfl, ⟨rfl, rfl⟩, ⟨rfl, rfl⟩, rfl, trivial⟩
                · replace h := iteN h g3548
                  conv => whnf
                  refine CutK.norm [0, 1, 4, 6, 7, 8, 9] [256, 384] ?_
                  conv => whnf
                  refine splT ?_
                  conv => whnf
                  refine splT ?_
                  conv => whnf
                  refine Pick.no ?_
                  conv => whnf
                  obtain ⟨y3563, e3564, h⟩ := bind_ex h
                  refine CallOk.of (spec_shWalk_step_ct e3564) ?_
                  conv => whnf
                  refine spl (fun g3565 => ?_) (fun g3565 => ?_)
                  · replace h := iteT h g3565
                    conv => whnf
                    refine spl (fun g3566 => ?_) (fun g3566 => ?_)
                    · replace h := iteT h g3566
                      conv => whnf
                      refine CutK.norm [0, 1, 4, 6, 7] [256, 384] ?_
                      conv => whnf
                      exact LoopOk.back (spec_shSimplest_l0_2_ct  n _ _ _ _ _ _ _ _ _ h) [some 256, some 384] [] ⟨⟨rfl, rfl⟩, ⟨rfl, ⟨rfl, rfl, rfl, trivial⟩, ⟨rfl, rfl, rfl, rfl, rfl, rfl, rfl, rfl, rfl, trivial⟩, trivial⟩, rfl, rfl, ⟨rfl, rfl⟩, ⟨rfl, rfl⟩, rfl, trivial⟩
                    · replace h := iteF h g3566
                      conv => whnf
                      refine CutK.norm [0, 1, 4, 6, 7] [256, 384] ?_
                      conv => whnf
                      exact LoopOk.back (spec_shSimplest_l0_2_ct  n _ _ _ _ _ _ _ _ _ h) [some 256, some 384] [] ⟨⟨rfl, rfl⟩, ⟨rfl, ⟨rfl, rfl, rfl, trivial⟩, ⟨rfl, rfl, rfl, rfl, rfl, rfl, rfl, rfl, rfl, trivial⟩, trivial⟩, rfl, rfl, ⟨rfl, rfl⟩, ⟨rfl, rfl⟩, rfl, trivial⟩
                  · replace h := iteF h g3565
                    conv => whnf
                    refine spl (fun g3567 => ?_) (fun g3567 => ?_)
                    · replace h := iteT h g3567
                      conv => whnf
                      refine CutK.norm [0, 1, 4, 6, 7] [256, 384] ?_
                      conv => whnf
                      exact LoopOk.back (spec_shSimplest_l0_2_ct  n _ _ _ _ _ _ _ _ _ h) [some 256, some 384] [] ⟨⟨rfl, rfl⟩, ⟨rfl, ⟨rfl, rfl, rfl, trivial⟩, ⟨rfl, rfl, rfl, rfl, rfl, rfl, rfl, rfl, rfl, trivial⟩, trivial⟩, rfl, rfl, ⟨rfl, rfl⟩, ⟨rfl, rfl⟩, rfl, trivial⟩
                    · replace h := iteF h g3567
                      conv => whnf
                      refine CutK.norm [0, 1, 4, 6, 7] [256, 384] ?_
                      conv => whnf
                      exact LoopOk.back (spec_shSimplest_l0_2_ct  n _ _ _ _ _ _ _ _ _ h) [some 256, some 384] [] ⟨⟨rfl, rfl⟩, ⟨rfl, ⟨rfl, rfl, rfl, trivial⟩, ⟨rfl, rfl, rfl, rfl, rfl, rfl, rfl, rfl, rfl, trivial⟩, trivial⟩, rfl, rfl, ⟨rfl, rfl⟩, ⟨rfl, rfl⟩, rfl, trivial⟩
              · replace h := iteN h g3547
                conv => whnf
                refine CutK.norm [0, 1, 4, 6, 7, 8] [256, 384] ?_
                conv => whnf
                refine splD (fun g3568 => ?_) (fun g3568 => ?_)
                · replace h := iteP h g3568
                  conv => whnf
                  refine Pick.no ?_
                  conv => whnf
                  obtain ⟨y3569, e3570, h⟩ := bind_ex h
                  refine CallOk.of (spec_shNegAll_ct e3570) ?_
                  conv => whnf
                  refine Pick.no ?_
                  conv => whnf
                  refine Take.all (rfl) ?_
                  conv => whnf
                  obtain ⟨y3571, e3572, h⟩ := bind_ex h
                  refine CallOk.of (spec_shMost_ct e3572) ?_
                  conv => whnf
                  refine Pick.no ?_
                  conv => whnf
                  obtain ⟨y3573, e3574, h⟩ := bind_ex h
                  refine CallOk.of (spec_shNeg_ct e3574) ?_
                  conv => whnf
                  refine Pick.no ?_
                  conv => whnf
                  obtain ⟨y3575, e3576, h⟩ := bind_ex h
                  refine CallOk.of (spec_shCmp_ct e3576) ?_
                  conv => whnf
                  refine splD (fun g3577 => ?_) (fun g3577 => ?_)
                  · replace h := iteP h g3577
                    conv => whnf
                    refine CutK.norm [0, 1, 4, 6, 7, 8, 9] [256, 384] ?_
                    conv => whnf
                    refine splT ?_
                    conv => whnf
                    refine splT ?_
                    conv => whnf
                    refine Pick.no ?_
                    conv => whnf
                    obtain ⟨y3578, e3579, h⟩ := bind_ex h
                    refine CallOk.of (spec_shWalk_step_ct e3579) ?_
                    conv => whnf
                    refine spl (fun g3580 => ?_) (fun g3580 => ?_)
                    · replace h := iteT h g3580
                      conv => whnf
                      refine spl (fun g3581 => ?_) (fun g3581 => ?_)
                      · replace h := iteT h g3581
                        conv => whnf
                        refine CutK.norm [0, 1, 4, 6, 7] [256, 384] ?_
                        conv => whnf
                        exact LoopOk.back (spec_shSimplest_l0_2_ct  n _ _ _ _ _ _ _ _ _ h) [some 256, some 384] [] ⟨⟨rfl, rfl⟩, ⟨rfl, ⟨rfl, rfl, rfl, trivial⟩, ⟨rfl, rfl, rfl, rfl, rfl, rfl, rfl, rfl, rfl, trivial⟩, trivial⟩, rfl, rfl, ⟨rfl, rfl⟩, ⟨rfl, rfl⟩, rfl, trivial⟩
                      · replace h := iteF h g3581
                        conv => whnf
                        refine CutK.norm [0, 1, 4, 6, 7] [256, 384] ?_
                        conv => whnf
                        exact LoopOk.back (spec_shSimplest_l0_2_ct  n _ _ _ _ _ _ _ _ _ h) [some 256, some 384] [] ⟨⟨rfl, rfl⟩, ⟨rfl, ⟨rfl, rfl, rfl, trivial⟩, ⟨rfl, rfl, rfl, rfl, rfl, rfl, rfl, rfl, rfl, trivial⟩, trivial⟩, rfl, rfl, ⟨rfl, rfl⟩, ⟨rfl, rfl⟩, rfl, trivial⟩
                    · replace h := iteF h g3580
                      conv => whnf
                      refine spl (fun g3582 => ?_) (fun g3582 => ?_)
                      · replace h := iteT h g3582
                        conv => whnf
                        refine CutK.norm [0, 1, 4, 6, 7] [256, 384] ?_
                        conv => whnf
                        exact LoopOk.back (spec_shSimplest_l0_2_ct  n _ _ _ _ _ _ _ _ _ h) [some 256, some 384] [] ⟨⟨rfl, rfl⟩, ⟨rfl, ⟨rfl, rfl, rfl, trivial⟩, ⟨rfl, rfl, rfl, rfl, rfl, rfl, rfl, rfl, rfl, trivial⟩, trivial⟩, rfl, rfl, ⟨rfl, rfl⟩, ⟨rfl, rfl⟩, rfl, trivial⟩
                      · replace h := iteF h g3582
                        conv => whnf
                        refine CutK.norm [0, 1, 4, 6, 7] [256, 384] ?_
                        conv => whnf
                        exact LoopOk.back (spec_shSimplest_l0_2_ct  n _ _ _ _ _ _ _ _ _ h) [some 256, some 384] [] ⟨⟨rfl, rfl⟩, ⟨rfl, ⟨rfl, rfl, rfl, trivial⟩, ⟨rfl, rfl, rfl, rfl, rfl, rfl, rfl, rfl, rfl, trivial⟩, trivial⟩, rfl, rfl, ⟨rfl, rfl⟩, ⟨rfl, rfl⟩, rfl, trivial⟩
                  · replace h := iteN h g3577
                    conv => whnf
                    refine CutK.norm [0, 1, 4, 6, 7, 8, 9] [256, 384] ?_
                    conv => whnf
                    cases h
                    exact Done.of [] [] rfl rfl ⟨⟨rfl, rfl⟩, ⟨rfl, trivial⟩, ⟨⟨rfl, rfl, trivial⟩, rfl, trivial⟩, trivial⟩
                · replace h := iteN h g3568
                  conv => whnf
                  refine CutK.norm [0, 1, 4, 6, 7, 8, 9] [256, 384] ?_
                  conv => whnf
                  cases h
                  exact Done.of [] [] rfl rfl ⟨⟨rfl, rfl⟩, ⟨rfl, trivial⟩, ⟨⟨rfl, rfl, trivial⟩, rfl, trivial⟩, trivial⟩
            · replace h := iteN h g3542
              conv => whnf
              refine CutK.norm [0, 1, 4, 6, 7, 8] [256, 384] ?_
              conv => whnf
              refine splD (fun g3583 => ?_) (fun g3583 => ?_)
              · replace h := iteP h g3583
                conv => whnf
                refine Pick.no ?_
                conv => whnf
                obtain ⟨y3584, e3585, h⟩ := bind_ex h
                refine CallOk.of (spec_shNegAll_ct e3585) ?_
                conv => whnf
                refine Pick.no ?_
                conv => whnf
                refine Take.all (rfl) ?_
                conv => whnf
                obtain ⟨y3586, e3587, h⟩ := bind_ex h
                refine CallOk.of (spec_shMost_ct e3587) ?_
                conv => whnf
                refine Pick.no ?_
                conv => whnf
                obtain ⟨y3588, e3589, h⟩ := bind_ex h
                refine CallOk.of (spec_shNeg_ct e3589) ?_
                conv => whnf
                refine Pick.no ?_
                conv => whnf
                obtain ⟨y3590, e3591, h⟩ := bind_ex h
                refine CallOk.of (spec_shCmp_ct e3591) ?_
                conv => whnf
                refine splD (fun g3592 => ?_) (fun g3592 => ?_)
                · replace h := iteP h g3592
                  conv => whnf
                  refine CutK.norm [0, 1, 4, 6, 7, 8, 9] [256, 384] ?_
                  conv => whnf
                  refine splT ?_
                  conv => whnf
                  refine splT ?_
                  conv => whnf
                  refine Pick.no ?_
                  conv => whnf
                  obtain ⟨y3593, e3594, h⟩ := bind_ex h
                  refine CallOk.of (spec_shWalk_step_ct e3594) ?_
                  conv => whnf
                  refine spl (fun g3595 => ?_) (fun g3595 => ?_)
                  · replace h := iteT h g3595
                    conv => whnf
                    refine spl (fun g3596 => ?_) (fun g3596 => ?_)
                    · replace h := iteT h g3596
                      conv => whnf
                      refine CutK.norm [0, 1, 4, 6, 7] [256, 384] ?_
                      conv => whnf
                      exact LoopOk.back (spec_shSimplest_l0_2_ct  n _ _ _ _ _ _ _ _ _ h) [some 256, some 384] [] ⟨⟨rfl, rfl⟩, ⟨rfl, ⟨rfl, rfl, rfl, trivial⟩, ⟨rfl, rfl, rfl, rfl, rfl, rfl, rfl, rfl, rfl, trivial⟩, trivial⟩, rfl, rfl, ⟨rfl, rfl⟩, ⟨rfl, rfl⟩, rfl, trivial⟩
                    · replace h := iteF h g3596
                      conv => whnf
                      refine CutK.norm [0, 1, 4, 6, 7] [256, 384] ?_
                      conv => whnf
                      exact LoopOk.back (spec_shSimplest_l0_2_ct  n _ _ _ _ _ _ _ _ _ h) [some 256, some 384] [] ⟨⟨rfl, rfl⟩, ⟨rfl, ⟨rfl, rfl, rfl, trivial⟩, ⟨rfl, rfl, rfl, rfl, rfl, rfl, rfl, rfl, rfl, trivial⟩, trivial⟩, rfl, rfl, ⟨rfl, rfl⟩, ⟨rfl, rfl⟩, rfl, trivial⟩
                  · replace h := iteF h g3595
                    conv => whnf
                    refine spl (fun g3597 => ?_) (fun g3597 => ?_)
                    · replace h := iteT h g3597
                      conv => whnf
                      refine CutK.norm [0, 1, 4, 6, 7] [256, 384] ?_
                      conv => whnf
                      exact LoopOk.back (spec_shSimplest_l0_2_ct  n _ _ _ _ _ _ _ _ _ h) [some 256, some 384] [] ⟨⟨rfl, rfl⟩, ⟨rfl, ⟨rfl, rfl, rfl, trivial⟩, ⟨rfl, rfl, rfl, rfl, rfl, rfl, rfl, rfl, rfl, trivial⟩, trivial⟩, rfl, rfl, ⟨rfl, rfl⟩, ⟨rfl, rfl⟩, rfl, trivial⟩
                    · replace h := iteF h g3597
                      conv => whnf
                      refine CutK.norm [0, 1, 4, 6, 7] [256, 384] ?_
                      conv => whnf
                      exact LoopOk.back (spec_shSimplest_l0_2_ct  n _ _ _ _ _ _ _ _ _ h) [some 256, some 384] [] ⟨⟨rfl, rfl⟩, ⟨rfl, ⟨rfl, rfl, rfl, trivial⟩, ⟨rfl, rfl, rfl, rfl, rfl, rfl, rfl, rfl, rfl, trivial⟩, trivial⟩, rfl, rfl, ⟨rfl, rfl⟩, ⟨rfl, rfl⟩, rfl, trivial⟩
                · replace h := iteN h g3592
                  conv => whnf
                  refine CutK.norm [0, 1, 4, 6, 7, 8, 9] [256, 384] ?_
                  conv => whnf
                  cases h
                  exact Done.of [] [] rfl rfl ⟨⟨rfl, rfl⟩, ⟨rfl, trivial⟩, ⟨⟨rfl, rfl, trivial⟩, rfl, trivial⟩, trivial⟩
              · replace h := iteN h g3583
                conv => whnf
                refine CutK.norm [0, 1, 4, 6, 7, 8, 9] [256, 384] ?_
                conv => whnf
                cases h
                exact Done.of [] [] rfl rfl ⟨⟨rfl, rfl⟩, ⟨rfl, trivial⟩, ⟨⟨rfl, rfl, trivial⟩, rfl, trivial⟩, trivial⟩
          · replace h := iteN h g3541
            conv => whnf
            exact ⟨_, _, [some 256], [], ⟨rfl, h, rfl, rfl⟩, ⟨⟨rfl, rfl⟩, ⟨rfl, ⟨rfl, rfl, rfl, trivial⟩, trivial⟩, ⟨rfl, rfl⟩, trivial⟩⟩
end
end Go.Proofs.Try
