/- Printed by program (axgen): pure functions, and that the Go functions compute them. -/
import Derived.Test.YtbjompalpjeikaaEQ0
set_option linter.unusedVariables false
set_option linter.unusedSimpArgs false
namespace Go.Proofs.Try
open Go Go.AX
noncomputable section
def spec_suCmp_p3 (o57 : Int) : Option Int :=
  some o57
set_option maxHeartbeats 4000000 in
set_option maxRecDepth 100000 in
theorem spec_suCmp_p3_ct {o57 : Int} {r : Int} (h : spec_suCmp_p3 o57 = some r) : X prog 0 (tlF f168 3) (mk 71 [(4, .d (D.int .i64 o57))] []) (finK prog f168 0 (.d (D.int .i64 r)) (⟨[], []⟩)) := by
  rw [spec_suCmp_p3] at h
  conv => whnf
  cases h
  exact Done.of [] [] rfl rfl ⟨⟨rfl, rfl⟩, ⟨rfl, trivial⟩, rfl, trivial⟩
def spec_suCmp_p2 (a1 : Rw) (a2 : Rw) : Option Int :=
  (if 0 ≤ (a1.length : Int) ∧ (a1.length : Int) ≤ (a2.length : Int) ∧ (∀ cs ∈ a2, cs.length = 3) then ((spec_suSign (a2.drop ((a1.length : Int) : Int).toNat)).bind fun y59 => (spec_suCmp_p3 (IntKind.i64.wrap (0 - y59)))) else none)
set_option maxHeartbeats 4000000 in
set_option maxRecDepth 100000 in
theorem spec_suCmp_p2_ct {a1 : Rw} {a2 : Rw} {r : Int} (h : spec_suCmp_p2 a1 a2 = some r) : X prog 0 (tlF f168 2) (mk 71 [(2, .ptr 128 0), (3, .ptr 192 0)] [(128, .box 28 [.d (D.sl a1)]), (192, .box 28 [.d (D.sl a2)])]) (finK prog f168 0 (.d (D.int .i64 r)) (⟨[], []⟩)) := by
  rw [spec_suCmp_p2] at h
  conv => whnf
  obtain ⟨g58, h⟩ := req_ex h
  refine Req.of g58 ?_
  conv => whnf
  refine Pick.no ?_
  conv => whnf
  obtain ⟨y59, e60, h⟩ := bind_ex h
  refine CallOk.of (spec_suSign_ct e60) ?_
  conv => whnf
  exact CutK.piece (spec_suCmp_p3_ct  h) [] [] ⟨⟨rfl, rfl⟩, ⟨rfl, trivial⟩, rfl, trivial⟩
def spec_suCmp_l0 (rec_spec_suCmp : Rw → Rw → Option Int) (a1 : Rw) (a2 : Rw) (K0 : Option Int) : Rw → Nat → Option Int
  | [], v86n => (K0)
  | cs :: rest, v86n => (cell_sii cs fun x112 x113 x114 => (if (v86n : Int) = (a2.length : Int) then ((spec_l1Sign x113).bind fun y117 => some y117) else (row_sii a2 (v86n : Int) fun x119 x120 x121 => ((rec_spec_suCmp x112 x119).bind fun y124 => (if (0 : Int) < y124 then ((spec_l1Sign x113).bind fun y127 => some y127) else (if y124 < (0 : Int) then ((spec_l1Sign x120).bind fun y130 => some (IntKind.i64.wrap (0 - y130))) else (if (!(decide (x113 = x120) && (decide (x114 = x121) && true))) = true then ((spec_shCmp x113 x114 x120 x121).bind fun y133 => some y133) else (spec_suCmp_l0 rec_spec_suCmp a1 a2 K0 rest (v86n + 1)))))))))
set_option maxRecDepth 100000 in
theorem spec_suCmp_l0_ct {rec_spec_suCmp : Rw → Rw → Option Int} {a1 : Rw} {a2 : Rw} {K0 : Option Int} (hrec_spec_suCmp : ∀ (a1 : Rw) (a2 : Rw) (r : Int), rec_spec_suCmp a1 a2 = some r → Ct prog 168 [.agg [.d (D.sl a1)], .agg [.d (D.sl a2)]] (⟨[], []⟩) (.d (D.int .i64 r)) (⟨[], []⟩)) {r : Int} (hx : a1.length ≤ cap) : ∀ (rest : Rw) (v86n : Nat), a1.drop v86n = rest → spec_suCmp_l0 rec_spec_suCmp a1 a2 K0 rest v86n = some r → LoopOk prog 0 (lp f168 0) (mk 71 [(2, .ptr 128 0), (3, .ptr 192 0), (10, .d (D.sl a1)), (11, .d (D.int .i64 (a1.length : Int))), (12, .d (D.int .i64 (v86n : Int)))] [(128, .box 28 [.d (D.sl a1)]), (192, .box 28 [.d (D.sl a2)])]) (LoopEnd prog f168 0 71 (.d (D.int .i64 r)) (⟨[], []⟩) (fun i ts os => (i = 0 ∧ K0 = some r ∧ ts = [(2, .ptr 128 0), (3, .ptr 192 0)] ∧ os = [(128, .box 28 [.d (D.sl a1)]), (192, .box 28 [.d (D.sl a2)])])))
  | [], v86n, hd, h => by
      rw [spec_suCmp_l0] at h
      have hn := drop_nil hd
      refine LoopOk.step ?_
      conv => whnf
      refine splD (fun g => absurd g hn) (fun _ => ?_)
      conv => whnf
      exact ⟨_, _, [some 128, some 192], [], ⟨rfl, h, rfl, rfl⟩, ⟨⟨rfl, rfl⟩, ⟨rfl, ⟨rfl, rfl, trivial⟩, ⟨rfl, rfl, trivial⟩, trivial⟩, ⟨rfl, rfl⟩, ⟨rfl, rfl⟩, trivial⟩⟩
  | cs :: rest, v86n, hd, h => by
      rw [spec_suCmp_l0] at h
      obtain ⟨hrow, hd1, hlt⟩ := drop_cons hd
      refine LoopOk.step ?_
      conv => whnf
      refine splD (fun _ => ?_) (fun g => absurd hlt g)
      conv => whnf
      obtain ⟨x112, x113, x114, e115, h⟩ := cell_sii_ex h
      rw [e115] at hrow
      refine Req.of (Int.natCast_nonneg _) ?_
      refine Row.of _ hrow ?_
      conv => whnf
      refine splD (fun g116 => ?_) (fun g116 => ?_)
      · replace h := iteP h g116
        conv => whnf
        refine Pick.no ?_
        conv => whnf
        obtain ⟨y117, e118, h⟩ := bind_ex h
        refine CallOk.of (spec_l1Sign_ct e118) ?_
        conv => whnf
        refine CutK.norm [4] [] ?_
        conv => whnf
        cases h
        exact Done.of [] [] rfl rfl ⟨⟨rfl, rfl⟩, ⟨rfl, trivial⟩, rfl, trivial⟩
      · replace h := iteN h g116
        conv => whnf
        refine CutK.norm [2, 3, 5, 6, 10, 11, 12] [128, 192, 384] ?_
        conv => whnf
        obtain ⟨g123, x119, x120, x121, e122, h⟩ := row_sii_ex h
        refine Req.of g123 ?_
        refine Row.of _ e122 ?_
        conv => whnf
        refine Pick.no ?_
        conv => whnf
        obtain ⟨y124, e125, h⟩ := bind_ex h
        refine CallOk.of (hrec_spec_suCmp _ _ _ e125) ?_
        conv => whnf
        refine CutK.norm [2, 3, 6, 7, 8, 10, 11, 12] [128, 192, 384, 448] ?_
        conv => whnf
        refine splD (fun g126 => ?_) (fun g126 => ?_)
        · replace h := iteP h g126
          conv => whnf
          refine Pick.no ?_
          conv => whnf
          obtain ⟨y127, e128, h⟩ := bind_ex h
          refine CallOk.of (spec_l1Sign_ct e128) ?_
          conv => whnf
          refine CutK.norm [4] [] ?_
          conv => whnf
          cases h
          exact Done.of [] [] rfl rfl ⟨⟨rfl, rfl⟩, ⟨rfl, trivial⟩, rfl, trivial⟩
        · replace h := iteN h g126
          conv => whnf
          refine splD (fun g129 => ?_) (fun g129 => ?_)
          · replace h := iteP h g129
            conv => whnf
            refine Pick.no ?_
            conv => whnf
            obtain ⟨y130, e131, h⟩ := bind_ex h
            refine CallOk.of (spec_l1Sign_ct e131) ?_
            conv => whnf
            refine CutK.norm [4] [] ?_
            conv => whnf
            cases h
            exact Done.of [] [] rfl rfl ⟨⟨rfl, rfl⟩, ⟨rfl, trivial⟩, rfl, trivial⟩
          · replace h := iteN h g129
            conv => whnf
            refine Req.of ⟨by kernel_rfl, by kernel_rfl⟩ ?_
            conv => whnf
            refine spl (fun g132 => ?_) (fun g132 => ?_)
            · replace h := iteT h g132
              conv => whnf
              refine Pick.no ?_
              conv => whnf
              obtain ⟨y133, e134, h⟩ := bind_ex h
              refine CallOk.of (spec_shCmp_ct e134) ?_
              conv => whnf
              refine CutK.norm [4] [] ?_
              conv => whnf
              cases h
              exact Done.of [] [] rfl rfl ⟨⟨rfl, rfl⟩, ⟨rfl, trivial⟩, rfl, trivial⟩
            · replace h := iteF h g132
              conv => whnf
              refine CutK.norm [2, 3, 10, 11, 12] [128, 192] ?_
              conv => whnf
              exact LoopOk.back (spec_suCmp_l0_ct hrec_spec_suCmp hx rest (v86n + 1)  hd1 h) [some 128, some 192] [] ⟨⟨rfl, rfl⟩, ⟨rfl, ⟨rfl, rfl, trivial⟩, ⟨rfl, rfl, trivial⟩, trivial⟩, ⟨rfl, rfl⟩, ⟨rfl, rfl⟩, rfl, rfl, i64eq (wrap_up hlt hx), trivial⟩
def spec_suCmp_b (rec_spec_suCmp : Rw → Rw → Option Int) (a1 : Rw) (a2 : Rw) : Option Int :=
  (if a1.length ≤ cap then (spec_suCmp_l0 rec_spec_suCmp a1 a2 (spec_suCmp_p2 a1 a2) a1 0) else none)
set_option maxHeartbeats 4000000 in
set_option maxRecDepth 100000 in
theorem spec_suCmp_b_ct {rec_spec_suCmp : Rw → Rw → Option Int} (hrec_spec_suCmp : ∀ (a1 : Rw) (a2 : Rw) (r : Int), rec_spec_suCmp a1 a2 = some r → Ct prog 168 [.agg [.d (D.sl a1)], .agg [.d (D.sl a2)]] (⟨[], []⟩) (.d (D.int .i64 r)) (⟨[], []⟩)) {a1 : Rw} {a2 : Rw} {r : Int} (h : spec_suCmp_b rec_spec_suCmp a1 a2 = some r) : Ct prog 168 [.agg [.d (D.sl a1)], .agg [.d (D.sl a2)]] (⟨[], []⟩) (.d (D.int .i64 r)) (⟨[], []⟩) := by
  rw [spec_suCmp_b] at h
  refine Ct.of (c := _) mixed func168 ⟨rfl, rfl, rfl⟩ ?_ rfl
  conv => whnf
  obtain ⟨g135, h⟩ := req_ex h
  refine LoopOk.into (spec_suCmp_l0_ct hrec_spec_suCmp g135 _ _  rfl h) [some 128, some 192] [] ⟨⟨rfl, rfl⟩, ⟨rfl, ⟨rfl, rfl, trivial⟩, ⟨rfl, rfl, trivial⟩, trivial⟩, ⟨rfl, rfl⟩, ⟨rfl, rfl⟩, rfl, rfl, rfl, trivial⟩ ?_ (fun _ hs => hs)
  rintro i ts os ⟨rfl, h, rfl, rfl⟩
  conv => whnf
  exact CutK.piece (spec_suCmp_p2_ct  h) [some 128, some 192] [] ⟨⟨rfl, rfl⟩, ⟨rfl, ⟨rfl, rfl, trivial⟩, ⟨rfl, rfl, trivial⟩, trivial⟩, ⟨rfl, rfl⟩, ⟨rfl, rfl⟩, trivial⟩
def spec_suCmp : Nat → Rw → Rw → Option Int
  | 0, _, _ => none
  | k + 1, a1, a2 => spec_suCmp_b (spec_suCmp k) a1 a2
theorem spec_suCmp_ct' : ∀ (k : Nat) (a1 : Rw) (a2 : Rw) (r : Int), spec_suCmp k a1 a2 = some r → Ct prog 168 [.agg [.d (D.sl a1)], .agg [.d (D.sl a2)]] (⟨[], []⟩) (.d (D.int .i64 r)) (⟨[], []⟩)
  | 0, _, _, _, h => by rw [spec_suCmp] at h; cases h
  | k + 1, _, _, _, h => by rw [spec_suCmp] at h; exact spec_suCmp_b_ct (spec_suCmp_ct' k) h
theorem spec_suCmp_ct {k : Nat} {a1 : Rw} {a2 : Rw} {r : Int} (h : spec_suCmp k a1 a2 = some r) : Ct prog 168 [.agg [.d (D.sl a1)], .agg [.d (D.sl a2)]] (⟨[], []⟩) (.d (D.int .i64 r)) (⟨[], []⟩) := spec_suCmp_ct' k _ _ _ h

def spec_l1Most  (a1 : Int) (a2 : Int) : Option Int :=
  (if a2 < a1 then some a1 else some a2)
set_option maxHeartbeats 4000000 in
set_option maxRecDepth 100000 in
theorem spec_l1Most_ct  {a1 : Int} {a2 : Int} {r : Int} (h : spec_l1Most a1 a2 = some r) : Ct prog 195 [.d (D.int .i64 a1), .d (D.int .i64 a2)] (⟨[], []⟩) (.d (D.int .i64 r)) (⟨[], []⟩) := by
  rw [spec_l1Most] at h
  refine Ct.of (c := _) mixed func195 ⟨rfl, rfl, rfl⟩ ?_ rfl
  conv => whnf
  refine splD (fun g3 => ?_) (fun g3 => ?_)
  · replace h := iteP h g3
    conv => whnf
    cases h
    exact Done.of [] [] rfl rfl ⟨⟨rfl, rfl⟩, ⟨rfl, trivial⟩, rfl, trivial⟩
  · replace h := iteN h g3
    conv => whnf
    cases h
    exact Done.of [] [] rfl rfl ⟨⟨rfl, rfl⟩, ⟨rfl, trivial⟩, rfl, trivial⟩

def spec_l1Abs  (a1 : Int) : Option Int :=
  ((spec_l1Most a1 (IntKind.i64.wrap (0 - a1))).bind fun y2 => some y2)
set_option maxHeartbeats 4000000 in
set_option maxRecDepth 100000 in
theorem spec_l1Abs_ct  {a1 : Int} {r : Int} (h : spec_l1Abs a1 = some r) : Ct prog 194 [.d (D.int .i64 a1)] (⟨[], []⟩) (.d (D.int .i64 r)) (⟨[], []⟩) := by
  rw [spec_l1Abs] at h
  refine Ct.of (c := _) mixed func194 ⟨rfl, rfl, rfl⟩ ?_ rfl
  conv => whnf
  refine Pick.no ?_
  conv => whnf
  obtain ⟨y2, e3, h⟩ := bind_ex h
  refine CallOk.of (spec_l1Most_ct e3) ?_
  conv => whnf
  refine CutK.go ?_
  conv => whnf
  cases h
  exact Done.of [] [] rfl rfl ⟨⟨rfl, rfl⟩, ⟨rfl, trivial⟩, rfl, trivial⟩

def spec_shGcd_l0 (K0 : Int → Option Int) : Nat → Int → Int → Option Int
  | 0, _, _ => none
  | n + 1, v5, v6 => (if v6 = (0 : Int) then (K0 v5) else (if v6 ≠ 0 then (spec_shGcd_l0 K0 n v6 (v5.tmod v6)) else none))
set_option maxRecDepth 100000 in
theorem spec_shGcd_l0_ct {K0 : Int → Option Int} {r : Int} : ∀ (n : Nat) (v5 : Int) (v6 : Int), spec_shGcd_l0 K0 n v5 v6 = some r → LoopOk prog 0 (lp f181 0) (mk 13 [(0, .d (D.int .i64 v5)), (1, .d (D.int .i64 v6))] []) (LoopEnd prog f181 0 13 (.d (D.int .i64 r)) (⟨[], []⟩) (fun i ts os => (i = 0 ∧ ∃ v9 : Int, K0 v9 = some r ∧ ts = [(0, .d (D.int .i64 v9))] ∧ os = [])))
  | 0, _, _, h => by
      rw [spec_shGcd_l0] at h; cases h
  | n + 1, v5, v6, h => by
      rw [spec_shGcd_l0] at h
      refine LoopOk.step ?_
      conv => whnf
      refine splN (fun g12 => ?_) (fun g12 => ?_)
      · replace h := iteN h g12
        conv => whnf
        obtain ⟨g13, h⟩ := req_ex h
        refine Req.of g13 ?_
        conv => whnf
        exact LoopOk.back (spec_shGcd_l0_ct  n _ _ h) [] [] ⟨⟨rfl, rfl⟩, ⟨rfl, trivial⟩, rfl, rfl, trivial⟩
      · replace h := iteP h g12
        conv => whnf
        exact ⟨_, _, [], [], ⟨rfl, _, h, rfl, rfl⟩, ⟨⟨rfl, rfl⟩, ⟨rfl, trivial⟩, rfl, trivial⟩⟩
def spec_shGcd (k : Nat) (a1 : Int) (a2 : Int) : Option Int :=
  (spec_shGcd_l0 (fun (v9 : Int) => ((spec_l1Abs v9).bind fun y14 => some y14)) k a1 a2)
set_option maxHeartbeats 4000000 in
set_option maxRecDepth 100000 in
theorem spec_shGcd_ct {k : Nat} {a1 : Int} {a2 : Int} {r : Int} (h : spec_shGcd k a1 a2 = some r) : Ct prog 181 [.d (D.int .i64 a1), .d (D.int .i64 a2)] (⟨[], []⟩) (.d (D.int .i64 r)) (⟨[], []⟩) := by
  rw [spec_shGcd] at h
  refine Ct.of (c := _) mixed func181 ⟨rfl, rfl, rfl⟩ ?_ rfl
  conv => whnf
  refine LoopOk.into (spec_shGcd_l0_ct  _ _ _ h) [] [] ⟨⟨rfl, rfl⟩, ⟨rfl, trivial⟩, rfl, rfl, trivial⟩ ?_ (fun _ hs => hs)
  rintro i ts os ⟨rfl, v9, h, rfl, rfl⟩
  conv => whnf
  refine CutK.go ?_
  conv => whnf
  refine Pick.no ?_
  conv => whnf
  obtain ⟨y14, e15, h⟩ := bind_ex h
  refine CallOk.of (spec_l1Abs_ct e15) ?_
  conv => whnf
  refine CutK.go ?_
  conv => whnf
  cases h
  exact Done.of [] [] rfl rfl ⟨⟨rfl, rfl⟩, ⟨rfl, trivial⟩, rfl, trivial⟩

def spec_shMake (k : Nat) (a1 : Int) (a2 : Int) : Option (Int × Int) :=
  ((spec_shGcd k a1 a2).bind fun y3 => (if a2 < (0 : Int) then (if (IntKind.i64.wrap (0 - y3)) ≠ 0 then some (IntKind.i64.wrap (a1.tdiv (IntKind.i64.wrap (0 - y3))), IntKind.i64.wrap (a2.tdiv (IntKind.i64.wrap (0 - y3)))) else none) else (if y3 ≠ 0 then some (IntKind.i64.wrap (a1.tdiv y3), IntKind.i64.wrap (a2.tdiv y3)) else none)))
set_option maxHeartbeats 4000000 in
set_option maxRecDepth 100000 in
theorem spec_shMake_ct {k : Nat} {a1 : Int} {a2 : Int} {r : Int × Int} (h : spec_shMake k a1 a2 = some r) : Ct prog 141 [.d (D.int .i64 a1), .d (D.int .i64 a2)] (⟨[], []⟩) (.agg [.d (D.int .i64 r.1), .d (D.int .i64 r.2)]) (⟨[], []⟩) := by
  rw [spec_shMake] at h
  refine Ct.of (c := _) mixed func141 ⟨rfl, rfl, rfl⟩ ?_ rfl
  conv => whnf
  refine Pick.no ?_
  conv => whnf
  obtain ⟨y3, e4, h⟩ := bind_ex h
  refine CallOk.of (spec_shGcd_ct e4) ?_
  conv => whnf
  refine CutK.go ?_
  conv => whnf
  refine splD (fun g5 => ?_) (fun g5 => ?_)
  · replace h := iteP h g5
    conv => whnf
    obtain ⟨g6, h⟩ := req_ex h
    refine Req.of g6 ?_
    conv => whnf
    refine Req.of g6 ?_
    conv => whnf
    cases h
    exact Done.of [] [] rfl rfl ⟨⟨rfl, rfl⟩, ⟨rfl, trivial⟩, ⟨rfl, rfl, trivial⟩, trivial⟩
  · replace h := iteN h g5
    conv => whnf
    obtain ⟨g7, h⟩ := req_ex h
    refine Req.of g7 ?_
    conv => whnf
    refine Req.of g7 ?_
    conv => whnf
    cases h
    exact Done.of [] [] rfl rfl ⟨⟨rfl, rfl⟩, ⟨rfl, trivial⟩, ⟨rfl, rfl, trivial⟩, trivial⟩

def spec_shAdd (k : Nat) (a1 : Int) (a2 : Int) (a3 : Int) (a4 : Int) : Option (Int × Int) :=
  ((spec_shMake k (IntKind.i64.wrap ((IntKind.i64.wrap (a1 * a4)) + (IntKind.i64.wrap (a3 * a2)))) (IntKind.i64.wrap (a2 * a4))).bind fun y5 => some (y5.1, y5.2))
set_option maxHeartbeats 4000000 in
set_option maxRecDepth 100000 in
theorem spec_shAdd_ct {k : Nat} {a1 : Int} {a2 : Int} {a3 : Int} {a4 : Int} {r : Int × Int} (h : spec_shAdd k a1 a2 a3 a4 = some r) : Ct prog 183 [.agg [.d (D.int .i64 a1), .d (D.int .i64 a2)], .agg [.d (D.int .i64 a3), .d (D.int .i64 a4)]] (⟨[], []⟩) (.agg [.d (D.int .i64 r.1), .d (D.int .i64 r.2)]) (⟨[], []⟩) := by
  rw [spec_shAdd] at h
  refine Ct.of (c := _) mixed func183 ⟨rfl, rfl, rfl⟩ ?_ rfl
  conv => whnf
  refine Pick.no ?_
  conv => whnf
  obtain ⟨y5, e6, h⟩ := bind_ex h
  refine CallOk.of (spec_shMake_ct e6) ?_
  conv => whnf
  refine CutK.go ?_
  conv => whnf
  cases h
  exact Done.of [] [] rfl rfl ⟨⟨rfl, rfl⟩, ⟨rfl, trivial⟩, ⟨rfl, rfl, trivial⟩, trivial⟩

def spec_l1In  (a1 : Int) (a2 : Int) (a3 : Int) : Option Bool :=
  (if a2 ≤ a1 then (if a1 ≤ a3 then some true else some false) else some false)
set_option maxHeartbeats 4000000 in
set_option maxRecDepth 100000 in
theorem spec_l1In_ct  {a1 : Int} {a2 : Int} {a3 : Int} {r : Bool} (h : spec_l1In a1 a2 a3 = some r) : Ct prog 114 [.d (D.int .i64 a1), .d (D.int .i64 a2), .d (D.int .i64 a3)] (⟨[], []⟩) (.d (D.bool r)) (⟨[], []⟩) := by
  rw [spec_l1In] at h
  refine Ct.of (c := _) mixed func114 ⟨rfl, rfl, rfl⟩ ?_ rfl
  conv => whnf
  refine splD (fun g4 => ?_) (fun g4 => ?_)
  · replace h := iteP h g4
    conv => whnf
    refine splD (fun g5 => ?_) (fun g5 => ?_)
    · replace h := iteP h g5
      conv => whnf
      cases h
      exact Done.of [] [] rfl rfl ⟨⟨rfl, rfl⟩, ⟨rfl, trivial⟩, rfl, trivial⟩
    · replace h := iteN h g5
      conv => whnf
      cases h
      exact Done.of [] [] rfl rfl ⟨⟨rfl, rfl⟩, ⟨rfl, trivial⟩, rfl, trivial⟩
  · replace h := iteN h g4
    conv => whnf
    cases h
    exact Done.of [] [] rfl rfl ⟨⟨rfl, rfl⟩, ⟨rfl, trivial⟩, rfl, trivial⟩

def spec_shGood (k : Nat) (a1 : Int) (a2 : Int) : Option Bool :=
  ((spec_l1In a2 1 1000000).bind fun y3 => (if y3 = true then ((spec_l1In a1 (-1000000) 1000000).bind fun y6 => (if y6 = true then ((spec_shGcd k a1 a2).bind fun y9 => (if y9 = (1 : Int) then some true else some false)) else some false)) else some false))
set_option maxHeartbeats 4000000 in
set_option maxRecDepth 100000 in
theorem spec_shGood_ct {k : Nat} {a1 : Int} {a2 : Int} {r : Bool} (h : spec_shGood k a1 a2 = some r) : Ct prog 147 [.agg [.d (D.int .i64 a1), .d (D.int .i64 a2)]] (⟨[], []⟩) (.d (D.bool r)) (⟨[], []⟩) := by
  rw [spec_shGood] at h
  refine Ct.of (c := _) mixed func147 ⟨rfl, rfl, rfl⟩ ?_ rfl
  conv => whnf
  refine Pick.no ?_
  conv => whnf
  obtain ⟨y3, e4, h⟩ := bind_ex h
  refine CallOk.of (spec_l1In_ct e4) ?_
  conv => whnf
  refine spl (fun g5 => ?_) (fun g5 => ?_)
  · replace h := iteT h g5
    conv => whnf
    refine Pick.no ?_
    conv => whnf
    obtain ⟨y6, e7, h⟩ := bind_ex h
    refine CallOk.of (spec_l1In_ct e7) ?_
    conv => whnf
    refine spl (fun g8 => ?_) (fun g8 => ?_)
    · replace h := iteT h g8
      conv => whnf
      refine Pick.no ?_
      conv => whnf
      obtain ⟨y9, e10, h⟩ := bind_ex h
      refine CallOk.of (spec_shGcd_ct e10) ?_
      conv => whnf
      refine splD (fun g11 => ?_) (fun g11 => ?_)
      · replace h := iteP h g11
        conv => whnf
        refine CutK.go ?_
        conv => whnf
        cases h
        exact Done.of [] [] rfl rfl ⟨⟨rfl, rfl⟩, ⟨rfl, trivial⟩, rfl, trivial⟩
      · replace h := iteN h g11
        conv => whnf
        refine CutK.go ?_
        conv => whnf
        cases h
        exact Done.of [] [] rfl rfl ⟨⟨rfl, rfl⟩, ⟨rfl, trivial⟩, rfl, trivial⟩
    · replace h := iteF h g8
      conv => whnf
      refine CutK.go ?_
      conv => whnf
      cases h
      exact Done.of [] [] rfl rfl ⟨⟨rfl, rfl⟩, ⟨rfl, trivial⟩, rfl, trivial⟩
  · replace h := iteF h g5
    conv => whnf
    refine CutK.go ?_
    conv => whnf
    cases h
    exact Done.of [] [] rfl rfl ⟨⟨rfl, rfl⟩, ⟨rfl, trivial⟩, rfl, trivial⟩

def spec_suTerm  (a1 : Rw) (a2 : Int) (a3 : Int) : Option Rw :=
  (if a2 = (0 : Int) then some ([] : Rw) else some ([[D.sl a1, D.int .i64 a2, D.int .i64 a3]] : Rw))
set_option maxHeartbeats 4000000 in
set_option maxRecDepth 100000 in
theorem spec_suTerm_ct  {a1 : Rw} {a2 : Int} {a3 : Int} {r : Rw} (h : spec_suTerm a1 a2 a3 = some r) : Ct prog 148 [.agg [.d (D.sl a1)], .agg [.d (D.int .i64 a2), .d (D.int .i64 a3)]] (⟨[], []⟩) (.agg [.os 8 r.length]) (⟨[], [(116, false, r)]⟩) := by
  rw [spec_suTerm] at h
  refine Ct.of (c := _) mixed func148 ⟨rfl, rfl, rfl⟩ ?_ rfl
  conv => whnf
  refine splD (fun g4 => ?_) (fun g4 => ?_)
  · replace h := iteP h g4
    conv => whnf
    cases h
    exact Done.of [none] [] rfl rfl ⟨⟨rfl, rfl⟩, ⟨rfl, rfl, trivial⟩, ⟨⟨rfl, rfl⟩, trivial⟩, trivial⟩
  · replace h := iteN h g4
    conv => whnf
    cases h
    exact Done.of [some 768] [] rfl rfl ⟨⟨rfl, rfl⟩, ⟨rfl, ⟨rfl, rfl, rows_same⟩, trivial⟩, ⟨⟨(by first | rfl | exact List.length_append.symm | (simp; done) | omega), rfl⟩, trivial⟩, trivial⟩

def spec_suPut_p4 (a2 : Rw) (a3 : Int) (a4 : Int) (o89 : Rw) (v90 : Bool) : Option (Rw × Bool) :=
  (cond v90 (some (o89, true)) (if o89.length + 1 ≤ cap then some (o89 ++ ([[D.sl a2, D.int .i64 a3, D.int .i64 a4]]), true) else none))
set_option maxHeartbeats 4000000 in
set_option maxRecDepth 100000 in
theorem spec_suPut_p4_ct {a2 : Rw} {a3 : Int} {a4 : Int} {o89 : Rw} {v90 : Bool} {r : Rw × Bool} (h : spec_suPut_p4 a2 a3 a4 o89 v90 = some r) : X prog 0 (tlF f145 4) (mk 73 [(3, .ptr 192 0), (4, .ptr 256 0), (6, .ptr 384 0), (7, .d (D.bool v90))] [(192, .box 116 [.d (D.sl a2), .d (D.int .i64 a3), .d (D.int .i64 a4)]), (256, .box 28 [.es]), (384, .box 28 [.os 1084000 o89.length]), (1084000, .arr 116 false o89)]) (finK prog f145 0 (.tup [.agg [.os 8 r.1.length], .d (D.bool r.2)]) (⟨[], [(116, false, r.1)]⟩)) := by
  rw [spec_suPut_p4] at h
  cases v90
  · replace h := condF h
    conv => whnf
    refine Take.all (rfl) ?_
    conv => whnf
    refine Take.all (by first | rfl | exact List.length_append.symm | (simp; done) | omega) ?_
    conv => whnf
    obtain ⟨g92, h⟩ := req_ex h
    refine Req.of (room (b := 40) (by decide) g92 (wide1 rfl wide0)) ?_
    conv => whnf
    cases h
    exact Done.of [some 4480] [] rfl rfl ⟨⟨rfl, rfl⟩, ⟨rfl, ⟨rfl, rfl, rows_same⟩, trivial⟩, ⟨⟨⟨(by first | rfl | exact List.length_append.symm | (simp; done) | omega), rfl⟩, trivial⟩, rfl, trivial⟩, trivial⟩
  · replace h := condT h
    conv => whnf
    cases h
    exact Done.of [some 1084000] [] rfl rfl ⟨⟨rfl, rfl⟩, ⟨rfl, ⟨rfl, rfl, rows_same⟩, trivial⟩, ⟨⟨⟨rfl, rfl⟩, trivial⟩, rfl, trivial⟩, trivial⟩
def spec_suPut_l0 (k : Nat) (a1 : Rw) (a2 : Rw) (a3 : Int) (a4 : Int) (K0 : Rw → Bool → Option (Rw × Bool)) : Rw → Bool → Rw → Option (Rw × Bool)
  | [], v111, v113 => (cond v111 (K0 v113 true) (K0 v113 false))
  | cs :: rest, v111, v113 => (cond v111 (cell_sii cs fun x196 x197 x198 => ((spec_suCmp k x196 a2).bind fun y200 => (if v113.length + 1 ≤ cap then (spec_suPut_l0 k a1 a2 a3 a4 K0 rest true (v113 ++ ([[D.sl x196, D.int .i64 x197, D.int .i64 x198]]))) else none))) (cell_sii cs fun x177 x178 x179 => ((spec_suCmp k x177 a2).bind fun y181 => (if y181 ≤ (0 : Int) then (if y181 = (0 : Int) then ((spec_shAdd k x178 x179 a3 a4).bind fun y185 => ((spec_shGood k y185.1 y185.2).bind fun y187 => (if y187 = true then ((spec_suTerm a2 y185.1 y185.2).bind fun y190 => (if v113.length + y190.length ≤ cap ∧ (∀ cs ∈ y190, cs.length = 3) then (spec_suPut_l0 k a1 a2 a3 a4 K0 rest true (v113 ++ y190)) else none)) else some (([] : Rw), false)))) else (if v113.length + 1 ≤ cap then (if (v113 ++ ([[D.sl a2, D.int .i64 a3, D.int .i64 a4]])).length + 1 ≤ cap then (spec_suPut_l0 k a1 a2 a3 a4 K0 rest true ((v113 ++ ([[D.sl a2, D.int .i64 a3, D.int .i64 a4]])) ++ ([[D.sl x177, D.int .i64 x178, D.int .i64 x179]]))) else none) else none)) else (if v113.length + 1 ≤ cap then (spec_suPut_l0 k a1 a2 a3 a4 K0 rest false (v113 ++ ([[D.sl x177, D.int .i64 x178, D.int .i64 x179]]))) else none)))))
set_option maxRecDepth 100000 in
theorem spec_suPut_l0_ct {k : Nat} {a1 : Rw} {a2 : Rw} {a3 : Int} {a4 : Int} {K0 : Rw → Bool → Option (Rw × Bool)} {r : Rw × Bool} (hx : a1.length ≤ cap) : ∀ (rest : Rw) (v112n : Nat) (v111 : Bool) (v113 : Rw), a1.drop v112n = rest → spec_suPut_l0 k a1 a2 a3 a4 K0 rest v111 v113 = some r → LoopOk prog 0 (lp f145 0) (mk 73 [(3, .ptr 192 0), (4, .ptr 256 0), (6, .ptr 384 0), (7, .d (D.bool v111)), (14, .d (D.sl a1)), (15, .d (D.int .i64 (a1.length : Int))), (16, .d (D.int .i64 (v112n : Int)))] [(192, .box 116 [.d (D.sl a2), .d (D.int .i64 a3), .d (D.int .i64 a4)]), (256, .box 28 [.es]), (384, .box 28 [.os 64000 v113.length]), (64000, .arr 116 false v113)]) (LoopEnd prog f145 0 73 (.tup [.agg [.os 8 r.1.length], .d (D.bool r.2)]) (⟨[], [(116, false, r.1)]⟩) (fun i ts os => (i = 0 ∧ ∃ v136 : Rw, ∃ v146 : Bool, K0 v136 v146 = some r ∧ ts = [(3, .ptr 192 0), (4, .ptr 256 0), (6, .ptr 384 0), (7, .d (D.bool v146))] ∧ os = [(192, .box 116 [.d (D.sl a2), .d (D.int .i64 a3), .d (D.int .i64 a4)]), (256, .box 28 [.es]), (384, .box 28 [.os 67001 v136.length]), (67001, .arr 116 false v136)])))
  | [], v112n, v111, v113, hd, h => by
      rw [spec_suPut_l0] at h
      have hn := drop_nil hd
      cases v111
      · replace h := condF h
        refine LoopOk.step ?_
        conv => whnf
        refine splD (fun g => absurd g hn) (fun _ => ?_)
        conv => whnf
        exact ⟨_, _, [some 192, some 256, some 384, some 64000], [], ⟨rfl, _, _, h, rfl, rfl⟩, ⟨⟨rfl, rfl⟩, ⟨rfl, ⟨rfl, rfl, rfl, rfl, trivial⟩, ⟨rfl, trivial, trivial⟩, ⟨rfl, ⟨rfl, rfl⟩, trivial⟩, ⟨rfl, rfl, rows_same⟩, trivial⟩, ⟨rfl, rfl⟩, ⟨rfl, rfl⟩, ⟨rfl, rfl⟩, rfl, trivial⟩⟩
      · replace h := condT h
        refine LoopOk.step ?_
        conv => whnf
        refine splD (fun g => absurd g hn) (fun _ => ?_)
        conv => whnf
        exact ⟨_, _, [some 192, some 256, some 384, some 64000], [], ⟨rfl, _, _, h, rfl, rfl⟩, ⟨⟨rfl, rfl⟩, ⟨rfl, ⟨rfl, rfl, rfl, rfl, trivial⟩, ⟨rfl, trivial, trivial⟩, ⟨rfl, ⟨rfl, rfl⟩, trivial⟩, ⟨rfl, rfl, rows_same⟩, trivial⟩, ⟨rfl, rfl⟩, ⟨rfl, rfl⟩, ⟨rfl, rfl⟩, rfl, trivial⟩⟩
  | cs :: rest, v112n, v111, v113, hd, h => by
      rw [spec_suPut_l0] at h
      obtain ⟨hrow, hd1, hlt⟩ := drop_cons hd
      cases v111
      · replace h := condF h
        refine LoopOk.step ?_
        conv => whnf
        refine splD (fun _ => ?_) (fun g => absurd hlt g)
        conv => whnf
        obtain ⟨x177, x178, x179, e180, h⟩ := cell_sii_ex h
        rw [e180] at hrow
        refine Req.of (Int.natCast_nonneg _) ?_
        refine Row.of _ hrow ?_
        conv => whnf
        refine Pick.no ?_
        conv => whnf
        obtain ⟨y181, e182, h⟩ := bind_ex h
        refine CallOk.of (spec_suCmp_ct e182) ?_
        conv => whnf
        refine CutK.norm [3, 4, 6, 7, 9, 10, 14, 15, 16] [192, 256, 384, 576, 64000] ?_
        conv => whnf
        refine splD (fun g183 => ?_) (fun g183 => ?_)
        · replace h := iteP h g183
          conv => whnf
          refine splD (fun g184 => ?_) (fun g184 => ?_)
          · replace h := iteP h g184
            conv => whnf
            refine Pick.no ?_
            conv => whnf
            obtain ⟨y185, e186, h⟩ := bind_ex h
            refine CallOk.of (spec_shAdd_ct e186) ?_
            conv => whnf
            refine CutK.norm [3, 4, 6, 7, 11, 14, 15, 16] [192, 256, 384, 704, 64000] ?_
            conv => whnf
            refine Pick.no ?_
            conv => whnf
            obtain ⟨y187, e188, h⟩ := bind_ex h
            refine CallOk.of (spec_shGood_ct e188) ?_
            conv => whnf
            refine spl (fun g189 => ?_) (fun g189 => ?_)
            · replace h := iteT h g189
              conv => whnf
              refine CutK.norm [3, 4, 6, 7, 11, 14, 15, 16, 40] [192, 256, 384, 704, 64000] ?_
              conv => whnf
              refine CutK.norm [3, 4, 6, 7, 11, 14, 15, 16] [192, 256, 384, 704, 64000] ?_
              conv => whnf
              refine Pick.no ?_
              conv => whnf
              obtain ⟨y190, e191, h⟩ := bind_ex h
              refine CallOk.of (spec_suTerm_ct e191) ?_
              conv => whnf
              refine Take.all (rfl) ?_
              conv => whnf
              refine Take.all (rfl) ?_
              conv => whnf
              obtain ⟨g192, h⟩ := req_ex h
              refine Req.of (room (b := 40) (by decide) g192.1 g192.2) ?_
              conv => whnf
              refine CutK.norm [3, 4, 6, 7, 14, 15, 16] [192, 256, 384, 3136] ?_
              conv => whnf
              refine CutK.norm [3, 4, 6, 7, 14, 15, 16] [192, 256, 384, 3136] ?_
              conv => whnf
              exact LoopOk.back (spec_suPut_l0_ct hx rest (v112n + 1) _ _ hd1 h) [some 192, some 256, some 384, some 3136] [] ⟨⟨rfl, rfl⟩, ⟨rfl, ⟨rfl, rfl, rfl, rfl, trivial⟩, ⟨rfl, trivial, trivial⟩, ⟨rfl, ⟨(by first | rfl | exact List.length_append.symm | (simp; done) | omega), rfl⟩, trivial⟩, ⟨rfl, rfl, rows_same⟩, trivial⟩, ⟨rfl, rfl⟩, ⟨rfl, rfl⟩, ⟨rfl, rfl⟩, rfl, rfl, rfl, i64eq (wrap_up hlt hx), trivial⟩
            · replace h := iteF h g189
              conv => whnf
              refine CutK.norm [3, 4, 6, 7, 11, 14, 15, 16, 40] [192, 256, 384, 704, 64000] ?_
              conv => whnf
              cases h
              exact Done.of [none] [] rfl rfl ⟨⟨rfl, rfl⟩, ⟨rfl, rfl, trivial⟩, ⟨⟨⟨rfl, rfl⟩, trivial⟩, rfl, trivial⟩, trivial⟩
          · replace h := iteN h g184
            conv => whnf
            refine CutK.norm [3, 4, 6, 7, 9, 14, 15, 16] [192, 256, 384, 576, 64000] ?_
            conv => whnf
            refine Take.all (rfl) ?_
            conv => whnf
            refine Take.all (by first | rfl | exact List.length_append.symm | (simp; done) | omega) ?_
            conv => whnf
            obtain ⟨g193, h⟩ := req_ex h
            refine Req.of (room (b := 40) (by decide) g193 (wide1 rfl wide0)) ?_
            conv => whnf
            refine CutK.norm [3, 4, 6, 7, 9, 14, 15, 16] [192, 256, 384, 576, 3520] ?_
            conv => whnf
            refine Take.all (by first | rfl | exact List.length_append.symm | (simp; done) | omega) ?_
            conv => whnf
            refine Take.all (by first | rfl | exact List.length_append.symm | (simp; done) | omega) ?_
            conv => whnf
            obtain ⟨g194, h⟩ := req_ex h
            refine Req.of (room (b := 40) (by decide) g194 (wide1 rfl wide0)) ?_
            conv => whnf
            refine CutK.norm [3, 4, 6, 7, 14, 15, 16] [192, 256, 384, 3904] ?_
            conv => whnf
            exact LoopOk.back (spec_suPut_l0_ct hx rest (v112n + 1) _ _ hd1 h) [some 192, some 256, some 384, some 3904] [] ⟨⟨rfl, rfl⟩, ⟨rfl, ⟨rfl, rfl, rfl, rfl, trivial⟩, ⟨rfl, trivial, trivial⟩, ⟨rfl, ⟨(by first | rfl | exact List.length_append.symm | (simp; done) | omega), rfl⟩, trivial⟩, ⟨rfl, rfl, rows_same⟩, trivial⟩, ⟨rfl, rfl⟩, ⟨rfl, rfl⟩, ⟨rfl, rfl⟩, rfl, rfl, rfl, i64eq (wrap_up hlt hx), trivial⟩
        · replace h := iteN h g183
          conv => whnf
          refine CutK.norm [3, 4, 6, 7, 9, 14, 15, 16] [192, 256, 384, 576, 64000] ?_
          conv => whnf
          refine Take.all (rfl) ?_
          conv => whnf
          refine Take.all (by first | rfl | exact List.length_append.symm | (simp; done) | omega) ?_
          conv => whnf
          obtain ⟨g195, h⟩ := req_ex h
          refine Req.of (room (b := 40) (by decide) g195 (wide1 rfl wide0)) ?_
          conv => whnf
          refine CutK.norm [3, 4, 6, 7, 14, 15, 16] [192, 256, 384, 3904] ?_
          conv => whnf
          exact LoopOk.back (spec_suPut_l0_ct hx rest (v112n + 1) _ _ hd1 h) [some 192, some 256, some 384, some 3904] [] ⟨⟨rfl, rfl⟩, ⟨rfl, ⟨rfl, rfl, rfl, rfl, trivial⟩, ⟨rfl, trivial, trivial⟩, ⟨rfl, ⟨(by first | rfl | exact List.length_append.symm | (simp; done) | omega), rfl⟩, trivial⟩, ⟨rfl, rfl, rows_same⟩, trivial⟩, ⟨rfl, rfl⟩, ⟨rfl, rfl⟩, ⟨rfl, rfl⟩, rfl, rfl, rfl, i64eq (wrap_up hlt hx), trivial⟩
      · replace h := condT h
        refine LoopOk.step ?_
        conv => whnf
        refine splD (fun _ => ?_) (fun g => absurd hlt g)
        conv => whnf
        obtain ⟨x196, x197, x198, e199, h⟩ := cell_sii_ex h
        rw [e199] at hrow
        refine Req.of (Int.natCast_nonneg _) ?_
        refine Row.of _ hrow ?_
        conv => whnf
        refine Pick.no ?_
        conv => whnf
        obtain ⟨y200, e201, h⟩ := bind_ex h
        refine CallOk.of (spec_suCmp_ct e201) ?_
        conv => whnf
        refine CutK.norm [3, 4, 6, 7, 9, 10, 14, 15, 16] [192, 256, 384, 576, 64000] ?_
        conv => whnf
        refine CutK.norm [3, 4, 6, 7, 9, 14, 15, 16] [192, 256, 384, 576, 64000] ?_
        conv => whnf
        refine Take.all (rfl) ?_
        conv => whnf
        refine Take.all (by first | rfl | exact List.length_append.symm | (simp; done) | omega) ?_
        conv => whnf
        obtain ⟨g202, h⟩ := req_ex h
        refine Req.of (room (b := 40) (by decide) g202 (wide1 rfl wide0)) ?_
        conv => whnf
        refine CutK.norm [3, 4, 6, 7, 14, 15, 16] [192, 256, 384, 3904] ?_
        conv => whnf
        exact LoopOk.back (spec_suPut_l0_ct hx rest (v112n + 1) _ _ hd1 h) [some 192, some 256, some 384, some 3904] [] ⟨⟨rfl, rfl⟩, ⟨rfl, ⟨rfl, rfl, rfl, rfl, trivial⟩, ⟨rfl, trivial, trivial⟩, ⟨rfl, ⟨(by first | rfl | exact List.length_append.symm | (simp; done) | omega), rfl⟩, trivial⟩, ⟨rfl, rfl, rows_same⟩, trivial⟩, ⟨rfl, rfl⟩, ⟨rfl, rfl⟩, ⟨rfl, rfl⟩, rfl, rfl, rfl, i64eq (wrap_up hlt hx), trivial⟩
def spec_suPut (k : Nat) (a1 : Rw) (a2 : Rw) (a3 : Int) (a4 : Int) : Option (Rw × Bool) :=
  (if a1.length ≤ cap then (spec_suPut_l0 k a1 a2 a3 a4 (fun (v136 : Rw) (v146 : Bool) => (cond v146 (spec_suPut_p4 a2 a3 a4 v136 true) (spec_suPut_p4 a2 a3 a4 v136 false))) a1 false ([] : Rw)) else none)
set_option maxHeartbeats 4000000 in
set_option maxRecDepth 100000 in
theorem spec_suPut_ct {k : Nat} {a1 : Rw} {a2 : Rw} {a3 : Int} {a4 : Int} {r : Rw × Bool} (h : spec_suPut k a1 a2 a3 a4 = some r) : Ct prog 145 [.agg [.d (D.sl a1)], .agg [.d (D.sl a2), .d (D.int .i64 a3), .d (D.int .i64 a4)]] (⟨[], []⟩) (.tup [.agg [.os 8 r.1.length], .d (D.bool r.2)]) (⟨[], [(116, false, r.1)]⟩) := by
  rw [spec_suPut] at h
  refine Ct.of (c := _) mixed func145 ⟨rfl, rfl, rfl⟩ ?_ rfl
  conv => whnf
  obtain ⟨g203, h⟩ := req_ex h
  refine LoopOk.into (spec_suPut_l0_ct  g203 _ _ _ _ rfl h) [some 192, some 256, some 384, none] [] ⟨⟨rfl, rfl⟩, ⟨rfl, ⟨rfl, rfl, rfl, rfl, trivial⟩, ⟨rfl, trivial, trivial⟩, ⟨rfl, ⟨rfl, rfl⟩, trivial⟩, rfl, trivial⟩, ⟨rfl, rfl⟩, ⟨rfl, rfl⟩, ⟨rfl, rfl⟩, rfl, rfl, rfl, rfl, trivial⟩ ?_ (fun _ hs => hs)
  rintro i ts os ⟨rfl, v136, v146, h, rfl, rfl⟩
  cases v146
  · replace h := condF h
    conv => whnf
    exact CutK.piece (spec_suPut_p4_ct  h) [some 192, some 256, some 384, some 67001] [] ⟨⟨rfl, rfl⟩, ⟨rfl, ⟨rfl, rfl, rfl, rfl, trivial⟩, ⟨rfl, trivial, trivial⟩, ⟨rfl, ⟨rfl, rfl⟩, trivial⟩, ⟨rfl, rfl, rows_same⟩, trivial⟩, ⟨rfl, rfl⟩, ⟨rfl, rfl⟩, ⟨rfl, rfl⟩, rfl, trivial⟩
  · replace h := condT h
    conv => whnf
    exact CutK.piece (spec_suPut_p4_ct  h) [some 192, some 256, some 384, some 67001] [] ⟨⟨rfl, rfl⟩, ⟨rfl, ⟨rfl, rfl, rfl, rfl, trivial⟩, ⟨rfl, trivial, trivial⟩, ⟨rfl, ⟨rfl, rfl⟩, trivial⟩, ⟨rfl, rfl, rows_same⟩, trivial⟩, ⟨rfl, rfl⟩, ⟨rfl, rfl⟩, ⟨rfl, rfl⟩, rfl, trivial⟩

def spec_suPlus_l0 (k : Nat) (a2 : Rw) (K0 : Rw → Option (Rw × Bool)) : Rw → Rw → Option (Rw × Bool)
  | [], v13 => (K0 v13)
  | cs :: rest, v13 => (cell_sii cs fun x33 x34 x35 => ((spec_suPut k v13 x33 x34 x35).bind fun y37 => (if y37.2 = true then (spec_suPlus_l0 k a2 K0 rest y37.1) else some (([] : Rw), false))))
set_option maxRecDepth 100000 in
theorem spec_suPlus_l0_ct {k : Nat} {a2 : Rw} {K0 : Rw → Option (Rw × Bool)} {r : Rw × Bool} (hx : a2.length ≤ cap) : ∀ (rest : Rw) (v12n : Nat) (v13 : Rw), a2.drop v12n = rest → spec_suPlus_l0 k a2 K0 rest v13 = some r → LoopOk prog 0 (lp f172 0) (mk 29 [(4, .ptr 256 0), (6, .ptr 384 0), (12, .d (D.sl a2)), (13, .d (D.int .i64 (a2.length : Int))), (14, .d (D.int .i64 (v12n : Int)))] [(256, .box 28 [.es]), (384, .box 28 [.d (D.sl v13)])]) (LoopEnd prog f172 0 29 (.tup [.agg [.d (D.sl r.1)], .d (D.bool r.2)]) (⟨[], []⟩) (fun i ts os => (i = 0 ∧ ∃ v23 : Rw, K0 v23 = some r ∧ ts = [(4, .ptr 256 0), (6, .ptr 384 0)] ∧ os = [(256, .box 28 [.es]), (384, .box 28 [.d (D.sl v23)])])))
  | [], v12n, v13, hd, h => by
      rw [spec_suPlus_l0] at h
      have hn := drop_nil hd
      refine LoopOk.step ?_
      conv => whnf
      refine splD (fun g => absurd g hn) (fun _ => ?_)
      conv => whnf
      exact ⟨_, _, [some 256, some 384], [], ⟨rfl, _, h, rfl, rfl⟩, ⟨⟨rfl, rfl⟩, ⟨rfl, ⟨rfl, trivial, trivial⟩, ⟨rfl, rfl, trivial⟩, trivial⟩, ⟨rfl, rfl⟩, ⟨rfl, rfl⟩, trivial⟩⟩
  | cs :: rest, v12n, v13, hd, h => by
      rw [spec_suPlus_l0] at h
      obtain ⟨hrow, hd1, hlt⟩ := drop_cons hd
      refine LoopOk.step ?_
      conv => whnf
      refine splD (fun _ => ?_) (fun g => absurd hlt g)
      conv => whnf
      obtain ⟨x33, x34, x35, e36, h⟩ := cell_sii_ex h
      rw [e36] at hrow
      refine Req.of (Int.natCast_nonneg _) ?_
      refine Row.of _ hrow ?_
      conv => whnf
      refine Pick.no ?_
      conv => whnf
      obtain ⟨y37, e38, h⟩ := bind_ex h
      refine CallOk.of (spec_suPut_ct e38) ?_
      conv => whnf
      refine spl (fun g39 => ?_) (fun g39 => ?_)
      · replace h := iteT h g39
        conv => whnf
        refine CutK.go ?_
        conv => whnf
        refine CutK.go ?_
        conv => whnf
        exact LoopOk.back (spec_suPlus_l0_ct hx rest (v12n + 1) _ hd1 h) [some 256, some 384] [1344] ⟨⟨rfl, rfl⟩, ⟨rfl, ⟨rfl, trivial, trivial⟩, ⟨rfl, ⟨rfl, Nat.le_of_eq rfl, eq_take rfl⟩, trivial⟩, trivial⟩, ⟨rfl, rfl⟩, ⟨rfl, rfl⟩, rfl, rfl, i64eq (wrap_up hlt hx), trivial⟩
      · replace h := iteF h g39
        conv => whnf
        refine CutK.go ?_
        conv => whnf
        cases h
        exact Done.of [] [] rfl rfl ⟨⟨rfl, rfl⟩, ⟨rfl, trivial⟩, ⟨⟨rfl, trivial⟩, rfl, trivial⟩, trivial⟩
def spec_suPlus (k : Nat) (a1 : Rw) (a2 : Rw) : Option (Rw × Bool) :=
  (if a2.length ≤ cap then (spec_suPlus_l0 k a2 (fun (v23 : Rw) => some (v23, true)) a2 a1) else none)
set_option maxHeartbeats 4000000 in
set_option maxRecDepth 100000 in
theorem spec_suPlus_ct {k : Nat} {a1 : Rw} {a2 : Rw} {r : Rw × Bool} (h : spec_suPlus k a1 a2 = some r) : Ct prog 172 [.agg [.d (D.sl a1)], .agg [.d (D.sl a2)]] (⟨[], []⟩) (.tup [.agg [.d (D.sl r.1)], .d (D.bool r.2)]) (⟨[], []⟩) := by
  rw [spec_suPlus] at h
  refine Ct.of (c := _) mixed func172 ⟨rfl, rfl, rfl⟩ ?_ rfl
  conv => whnf
  obtain ⟨g40, h⟩ := req_ex h
  refine LoopOk.into (spec_suPlus_l0_ct  g40 _ _ _ rfl h) [some 256, some 384] [] ⟨⟨rfl, rfl⟩, ⟨rfl, ⟨rfl, trivial, trivial⟩, ⟨rfl, rfl, trivial⟩, trivial⟩, ⟨rfl, rfl⟩, ⟨rfl, rfl⟩, rfl, rfl, rfl, trivial⟩ ?_ (fun _ hs => hs)
  rintro i ts os ⟨rfl, v23, h, rfl, rfl⟩
  conv => whnf
  refine CutK.go ?_
  conv => whnf
  cases h
  exact Done.of [] [] rfl rfl ⟨⟨rfl, rfl⟩, ⟨rfl, trivial⟩, ⟨⟨rfl, trivial⟩, rfl, trivial⟩, trivial⟩

def spec_suLeft_l0 (rec_spec_suLeft : Rw → Int → Int → Option Int) (a1 : Rw) (a2 : Int) (K0 : Int → Option Int) : Rw → Int → Option Int
  | [], v14 => (K0 v14)
  | cs :: rest, v14 => (cell_sii cs fun x37 x38 x39 => (if v14 < (0 : Int) then some (-1) else (if a2 = (0 : Int) then some (-1) else ((rec_spec_suLeft x37 (IntKind.i64.wrap (a2 - 1)) (IntKind.i64.wrap (v14 - 1))).bind fun y43 => (spec_suLeft_l0 rec_spec_suLeft a1 a2 K0 rest y43)))))
set_option maxRecDepth 100000 in
theorem spec_suLeft_l0_ct {rec_spec_suLeft : Rw → Int → Int → Option Int} {a1 : Rw} {a2 : Int} {K0 : Int → Option Int} (hrec_spec_suLeft : ∀ (a1 : Rw) (a2 : Int) (a3 : Int) (r : Int), rec_spec_suLeft a1 a2 a3 = some r → Ct prog 111 [.agg [.d (D.sl a1)], .d (D.int .i64 a2), .d (D.int .i64 a3)] (⟨[], []⟩) (.d (D.int .i64 r)) (⟨[], []⟩)) {r : Int} (hx : a1.length ≤ cap) : ∀ (rest : Rw) (v15n : Nat) (v14 : Int), a1.drop v15n = rest → spec_suLeft_l0 rec_spec_suLeft a1 a2 K0 rest v14 = some r → LoopOk prog 0 (lp f111 0) (mk 33 [(1, .d (D.int .i64 a2)), (2, .d (D.int .i64 v14)), (12, .d (D.sl a1)), (13, .d (D.int .i64 (a1.length : Int))), (14, .d (D.int .i64 (v15n : Int)))] []) (LoopEnd prog f111 0 33 (.d (D.int .i64 r)) (⟨[], []⟩) (fun i ts os => (i = 0 ∧ ∃ v26 : Int, K0 v26 = some r ∧ ts = [(2, .d (D.int .i64 v26))] ∧ os = [])))
  | [], v15n, v14, hd, h => by
      rw [spec_suLeft_l0] at h
      have hn := drop_nil hd
      refine LoopOk.step ?_
      conv => whnf
      refine splD (fun g => absurd g hn) (fun _ => ?_)
      conv => whnf
      exact ⟨_, _, [], [], ⟨rfl, _, h, rfl, rfl⟩, ⟨⟨rfl, rfl⟩, ⟨rfl, trivial⟩, rfl, trivial⟩⟩
  | cs :: rest, v15n, v14, hd, h => by
      rw [spec_suLeft_l0] at h
      obtain ⟨hrow, hd1, hlt⟩ := drop_cons hd
      refine LoopOk.step ?_
      conv => whnf
      refine splD (fun _ => ?_) (fun g => absurd hlt g)
      conv => whnf
      obtain ⟨x37, x38, x39, e40, h⟩ := cell_sii_ex h
      rw [e40] at hrow
      refine Req.of (Int.natCast_nonneg _) ?_
      refine Row.of _ hrow ?_
      conv => whnf
      refine splD (fun g41 => ?_) (fun g41 => ?_)
      · replace h := iteP h g41
        conv => whnf
        cases h
        exact Done.of [] [] rfl rfl ⟨⟨rfl, rfl⟩, ⟨rfl, trivial⟩, rfl, trivial⟩
      · replace h := iteN h g41
        conv => whnf
        refine splD (fun g42 => ?_) (fun g42 => ?_)
        · replace h := iteP h g42
          conv => whnf
          cases h
          exact Done.of [] [] rfl rfl ⟨⟨rfl, rfl⟩, ⟨rfl, trivial⟩, rfl, trivial⟩
        · replace h := iteN h g42
          conv => whnf
          refine Pick.no ?_
          conv => whnf
          obtain ⟨y43, e44, h⟩ := bind_ex h
          refine CallOk.of (hrec_spec_suLeft _ _ _ _ e44) ?_
          conv => whnf
          refine CutK.norm [1, 2, 12, 13, 14] [] ?_
          conv => whnf
          exact LoopOk.back (spec_suLeft_l0_ct hrec_spec_suLeft hx rest (v15n + 1) _ hd1 h) [] [] ⟨⟨rfl, rfl⟩, ⟨rfl, trivial⟩, rfl, rfl, rfl, rfl, i64eq (wrap_up hlt hx), trivial⟩
def spec_suLeft_b (rec_spec_suLeft : Rw → Int → Int → Option Int) (a1 : Rw) (a2 : Int) (a3 : Int) : Option Int :=
  (if a1.length ≤ cap then (spec_suLeft_l0 rec_spec_suLeft a1 a2 (fun (v26 : Int) => some v26) a1 (IntKind.i64.wrap (a3 - 1))) else none)
set_option maxHeartbeats 4000000 in
set_option maxRecDepth 100000 in
theorem spec_suLeft_b_ct {rec_spec_suLeft : Rw → Int → Int → Option Int} (hrec_spec_suLeft : ∀ (a1 : Rw) (a2 : Int) (a3 : Int) (r : Int), rec_spec_suLeft a1 a2 a3 = some r → Ct prog 111 [.agg [.d (D.sl a1)], .d (D.int .i64 a2), .d (D.int .i64 a3)] (⟨[], []⟩) (.d (D.int .i64 r)) (⟨[], []⟩)) {a1 : Rw} {a2 : Int} {a3 : Int} {r : Int} (h : spec_suLeft_b rec_spec_suLeft a1 a2 a3 = some r) : Ct prog 111 [.agg [.d (D.sl a1)], .d (D.int .i64 a2), .d (D.int .i64 a3)] (⟨[], []⟩) (.d (D.int .i64 r)) (⟨[], []⟩) := by
  rw [spec_suLeft_b] at h
  refine Ct.of (c := _) mixed func111 ⟨rfl, rfl, rfl⟩ ?_ rfl
  conv => whnf
  obtain ⟨g45, h⟩ := req_ex h
  refine LoopOk.into (spec_suLeft_l0_ct hrec_spec_suLeft g45 _ _ _ rfl h) [] [] ⟨⟨rfl, rfl⟩, ⟨rfl, trivial⟩, rfl, rfl, rfl, rfl, rfl, trivial⟩ ?_ (fun _ hs => hs)
  rintro i ts os ⟨rfl, v26, h, rfl, rfl⟩
  conv => whnf
  refine CutK.norm [2] [] ?_
  conv => whnf
  cases h
  exact Done.of [] [] rfl rfl ⟨⟨rfl, rfl⟩, ⟨rfl, trivial⟩, rfl, trivial⟩
def spec_suLeft : Nat → Rw → Int → Int → Option Int
  | 0, _, _, _ => none
  | k + 1, a1, a2, a3 => spec_suLeft_b (spec_suLeft k) a1 a2 a3
theorem spec_suLeft_ct' : ∀ (k : Nat) (a1 : Rw) (a2 : Int) (a3 : Int) (r : Int), spec_suLeft k a1 a2 a3 = some r → Ct prog 111 [.agg [.d (D.sl a1)], .d (D.int .i64 a2), .d (D.int .i64 a3)] (⟨[], []⟩) (.d (D.int .i64 r)) (⟨[], []⟩)
  | 0, _, _, _, _, h => by rw [spec_suLeft] at h; cases h
  | k + 1, _, _, _, _, h => by rw [spec_suLeft] at h; exact spec_suLeft_b_ct (spec_suLeft_ct' k) h
theorem spec_suLeft_ct {k : Nat} {a1 : Rw} {a2 : Int} {a3 : Int} {r : Int} (h : spec_suLeft k a1 a2 a3 = some r) : Ct prog 111 [.agg [.d (D.sl a1)], .d (D.int .i64 a2), .d (D.int .i64 a3)] (⟨[], []⟩) (.d (D.int .i64 r)) (⟨[], []⟩) := spec_suLeft_ct' k _ _ _ _ h

def spec_suForm_p3  : Option Bool :=
  some true
set_option maxHeartbeats 4000000 in
set_option maxRecDepth 100000 in
theorem spec_suForm_p3_ct  {r : Bool} (h : spec_suForm_p3 = some r) : X prog 0 (tlF f112 3) (mk 53 [] []) (finK prog f112 0 (.d (D.bool r)) (⟨[], []⟩)) := by
  rw [spec_suForm_p3] at h
  conv => whnf
  cases h
  exact Done.of [] [] rfl rfl ⟨⟨rfl, rfl⟩, ⟨rfl, trivial⟩, rfl, trivial⟩
def spec_suForm_l0 (k : Nat) (rec_spec_suForm : Rw → Int → Option Bool) (a1 : Rw) (a2 : Int) (K0 : Option Bool) : Rw → Nat → Option Bool
  | [], v54n => (K0)
  | cs :: rest, v54n => (cell_sii cs fun x77 x78 x79 => ((spec_shGood k x78 x79).bind fun y81 => (if y81 = true then (if x78 = (0 : Int) then some false else ((rec_spec_suForm x77 (IntKind.i64.wrap (a2 - 1))).bind fun y85 => (if y85 = true then (if (0 : Int) < (v54n : Int) then (row_sii a1 (IntKind.i64.wrap ((v54n : Int) - 1)) fun x89 x90 x91 => ((spec_suCmp k x89 x77).bind fun y94 => (if y94 ≤ (0 : Int) then some false else (spec_suForm_l0 k rec_spec_suForm a1 a2 K0 rest (v54n + 1))))) else (spec_suForm_l0 k rec_spec_suForm a1 a2 K0 rest (v54n + 1))) else some false))) else some false)))
set_option maxRecDepth 100000 in
theorem spec_suForm_l0_ct {k : Nat} {rec_spec_suForm : Rw → Int → Option Bool} {a1 : Rw} {a2 : Int} {K0 : Option Bool} (hrec_spec_suForm : ∀ (a1 : Rw) (a2 : Int) (r : Bool), rec_spec_suForm a1 a2 = some r → Ct prog 112 [.agg [.d (D.sl a1)], .d (D.int .i64 a2)] (⟨[], []⟩) (.d (D.bool r)) (⟨[], []⟩)) {r : Bool} (hx : a1.length ≤ cap) : ∀ (rest : Rw) (v54n : Nat), a1.drop v54n = rest → spec_suForm_l0 k rec_spec_suForm a1 a2 K0 rest v54n = some r → LoopOk prog 0 (lp f112 0) (mk 53 [(1, .d (D.int .i64 a2)), (2, .ptr 128 0), (10, .d (D.sl a1)), (11, .d (D.int .i64 (a1.length : Int))), (12, .d (D.int .i64 (v54n : Int)))] [(128, .box 28 [.d (D.sl a1)])]) (LoopEnd prog f112 0 53 (.d (D.bool r)) (⟨[], []⟩) (fun i ts os => (i = 0 ∧ K0 = some r ∧ ts = [] ∧ os = [])))
  | [], v54n, hd, h => by
      rw [spec_suForm_l0] at h
      have hn := drop_nil hd
      refine LoopOk.step ?_
      conv => whnf
      refine splD (fun g => absurd g hn) (fun _ => ?_)
      conv => whnf
      exact ⟨_, _, [], [], ⟨rfl, h, rfl, rfl⟩, ⟨⟨rfl, rfl⟩, ⟨rfl, trivial⟩, trivial⟩⟩
  | cs :: rest, v54n, hd, h => by
      rw [spec_suForm_l0] at h
      obtain ⟨hrow, hd1, hlt⟩ := drop_cons hd
      refine LoopOk.step ?_
      conv => whnf
      refine splD (fun _ => ?_) (fun g => absurd hlt g)
      conv => whnf
      obtain ⟨x77, x78, x79, e80, h⟩ := cell_sii_ex h
      rw [e80] at hrow
      refine Req.of (Int.natCast_nonneg _) ?_
      refine Row.of _ hrow ?_
      conv => whnf
      refine Pick.no ?_
      conv => whnf
      obtain ⟨y81, e82, h⟩ := bind_ex h
      refine CallOk.of (spec_shGood_ct e82) ?_
      conv => whnf
      refine spl (fun g83 => ?_) (fun g83 => ?_)
      · replace h := iteT h g83
        conv => whnf
        refine splD (fun g84 => ?_) (fun g84 => ?_)
        · replace h := iteP h g84
          conv => whnf
          refine CutK.norm [1, 2, 10, 11, 12, 51] [128] ?_
          conv => whnf
          cases h
          exact Done.of [] [] rfl rfl ⟨⟨rfl, rfl⟩, ⟨rfl, trivial⟩, rfl, trivial⟩
        · replace h := iteN h g84
          conv => whnf
          refine Pick.no ?_
          conv => whnf
          obtain ⟨y85, e86, h⟩ := bind_ex h
          refine CallOk.of (hrec_spec_suForm _ _ _ e86) ?_
          conv => whnf
          refine spl (fun g87 => ?_) (fun g87 => ?_)
          · replace h := iteT h g87
            conv => whnf
            refine splD (fun g88 => ?_) (fun g88 => ?_)
            · replace h := iteP h g88
              conv => whnf
              obtain ⟨g93, x89, x90, x91, e92, h⟩ := row_sii_ex h
              refine Req.of g93 ?_
              refine Row.of _ e92 ?_
              conv => whnf
              refine Pick.no ?_
              conv => whnf
              obtain ⟨y94, e95, h⟩ := bind_ex h
              refine CallOk.of (spec_suCmp_ct e95) ?_
              conv => whnf
              refine splD (fun g96 => ?_) (fun g96 => ?_)
              · replace h := iteP h g96
                conv => whnf
                refine CutK.norm [1, 2, 10, 11, 12, 51] [128] ?_
                conv => whnf
                cases h
                exact Done.of [] [] rfl rfl ⟨⟨rfl, rfl⟩, ⟨rfl, trivial⟩, rfl, trivial⟩
              · replace h := iteN h g96
                conv => whnf
                refine CutK.norm [1, 2, 10, 11, 12, 51] [128] ?_
                conv => whnf
                refine CutK.norm [1, 2, 10, 11, 12] [128] ?_
                conv => whnf
                exact LoopOk.back (spec_suForm_l0_ct hrec_spec_suForm hx rest (v54n + 1)  hd1 h) [some 128] [] ⟨⟨rfl, rfl⟩, ⟨rfl, ⟨rfl, rfl, trivial⟩, trivial⟩, rfl, ⟨rfl, rfl⟩, rfl, rfl, i64eq (wrap_up hlt hx), trivial⟩
            · replace h := iteN h g88
              conv => whnf
              refine CutK.norm [1, 2, 10, 11, 12, 51] [128] ?_
              conv => whnf
              refine CutK.norm [1, 2, 10, 11, 12] [128] ?_
              conv => whnf
              exact LoopOk.back (spec_suForm_l0_ct hrec_spec_suForm hx rest (v54n + 1)  hd1 h) [some 128] [] ⟨⟨rfl, rfl⟩, ⟨rfl, ⟨rfl, rfl, trivial⟩, trivial⟩, rfl, ⟨rfl, rfl⟩, rfl, rfl, i64eq (wrap_up hlt hx), trivial⟩
          · replace h := iteF h g87
            conv => whnf
            refine CutK.norm [1, 2, 10, 11, 12, 51] [128] ?_
            conv => whnf
            cases h
            exact Done.of [] [] rfl rfl ⟨⟨rfl, rfl⟩, ⟨rfl, trivial⟩, rfl, trivial⟩
      · replace h := iteF h g83
        conv => whnf
        refine CutK.norm [1, 2, 10, 11, 12, 51] [128] ?_
        conv => whnf
        cases h
        exact Done.of [] [] rfl rfl ⟨⟨rfl, rfl⟩, ⟨rfl, trivial⟩, rfl, trivial⟩
def spec_suForm_b (k : Nat) (rec_spec_suForm : Rw → Int → Option Bool) (a1 : Rw) (a2 : Int) : Option Bool :=
  (if a2 < (0 : Int) then some false else (if a1.length ≤ cap then (spec_suForm_l0 k rec_spec_suForm a1 a2 (spec_suForm_p3) a1 0) else none))
set_option maxHeartbeats 4000000 in
set_option maxRecDepth 100000 in
theorem spec_suForm_b_ct {k : Nat} {rec_spec_suForm : Rw → Int → Option Bool} (hrec_spec_suForm : ∀ (a1 : Rw) (a2 : Int) (r : Bool), rec_spec_suForm a1 a2 = some r → Ct prog 112 [.agg [.d (D.sl a1)], .d (D.int .i64 a2)] (⟨[], []⟩) (.d (D.bool r)) (⟨[], []⟩)) {a1 : Rw} {a2 : Int} {r : Bool} (h : spec_suForm_b k rec_spec_suForm a1 a2 = some r) : Ct prog 112 [.agg [.d (D.sl a1)], .d (D.int .i64 a2)] (⟨[], []⟩) (.d (D.bool r)) (⟨[], []⟩) := by
  rw [spec_suForm_b] at h
  refine Ct.of (c := _) mixed func112 ⟨rfl, rfl, rfl⟩ ?_ rfl
  conv => whnf
  refine splD (fun g40 => ?_) (fun g40 => ?_)
  · replace h := iteP h g40
    conv => whnf
    cases h
    exact Done.of [] [] rfl rfl ⟨⟨rfl, rfl⟩, ⟨rfl, trivial⟩, rfl, trivial⟩
  · replace h := iteN h g40
    conv => whnf
    obtain ⟨g97, h⟩ := req_ex h
    refine LoopOk.into (spec_suForm_l0_ct hrec_spec_suForm g97 _ _  rfl h) [some 128] [] ⟨⟨rfl, rfl⟩, ⟨rfl, ⟨rfl, rfl, trivial⟩, trivial⟩, rfl, ⟨rfl, rfl⟩, rfl, rfl, rfl, trivial⟩ ?_ (fun _ hs => hs)
    rintro i ts os ⟨rfl, h, rfl, rfl⟩
    conv => whnf
    exact CutK.piece (spec_suForm_p3_ct  h) [] [] ⟨⟨rfl, rfl⟩, ⟨rfl, trivial⟩, trivial⟩
def spec_suForm : Nat → Rw → Int → Option Bool
  | 0, _, _ => none
  | k + 1, a1, a2 => spec_suForm_b k (spec_suForm k) a1 a2
theorem spec_suForm_ct' : ∀ (k : Nat) (a1 : Rw) (a2 : Int) (r : Bool), spec_suForm k a1 a2 = some r → Ct prog 112 [.agg [.d (D.sl a1)], .d (D.int .i64 a2)] (⟨[], []⟩) (.d (D.bool r)) (⟨[], []⟩)
  | 0, _, _, _, h => by rw [spec_suForm] at h; cases h
  | k + 1, _, _, _, h => by rw [spec_suForm] at h; exact spec_suForm_b_ct (spec_suForm_ct' k) h
theorem spec_suForm_ct {k : Nat} {a1 : Rw} {a2 : Int} {r : Bool} (h : spec_suForm k a1 a2 = some r) : Ct prog 112 [.agg [.d (D.sl a1)], .d (D.int .i64 a2)] (⟨[], []⟩) (.d (D.bool r)) (⟨[], []⟩) := spec_suForm_ct' k _ _ _ h

def spec_suGood (k : Nat) (a1 : Rw) : Option Bool :=
  ((spec_suLeft k a1 6 60).bind fun y2 => (if (0 : Int) ≤ y2 then ((spec_suForm k a1 6).bind fun y5 => (if y5 = true then some true else some false)) else some false))
set_option maxHeartbeats 4000000 in
set_option maxRecDepth 100000 in
theorem spec_suGood_ct {k : Nat} {a1 : Rw} {r : Bool} (h : spec_suGood k a1 = some r) : Ct prog 46 [.agg [.d (D.sl a1)]] (⟨[], []⟩) (.d (D.bool r)) (⟨[], []⟩) := by
  rw [spec_suGood] at h
  refine Ct.of (c := _) mixed func46 ⟨rfl, rfl, rfl⟩ ?_ rfl
  conv => whnf
  refine Pick.no ?_
  conv => whnf
  obtain ⟨y2, e3, h⟩ := bind_ex h
  refine CallOk.of (spec_suLeft_ct e3) ?_
  conv => whnf
  refine splD (fun g4 => ?_) (fun g4 => ?_)
  · replace h := iteP h g4
    conv => whnf
    refine Pick.no ?_
    conv => whnf
    obtain ⟨y5, e6, h⟩ := bind_ex h
    refine CallOk.of (spec_suForm_ct e6) ?_
    conv => whnf
    refine spl (fun g7 => ?_) (fun g7 => ?_)
    · replace h := iteT h g7
      conv => whnf
      refine CutK.go ?_
      conv => whnf
      cases h
      exact Done.of [] [] rfl rfl ⟨⟨rfl, rfl⟩, ⟨rfl, trivial⟩, rfl, trivial⟩
    · replace h := iteF h g7
      conv => whnf
      refine CutK.go ?_
      conv => whnf
      cases h
      exact Done.of [] [] rfl rfl ⟨⟨rfl, rfl⟩, ⟨rfl, trivial⟩, rfl, trivial⟩
  · replace h := iteN h g4
    conv => whnf
    refine CutK.go ?_
    conv => whnf
    cases h
    exact Done.of [] [] rfl rfl ⟨⟨rfl, rfl⟩, ⟨rfl, trivial⟩, rfl, trivial⟩

def spec_suIf (k : Nat) (a1 : Rw) : Option (Rw × Bool) :=
  ((spec_suGood k a1).bind fun y2 => (if y2 = true then ((spec_suOwn k a1).bind fun y5 => some (y5, true)) else some (([] : Rw), false)))
set_option maxHeartbeats 4000000 in
set_option maxRecDepth 100000 in
theorem spec_suIf_ct {k : Nat} {a1 : Rw} {r : Rw × Bool} (h : spec_suIf k a1 = some r) : Ct prog 171 [.agg [.d (D.sl a1)]] (⟨[], []⟩) (.tup [.agg [.os 8 r.1.length], .d (D.bool r.2)]) (⟨[], [(116, true, r.1)]⟩) := by
  rw [spec_suIf] at h
  refine Ct.of (c := _) mixed func171 ⟨rfl, rfl, rfl⟩ ?_ rfl
  conv => whnf
  refine Pick.no ?_
  conv => whnf
  obtain ⟨y2, e3, h⟩ := bind_ex h
  refine CallOk.of (spec_suGood_ct e3) ?_
  conv => whnf
  refine spl (fun g4 => ?_) (fun g4 => ?_)
  · replace h := iteT h g4
    conv => whnf
    refine CutK.go ?_
    conv => whnf
    refine CutK.go ?_
    conv => whnf
    refine Pick.no ?_
    conv => whnf
    obtain ⟨y5, e6, h⟩ := bind_ex h
    refine CallOk.of (spec_suOwn_ct e6) ?_
    conv => whnf
    refine CutK.go ?_
    conv => whnf
    cases h
    exact Done.of [some 576] [] rfl rfl ⟨⟨rfl, rfl⟩, ⟨rfl, ⟨rfl, rfl, rows_same⟩, trivial⟩, ⟨⟨⟨rfl, rfl⟩, trivial⟩, rfl, trivial⟩, trivial⟩
  · replace h := iteF h g4
    conv => whnf
    refine CutK.go ?_
    conv => whnf
    cases h
    exact Done.of [none] [] rfl rfl ⟨⟨rfl, rfl⟩, ⟨rfl, rfl, trivial⟩, ⟨⟨⟨rfl, rfl⟩, trivial⟩, rfl, trivial⟩, trivial⟩

def spec_suSum (k : Nat) (a1 : Rw) (a2 : Rw) : Option (Rw × Bool) :=
  ((spec_suPlus k a1 a2).bind fun y3 => (if y3.2 = true then ((spec_suIf k y3.1).bind fun y6 => (if y6.2 = true then some (y6.1, true) else some (y6.1, false))) else some (([] : Rw), false)))
set_option maxHeartbeats 4000000 in
set_option maxRecDepth 100000 in
theorem spec_suSum_ct {k : Nat} {a1 : Rw} {a2 : Rw} {r : Rw × Bool} (h : spec_suSum k a1 a2 = some r) : Ct prog 117 [.agg [.d (D.sl a1)], .agg [.d (D.sl a2)]] (⟨[], []⟩) (.tup [.agg [.os 8 r.1.length], .d (D.bool r.2)]) (⟨[], [(116, true, r.1)]⟩) := by
  rw [spec_suSum] at h
  refine Ct.of (c := _) mixed func117 ⟨rfl, rfl, rfl⟩ ?_ rfl
  conv => whnf
  refine Pick.no ?_
  conv => whnf
  obtain ⟨y3, e4, h⟩ := bind_ex h
  refine CallOk.of (spec_suPlus_ct e4) ?_
  conv => whnf
  refine spl (fun g5 => ?_) (fun g5 => ?_)
  · replace h := iteT h g5
    conv => whnf
    refine CutK.go ?_
    conv => whnf
    refine Pick.no ?_
    conv => whnf
    obtain ⟨y6, e7, h⟩ := bind_ex h
    refine CallOk.of (spec_suIf_ct e7) ?_
    conv => whnf
    refine spl (fun g8 => ?_) (fun g8 => ?_)
    · replace h := iteT h g8
      conv => whnf
      refine CutK.go ?_
      conv => whnf
      cases h
      exact Done.of [some 1152] [] rfl rfl ⟨⟨rfl, rfl⟩, ⟨rfl, ⟨rfl, rfl, rows_same⟩, trivial⟩, ⟨⟨⟨rfl, rfl⟩, trivial⟩, rfl, trivial⟩, trivial⟩
    · replace h := iteF h g8
      conv => whnf
      refine CutK.go ?_
      conv => whnf
      cases h
      exact Done.of [some 1152] [] rfl rfl ⟨⟨rfl, rfl⟩, ⟨rfl, ⟨rfl, rfl, rows_same⟩, trivial⟩, ⟨⟨⟨rfl, rfl⟩, trivial⟩, rfl, trivial⟩, trivial⟩
  · replace h := iteF h g5
    conv => whnf
    refine CutK.go ?_
    conv => whnf
    cases h
    exact Done.of [none] [] rfl rfl ⟨⟨rfl, rfl⟩, ⟨rfl, rfl, trivial⟩, ⟨⟨⟨rfl, rfl⟩, trivial⟩, rfl, trivial⟩, trivial⟩

def spec_seChecked_keep  (a1 : Bool) (a2 : Rw) (a3 : Bool) : Option (Rw × Bool) :=
  (cond a1 (cond a3 (some (([] : Rw), true)) (some (([] : Rw), true))) (cond a3 (some (a2, false)) (some (([] : Rw), true))))
set_option maxHeartbeats 4000000 in
set_option maxRecDepth 100000 in
theorem spec_seChecked_keep_ct  {a1 : Bool} {a2 : Rw} {a3 : Bool} {r : Rw × Bool} (h : spec_seChecked_keep a1 a2 a3 = some r) : Ct prog 115 [.ptr 0 0, .agg [.d (D.sl a2)], .d (D.bool a3)] (⟨[(77, [.d (D.bool a1)])], []⟩) (.agg [.d (D.sl r.1)]) (⟨[(77, [.d (D.bool r.2)])], []⟩) := by
  rw [spec_seChecked_keep] at h
  refine Ct.of (c := _) mixed func115 ⟨rfl, rfl, rfl⟩ ?_ rfl
  cases a1
  · replace h := condF h
    cases a3
    · replace h := condF h
      conv => whnf
      refine splF ?_
      conv => whnf
      refine splT ?_
      conv => whnf
      cases h
      exact Done.of [some 0] [] rfl rfl ⟨⟨rfl, rfl⟩, ⟨rfl, ⟨rfl, rfl, trivial⟩, trivial⟩, ⟨rfl, trivial⟩, trivial⟩
    · replace h := condT h
      conv => whnf
      refine splF ?_
      conv => whnf
      refine splF ?_
      conv => whnf
      cases h
      exact Done.of [some 0] [] rfl rfl ⟨⟨rfl, rfl⟩, ⟨rfl, ⟨rfl, rfl, trivial⟩, trivial⟩, ⟨rfl, trivial⟩, trivial⟩
  · replace h := condT h
    cases a3
    · replace h := condF h
      conv => whnf
      refine splT ?_
      conv => whnf
      refine splT ?_
      conv => whnf
      cases h
      exact Done.of [some 0] [] rfl rfl ⟨⟨rfl, rfl⟩, ⟨rfl, ⟨rfl, rfl, trivial⟩, trivial⟩, ⟨rfl, trivial⟩, trivial⟩
    · replace h := condT h
      conv => whnf
      refine splT ?_
      conv => whnf
      refine splT ?_
      conv => whnf
      cases h
      exact Done.of [some 0] [] rfl rfl ⟨⟨rfl, rfl⟩, ⟨rfl, ⟨rfl, rfl, trivial⟩, trivial⟩, ⟨rfl, trivial⟩, trivial⟩

def spec_seChecked_sub (k : Nat) (a1 : Bool) (a2 : Rw) (a3 : Rw) : Option (Rw × Bool) :=
  (cond a1 ((spec_suNeg a3).bind fun y13 => ((spec_suSum k a2 y13).bind fun y15 => (if y15.2 = true then ((spec_seChecked_keep true y15.1 true).bind fun y18 => some (y18.1, y18.2)) else ((spec_seChecked_keep true y15.1 false).bind fun y20 => some (y20.1, y20.2))))) ((spec_suNeg a3).bind fun y4 => ((spec_suSum k a2 y4).bind fun y6 => (if y6.2 = true then ((spec_seChecked_keep false y6.1 true).bind fun y9 => some (y9.1, y9.2)) else ((spec_seChecked_keep false y6.1 false).bind fun y11 => some (y11.1, y11.2))))))
set_option maxHeartbeats 4000000 in
set_option maxRecDepth 100000 in
theorem spec_seChecked_sub_ct {k : Nat} {a1 : Bool} {a2 : Rw} {a3 : Rw} {r : Rw × Bool} (h : spec_seChecked_sub k a1 a2 a3 = some r) : Ct prog 127 [.ptr 0 0, .agg [.d (D.sl a2)], .agg [.d (D.sl a3)]] (⟨[(77, [.d (D.bool a1)])], []⟩) (.agg [.d (D.sl r.1)]) (⟨[(77, [.d (D.bool r.2)])], []⟩) := by
  rw [spec_seChecked_sub] at h
  refine Ct.of (c := _) mixed func127 ⟨rfl, rfl, rfl⟩ ?_ rfl
  cases a1
  · replace h := condF h
    conv => whnf
    refine Pick.no ?_
    conv => whnf
    obtain ⟨y4, e5, h⟩ := bind_ex h
    refine CallOk.of (spec_suNeg_ct e5) ?_
    conv => whnf
    refine Pick.no ?_
    conv => whnf
    refine Take.all (rfl) ?_
    conv => whnf
    obtain ⟨y6, e7, h⟩ := bind_ex h
    refine CallOk.of (spec_suSum_ct e7) ?_
    conv => whnf
    refine spl (fun g8 => ?_) (fun g8 => ?_)
    · replace h := iteT h g8
      conv => whnf
      refine Pick.no ?_
      conv => whnf
      refine Take.all (rfl) ?_
      conv => whnf
      obtain ⟨y9, e10, h⟩ := bind_ex h
      refine CallOk.of (spec_seChecked_keep_ct e10) ?_
      conv => whnf
      refine CutK.go ?_
      conv => whnf
      cases h
      exact Done.of [some 0] [] rfl rfl ⟨⟨rfl, rfl⟩, ⟨rfl, ⟨rfl, rfl, trivial⟩, trivial⟩, ⟨rfl, trivial⟩, trivial⟩
    · replace h := iteF h g8
      conv => whnf
      refine Pick.no ?_
      conv => whnf
      refine Take.all (rfl) ?_
      conv => whnf
      obtain ⟨y11, e12, h⟩ := bind_ex h
      refine CallOk.of (spec_seChecked_keep_ct e12) ?_
      conv => whnf
      refine CutK.go ?_
      conv => whnf
      cases h
      exact Done.of [some 0] [] rfl rfl ⟨⟨rfl, rfl⟩, ⟨rfl, ⟨rfl, rfl, trivial⟩, trivial⟩, ⟨rfl, trivial⟩, trivial⟩
  · replace h := condT h
    conv => whnf
    refine Pick.no ?_
    conv => whnf
    obtain ⟨y13, e14, h⟩ := bind_ex h
    refine CallOk.of (spec_suNeg_ct e14) ?_
    conv => whnf
    refine Pick.no ?_
    conv => whnf
    refine Take.all (rfl) ?_
    conv => whnf
    obtain ⟨y15, e16, h⟩ := bind_ex h
    refine CallOk.of (spec_suSum_ct e16) ?_
    conv => whnf
    refine spl (fun g17 => ?_) (fun g17 => ?_)
    · replace h := iteT h g17
      conv => whnf
      refine Pick.no ?_
      conv => whnf
      refine Take.all (rfl) ?_
      conv => whnf
      obtain ⟨y18, e19, h⟩ := bind_ex h
      refine CallOk.of (spec_seChecked_keep_ct e19) ?_
      conv => whnf
      refine CutK.go ?_
      conv => whnf
      cases h
      exact Done.of [some 0] [] rfl rfl ⟨⟨rfl, rfl⟩, ⟨rfl, ⟨rfl, rfl, trivial⟩, trivial⟩, ⟨rfl, trivial⟩, trivial⟩
    · replace h := iteF h g17
      conv => whnf
      refine Pick.no ?_
      conv => whnf
      refine Take.all (rfl) ?_
      conv => whnf
      obtain ⟨y20, e21, h⟩ := bind_ex h
      refine CallOk.of (spec_seChecked_keep_ct e21) ?_
      conv => whnf
      refine CutK.go ?_
      conv => whnf
      cases h
      exact Done.of [some 0] [] rfl rfl ⟨⟨rfl, rfl⟩, ⟨rfl, ⟨rfl, rfl, trivial⟩, trivial⟩, ⟨rfl, trivial⟩, trivial⟩

def spec_shInt  (a1 : Int) : Option (Int × Int) :=
  some (a1, 1)
set_option maxHeartbeats 4000000 in
set_option maxRecDepth 100000 in
theorem spec_shInt_ct  {a1 : Int} {r : Int × Int} (h : spec_shInt a1 = some r) : Ct prog 90 [.d (D.int .i64 a1)] (⟨[], []⟩) (.agg [.d (D.int .i64 r.1), .d (D.int .i64 r.2)]) (⟨[], []⟩) := by
  rw [spec_shInt] at h
  refine Ct.of (c := _) mixed func90 ⟨rfl, rfl, rfl⟩ ?_ rfl
  conv => whnf
  cases h
  exact Done.of [] [] rfl rfl ⟨⟨rfl, rfl⟩, ⟨rfl, trivial⟩, ⟨rfl, rfl, trivial⟩, trivial⟩

def spec_seChecked_fraction (k : Nat) (a1 : Bool) (a2 : Int) (a3 : Int) : Option (Int × Int × Bool) :=
  (cond a1 ((spec_shInt 1).bind fun y9 => some (y9.1, y9.2, true)) ((spec_shGood k a2 a3).bind fun y4 => (if y4 = true then some (a2, a3, false) else ((spec_shInt 1).bind fun y7 => some (y7.1, y7.2, true)))))
set_option maxHeartbeats 4000000 in
set_option maxRecDepth 100000 in
theorem spec_seChecked_fraction_ct {k : Nat} {a1 : Bool} {a2 : Int} {a3 : Int} {r : Int × Int × Bool} (h : spec_seChecked_fraction k a1 a2 a3 = some r) : Ct prog 176 [.ptr 0 0, .agg [.d (D.int .i64 a2), .d (D.int .i64 a3)]] (⟨[(77, [.d (D.bool a1)])], []⟩) (.agg [.d (D.int .i64 r.1), .d (D.int .i64 r.2.1)]) (⟨[(77, [.d (D.bool r.2.2)])], []⟩) := by
  rw [spec_seChecked_fraction] at h
  refine Ct.of (c := _) mixed func176 ⟨rfl, rfl, rfl⟩ ?_ rfl
  cases a1
  · replace h := condF h
    conv => whnf
    refine splF ?_
    conv => whnf
    refine Pick.no ?_
    conv => whnf
    obtain ⟨y4, e5, h⟩ := bind_ex h
    refine CallOk.of (spec_shGood_ct e5) ?_
    conv => whnf
    refine spl (fun g6 => ?_) (fun g6 => ?_)
    · replace h := iteT h g6
      conv => whnf
      refine CutK.go ?_
      conv => whnf
      refine splF ?_
      conv => whnf
      refine CutK.go ?_
      conv => whnf
      cases h
      exact Done.of [some 0] [] rfl rfl ⟨⟨rfl, rfl⟩, ⟨rfl, ⟨rfl, rfl, trivial⟩, trivial⟩, ⟨rfl, rfl, trivial⟩, trivial⟩
    · replace h := iteF h g6
      conv => whnf
      refine CutK.go ?_
      conv => whnf
      refine splT ?_
      conv => whnf
      refine Pick.no ?_
      conv => whnf
      obtain ⟨y7, e8, h⟩ := bind_ex h
      refine CallOk.of (spec_shInt_ct e8) ?_
      conv => whnf
      refine CutK.go ?_
      conv => whnf
      cases h
      exact Done.of [some 0] [] rfl rfl ⟨⟨rfl, rfl⟩, ⟨rfl, ⟨rfl, rfl, trivial⟩, trivial⟩, ⟨rfl, rfl, trivial⟩, trivial⟩
  · replace h := condT h
    conv => whnf
    refine splT ?_
    conv => whnf
    refine CutK.go ?_
    conv => whnf
    refine splT ?_
    conv => whnf
    refine Pick.no ?_
    conv => whnf
    obtain ⟨y9, e10, h⟩ := bind_ex h
    refine CallOk.of (spec_shInt_ct e10) ?_
    conv => whnf
    refine CutK.go ?_
    conv => whnf
    cases h
    exact Done.of [some 0] [] rfl rfl ⟨⟨rfl, rfl⟩, ⟨rfl, ⟨rfl, rfl, trivial⟩, trivial⟩, ⟨rfl, rfl, trivial⟩, trivial⟩

def spec_seChecked_over (k : Nat) (a1 : Bool) (a2 : Int) (a3 : Int) (a4 : Int) (a5 : Int) : Option (Int × Int × Bool) :=
  (cond a1 ((spec_shMake k (IntKind.i64.wrap (a2 * a5)) (IntKind.i64.wrap (a3 * a4))).bind fun y10 => ((spec_seChecked_fraction k true y10.1 y10.2).bind fun y12 => some (y12.1, y12.2.1, y12.2.2))) ((spec_shMake k (IntKind.i64.wrap (a2 * a5)) (IntKind.i64.wrap (a3 * a4))).bind fun y6 => ((spec_seChecked_fraction k false y6.1 y6.2).bind fun y8 => some (y8.1, y8.2.1, y8.2.2))))
set_option maxHeartbeats 4000000 in
set_option maxRecDepth 100000 in
theorem spec_seChecked_over_ct {k : Nat} {a1 : Bool} {a2 : Int} {a3 : Int} {a4 : Int} {a5 : Int} {r : Int × Int × Bool} (h : spec_seChecked_over k a1 a2 a3 a4 a5 = some r) : Ct prog 128 [.ptr 0 0, .agg [.d (D.int .i64 a2), .d (D.int .i64 a3)], .agg [.d (D.int .i64 a4), .d (D.int .i64 a5)]] (⟨[(77, [.d (D.bool a1)])], []⟩) (.agg [.d (D.int .i64 r.1), .d (D.int .i64 r.2.1)]) (⟨[(77, [.d (D.bool r.2.2)])], []⟩) := by
  rw [spec_seChecked_over] at h
  refine Ct.of (c := _) mixed func128 ⟨rfl, rfl, rfl⟩ ?_ rfl
  cases a1
  · replace h := condF h
    conv => whnf
    refine Pick.no ?_
    conv => whnf
    obtain ⟨y6, e7, h⟩ := bind_ex h
    refine CallOk.of (spec_shMake_ct e7) ?_
    conv => whnf
    refine Pick.no ?_
    conv => whnf
    obtain ⟨y8, e9, h⟩ := bind_ex h
    refine CallOk.of (spec_seChecked_fraction_ct e9) ?_
    conv => whnf
    refine CutK.go ?_
    conv => whnf
    cases h
    exact Done.of [some 0] [] rfl rfl ⟨⟨rfl, rfl⟩, ⟨rfl, ⟨rfl, rfl, trivial⟩, trivial⟩, ⟨rfl, rfl, trivial⟩, trivial⟩
  · replace h := condT h
    conv => whnf
    refine Pick.no ?_
    conv => whnf
    obtain ⟨y10, e11, h⟩ := bind_ex h
    refine CallOk.of (spec_shMake_ct e11) ?_
    conv => whnf
    refine Pick.no ?_
    conv => whnf
    obtain ⟨y12, e13, h⟩ := bind_ex h
    refine CallOk.of (spec_seChecked_fraction_ct e13) ?_
    conv => whnf
    refine CutK.go ?_
    conv => whnf
    cases h
    exact Done.of [some 0] [] rfl rfl ⟨⟨rfl, rfl⟩, ⟨rfl, ⟨rfl, rfl, trivial⟩, trivial⟩, ⟨rfl, rfl, trivial⟩, trivial⟩

def spec_seChecked_term (k : Nat) (a1 : Bool) (a2 : Rw) (a3 : Int) (a4 : Int) : Option (Rw × Bool) :=
  (cond a1 ((spec_suTerm a2 a3 a4).bind fun y14 => ((spec_suIf k y14).bind fun y16 => (if y16.2 = true then ((spec_seChecked_keep true y16.1 true).bind fun y19 => some (y19.1, y19.2)) else ((spec_seChecked_keep true y16.1 false).bind fun y21 => some (y21.1, y21.2))))) ((spec_suTerm a2 a3 a4).bind fun y5 => ((spec_suIf k y5).bind fun y7 => (if y7.2 = true then ((spec_seChecked_keep false y7.1 true).bind fun y10 => some (y10.1, y10.2)) else ((spec_seChecked_keep false y7.1 false).bind fun y12 => some (y12.1, y12.2))))))
set_option maxHeartbeats 4000000 in
set_option maxRecDepth 100000 in
theorem spec_seChecked_term_ct {k : Nat} {a1 : Bool} {a2 : Rw} {a3 : Int} {a4 : Int} {r : Rw × Bool} (h : spec_seChecked_term k a1 a2 a3 a4 = some r) : Ct prog 126 [.ptr 0 0, .agg [.d (D.sl a2)], .agg [.d (D.int .i64 a3), .d (D.int .i64 a4)]] (⟨[(77, [.d (D.bool a1)])], []⟩) (.agg [.d (D.sl r.1)]) (⟨[(77, [.d (D.bool r.2)])], []⟩) := by
  rw [spec_seChecked_term] at h
  refine Ct.of (c := _) mixed func126 ⟨rfl, rfl, rfl⟩ ?_ rfl
  cases a1
  · replace h := condF h
    conv => whnf
    refine Pick.no ?_
    conv => whnf
    obtain ⟨y5, e6, h⟩ := bind_ex h
    refine CallOk.of (spec_suTerm_ct e6) ?_
    conv => whnf
    refine Pick.no ?_
    conv => whnf
    refine Take.all (rfl) ?_
    conv => whnf
    obtain ⟨y7, e8, h⟩ := bind_ex h
    refine CallOk.of (spec_suIf_ct e8) ?_
    conv => whnf
    refine spl (fun g9 => ?_) (fun g9 => ?_)
    · replace h := iteT h g9
      conv => whnf
      refine Pick.no ?_
      conv => whnf
      refine Take.all (rfl) ?_
      conv => whnf
      obtain ⟨y10, e11, h⟩ := bind_ex h
      refine CallOk.of (spec_seChecked_keep_ct e11) ?_
      conv => whnf
      refine CutK.go ?_
      conv => whnf
      cases h
      exact Done.of [some 0] [] rfl rfl ⟨⟨rfl, rfl⟩, ⟨rfl, ⟨rfl, rfl, trivial⟩, trivial⟩, ⟨rfl, trivial⟩, trivial⟩
    · replace h := iteF h g9
      conv => whnf
      refine Pick.no ?_
      conv => whnf
      refine Take.all (rfl) ?_
      conv => whnf
      obtain ⟨y12, e13, h⟩ := bind_ex h
      refine CallOk.of (spec_seChecked_keep_ct e13) ?_
      conv => whnf
      refine CutK.go ?_
      conv => whnf
      cases h
      exact Done.of [some 0] [] rfl rfl ⟨⟨rfl, rfl⟩, ⟨rfl, ⟨rfl, rfl, trivial⟩, trivial⟩, ⟨rfl, trivial⟩, trivial⟩
  · replace h := condT h
    conv => whnf
    refine Pick.no ?_
    conv => whnf
    obtain ⟨y14, e15, h⟩ := bind_ex h
    refine CallOk.of (spec_suTerm_ct e15) ?_
    conv => whnf
    refine Pick.no ?_
    conv => whnf
    refine Take.all (rfl) ?_
    conv => whnf
    obtain ⟨y16, e17, h⟩ := bind_ex h
    refine CallOk.of (spec_suIf_ct e17) ?_
    conv => whnf
    refine spl (fun g18 => ?_) (fun g18 => ?_)
    · replace h := iteT h g18
      conv => whnf
      refine Pick.no ?_
      conv => whnf
      refine Take.all (rfl) ?_
      conv => whnf
      obtain ⟨y19, e20, h⟩ := bind_ex h
      refine CallOk.of (spec_seChecked_keep_ct e20) ?_
      conv => whnf
      refine CutK.go ?_
      conv => whnf
      cases h
      exact Done.of [some 0] [] rfl rfl ⟨⟨rfl, rfl⟩, ⟨rfl, ⟨rfl, rfl, trivial⟩, trivial⟩, ⟨rfl, trivial⟩, trivial⟩
    · replace h := iteF h g18
      conv => whnf
      refine Pick.no ?_
      conv => whnf
      refine Take.all (rfl) ?_
      conv => whnf
      obtain ⟨y21, e22, h⟩ := bind_ex h
      refine CallOk.of (spec_seChecked_keep_ct e22) ?_
      conv => whnf
      refine CutK.go ?_
      conv => whnf
      cases h
      exact Done.of [some 0] [] rfl rfl ⟨⟨rfl, rfl⟩, ⟨rfl, ⟨rfl, rfl, trivial⟩, trivial⟩, ⟨rfl, trivial⟩, trivial⟩

def spec_seChecked_add (k : Nat) (a1 : Bool) (a2 : Rw) (a3 : Rw) : Option (Rw × Bool) :=
  (cond a1 ((spec_suSum k a2 a3).bind fun y11 => (if y11.2 = true then ((spec_seChecked_keep true y11.1 true).bind fun y14 => some (y14.1, y14.2)) else ((spec_seChecked_keep true y11.1 false).bind fun y16 => some (y16.1, y16.2)))) ((spec_suSum k a2 a3).bind fun y4 => (if y4.2 = true then ((spec_seChecked_keep false y4.1 true).bind fun y7 => some (y7.1, y7.2)) else ((spec_seChecked_keep false y4.1 false).bind fun y9 => some (y9.1, y9.2)))))
set_option maxHeartbeats 4000000 in
set_option maxRecDepth 100000 in
theorem spec_seChecked_add_ct {k : Nat} {a1 : Bool} {a2 : Rw} {a3 : Rw} {r : Rw × Bool} (h : spec_seChecked_add k a1 a2 a3 = some r) : Ct prog 52 [.ptr 0 0, .agg [.d (D.sl a2)], .agg [.d (D.sl a3)]] (⟨[(77, [.d (D.bool a1)])], []⟩) (.agg [.d (D.sl r.1)]) (⟨[(77, [.d (D.bool r.2)])], []⟩) := by
  rw [spec_seChecked_add] at h
  refine Ct.of (c := _) mixed func52 ⟨rfl, rfl, rfl⟩ ?_ rfl
  cases a1
  · replace h := condF h
    conv => whnf
    refine Pick.no ?_
    conv => whnf
    obtain ⟨y4, e5, h⟩ := bind_ex h
    refine CallOk.of (spec_suSum_ct e5) ?_
    conv => whnf
    refine spl (fun g6 => ?_) (fun g6 => ?_)
    · replace h := iteT h g6
      conv => whnf
      refine Pick.no ?_
      conv => whnf
      refine Take.all (rfl) ?_
      conv => whnf
      obtain ⟨y7, e8, h⟩ := bind_ex h
      refine CallOk.of (spec_seChecked_keep_ct e8) ?_
      conv => whnf
      refine CutK.go ?_
      conv => whnf
      cases h
      exact Done.of [some 0] [] rfl rfl ⟨⟨rfl, rfl⟩, ⟨rfl, ⟨rfl, rfl, trivial⟩, trivial⟩, ⟨rfl, trivial⟩, trivial⟩
    · replace h := iteF h g6
      conv => whnf
      refine Pick.no ?_
      conv => whnf
      refine Take.all (rfl) ?_
      conv => whnf
      obtain ⟨y9, e10, h⟩ := bind_ex h
      refine CallOk.of (spec_seChecked_keep_ct e10) ?_
      conv => whnf
      refine CutK.go ?_
      conv => whnf
      cases h
      exact Done.of [some 0] [] rfl rfl ⟨⟨rfl, rfl⟩, ⟨rfl, ⟨rfl, rfl, trivial⟩, trivial⟩, ⟨rfl, trivial⟩, trivial⟩
  · replace h := condT h
    conv => whnf
    refine Pick.no ?_
    conv => whnf
    obtain ⟨y11, e12, h⟩ := bind_ex h
    refine CallOk.of (spec_suSum_ct e12) ?_
    conv => whnf
    refine spl (fun g13 => ?_) (fun g13 => ?_)
    · replace h := iteT h g13
      conv => whnf
      refine Pick.no ?_
      conv => whnf
      refine Take.all (rfl) ?_
      conv => whnf
      obtain ⟨y14, e15, h⟩ := bind_ex h
      refine CallOk.of (spec_seChecked_keep_ct e15) ?_
      conv => whnf
      refine CutK.go ?_
      conv => whnf
      cases h
      exact Done.of [some 0] [] rfl rfl ⟨⟨rfl, rfl⟩, ⟨rfl, ⟨rfl, rfl, trivial⟩, trivial⟩, ⟨rfl, trivial⟩, trivial⟩
    · replace h := iteF h g13
      conv => whnf
      refine Pick.no ?_
      conv => whnf
      refine Take.all (rfl) ?_
      conv => whnf
      obtain ⟨y16, e17, h⟩ := bind_ex h
      refine CallOk.of (spec_seChecked_keep_ct e17) ?_
      conv => whnf
      refine CutK.go ?_
      conv => whnf
      cases h
      exact Done.of [some 0] [] rfl rfl ⟨⟨rfl, rfl⟩, ⟨rfl, ⟨rfl, rfl, trivial⟩, trivial⟩, ⟨rfl, trivial⟩, trivial⟩

def spec_shMul (k : Nat) (a1 : Int) (a2 : Int) (a3 : Int) (a4 : Int) : Option (Int × Int) :=
  ((spec_shMake k (IntKind.i64.wrap (a1 * a3)) (IntKind.i64.wrap (a2 * a4))).bind fun y5 => some (y5.1, y5.2))
set_option maxHeartbeats 4000000 in
set_option maxRecDepth 100000 in
theorem spec_shMul_ct {k : Nat} {a1 : Int} {a2 : Int} {a3 : Int} {a4 : Int} {r : Int × Int} (h : spec_shMul k a1 a2 a3 a4 = some r) : Ct prog 190 [.agg [.d (D.int .i64 a1), .d (D.int .i64 a2)], .agg [.d (D.int .i64 a3), .d (D.int .i64 a4)]] (⟨[], []⟩) (.agg [.d (D.int .i64 r.1), .d (D.int .i64 r.2)]) (⟨[], []⟩) := by
  rw [spec_shMul] at h
  refine Ct.of (c := _) mixed func190 ⟨rfl, rfl, rfl⟩ ?_ rfl
  conv => whnf
  refine Pick.no ?_
  conv => whnf
  obtain ⟨y5, e6, h⟩ := bind_ex h
  refine CallOk.of (spec_shMake_ct e6) ?_
  conv => whnf
  refine CutK.go ?_
  conv => whnf
  cases h
  exact Done.of [] [] rfl rfl ⟨⟨rfl, rfl⟩, ⟨rfl, trivial⟩, ⟨rfl, rfl, trivial⟩, trivial⟩

def spec_suTimesTerm (k : Nat) (a1 : Rw) (a2 : Int) (a3 : Int) (a4 : Rw) (a5 : Int) (a6 : Int) : Option (Rw × Int × Int × Bool) :=
  ((spec_suSum k a1 a4).bind fun y7 => (if y7.2 = true then ((spec_shMul k a2 a3 a5 a6).bind fun y10 => ((spec_shGood k y10.1 y10.2).bind fun y12 => (if y12 = true then some (y7.1, y10.1, y10.2, true) else some (y7.1, y10.1, y10.2, false)))) else ((spec_shMul k a2 a3 a5 a6).bind fun y15 => some (y7.1, y15.1, y15.2, false))))
set_option maxHeartbeats 4000000 in
set_option maxRecDepth 100000 in
theorem spec_suTimesTerm_ct {k : Nat} {a1 : Rw} {a2 : Int} {a3 : Int} {a4 : Rw} {a5 : Int} {a6 : Int} {r : Rw × Int × Int × Bool} (h : spec_suTimesTerm k a1 a2 a3 a4 a5 a6 = some r) : Ct prog 170 [.agg [.d (D.sl a1), .d (D.int .i64 a2), .d (D.int .i64 a3)], .agg [.d (D.sl a4), .d (D.int .i64 a5), .d (D.int .i64 a6)]] (⟨[], []⟩) (.tup [.agg [.os 8 r.1.length, .d (D.int .i64 r.2.1), .d (D.int .i64 r.2.2.1)], .d (D.bool r.2.2.2)]) (⟨[], [(116, true, r.1)]⟩) := by
  rw [spec_suTimesTerm] at h
  refine Ct.of (c := _) mixed func170 ⟨rfl, rfl, rfl⟩ ?_ rfl
  conv => whnf
  refine Pick.no ?_
  conv => whnf
  obtain ⟨y7, e8, h⟩ := bind_ex h
  refine CallOk.of (spec_suSum_ct e8) ?_
  conv => whnf
  refine spl (fun g9 => ?_) (fun g9 => ?_)
  · replace h := iteT h g9
    conv => whnf
    refine CutK.go ?_
    conv => whnf
    refine Pick.no ?_
    conv => whnf
    obtain ⟨y10, e11, h⟩ := bind_ex h
    refine CallOk.of (spec_shMul_ct e11) ?_
    conv => whnf
    refine CutK.go ?_
    conv => whnf
    refine Pick.no ?_
    conv => whnf
    obtain ⟨y12, e13, h⟩ := bind_ex h
    refine CallOk.of (spec_shGood_ct e13) ?_
    conv => whnf
    refine spl (fun g14 => ?_) (fun g14 => ?_)
    · replace h := iteT h g14
      conv => whnf
      refine CutK.go ?_
      conv => whnf
      cases h
      exact Done.of [some 896] [] rfl rfl ⟨⟨rfl, rfl⟩, ⟨rfl, ⟨rfl, rfl, rows_same⟩, trivial⟩, ⟨⟨⟨rfl, rfl⟩, rfl, rfl, trivial⟩, rfl, trivial⟩, trivial⟩
    · replace h := iteF h g14
      conv => whnf
      refine CutK.go ?_
      conv => whnf
      cases h
      exact Done.of [some 896] [] rfl rfl ⟨⟨rfl, rfl⟩, ⟨rfl, ⟨rfl, rfl, rows_same⟩, trivial⟩, ⟨⟨⟨rfl, rfl⟩, rfl, rfl, trivial⟩, rfl, trivial⟩, trivial⟩
  · replace h := iteF h g9
    conv => whnf
    refine CutK.go ?_
    conv => whnf
    refine Pick.no ?_
    conv => whnf
    obtain ⟨y15, e16, h⟩ := bind_ex h
    refine CallOk.of (spec_shMul_ct e16) ?_
    conv => whnf
    refine CutK.go ?_
    conv => whnf
    refine CutK.go ?_
    conv => whnf
    cases h
    exact Done.of [some 896] [] rfl rfl ⟨⟨rfl, rfl⟩, ⟨rfl, ⟨rfl, rfl, rows_same⟩, trivial⟩, ⟨⟨⟨rfl, rfl⟩, rfl, rfl, trivial⟩, rfl, trivial⟩, trivial⟩

def spec_suProduct_p4 (o145 : Rw) (v146 : Bool) : Option (Rw × Bool) :=
  (cond v146 (some (o145, true)) (some (o145, false)))
set_option maxHeartbeats 4000000 in
set_option maxRecDepth 100000 in
theorem spec_suProduct_p4_ct {o145 : Rw} {v146 : Bool} {r : Rw × Bool} (h : spec_suProduct_p4 o145 v146 = some r) : X prog 0 (tlF f116 4) (mk 55 [(4, .ptr 256 0), (5, .d (D.bool v146))] [(256, .box 28 [.os 1084000 o145.length]), (1084000, .arr 116 true o145)]) (finK prog f116 0 (.tup [.agg [.os 8 r.1.length], .d (D.bool r.2)]) (⟨[], [(116, true, r.1)]⟩)) := by
  rw [spec_suProduct_p4] at h
  cases v146
  · replace h := condF h
    conv => whnf
    cases h
    exact Done.of [some 1084000] [] rfl rfl ⟨⟨rfl, rfl⟩, ⟨rfl, ⟨rfl, rfl, rows_same⟩, trivial⟩, ⟨⟨⟨rfl, rfl⟩, trivial⟩, rfl, trivial⟩, trivial⟩
  · replace h := condT h
    conv => whnf
    cases h
    exact Done.of [some 1084000] [] rfl rfl ⟨⟨rfl, rfl⟩, ⟨rfl, ⟨rfl, rfl, rows_same⟩, trivial⟩, ⟨⟨⟨rfl, rfl⟩, trivial⟩, rfl, trivial⟩, trivial⟩
def spec_suProduct_p3 (k : Nat) (o141 : Rw) : Option (Rw × Bool) :=
  ((spec_suIf k o141).bind fun y147 => (if y147.2 = true then (spec_suProduct_p4 y147.1 true) else (spec_suProduct_p4 y147.1 false)))
set_option maxHeartbeats 4000000 in
set_option maxRecDepth 100000 in
theorem spec_suProduct_p3_ct {k : Nat} {o141 : Rw} {r : Rw × Bool} (h : spec_suProduct_p3 k o141 = some r) : X prog 0 (tlF f116 3) (mk 55 [(4, .ptr 256 0), (6, .ptr 384 0)] [(256, .box 28 [.es]), (384, .box 28 [.os 1079000 o141.length]), (1079000, .arr 116 false o141)]) (finK prog f116 0 (.tup [.agg [.os 8 r.1.length], .d (D.bool r.2)]) (⟨[], [(116, true, r.1)]⟩)) := by
  rw [spec_suProduct_p3] at h
  conv => whnf
  refine Pick.no ?_
  conv => whnf
  refine Take.all (rfl) ?_
  conv => whnf
  obtain ⟨y147, e148, h⟩ := bind_ex h
  refine CallOk.of (spec_suIf_ct e148) ?_
  conv => whnf
  refine spl (fun g149 => ?_) (fun g149 => ?_)
  · replace h := iteT h g149
    conv => whnf
    exact CutK.piece (spec_suProduct_p4_ct  h) [some 256, some 3328] [] ⟨⟨rfl, rfl⟩, ⟨rfl, ⟨rfl, ⟨rfl, rfl⟩, trivial⟩, ⟨rfl, rfl, rows_same⟩, trivial⟩, ⟨rfl, rfl⟩, rfl, trivial⟩
  · replace h := iteF h g149
    conv => whnf
    exact CutK.piece (spec_suProduct_p4_ct  h) [some 256, some 3328] [] ⟨⟨rfl, rfl⟩, ⟨rfl, ⟨rfl, ⟨rfl, rfl⟩, trivial⟩, ⟨rfl, rfl, rows_same⟩, trivial⟩, ⟨rfl, rfl⟩, rfl, trivial⟩
def spec_suProduct_l1 (k : Nat) (a1 : Rw) (a2 : Rw) (v195n : Nat) (x288 : Rw) (x289 : Int) (x290 : Int) (K2 : Rw → Option (Rw × Bool)) : Rw → Rw → Option (Rw × Bool)
  | [], v305 => (K2 v305)
  | cs :: rest, v305 => (cell_sii cs fun x331 x332 x333 => ((spec_suTimesTerm k x288 x289 x290 x331 x332 x333).bind fun y335 => (if y335.2.2.2 = true then ((spec_suPut k v305 y335.1 y335.2.1 y335.2.2.1).bind fun y338 => (if y338.2 = true then (spec_suProduct_l1 k a1 a2 v195n x288 x289 x290 K2 rest y338.1) else some (([] : Rw), false))) else some (([] : Rw), false))))
set_option maxRecDepth 100000 in
theorem spec_suProduct_l1_ct {k : Nat} {a1 : Rw} {a2 : Rw} {v195n : Nat} {x288 : Rw} {x289 : Int} {x290 : Int} {K2 : Rw → Option (Rw × Bool)} {r : Rw × Bool} (hx : a2.length ≤ cap) : ∀ (rest : Rw) (v304n : Nat) (v305 : Rw), a2.drop v304n = rest → spec_suProduct_l1 k a1 a2 v195n x288 x289 x290 K2 rest v305 = some r → LoopOk prog 0 (lp f116 1) (mk 55 [(3, .ptr 192 0), (4, .ptr 256 0), (6, .ptr 384 0), (8, .ptr 512 0), (17, .d (D.sl a1)), (18, .d (D.int .i64 (a1.length : Int))), (19, .d (D.int .i64 (v195n : Int))), (24, .d (D.sl a2)), (25, .d (D.int .i64 (a2.length : Int))), (26, .d (D.int .i64 (v304n : Int)))] [(192, .box 28 [.d (D.sl a2)]), (256, .box 28 [.es]), (384, .box 28 [.os 76800 v305.length]), (512, .box 116 [.d (D.sl x288), .d (D.int .i64 x289), .d (D.int .i64 x290)]), (76800, .arr 116 false v305)]) (LoopEnd prog f116 0 55 (.tup [.agg [.os 8 r.1.length], .d (D.bool r.2)]) (⟨[], [(116, true, r.1)]⟩) (fun i ts os => (i = 2 ∧ ∃ v318 : Rw, K2 v318 = some r ∧ ts = [(3, .ptr 192 0), (4, .ptr 256 0), (6, .ptr 384 0), (17, .d (D.sl a1)), (18, .d (D.int .i64 (a1.length : Int))), (19, .d (D.int .i64 (v195n : Int)))] ∧ os = [(192, .box 28 [.d (D.sl a2)]), (256, .box 28 [.es]), (384, .box 28 [.os 79801 v318.length]), (79801, .arr 116 false v318)])))
  | [], v304n, v305, hd, h => by
      rw [spec_suProduct_l1] at h
      have hn := drop_nil hd
      refine LoopOk.step ?_
      conv => whnf
      refine splD (fun g => absurd g hn) (fun _ => ?_)
      conv => whnf
      exact ⟨_, _, [some 192, some 256, some 384, some 76800], [], ⟨rfl, _, h, rfl, rfl⟩, ⟨⟨rfl, rfl⟩, ⟨rfl, ⟨rfl, rfl, trivial⟩, ⟨rfl, trivial, trivial⟩, ⟨rfl, ⟨rfl, rfl⟩, trivial⟩, ⟨rfl, rfl, rows_same⟩, trivial⟩, ⟨rfl, rfl⟩, ⟨rfl, rfl⟩, ⟨rfl, rfl⟩, rfl, rfl, rfl, trivial⟩⟩
  | cs :: rest, v304n, v305, hd, h => by
      rw [spec_suProduct_l1] at h
      obtain ⟨hrow, hd1, hlt⟩ := drop_cons hd
      refine LoopOk.step ?_
      conv => whnf
      refine splD (fun _ => ?_) (fun g => absurd hlt g)
      conv => whnf
      obtain ⟨x331, x332, x333, e334, h⟩ := cell_sii_ex h
      rw [e334] at hrow
      refine Req.of (Int.natCast_nonneg _) ?_
      refine Row.of _ hrow ?_
      conv => whnf
      refine Pick.no ?_
      conv => whnf
      obtain ⟨y335, e336, h⟩ := bind_ex h
      refine CallOk.of (spec_suTimesTerm_ct e336) ?_
      conv => whnf
      refine spl (fun g337 => ?_) (fun g337 => ?_)
      · replace h := iteT h g337
        conv => whnf
        refine CutK.norm [3, 4, 6, 8, 11, 12, 17, 18, 19, 24, 25, 26] [192, 256, 384, 512, 704, 2112, 76800] ?_
        conv => whnf
        refine Pick.no ?_
        conv => whnf
        refine Take.all (rfl) ?_
        conv => whnf
        refine Take.all (rfl) ?_
        conv => whnf
        obtain ⟨y338, e339, h⟩ := bind_ex h
        refine CallOk.of (spec_suPut_ct e339) ?_
        conv => whnf
        refine spl (fun g340 => ?_) (fun g340 => ?_)
        · replace h := iteT h g340
          conv => whnf
          refine CutK.norm [3, 4, 6, 8, 13, 14, 17, 18, 19, 24, 25, 26] [192, 256, 384, 512, 832, 2688, 76800] ?_
          conv => whnf
          refine CutK.norm [3, 4, 6, 8, 17, 18, 19, 24, 25, 26] [192, 256, 384, 512, 2688] ?_
          conv => whnf
          exact LoopOk.back (spec_suProduct_l1_ct hx rest (v304n + 1) _ hd1 h) [some 192, some 256, some 384, some 512, some 2688] [] ⟨⟨rfl, rfl⟩, ⟨rfl, ⟨rfl, rfl, trivial⟩, ⟨rfl, trivial, trivial⟩, ⟨rfl, ⟨rfl, rfl⟩, trivial⟩, ⟨rfl, rfl, rfl, rfl, trivial⟩, ⟨rfl, rfl, rows_same⟩, trivial⟩, ⟨rfl, rfl⟩, ⟨rfl, rfl⟩, ⟨rfl, rfl⟩, ⟨rfl, rfl⟩, rfl, rfl, rfl, rfl, rfl, i64eq (wrap_up hlt hx), trivial⟩
        · replace h := iteF h g340
          conv => whnf
          refine CutK.norm [3, 4, 6, 8, 13, 14, 17, 18, 19, 24, 25, 26] [192, 256, 384, 512, 832, 2688, 76800] ?_
          conv => whnf
          cases h
          exact Done.of [none] [] rfl rfl ⟨⟨rfl, rfl⟩, ⟨rfl, rfl, trivial⟩, ⟨⟨⟨rfl, rfl⟩, trivial⟩, rfl, trivial⟩, trivial⟩
      · replace h := iteF h g337
        conv => whnf
        refine CutK.norm [3, 4, 6, 8, 11, 12, 17, 18, 19, 24, 25, 26] [192, 256, 384, 512, 704, 2112, 76800] ?_
        conv => whnf
        cases h
        exact Done.of [none] [] rfl rfl ⟨⟨rfl, rfl⟩, ⟨rfl, rfl, trivial⟩, ⟨⟨⟨rfl, rfl⟩, trivial⟩, rfl, trivial⟩, trivial⟩
def spec_suProduct_l0 (k : Nat) (a1 : Rw) (a2 : Rw) (K0 : Rw → Option (Rw × Bool)) : Rw → Nat → Rw → Option (Rw × Bool)
  | [], v195n, v196 => (K0 v196)
  | cs :: rest, v195n, v196 => (cell_sii cs fun x288 x289 x290 => (if a2.length ≤ cap then (spec_suProduct_l1 k a1 a2 v195n x288 x289 x290 (fun (v318 : Rw) => (spec_suProduct_l0 k a1 a2 K0 rest (v195n + 1) v318)) a2 v196) else none))
set_option maxRecDepth 100000 in
theorem spec_suProduct_l0_ct {k : Nat} {a1 : Rw} {a2 : Rw} {K0 : Rw → Option (Rw × Bool)} {r : Rw × Bool} (hx : a1.length ≤ cap) : ∀ (rest : Rw) (v195n : Nat) (v196 : Rw), a1.drop v195n = rest → spec_suProduct_l0 k a1 a2 K0 rest v195n v196 = some r → LoopOk prog 0 (lp f116 0) (mk 55 [(3, .ptr 192 0), (4, .ptr 256 0), (6, .ptr 384 0), (17, .d (D.sl a1)), (18, .d (D.int .i64 (a1.length : Int))), (19, .d (D.int .i64 (v195n : Int)))] [(192, .box 28 [.d (D.sl a2)]), (256, .box 28 [.es]), (384, .box 28 [.os 64000 v196.length]), (64000, .arr 116 false v196)]) (LoopEnd prog f116 0 55 (.tup [.agg [.os 8 r.1.length], .d (D.bool r.2)]) (⟨[], [(116, true, r.1)]⟩) (fun i ts os => (i = 0 ∧ ∃ v242 : Rw, K0 v242 = some r ∧ ts = [(4, .ptr 256 0), (6, .ptr 384 0)] ∧ os = [(256, .box 28 [.es]), (384, .box 28 [.os 67001 v242.length]), (67001, .arr 116 false v242)])))
  | [], v195n, v196, hd, h => by
      rw [spec_suProduct_l0] at h
      have hn := drop_nil hd
      refine LoopOk.step ?_
      conv => whnf
      refine splD (fun g => absurd g hn) (fun _ => ?_)
      conv => whnf
      exact ⟨_, _, [some 256, some 384, some 64000], [], ⟨rfl, _, h, rfl, rfl⟩, ⟨⟨rfl, rfl⟩, ⟨rfl, ⟨rfl, trivial, trivial⟩, ⟨rfl, ⟨rfl, rfl⟩, trivial⟩, ⟨rfl, rfl, rows_same⟩, trivial⟩, ⟨rfl, rfl⟩, ⟨rfl, rfl⟩, trivial⟩⟩
  | cs :: rest, v195n, v196, hd, h => by
      rw [spec_suProduct_l0] at h
      obtain ⟨hrow, hd1, hlt⟩ := drop_cons hd
      refine LoopOk.step ?_
      conv => whnf
      refine splD (fun _ => ?_) (fun g => absurd hlt g)
      conv => whnf
      obtain ⟨x288, x289, x290, e291, h⟩ := cell_sii_ex h
      rw [e291] at hrow
      refine Req.of (Int.natCast_nonneg _) ?_
      refine Row.of _ hrow ?_
      conv => whnf
      obtain ⟨g341, h⟩ := req_ex h
      refine LoopOk.into (spec_suProduct_l1_ct  g341 _ _ _ rfl h) [some 192, some 256, some 384, some 512, some 64000] [] ⟨⟨rfl, rfl⟩, ⟨rfl, ⟨rfl, rfl, trivial⟩, ⟨rfl, trivial, trivial⟩, ⟨rfl, ⟨rfl, rfl⟩, trivial⟩, ⟨rfl, rfl, rfl, rfl, trivial⟩, ⟨rfl, rfl, rows_same⟩, trivial⟩, ⟨rfl, rfl⟩, ⟨rfl, rfl⟩, ⟨rfl, rfl⟩, ⟨rfl, rfl⟩, rfl, rfl, rfl, rfl, rfl, rfl, trivial⟩ ?_ (fun _ hs => hs)
      rintro i ts os ⟨rfl, v318, h, rfl, rfl⟩
      conv => whnf
      refine CutK.norm [3, 4, 6, 17, 18, 19] [192, 256, 384, 79801] ?_
      conv => whnf
      exact LoopOk.back (spec_suProduct_l0_ct hx rest (v195n + 1) _ hd1 h) [some 192, some 256, some 384, some 79801] [] ⟨⟨rfl, rfl⟩, ⟨rfl, ⟨rfl, rfl, trivial⟩, ⟨rfl, trivial, trivial⟩, ⟨rfl, ⟨rfl, rfl⟩, trivial⟩, ⟨rfl, rfl, rows_same⟩, trivial⟩, ⟨rfl, rfl⟩, ⟨rfl, rfl⟩, ⟨rfl, rfl⟩, rfl, rfl, i64eq (wrap_up hlt hx), trivial⟩
def spec_suProduct (k : Nat) (a1 : Rw) (a2 : Rw) : Option (Rw × Bool) :=
  (if a1.length ≤ cap then (spec_suProduct_l0 k a1 a2 (fun (v242 : Rw) => (spec_suProduct_p3 k v242)) a1 0 ([] : Rw)) else none)
set_option maxHeartbeats 4000000 in
set_option maxRecDepth 100000 in
theorem spec_suProduct_ct {k : Nat} {a1 : Rw} {a2 : Rw} {r : Rw × Bool} (h : spec_suProduct k a1 a2 = some r) : Ct prog 116 [.agg [.d (D.sl a1)], .agg [.d (D.sl a2)]] (⟨[], []⟩) (.tup [.agg [.os 8 r.1.length], .d (D.bool r.2)]) (⟨[], [(116, true, r.1)]⟩) := by
  rw [spec_suProduct] at h
  refine Ct.of (c := _) mixed func116 ⟨rfl, rfl, rfl⟩ ?_ rfl
  conv => whnf
  obtain ⟨g342, h⟩ := req_ex h
  refine LoopOk.into (spec_suProduct_l0_ct  g342 _ _ _ rfl h) [some 192, some 256, some 384, none] [] ⟨⟨rfl, rfl⟩, ⟨rfl, ⟨rfl, rfl, trivial⟩, ⟨rfl, trivial, trivial⟩, ⟨rfl, ⟨rfl, rfl⟩, trivial⟩, rfl, trivial⟩, ⟨rfl, rfl⟩, ⟨rfl, rfl⟩, ⟨rfl, rfl⟩, rfl, rfl, rfl, trivial⟩ ?_ (fun _ hs => hs)
  rintro i ts os ⟨rfl, v242, h, rfl, rfl⟩
  conv => whnf
  exact CutK.piece (spec_suProduct_p3_ct  h) [some 256, some 384, some 67001] [] ⟨⟨rfl, rfl⟩, ⟨rfl, ⟨rfl, trivial, trivial⟩, ⟨rfl, ⟨rfl, rfl⟩, trivial⟩, ⟨rfl, rfl, rows_same⟩, trivial⟩, ⟨rfl, rfl⟩, ⟨rfl, rfl⟩, trivial⟩

def spec_seChecked_mul (k : Nat) (a1 : Bool) (a2 : Rw) (a3 : Rw) : Option (Rw × Bool) :=
  (cond a1 ((spec_suProduct k a2 a3).bind fun y11 => (if y11.2 = true then ((spec_seChecked_keep true y11.1 true).bind fun y14 => some (y14.1, y14.2)) else ((spec_seChecked_keep true y11.1 false).bind fun y16 => some (y16.1, y16.2)))) ((spec_suProduct k a2 a3).bind fun y4 => (if y4.2 = true then ((spec_seChecked_keep false y4.1 true).bind fun y7 => some (y7.1, y7.2)) else ((spec_seChecked_keep false y4.1 false).bind fun y9 => some (y9.1, y9.2)))))
set_option maxHeartbeats 4000000 in
set_option maxRecDepth 100000 in
theorem spec_seChecked_mul_ct {k : Nat} {a1 : Bool} {a2 : Rw} {a3 : Rw} {r : Rw × Bool} (h : spec_seChecked_mul k a1 a2 a3 = some r) : Ct prog 51 [.ptr 0 0, .agg [.d (D.sl a2)], .agg [.d (D.sl a3)]] (⟨[(77, [.d (D.bool a1)])], []⟩) (.agg [.d (D.sl r.1)]) (⟨[(77, [.d (D.bool r.2)])], []⟩) := by
  rw [spec_seChecked_mul] at h
  refine Ct.of (c := _) mixed func51 ⟨rfl, rfl, rfl⟩ ?_ rfl
  cases a1
  · replace h := condF h
    conv => whnf
    refine Pick.no ?_
    conv => whnf
    obtain ⟨y4, e5, h⟩ := bind_ex h
    refine CallOk.of (spec_suProduct_ct e5) ?_
    conv => whnf
    refine spl (fun g6 => ?_) (fun g6 => ?_)
    · replace h := iteT h g6
      conv => whnf
      refine Pick.no ?_
      conv => whnf
      refine Take.all (rfl) ?_
      conv => whnf
      obtain ⟨y7, e8, h⟩ := bind_ex h
      refine CallOk.of (spec_seChecked_keep_ct e8) ?_
      conv => whnf
      refine CutK.go ?_
      conv => whnf
      cases h
      exact Done.of [some 0] [] rfl rfl ⟨⟨rfl, rfl⟩, ⟨rfl, ⟨rfl, rfl, trivial⟩, trivial⟩, ⟨rfl, trivial⟩, trivial⟩
    · replace h := iteF h g6
      conv => whnf
      refine Pick.no ?_
      conv => whnf
      refine Take.all (rfl) ?_
      conv => whnf
      obtain ⟨y9, e10, h⟩ := bind_ex h
      refine CallOk.of (spec_seChecked_keep_ct e10) ?_
      conv => whnf
      refine CutK.go ?_
      conv => whnf
      cases h
      exact Done.of [some 0] [] rfl rfl ⟨⟨rfl, rfl⟩, ⟨rfl, ⟨rfl, rfl, trivial⟩, trivial⟩, ⟨rfl, trivial⟩, trivial⟩
  · replace h := condT h
    conv => whnf
    refine Pick.no ?_
    conv => whnf
    obtain ⟨y11, e12, h⟩ := bind_ex h
    refine CallOk.of (spec_suProduct_ct e12) ?_
    conv => whnf
    refine spl (fun g13 => ?_) (fun g13 => ?_)
    · replace h := iteT h g13
      conv => whnf
      refine Pick.no ?_
      conv => whnf
      refine Take.all (rfl) ?_
      conv => whnf
      obtain ⟨y14, e15, h⟩ := bind_ex h
      refine CallOk.of (spec_seChecked_keep_ct e15) ?_
      conv => whnf
      refine CutK.go ?_
      conv => whnf
      cases h
      exact Done.of [some 0] [] rfl rfl ⟨⟨rfl, rfl⟩, ⟨rfl, ⟨rfl, rfl, trivial⟩, trivial⟩, ⟨rfl, trivial⟩, trivial⟩
    · replace h := iteF h g13
      conv => whnf
      refine Pick.no ?_
      conv => whnf
      refine Take.all (rfl) ?_
      conv => whnf
      obtain ⟨y16, e17, h⟩ := bind_ex h
      refine CallOk.of (spec_seChecked_keep_ct e17) ?_
      conv => whnf
      refine CutK.go ?_
      conv => whnf
      cases h
      exact Done.of [some 0] [] rfl rfl ⟨⟨rfl, rfl⟩, ⟨rfl, ⟨rfl, rfl, trivial⟩, trivial⟩, ⟨rfl, trivial⟩, trivial⟩

def spec_seQuotient_p4 (o97 : Rw) (o98 : Rw) (v99 : Bool) : Option (Rw × Rw × Bool) :=
  (cond v99 (some (o97, o98, false)) (some (o97, o98, true)))
set_option maxHeartbeats 4000000 in
set_option maxRecDepth 100000 in
theorem spec_seQuotient_p4_ct {o97 : Rw} {o98 : Rw} {v99 : Bool} {r : Rw × Rw × Bool} (h : spec_seQuotient_p4 o97 o98 v99 = some r) : X prog 0 (tlF f67 4) (mk 75 [(6, .ptr 384 0), (7, .ptr 448 0), (9, .ptr 1024 0), (10, .ptr 640 0), (11, .ptr 704 0)] [(384, .box 28 [.es]), (448, .box 28 [.es]), (640, .box 28 [.d (D.sl o97)]), (704, .box 28 [.d (D.sl o98)]), (1024, .box 77 [.d (D.bool v99)])]) (finK prog f67 0 (.tup [.agg [.d (D.sl r.1)], .agg [.d (D.sl r.2.1)], .d (D.bool r.2.2)]) (⟨[], []⟩)) := by
  rw [spec_seQuotient_p4] at h
  cases v99
  · replace h := condF h
    conv => whnf
    refine splF ?_
    conv => whnf
    cases h
    exact Done.of [] [] rfl rfl ⟨⟨rfl, rfl⟩, ⟨rfl, trivial⟩, ⟨⟨rfl, trivial⟩, ⟨rfl, trivial⟩, rfl, trivial⟩, trivial⟩
  · replace h := condT h
    conv => whnf
    refine splT ?_
    conv => whnf
    cases h
    exact Done.of [] [] rfl rfl ⟨⟨rfl, rfl⟩, ⟨rfl, trivial⟩, ⟨⟨rfl, trivial⟩, ⟨rfl, trivial⟩, rfl, trivial⟩, trivial⟩
def spec_seQuotient_l0 (k : Nat) (a2 : Rw) (K0 : Rw → Rw → Bool → Option (Rw × Rw × Bool)) : Nat → Int → Rw → Rw → Bool → Option (Rw × Rw × Bool)
  | 0, _, _, _, _ => none
  | n + 1, v126, v127, v128, v129 => (cond v129 (if (0 : Int) < v126 then ((spec_suZero v128).bind fun y220 => (if y220 = true then (K0 v127 v128 true) else (K0 v127 v128 true))) else (K0 v127 v128 true)) (if (0 : Int) < v126 then ((spec_suZero v128).bind fun y194 => (if y194 = true then (K0 v127 v128 false) else (row_sii v128 0 fun x197 x198 x199 => (row_sii a2 0 fun x202 x203 x204 => ((spec_seChecked_sub k false x197 x202).bind fun y207 => ((spec_seChecked_over k y207.2 x198 x199 x203 x204).bind fun y209 => ((spec_seChecked_term k y209.2.2 y207.1 y209.1 y209.2.1).bind fun y211 => ((spec_seChecked_add k y211.2 v127 y211.1).bind fun y213 => ((spec_seChecked_mul k y213.2 y211.1 a2).bind fun y215 => ((spec_seChecked_sub k y215.2 v128 y215.1).bind fun y217 => (spec_seQuotient_l0 k a2 K0 n (IntKind.i64.wrap (v126 - 1)) y213.1 y217.1 y217.2))))))))))) else (K0 v127 v128 false)))
set_option maxRecDepth 100000 in
theorem spec_seQuotient_l0_ct {k : Nat} {a2 : Rw} {K0 : Rw → Rw → Bool → Option (Rw × Rw × Bool)} {r : Rw × Rw × Bool} : ∀ (n : Nat) (v126 : Int) (v127 : Rw) (v128 : Rw) (v129 : Bool), spec_seQuotient_l0 k a2 K0 n v126 v127 v128 v129 = some r → LoopOk prog 0 (lp f67 0) (mk 75 [(2, .d (D.int .i64 v126)), (4, .ptr 256 0), (6, .ptr 384 0), (7, .ptr 448 0), (9, .ptr 1024 0), (10, .ptr 640 0), (11, .ptr 704 0)] [(256, .box 28 [.d (D.sl a2)]), (384, .box 28 [.es]), (448, .box 28 [.es]), (640, .box 28 [.d (D.sl v127)]), (704, .box 28 [.d (D.sl v128)]), (1024, .box 77 [.d (D.bool v129)])]) (LoopEnd prog f67 0 75 (.tup [.agg [.d (D.sl r.1)], .agg [.d (D.sl r.2.1)], .d (D.bool r.2.2)]) (⟨[], []⟩) (fun i ts os => (i = 0 ∧ ∃ v134 : Rw, ∃ v135 : Rw, ∃ v162 : Bool, K0 v134 v135 v162 = some r ∧ ts = [(6, .ptr 384 0), (7, .ptr 448 0), (9, .ptr 1024 0), (10, .ptr 640 0), (11, .ptr 704 0)] ∧ os = [(384, .box 28 [.es]), (448, .box 28 [.es]), (640, .box 28 [.d (D.sl v134)]), (704, .box 28 [.d (D.sl v135)]), (1024, .box 77 [.d (D.bool v162)])])))
  | 0, _, _, _, _, h => by
      rw [spec_seQuotient_l0] at h; cases h
  | n + 1, v126, v127, v128, v129, h => by
      rw [spec_seQuotient_l0] at h
      cases v129
      · replace h := condF h
        refine LoopOk.step ?_
        conv => whnf
        refine splD (fun g193 => ?_) (fun g193 => ?_)
        · replace h := iteP h g193
          conv => whnf
          refine Pick.no ?_
          conv => whnf
          obtain ⟨y194, e195, h⟩ := bind_ex h
          refine CallOk.of (spec_suZero_ct e195) ?_
          conv => whnf
          refine spl (fun g196 => ?_) (fun g196 => ?_)
          · replace h := iteT h g196
            conv => whnf
            refine CutK.norm [2, 4, 6, 7, 9, 10, 11, 32] [256, 384, 448, 640, 704, 1024] ?_
            conv => whnf
            exact ⟨_, _, [some 384, some 448, some 640, some 704, some 1024], [], ⟨rfl, _, _, _, h, rfl, rfl⟩, ⟨⟨rfl, rfl⟩, ⟨rfl, ⟨rfl, trivial, trivial⟩, ⟨rfl, trivial, trivial⟩, ⟨rfl, rfl, trivial⟩, ⟨rfl, rfl, trivial⟩, ⟨rfl, rfl, trivial⟩, trivial⟩, ⟨rfl, rfl⟩, ⟨rfl, rfl⟩, ⟨rfl, rfl⟩, ⟨rfl, rfl⟩, ⟨rfl, rfl⟩, trivial⟩⟩
          · replace h := iteF h g196
            conv => whnf
            refine splF ?_
            conv => whnf
            refine CutK.norm [2, 4, 6, 7, 9, 10, 11, 32] [256, 384, 448, 640, 704, 1024] ?_
            conv => whnf
            refine CutK.norm [2, 4, 6, 7, 9, 10, 11] [256, 384, 448, 640, 704, 1024] ?_
            conv => whnf
            obtain ⟨g201, x197, x198, x199, e200, h⟩ := row_sii_ex h
            refine Req.of g201 ?_
            refine Row.of _ e200 ?_
            conv => whnf
            obtain ⟨g206, x202, x203, x204, e205, h⟩ := row_sii_ex h
            refine Req.of g206 ?_
            refine Row.of _ e205 ?_
            conv => whnf
            refine Pick.no ?_
            conv => whnf
            obtain ⟨y207, e208, h⟩ := bind_ex h
            refine CallOk.of (spec_seChecked_sub_ct e208) ?_
            conv => whnf
            refine Pick.no ?_
            conv => whnf
            obtain ⟨y209, e210, h⟩ := bind_ex h
            refine CallOk.of (spec_seChecked_over_ct e210) ?_
            conv => whnf
            refine Pick.no ?_
            conv => whnf
            obtain ⟨y211, e212, h⟩ := bind_ex h
            refine CallOk.of (spec_seChecked_term_ct e212) ?_
            conv => whnf
            refine CutK.norm [2, 4, 6, 7, 9, 10, 11, 14] [256, 384, 448, 640, 704, 896, 1024] ?_
            conv => whnf
            refine Pick.no ?_
            conv => whnf
            obtain ⟨y213, e214, h⟩ := bind_ex h
            refine CallOk.of (spec_seChecked_add_ct e214) ?_
            conv => whnf
            refine CutK.norm [2, 4, 6, 7, 9, 10, 11, 14] [256, 384, 448, 640, 704, 896, 1024] ?_
            conv => whnf
            refine Pick.no ?_
            conv => whnf
            obtain ⟨y215, e216, h⟩ := bind_ex h
            refine CallOk.of (spec_seChecked_mul_ct e216) ?_
            conv => whnf
            refine Pick.no ?_
            conv => whnf
            obtain ⟨y217, e218, h⟩ := bind_ex h
            refine CallOk.of (spec_seChecked_sub_ct e218) ?_
            conv => whnf
            refine CutK.norm [2, 4, 6, 7, 9, 10, 11] [256, 384, 448, 640, 704, 1024] ?_
            conv => whnf
            exact LoopOk.back (spec_seQuotient_l0_ct  n _ _ _ _ h) [some 256, some 384, some 448, some 640, some 704, some 1024] [] ⟨⟨rfl, rfl⟩, ⟨rfl, ⟨rfl, rfl, trivial⟩, ⟨rfl, trivial, trivial⟩, ⟨rfl, trivial, trivial⟩, ⟨rfl, rfl, trivial⟩, ⟨rfl, rfl, trivial⟩, ⟨rfl, rfl, trivial⟩, trivial⟩, rfl, ⟨rfl, rfl⟩, ⟨rfl, rfl⟩, ⟨rfl, rfl⟩, ⟨rfl, rfl⟩, ⟨rfl, rfl⟩, ⟨rfl, rfl⟩, trivial⟩
        · replace h := iteN h g193
          conv => whnf
          refine CutK.norm [2, 4, 6, 7, 9, 10, 11, 32] [256, 384, 448, 640, 704, 1024] ?_
          conv => whnf
          exact ⟨_, _, [some 384, some 448, some 640, some 704, some 1024], [], ⟨rfl, _, _, _, h, rfl, rfl⟩, ⟨⟨rfl, rfl⟩, ⟨rfl, ⟨rfl, trivial, trivial⟩, ⟨rfl, trivial, trivial⟩, ⟨rfl, rfl, trivial⟩, ⟨rfl, rfl, trivial⟩, ⟨rfl, rfl, trivial⟩, trivial⟩, ⟨rfl, rfl⟩, ⟨rfl, rfl⟩, ⟨rfl, rfl⟩, ⟨rfl, rfl⟩, ⟨rfl, rfl⟩, trivial⟩⟩
      · replace h := condT h
        refine LoopOk.step ?_
        conv => whnf
        refine splD (fun g219 => ?_) (fun g219 => ?_)
        · replace h := iteP h g219
          conv => whnf
          refine Pick.no ?_
          conv => whnf
          obtain ⟨y220, e221, h⟩ := bind_ex h
          refine CallOk.of (spec_suZero_ct e221) ?_
          conv => whnf
          refine spl (fun g222 => ?_) (fun g222 => ?_)
          · replace h := iteT h g222
            conv => whnf
            refine CutK.norm [2, 4, 6, 7, 9, 10, 11, 32] [256, 384, 448, 640, 704, 1024] ?_
            conv => whnf
            exact ⟨_, _, [some 384, some 448, some 640, some 704, some 1024], [], ⟨rfl, _, _, _, h, rfl, rfl⟩, ⟨⟨rfl, rfl⟩, ⟨rfl, ⟨rfl, trivial, trivial⟩, ⟨rfl, trivial, trivial⟩, ⟨rfl, rfl, trivial⟩, ⟨rfl, rfl, trivial⟩, ⟨rfl, rfl, trivial⟩, trivial⟩, ⟨rfl, rfl⟩, ⟨rfl, rfl⟩, ⟨rfl, rfl⟩, ⟨rfl, rfl⟩, ⟨rfl, rfl⟩, trivial⟩⟩
          · replace h := iteF h g222
            conv => whnf
            refine splT ?_
            conv => whnf
            refine CutK.norm [2, 4, 6, 7, 9, 10, 11, 32] [256, 384, 448, 640, 704, 1024] ?_
            conv => whnf
            exact ⟨_, _, [some 384, some 448, some 640, some 704, some 1024], [], ⟨rfl, _, _, _, h, rfl, rfl⟩, ⟨⟨rfl, rfl⟩, ⟨rfl, ⟨rfl, trivial, trivial⟩, ⟨rfl, trivial, trivial⟩, ⟨rfl, rfl, trivial⟩, ⟨rfl, rfl, trivial⟩, ⟨rfl, rfl, trivial⟩, trivial⟩, ⟨rfl, rfl⟩, ⟨rfl, rfl⟩, ⟨rfl, rfl⟩, ⟨rfl, rfl⟩, ⟨rfl, rfl⟩, trivial⟩⟩
        · replace h := iteN h g219
          conv => whnf
          refine CutK.norm [2, 4, 6, 7, 9, 10, 11, 32] [256, 384, 448, 640, 704, 1024] ?_
          conv => whnf
          exact ⟨_, _, [some 384, some 448, some 640, some 704, some 1024], [], ⟨rfl, _, _, _, h, rfl, rfl⟩, ⟨⟨rfl, rfl⟩, ⟨rfl, ⟨rfl, trivial, trivial⟩, ⟨rfl, trivial, trivial⟩, ⟨rfl, rfl, trivial⟩, ⟨rfl, rfl, trivial⟩, ⟨rfl, rfl, trivial⟩, trivial⟩, ⟨rfl, rfl⟩, ⟨rfl, rfl⟩, ⟨rfl, rfl⟩, ⟨rfl, rfl⟩, ⟨rfl, rfl⟩, trivial⟩⟩
def spec_seQuotient (k : Nat) (a1 : Rw) (a2 : Rw) (a3 : Int) : Option (Rw × Rw × Bool) :=
  (spec_seQuotient_l0 k a2 (fun (v134 : Rw) (v135 : Rw) (v162 : Bool) => (cond v162 (spec_seQuotient_p4 v134 v135 true) (spec_seQuotient_p4 v134 v135 false))) k a3 ([] : Rw) a1 false)
set_option maxHeartbeats 4000000 in
set_option maxRecDepth 100000 in
theorem spec_seQuotient_ct {k : Nat} {a1 : Rw} {a2 : Rw} {a3 : Int} {r : Rw × Rw × Bool} (h : spec_seQuotient k a1 a2 a3 = some r) : Ct prog 67 [.agg [.d (D.sl a1)], .agg [.d (D.sl a2)], .d (D.int .i64 a3)] (⟨[], []⟩) (.tup [.agg [.d (D.sl r.1)], .agg [.d (D.sl r.2.1)], .d (D.bool r.2.2)]) (⟨[], []⟩) := by
  rw [spec_seQuotient] at h
  refine Ct.of (c := _) mixed func67 ⟨rfl, rfl, rfl⟩ ?_ rfl
  conv => whnf
  refine LoopOk.into (spec_seQuotient_l0_ct  _ _ _ _ _ h) [some 256, some 384, some 448, some 640, some 704, some 1024] [] ⟨⟨rfl, rfl⟩, ⟨rfl, ⟨rfl, rfl, trivial⟩, ⟨rfl, trivial, trivial⟩, ⟨rfl, trivial, trivial⟩, ⟨rfl, rfl, trivial⟩, ⟨rfl, rfl, trivial⟩, ⟨rfl, rfl, trivial⟩, trivial⟩, rfl, ⟨rfl, rfl⟩, ⟨rfl, rfl⟩, ⟨rfl, rfl⟩, ⟨rfl, rfl⟩, ⟨rfl, rfl⟩, ⟨rfl, rfl⟩, trivial⟩ ?_ (fun _ hs => hs)
  rintro i ts os ⟨rfl, v134, v135, v162, h, rfl, rfl⟩
  cases v162
  · replace h := condF h
    conv => whnf
    exact CutK.piece (spec_seQuotient_p4_ct  h) [some 384, some 448, some 640, some 704, some 1024] [] ⟨⟨rfl, rfl⟩, ⟨rfl, ⟨rfl, trivial, trivial⟩, ⟨rfl, trivial, trivial⟩, ⟨rfl, rfl, trivial⟩, ⟨rfl, rfl, trivial⟩, ⟨rfl, rfl, trivial⟩, trivial⟩, ⟨rfl, rfl⟩, ⟨rfl, rfl⟩, ⟨rfl, rfl⟩, ⟨rfl, rfl⟩, ⟨rfl, rfl⟩, trivial⟩
  · replace h := condT h
    conv => whnf
    exact CutK.piece (spec_seQuotient_p4_ct  h) [some 384, some 448, some 640, some 704, some 1024] [] ⟨⟨rfl, rfl⟩, ⟨rfl, ⟨rfl, trivial, trivial⟩, ⟨rfl, trivial, trivial⟩, ⟨rfl, rfl, trivial⟩, ⟨rfl, rfl, trivial⟩, ⟨rfl, rfl, trivial⟩, trivial⟩, ⟨rfl, rfl⟩, ⟨rfl, rfl⟩, ⟨rfl, rfl⟩, ⟨rfl, rfl⟩, ⟨rfl, rfl⟩, trivial⟩

def spec_seSteps  (a1 : Int) : Option Bool :=
  ((spec_l1In a1 0 12).bind fun y2 => (if y2 = true then some true else some false))
set_option maxHeartbeats 4000000 in
set_option maxRecDepth 100000 in
theorem spec_seSteps_ct  {a1 : Int} {r : Bool} (h : spec_seSteps a1 = some r) : Ct prog 48 [.d (D.int .i64 a1)] (⟨[], []⟩) (.d (D.bool r)) (⟨[], []⟩) := by
  rw [spec_seSteps] at h
  refine Ct.of (c := _) mixed func48 ⟨rfl, rfl, rfl⟩ ?_ rfl
  conv => whnf
  refine Pick.no ?_
  conv => whnf
  obtain ⟨y2, e3, h⟩ := bind_ex h
  refine CallOk.of (spec_l1In_ct e3) ?_
  conv => whnf
  refine spl (fun g4 => ?_) (fun g4 => ?_)
  · replace h := iteT h g4
    conv => whnf
    refine CutK.go ?_
    conv => whnf
    cases h
    exact Done.of [] [] rfl rfl ⟨⟨rfl, rfl⟩, ⟨rfl, trivial⟩, rfl, trivial⟩
  · replace h := iteF h g4
    conv => whnf
    refine CutK.go ?_
    conv => whnf
    cases h
    exact Done.of [] [] rfl rfl ⟨⟨rfl, rfl⟩, ⟨rfl, trivial⟩, rfl, trivial⟩

def spec_QuotientTerms_p5 (o26 : Rw) (o27 : Rw) : Option (Rw × Rw × Bool) :=
  some (o26, o27, true)
set_option maxHeartbeats 4000000 in
set_option maxRecDepth 100000 in
theorem spec_QuotientTerms_p5_ct {o26 : Rw} {o27 : Rw} {r : Rw × Rw × Bool} (h : spec_QuotientTerms_p5 o26 o27 = some r) : X prog 0 (tlF f17 5) (mk 47 [(6, .ptr 384 0), (7, .ptr 448 0), (8, .d (D.bool true))] [(384, .box 28 [.os 1089000 o26.length]), (448, .box 28 [.os 1089001 o27.length]), (1089000, .arr 116 true o26), (1089001, .arr 116 true o27)]) (finK prog f17 0 (.tup [.agg [.os 8 r.1.length], .agg [.os 9 r.2.1.length], .d (D.bool r.2.2)]) (⟨[], [(116, true, r.1), (116, true, r.2.1)]⟩)) := by
  rw [spec_QuotientTerms_p5] at h
  conv => whnf
  cases h
  exact Done.of [some 1089000, some 1089001] [] rfl rfl ⟨⟨rfl, rfl⟩, ⟨rfl, ⟨rfl, rfl, rows_same⟩, ⟨rfl, rfl, rows_same⟩, trivial⟩, ⟨⟨⟨rfl, rfl⟩, trivial⟩, ⟨⟨rfl, rfl⟩, trivial⟩, rfl, trivial⟩, trivial⟩
def spec_QuotientTerms_p3 (k : Nat) (o19 : Rw) (o20 : Rw) (v21 : Bool) : Option (Rw × Rw × Bool) :=
  (cond v21 ((spec_suOwn k o19).bind fun y28 => ((spec_suOwn k o20).bind fun y30 => (spec_QuotientTerms_p5 y28 y30))) (some (([] : Rw), ([] : Rw), false)))
set_option maxHeartbeats 4000000 in
set_option maxRecDepth 100000 in
theorem spec_QuotientTerms_p3_ct {k : Nat} {o19 : Rw} {o20 : Rw} {v21 : Bool} {r : Rw × Rw × Bool} (h : spec_QuotientTerms_p3 k o19 o20 v21 = some r) : X prog 0 (tlF f17 3) (mk 47 [(6, .ptr 384 0), (7, .ptr 448 0), (9, .ptr 576 0), (10, .ptr 640 0), (11, .d (D.bool v21))] [(384, .box 28 [.es]), (448, .box 28 [.es]), (576, .box 28 [.d (D.sl o19)]), (640, .box 28 [.d (D.sl o20)])]) (finK prog f17 0 (.tup [.agg [.os 8 r.1.length], .agg [.os 9 r.2.1.length], .d (D.bool r.2.2)]) (⟨[], [(116, true, r.1), (116, true, r.2.1)]⟩)) := by
  rw [spec_QuotientTerms_p3] at h
  cases v21
  · replace h := condF h
    conv => whnf
    cases h
    exact Done.of [none, none] [] rfl rfl ⟨⟨rfl, rfl⟩, ⟨rfl, rfl, rfl, trivial⟩, ⟨⟨⟨rfl, rfl⟩, trivial⟩, ⟨⟨rfl, rfl⟩, trivial⟩, rfl, trivial⟩, trivial⟩
  · replace h := condT h
    conv => whnf
    refine Pick.no ?_
    conv => whnf
    obtain ⟨y28, e29, h⟩ := bind_ex h
    refine CallOk.of (spec_suOwn_ct e29) ?_
    conv => whnf
    refine Pick.no ?_
    conv => whnf
    obtain ⟨y30, e31, h⟩ := bind_ex h
    refine CallOk.of (spec_suOwn_ct e31) ?_
    conv => whnf
    exact CutK.piece (spec_QuotientTerms_p5_ct  h) [some 384, some 448, some 2816, some 2944] [] ⟨⟨rfl, rfl⟩, ⟨rfl, ⟨rfl, ⟨rfl, rfl⟩, trivial⟩, ⟨rfl, ⟨rfl, rfl⟩, trivial⟩, ⟨rfl, rfl, rows_same⟩, ⟨rfl, rfl, rows_same⟩, trivial⟩, ⟨rfl, rfl⟩, ⟨rfl, rfl⟩, rfl, trivial⟩
def spec_QuotientTerms_p2 (k : Nat) (a1 : Rw) (a2 : Rw) (a3 : Int) : Option (Rw × Rw × Bool) :=
  ((spec_seQuotient k a1 a2 a3).bind fun y32 => (if y32.2.2 = true then (spec_QuotientTerms_p3 k y32.1 y32.2.1 true) else (spec_QuotientTerms_p3 k y32.1 y32.2.1 false)))
set_option maxHeartbeats 4000000 in
set_option maxRecDepth 100000 in
theorem spec_QuotientTerms_p2_ct {k : Nat} {a1 : Rw} {a2 : Rw} {a3 : Int} {r : Rw × Rw × Bool} (h : spec_QuotientTerms_p2 k a1 a2 a3 = some r) : X prog 0 (tlF f17 2) (mk 47 [(2, .d (D.int .i64 a3)), (3, .ptr 192 0), (4, .ptr 256 0), (6, .ptr 384 0), (7, .ptr 448 0)] [(192, .box 28 [.d (D.sl a1)]), (256, .box 28 [.d (D.sl a2)]), (384, .box 28 [.es]), (448, .box 28 [.es])]) (finK prog f17 0 (.tup [.agg [.os 8 r.1.length], .agg [.os 9 r.2.1.length], .d (D.bool r.2.2)]) (⟨[], [(116, true, r.1), (116, true, r.2.1)]⟩)) := by
  rw [spec_QuotientTerms_p2] at h
  conv => whnf
  refine Pick.no ?_
  conv => whnf
  obtain ⟨y32, e33, h⟩ := bind_ex h
  refine CallOk.of (spec_seQuotient_ct e33) ?_
  conv => whnf
  refine spl (fun g34 => ?_) (fun g34 => ?_)
  · replace h := iteT h g34
    conv => whnf
    exact CutK.piece (spec_QuotientTerms_p3_ct  h) [some 384, some 448, some 576, some 640] [] ⟨⟨rfl, rfl⟩, ⟨rfl, ⟨rfl, trivial, trivial⟩, ⟨rfl, trivial, trivial⟩, ⟨rfl, rfl, trivial⟩, ⟨rfl, rfl, trivial⟩, trivial⟩, ⟨rfl, rfl⟩, ⟨rfl, rfl⟩, ⟨rfl, rfl⟩, ⟨rfl, rfl⟩, rfl, trivial⟩
  · replace h := iteF h g34
    conv => whnf
    exact CutK.piece (spec_QuotientTerms_p3_ct  h) [some 384, some 448, some 576, some 640] [] ⟨⟨rfl, rfl⟩, ⟨rfl, ⟨rfl, trivial, trivial⟩, ⟨rfl, trivial, trivial⟩, ⟨rfl, rfl, trivial⟩, ⟨rfl, rfl, trivial⟩, trivial⟩, ⟨rfl, rfl⟩, ⟨rfl, rfl⟩, ⟨rfl, rfl⟩, ⟨rfl, rfl⟩, rfl, trivial⟩
def spec_QuotientTerms (k : Nat) (a1 : Rw) (a2 : Rw) (a3 : Int) : Option (Rw × Rw × Bool) :=
  ((spec_suGood k a1).bind fun y35 => (if y35 = true then ((spec_suGood k a2).bind fun y38 => (if y38 = true then ((spec_suZero a2).bind fun y41 => (if y41 = true then some (([] : Rw), ([] : Rw), false) else ((spec_seSteps a3).bind fun y44 => (if y44 = true then (spec_QuotientTerms_p2 k a1 a2 a3) else some (([] : Rw), ([] : Rw), false))))) else some (([] : Rw), ([] : Rw), false))) else some (([] : Rw), ([] : Rw), false)))
set_option maxHeartbeats 4000000 in
set_option maxRecDepth 100000 in
theorem spec_QuotientTerms_ct {k : Nat} {a1 : Rw} {a2 : Rw} {a3 : Int} {r : Rw × Rw × Bool} (h : spec_QuotientTerms k a1 a2 a3 = some r) : Ct prog 17 [.agg [.d (D.sl a1)], .agg [.d (D.sl a2)], .d (D.int .i64 a3)] (⟨[], []⟩) (.tup [.agg [.os 8 r.1.length], .agg [.os 9 r.2.1.length], .d (D.bool r.2.2)]) (⟨[], [(116, true, r.1), (116, true, r.2.1)]⟩) := by
  rw [spec_QuotientTerms] at h
  refine Ct.of (c := _) mixed func17 ⟨rfl, rfl, rfl⟩ ?_ rfl
  conv => whnf
  refine Pick.no ?_
  conv => whnf
  obtain ⟨y35, e36, h⟩ := bind_ex h
  refine CallOk.of (spec_suGood_ct e36) ?_
  conv => whnf
  refine spl (fun g37 => ?_) (fun g37 => ?_)
  · replace h := iteT h g37
    conv => whnf
    refine Pick.no ?_
    conv => whnf
    obtain ⟨y38, e39, h⟩ := bind_ex h
    refine CallOk.of (spec_suGood_ct e39) ?_
    conv => whnf
    refine spl (fun g40 => ?_) (fun g40 => ?_)
    · replace h := iteT h g40
      conv => whnf
      refine Pick.no ?_
      conv => whnf
      obtain ⟨y41, e42, h⟩ := bind_ex h
      refine CallOk.of (spec_suZero_ct e42) ?_
      conv => whnf
      refine spl (fun g43 => ?_) (fun g43 => ?_)
      · replace h := iteT h g43
        conv => whnf
        refine CutK.norm [2, 3, 4, 6, 7, 28] [192, 256, 384, 448] ?_
        conv => whnf
        cases h
        exact Done.of [none, none] [] rfl rfl ⟨⟨rfl, rfl⟩, ⟨rfl, rfl, rfl, trivial⟩, ⟨⟨⟨rfl, rfl⟩, trivial⟩, ⟨⟨rfl, rfl⟩, trivial⟩, rfl, trivial⟩, trivial⟩
      · replace h := iteF h g43
        conv => whnf
        refine Pick.no ?_
        conv => whnf
        obtain ⟨y44, e45, h⟩ := bind_ex h
        refine CallOk.of (spec_seSteps_ct e45) ?_
        conv => whnf
        refine spl (fun g46 => ?_) (fun g46 => ?_)
        · replace h := iteT h g46
          conv => whnf
          refine CutK.norm [2, 3, 4, 6, 7, 28] [192, 256, 384, 448] ?_
          conv => whnf
          exact CutK.piece (spec_QuotientTerms_p2_ct  h) [some 192, some 256, some 384, some 448] [] ⟨⟨rfl, rfl⟩, ⟨rfl, ⟨rfl, rfl, trivial⟩, ⟨rfl, rfl, trivial⟩, ⟨rfl, trivial, trivial⟩, ⟨rfl, trivial, trivial⟩, trivial⟩, rfl, ⟨rfl, rfl⟩, ⟨rfl, rfl⟩, ⟨rfl, rfl⟩, ⟨rfl, rfl⟩, trivial⟩
        · replace h := iteF h g46
          conv => whnf
          refine CutK.norm [2, 3, 4, 6, 7, 28] [192, 256, 384, 448] ?_
          conv => whnf
          cases h
          exact Done.of [none, none] [] rfl rfl ⟨⟨rfl, rfl⟩, ⟨rfl, rfl, rfl, trivial⟩, ⟨⟨⟨rfl, rfl⟩, trivial⟩, ⟨⟨rfl, rfl⟩, trivial⟩, rfl, trivial⟩, trivial⟩
    · replace h := iteF h g40
      conv => whnf
      refine CutK.norm [2, 3, 4, 6, 7, 28] [192, 256, 384, 448] ?_
      conv => whnf
      cases h
      exact Done.of [none, none] [] rfl rfl ⟨⟨rfl, rfl⟩, ⟨rfl, rfl, rfl, trivial⟩, ⟨⟨⟨rfl, rfl⟩, trivial⟩, ⟨⟨rfl, rfl⟩, trivial⟩, rfl, trivial⟩, trivial⟩
  · replace h := iteF h g37
    conv => whnf
    refine CutK.norm [2, 3, 4, 6, 7, 28] [192, 256, 384, 448] ?_
    conv => whnf
    cases h
    exact Done.of [none, none] [] rfl rfl ⟨⟨rfl, rfl⟩, ⟨rfl, rfl, rfl, trivial⟩, ⟨⟨⟨rfl, rfl⟩, trivial⟩, ⟨⟨rfl, rfl⟩, trivial⟩, rfl, trivial⟩, trivial⟩

def spec_ExactQuotient (k : Nat) (a1 : Rw) (a2 : Rw) : Option (Rw × Bool) :=
  ((spec_QuotientTerms k a1 a2 12).bind fun y3 => (if y3.2.2 = true then ((spec_suZero y3.2.1).bind fun y6 => (if y6 = true then some (y3.1, true) else some (([] : Rw), false))) else some (([] : Rw), false)))
set_option maxHeartbeats 4000000 in
set_option maxRecDepth 100000 in
theorem spec_ExactQuotient_ct {k : Nat} {a1 : Rw} {a2 : Rw} {r : Rw × Bool} (h : spec_ExactQuotient k a1 a2 = some r) : Ct prog 19 [.agg [.d (D.sl a1)], .agg [.d (D.sl a2)]] (⟨[], []⟩) (.tup [.agg [.os 8 r.1.length], .d (D.bool r.2)]) (⟨[], [(116, true, r.1)]⟩) := by
  rw [spec_ExactQuotient] at h
  refine Ct.of (c := _) mixed func19 ⟨rfl, rfl, rfl⟩ ?_ rfl
  conv => whnf
  refine Pick.no ?_
  conv => whnf
  obtain ⟨y3, e4, h⟩ := bind_ex h
  refine CallOk.of (spec_QuotientTerms_ct e4) ?_
  conv => whnf
  refine spl (fun g5 => ?_) (fun g5 => ?_)
  · replace h := iteT h g5
    conv => whnf
    refine CutK.go ?_
    conv => whnf
    refine Pick.no ?_
    conv => whnf
    refine Take.all (rfl) ?_
    conv => whnf
    obtain ⟨y6, e7, h⟩ := bind_ex h
    refine CallOk.of (spec_suZero_ct e7) ?_
    conv => whnf
    refine spl (fun g8 => ?_) (fun g8 => ?_)
    · replace h := iteT h g8
      conv => whnf
      refine CutK.go ?_
      conv => whnf
      refine CutK.go ?_
      conv => whnf
      cases h
      exact Done.of [some 768] [] rfl rfl ⟨⟨rfl, rfl⟩, ⟨rfl, ⟨rfl, rfl, rows_same⟩, trivial⟩, ⟨⟨⟨rfl, rfl⟩, trivial⟩, rfl, trivial⟩, trivial⟩
    · replace h := iteF h g8
      conv => whnf
      refine CutK.go ?_
      conv => whnf
      cases h
      exact Done.of [none] [] rfl rfl ⟨⟨rfl, rfl⟩, ⟨rfl, rfl, trivial⟩, ⟨⟨⟨rfl, rfl⟩, trivial⟩, rfl, trivial⟩, trivial⟩
  · replace h := iteF h g5
    conv => whnf
    refine CutK.go ?_
    conv => whnf
    refine CutK.go ?_
    conv => whnf
    cases h
    exact Done.of [none] [] rfl rfl ⟨⟨rfl, rfl⟩, ⟨rfl, rfl, trivial⟩, ⟨⟨⟨rfl, rfl⟩, trivial⟩, rfl, trivial⟩, trivial⟩

def laws_szSurrealTerm (rec_laws_szSurreal : Rw → Int → Option Int) (a1 : Rw) (a2 : Int) (a3 : Int) (a4 : Int) : Option Int :=
  ((rec_laws_szSurreal a1 a4).bind fun y5 => (if y5 < (0 : Int) then some (-1) else some y5))
set_option maxHeartbeats 4000000 in
set_option maxRecDepth 100000 in
theorem laws_szSurrealTerm_ct {rec_laws_szSurreal : Rw → Int → Option Int} (hrec_laws_szSurreal : ∀ (a1 : Rw) (a2 : Int) (r : Int), rec_laws_szSurreal a1 a2 = some r → Ct prog 10 [.agg [.d (D.sl a1)], .d (D.int .i64 a2)] (⟨[], []⟩) (.d (D.int .i64 r)) (⟨[], []⟩)) {a1 : Rw} {a2 : Int} {a3 : Int} {a4 : Int} {r : Int} (h : laws_szSurrealTerm rec_laws_szSurreal a1 a2 a3 a4 = some r) : Ct prog 110 [.agg [.d (D.sl a1), .d (D.int .i64 a2), .d (D.int .i64 a3)], .d (D.int .i64 a4)] (⟨[], []⟩) (.d (D.int .i64 r)) (⟨[], []⟩) := by
  rw [laws_szSurrealTerm] at h
  refine Ct.of (c := _) mixed func110 ⟨rfl, rfl, rfl⟩ ?_ rfl
  conv => whnf
  refine Pick.no ?_
  conv => whnf
  obtain ⟨y5, e6, h⟩ := bind_ex h
  refine CallOk.of (hrec_laws_szSurreal _ _ _ e6) ?_
  conv => whnf
  refine CutK.go ?_
  conv => whnf
  refine splD (fun g7 => ?_) (fun g7 => ?_)
  · replace h := iteP h g7
    conv => whnf
    cases h
    exact Done.of [] [] rfl rfl ⟨⟨rfl, rfl⟩, ⟨rfl, trivial⟩, rfl, trivial⟩
  · replace h := iteN h g7
    conv => whnf
    cases h
    exact Done.of [] [] rfl rfl ⟨⟨rfl, rfl⟩, ⟨rfl, trivial⟩, rfl, trivial⟩

def laws_szSurrealTermS_l0 (rec_laws_szSurreal : Rw → Int → Option Int) (a1 : Rw) (K0 : Int → Option Int) : Rw → Int → Option Int
  | [], v13 => (K0 v13)
  | cs :: rest, v13 => (cell_sii cs fun x34 x35 x36 => ((laws_szSurrealTerm rec_laws_szSurreal x34 x35 x36 v13).bind fun y38 => (if y38 < (0 : Int) then some (-1) else (laws_szSurrealTermS_l0 rec_laws_szSurreal a1 K0 rest y38))))
set_option maxRecDepth 100000 in
theorem laws_szSurrealTermS_l0_ct {rec_laws_szSurreal : Rw → Int → Option Int} {a1 : Rw} {K0 : Int → Option Int} (hrec_laws_szSurreal : ∀ (a1 : Rw) (a2 : Int) (r : Int), rec_laws_szSurreal a1 a2 = some r → Ct prog 10 [.agg [.d (D.sl a1)], .d (D.int .i64 a2)] (⟨[], []⟩) (.d (D.int .i64 r)) (⟨[], []⟩)) {r : Int} (hx : a1.length ≤ cap) : ∀ (rest : Rw) (v14n : Nat) (v13 : Int), a1.drop v14n = rest → laws_szSurrealTermS_l0 rec_laws_szSurreal a1 K0 rest v13 = some r → LoopOk prog 0 (lp f45 0) (mk 27 [(0, .d (D.sl a1)), (1, .d (D.int .i64 v13)), (5, .d (D.int .i64 (v14n : Int)))] []) (LoopEnd prog f45 0 27 (.d (D.int .i64 r)) (⟨[], []⟩) (fun i ts os => (i = 0 ∧ ∃ v24 : Int, K0 v24 = some r ∧ ts = [(1, .d (D.int .i64 v24))] ∧ os = [])))
  | [], v14n, v13, hd, h => by
      rw [laws_szSurrealTermS_l0] at h
      have hn := drop_nil hd
      refine LoopOk.step ?_
      conv => whnf
      refine splD (fun g => absurd g hn) (fun _ => ?_)
      conv => whnf
      exact ⟨_, _, [], [], ⟨rfl, _, h, rfl, rfl⟩, ⟨⟨rfl, rfl⟩, ⟨rfl, trivial⟩, rfl, trivial⟩⟩
  | cs :: rest, v14n, v13, hd, h => by
      rw [laws_szSurrealTermS_l0] at h
      obtain ⟨hrow, hd1, hlt⟩ := drop_cons hd
      refine LoopOk.step ?_
      conv => whnf
      refine splD (fun _ => ?_) (fun g => absurd hlt g)
      conv => whnf
      obtain ⟨x34, x35, x36, e37, h⟩ := cell_sii_ex h
      rw [e37] at hrow
      refine Req.of (Int.natCast_nonneg _) ?_
      refine Row.of _ hrow ?_
      conv => whnf
      refine Pick.no ?_
      conv => whnf
      obtain ⟨y38, e39, h⟩ := bind_ex h
      refine CallOk.of (laws_szSurrealTerm_ct hrec_laws_szSurreal e39) ?_
      conv => whnf
      refine CutK.go ?_
      conv => whnf
      refine splD (fun g40 => ?_) (fun g40 => ?_)
      · replace h := iteP h g40
        conv => whnf
        cases h
        exact Done.of [] [] rfl rfl ⟨⟨rfl, rfl⟩, ⟨rfl, trivial⟩, rfl, trivial⟩
      · replace h := iteN h g40
        conv => whnf
        refine CutK.go ?_
        conv => whnf
        exact LoopOk.back (laws_szSurrealTermS_l0_ct hrec_laws_szSurreal hx rest (v14n + 1) _ hd1 h) [] [] ⟨⟨rfl, rfl⟩, ⟨rfl, trivial⟩, rfl, rfl, i64eq (wrap_up hlt hx), trivial⟩
def laws_szSurrealTermS (rec_laws_szSurreal : Rw → Int → Option Int) (a1 : Rw) (a2 : Int) : Option Int :=
  (if (IntKind.i64.wrap (a2 - (a1.length : Int))) < (0 : Int) then some (-1) else (if a1.length ≤ cap then (laws_szSurrealTermS_l0 rec_laws_szSurreal a1 (fun (v24 : Int) => some v24) a1 (IntKind.i64.wrap (a2 - (a1.length : Int)))) else none))
set_option maxHeartbeats 4000000 in
set_option maxRecDepth 100000 in
theorem laws_szSurrealTermS_ct {rec_laws_szSurreal : Rw → Int → Option Int} (hrec_laws_szSurreal : ∀ (a1 : Rw) (a2 : Int) (r : Int), rec_laws_szSurreal a1 a2 = some r → Ct prog 10 [.agg [.d (D.sl a1)], .d (D.int .i64 a2)] (⟨[], []⟩) (.d (D.int .i64 r)) (⟨[], []⟩)) {a1 : Rw} {a2 : Int} {r : Int} (h : laws_szSurrealTermS rec_laws_szSurreal a1 a2 = some r) : Ct prog 45 [.d (D.sl a1), .d (D.int .i64 a2)] (⟨[], []⟩) (.d (D.int .i64 r)) (⟨[], []⟩) := by
  rw [laws_szSurrealTermS] at h
  refine Ct.of (c := _) mixed func45 ⟨rfl, rfl, rfl⟩ ?_ rfl
  conv => whnf
  refine splD (fun g3 => ?_) (fun g3 => ?_)
  · replace h := iteP h g3
    conv => whnf
    cases h
    exact Done.of [] [] rfl rfl ⟨⟨rfl, rfl⟩, ⟨rfl, trivial⟩, rfl, trivial⟩
  · replace h := iteN h g3
    conv => whnf
    obtain ⟨g41, h⟩ := req_ex h
    refine LoopOk.into (laws_szSurrealTermS_l0_ct hrec_laws_szSurreal g41 _ _ _ rfl h) [] [] ⟨⟨rfl, rfl⟩, ⟨rfl, trivial⟩, rfl, rfl, rfl, trivial⟩ ?_ (fun _ hs => hs)
    rintro i ts os ⟨rfl, v24, h, rfl, rfl⟩
    conv => whnf
    refine CutK.go ?_
    conv => whnf
    cases h
    exact Done.of [] [] rfl rfl ⟨⟨rfl, rfl⟩, ⟨rfl, trivial⟩, rfl, trivial⟩

def laws_szSurreal_b (rec_laws_szSurreal : Rw → Int → Option Int) (a1 : Rw) (a2 : Int) : Option Int :=
  ((laws_szSurrealTermS rec_laws_szSurreal a1 a2).bind fun y3 => (if y3 < (0 : Int) then some (-1) else some y3))
set_option maxHeartbeats 4000000 in
set_option maxRecDepth 100000 in
theorem laws_szSurreal_b_ct {rec_laws_szSurreal : Rw → Int → Option Int} (hrec_laws_szSurreal : ∀ (a1 : Rw) (a2 : Int) (r : Int), rec_laws_szSurreal a1 a2 = some r → Ct prog 10 [.agg [.d (D.sl a1)], .d (D.int .i64 a2)] (⟨[], []⟩) (.d (D.int .i64 r)) (⟨[], []⟩)) {a1 : Rw} {a2 : Int} {r : Int} (h : laws_szSurreal_b rec_laws_szSurreal a1 a2 = some r) : Ct prog 10 [.agg [.d (D.sl a1)], .d (D.int .i64 a2)] (⟨[], []⟩) (.d (D.int .i64 r)) (⟨[], []⟩) := by
  rw [laws_szSurreal_b] at h
  refine Ct.of (c := _) mixed func10 ⟨rfl, rfl, rfl⟩ ?_ rfl
  conv => whnf
  refine Pick.no ?_
  conv => whnf
  obtain ⟨y3, e4, h⟩ := bind_ex h
  refine CallOk.of (laws_szSurrealTermS_ct hrec_laws_szSurreal e4) ?_
  conv => whnf
  refine CutK.go ?_
  conv => whnf
  refine splD (fun g5 => ?_) (fun g5 => ?_)
  · replace h := iteP h g5
    conv => whnf
    cases h
    exact Done.of [] [] rfl rfl ⟨⟨rfl, rfl⟩, ⟨rfl, trivial⟩, rfl, trivial⟩
  · replace h := iteN h g5
    conv => whnf
    cases h
    exact Done.of [] [] rfl rfl ⟨⟨rfl, rfl⟩, ⟨rfl, trivial⟩, rfl, trivial⟩
def laws_szSurreal : Nat → Rw → Int → Option Int
  | 0, _, _ => none
  | k + 1, a1, a2 => laws_szSurreal_b (laws_szSurreal k) a1 a2
theorem laws_szSurreal_ct' : ∀ (k : Nat) (a1 : Rw) (a2 : Int) (r : Int), laws_szSurreal k a1 a2 = some r → Ct prog 10 [.agg [.d (D.sl a1)], .d (D.int .i64 a2)] (⟨[], []⟩) (.d (D.int .i64 r)) (⟨[], []⟩)
  | 0, _, _, _, h => by rw [laws_szSurreal] at h; cases h
  | k + 1, _, _, _, h => by rw [laws_szSurreal] at h; exact laws_szSurreal_b_ct (laws_szSurreal_ct' k) h
theorem laws_szSurreal_ct {k : Nat} {a1 : Rw} {a2 : Int} {r : Int} (h : laws_szSurreal k a1 a2 = some r) : Ct prog 10 [.agg [.d (D.sl a1)], .d (D.int .i64 a2)] (⟨[], []⟩) (.d (D.int .i64 r)) (⟨[], []⟩) := laws_szSurreal_ct' k _ _ _ h

def laws_FnExactExactQuotient_p27 (o230 : Int) (o231 : Int) : Option Bool :=
  (if o231 < (0 : Int) then some false else (if o231 = o230 then some true else some false))
set_option maxHeartbeats 4000000 in
set_option maxRecDepth 100000 in
theorem laws_FnExactExactQuotient_p27_ct {o230 : Int} {o231 : Int} {r : Bool} (h : laws_FnExactExactQuotient_p27 o230 o231 = some r) : X prog 0 (tlF f5 27) (mk 119 [(13, .d (D.int .i64 o230)), (14, .d (D.int .i64 o231))] []) (finK prog f5 0 (.d (D.bool r)) (⟨[], []⟩)) := by
  rw [laws_FnExactExactQuotient_p27] at h
  conv => whnf
  refine splD (fun g234 => ?_) (fun g234 => ?_)
  · replace h := iteP h g234
    conv => whnf
    cases h
    exact Done.of [] [] rfl rfl ⟨⟨rfl, rfl⟩, ⟨rfl, trivial⟩, rfl, trivial⟩
  · replace h := iteN h g234
    conv => whnf
    refine splN (fun g235 => ?_) (fun g235 => ?_)
    · replace h := iteN h g235
      conv => whnf
      cases h
      exact Done.of [] [] rfl rfl ⟨⟨rfl, rfl⟩, ⟨rfl, trivial⟩, rfl, trivial⟩
    · replace h := iteP h g235
      conv => whnf
      cases h
      exact Done.of [] [] rfl rfl ⟨⟨rfl, rfl⟩, ⟨rfl, trivial⟩, rfl, trivial⟩
def laws_FnExactExactQuotient_p25 (k : Nat) (o217 : Int) (o218 : Rw) : Option Bool :=
  ((laws_heldSurreal k o218 1).bind fun y236 => (laws_FnExactExactQuotient_p27 o217 y236))
set_option maxHeartbeats 4000000 in
set_option maxRecDepth 100000 in
theorem laws_FnExactExactQuotient_p25_ct {k : Nat} {o217 : Int} {o218 : Rw} {r : Bool} (h : laws_FnExactExactQuotient_p25 k o217 o218 = some r) : X prog 0 (tlF f5 25) (mk 119 [(10, .ptr 640 0), (13, .d (D.int .i64 o217))] [(640, .box 28 [.os 1189000 o218.length]), (1189000, .arr 116 true o218)]) (finK prog f5 0 (.d (D.bool r)) (⟨[], []⟩)) := by
  rw [laws_FnExactExactQuotient_p25] at h
  conv => whnf
  refine Choice.old ?_
  conv => whnf
  refine Pick.no ?_
  conv => whnf
  refine Take.all (rfl) ?_
  conv => whnf
  obtain ⟨y236, e237, h⟩ := bind_ex h
  refine CallOk.of (laws_heldSurreal_ct e237) ?_
  conv => whnf
  exact CutK.piece (laws_FnExactExactQuotient_p27_ct  h) [] [] ⟨⟨rfl, rfl⟩, ⟨rfl, trivial⟩, rfl, rfl, trivial⟩
def laws_FnExactExactQuotient_p24 (k : Nat) (o199 : Int) (o200 : Rw) (o201 : Rw) (o202 : Rw) (v203 : Bool) (v213 : Bool) : Option Bool :=
  (cond v203 (cond v213 ((laws_eqSurreal k o202 o200).bind fun y247 => (if y247 = true then (laws_FnExactExactQuotient_p25 k o199 o201) else some false)) ((laws_eqSurreal k o202 o200).bind fun y244 => (if y244 = true then some false else some false))) (cond v213 ((laws_eqSurreal k o202 o200).bind fun y241 => (if y241 = true then some false else some false)) ((laws_eqSurreal k o202 o200).bind fun y238 => (if y238 = true then (laws_FnExactExactQuotient_p25 k o199 o201) else some false))))
set_option maxHeartbeats 4000000 in
set_option maxRecDepth 100000 in
theorem laws_FnExactExactQuotient_p24_ct {k : Nat} {o199 : Int} {o200 : Rw} {o201 : Rw} {o202 : Rw} {v203 : Bool} {v213 : Bool} {r : Bool} (h : laws_FnExactExactQuotient_p24 k o199 o200 o201 o202 v203 v213 = some r) : X prog 0 (tlF f5 24) (mk 119 [(6, .ptr 384 0), (7, .d (D.bool v213)), (10, .ptr 640 0), (13, .d (D.int .i64 o199)), (15, .ptr 960 0), (16, .d (D.bool v203))] [(384, .box 28 [.os 1184000 o200.length]), (640, .box 28 [.os 1184001 o201.length]), (960, .box 28 [.os 1184002 o202.length]), (1184000, .arr 116 true o200), (1184001, .arr 116 true o201), (1184002, .arr 116 true o202)]) (finK prog f5 0 (.d (D.bool r)) (⟨[], []⟩)) := by
  rw [laws_FnExactExactQuotient_p24] at h
  cases v203
  · replace h := condF h
    cases v213
    · replace h := condF h
      conv => whnf
      refine Pick.no ?_
      conv => whnf
      refine Take.all (rfl) ?_
      conv => whnf
      refine Take.all (rfl) ?_
      conv => whnf
      obtain ⟨y238, e239, h⟩ := bind_ex h
      refine CallOk.of (laws_eqSurreal_ct e239) ?_
      conv => whnf
      refine spl (fun g240 => ?_) (fun g240 => ?_)
      · replace h := iteT h g240
        conv => whnf
        refine splF ?_
        conv => whnf
        refine CutK.norm [10, 13, 110] [640, 1184001] ?_
        conv => whnf
        exact CutK.piece (laws_FnExactExactQuotient_p25_ct  h) [some 640, some 1184001] [] ⟨⟨rfl, rfl⟩, ⟨rfl, ⟨rfl, ⟨rfl, rfl⟩, trivial⟩, ⟨rfl, rfl, rows_same⟩, trivial⟩, ⟨rfl, rfl⟩, rfl, trivial⟩
      · replace h := iteF h g240
        conv => whnf
        refine CutK.norm [10, 13, 110] [640, 1184001] ?_
        conv => whnf
        cases h
        exact Done.of [] [] rfl rfl ⟨⟨rfl, rfl⟩, ⟨rfl, trivial⟩, rfl, trivial⟩
    · replace h := condT h
      conv => whnf
      refine Pick.no ?_
      conv => whnf
      refine Take.all (rfl) ?_
      conv => whnf
      refine Take.all (rfl) ?_
      conv => whnf
      obtain ⟨y241, e242, h⟩ := bind_ex h
      refine CallOk.of (laws_eqSurreal_ct e242) ?_
      conv => whnf
      refine spl (fun g243 => ?_) (fun g243 => ?_)
      · replace h := iteT h g243
        conv => whnf
        refine splT ?_
        conv => whnf
        refine CutK.norm [10, 13, 110] [640, 1184001] ?_
        conv => whnf
        cases h
        exact Done.of [] [] rfl rfl ⟨⟨rfl, rfl⟩, ⟨rfl, trivial⟩, rfl, trivial⟩
      · replace h := iteF h g243
        conv => whnf
        refine CutK.norm [10, 13, 110] [640, 1184001] ?_
        conv => whnf
        cases h
        exact Done.of [] [] rfl rfl ⟨⟨rfl, rfl⟩, ⟨rfl, trivial⟩, rfl, trivial⟩
  · replace h := condT h
    cases v213
    · replace h := condF h
      conv => whnf
      refine Pick.no ?_
      conv => whnf
      refine Take.all (rfl) ?_
      conv => whnf
      refine Take.all (rfl) ?_
      conv => whnf
      obtain ⟨y244, e245, h⟩ := bind_ex h
      refine CallOk.of (laws_eqSurreal_ct e245) ?_
      conv => whnf
      refine spl (fun g246 => ?_) (fun g246 => ?_)
      · replace h := iteT h g246
        conv => whnf
        refine splT ?_
        conv => whnf
        refine CutK.norm [10, 13, 110] [640, 1184001] ?_
        conv => whnf
        cases h
        exact Done.of [] [] rfl rfl ⟨⟨rfl, rfl⟩, ⟨rfl, trivial⟩, rfl, trivial⟩
      · replace h := iteF h g246
        conv => whnf
        refine CutK.norm [10, 13, 110] [640, 1184001] ?_
        conv => whnf
        cases h
        exact Done.of [] [] rfl rfl ⟨⟨rfl, rfl⟩, ⟨rfl, trivial⟩, rfl, trivial⟩
    · replace h := condT h
      conv => whnf
      refine Pick.no ?_
      conv => whnf
      refine Take.all (rfl) ?_
      conv => whnf
      refine Take.all (rfl) ?_
      conv => whnf
      obtain ⟨y247, e248, h⟩ := bind_ex h
      refine CallOk.of (laws_eqSurreal_ct e248) ?_
      conv => whnf
      refine spl (fun g249 => ?_) (fun g249 => ?_)
      · replace h := iteT h g249
        conv => whnf
        refine splF ?_
        conv => whnf
        refine CutK.norm [10, 13, 110] [640, 1184001] ?_
        conv => whnf
        exact CutK.piece (laws_FnExactExactQuotient_p25_ct  h) [some 640, some 1184001] [] ⟨⟨rfl, rfl⟩, ⟨rfl, ⟨rfl, ⟨rfl, rfl⟩, trivial⟩, ⟨rfl, rfl, rows_same⟩, trivial⟩, ⟨rfl, rfl⟩, rfl, trivial⟩
      · replace h := iteF h g249
        conv => whnf
        refine CutK.norm [10, 13, 110] [640, 1184001] ?_
        conv => whnf
        cases h
        exact Done.of [] [] rfl rfl ⟨⟨rfl, rfl⟩, ⟨rfl, trivial⟩, rfl, trivial⟩
def laws_FnExactExactQuotient_p21 (k : Nat) (a1 : Rw) (a2 : Rw) (o183 : Int) (o184 : Int) (o185 : Rw) (o186 : Rw) (v189 : Bool) : Option Bool :=
  (cond v189 (if o184 < (0 : Int) then some false else (if o184 = o183 then ((laws_toSurreal k a1).bind fun y261 => ((laws_toSurreal k a2).bind fun y263 => ((impl_ExactQuotient k y261 y263).bind fun y265 => (if y265.2 = true then (laws_FnExactExactQuotient_p24 k o183 o185 o186 y265.1 true true) else (laws_FnExactExactQuotient_p24 k o183 o185 o186 y265.1 false true))))) else some false)) (if o184 < (0 : Int) then some false else (if o184 = o183 then ((laws_toSurreal k a1).bind fun y252 => ((laws_toSurreal k a2).bind fun y254 => ((impl_ExactQuotient k y252 y254).bind fun y256 => (if y256.2 = true then (laws_FnExactExactQuotient_p24 k o183 o185 o186 y256.1 true false) else (laws_FnExactExactQuotient_p24 k o183 o185 o186 y256.1 false false))))) else some false)))
set_option maxHeartbeats 4000000 in
set_option maxRecDepth 100000 in
theorem laws_FnExactExactQuotient_p21_ct {k : Nat} {a1 : Rw} {a2 : Rw} {o183 : Int} {o184 : Int} {o185 : Rw} {o186 : Rw} {v189 : Bool} {r : Bool} (h : laws_FnExactExactQuotient_p21 k a1 a2 o183 o184 o185 o186 v189 = some r) : X prog 0 (tlF f5 21) (mk 119 [(2, .ptr 128 0), (3, .ptr 192 0), (6, .ptr 384 0), (7, .d (D.bool v189)), (10, .ptr 640 0), (13, .d (D.int .i64 o183)), (14, .d (D.int .i64 o184))] [(128, .box 24 [.d (D.sl a1)]), (192, .box 24 [.d (D.sl a2)]), (384, .box 28 [.os 1169000 o185.length]), (640, .box 28 [.os 1169001 o186.length]), (1169000, .arr 116 true o185), (1169001, .arr 116 true o186)]) (finK prog f5 0 (.d (D.bool r)) (⟨[], []⟩)) := by
  rw [laws_FnExactExactQuotient_p21] at h
  cases v189
  · replace h := condF h
    conv => whnf
    refine splD (fun g250 => ?_) (fun g250 => ?_)
    · replace h := iteP h g250
      conv => whnf
      cases h
      exact Done.of [] [] rfl rfl ⟨⟨rfl, rfl⟩, ⟨rfl, trivial⟩, rfl, trivial⟩
    · replace h := iteN h g250
      conv => whnf
      refine splN (fun g251 => ?_) (fun g251 => ?_)
      · replace h := iteN h g251
        conv => whnf
        cases h
        exact Done.of [] [] rfl rfl ⟨⟨rfl, rfl⟩, ⟨rfl, trivial⟩, rfl, trivial⟩
      · replace h := iteP h g251
        conv => whnf
        refine Pick.no ?_
        conv => whnf
        obtain ⟨y252, e253, h⟩ := bind_ex h
        refine CallOk.of (laws_toSurreal_ct e253) ?_
        conv => whnf
        refine Pick.no ?_
        conv => whnf
        obtain ⟨y254, e255, h⟩ := bind_ex h
        refine CallOk.of (laws_toSurreal_ct e255) ?_
        conv => whnf
        refine Pick.no ?_
        conv => whnf
        refine Take.all (rfl) ?_
        conv => whnf
        refine Take.all (rfl) ?_
        conv => whnf
        obtain ⟨y256, e257, h⟩ := bind_ex h
        refine CallOk.of (impl_ExactQuotient_ct e257) ?_
        conv => whnf
        refine spl (fun g258 => ?_) (fun g258 => ?_)
        · replace h := iteT h g258
          conv => whnf
          exact CutK.piece (laws_FnExactExactQuotient_p24_ct  h) [some 384, some 640, some 960, some 1169000, some 1169001, some 6336] [] ⟨⟨rfl, rfl⟩, ⟨rfl, ⟨rfl, ⟨rfl, rfl⟩, trivial⟩, ⟨rfl, ⟨rfl, rfl⟩, trivial⟩, ⟨rfl, ⟨rfl, rfl⟩, trivial⟩, ⟨rfl, rfl, rows_same⟩, ⟨rfl, rfl, rows_same⟩, ⟨rfl, rfl, rows_same⟩, trivial⟩, ⟨rfl, rfl⟩, rfl, ⟨rfl, rfl⟩, rfl, ⟨rfl, rfl⟩, rfl, trivial⟩
        · replace h := iteF h g258
          conv => whnf
          exact CutK.piece (laws_FnExactExactQuotient_p24_ct  h) [some 384, some 640, some 960, some 1169000, some 1169001, some 6336] [] ⟨⟨rfl, rfl⟩, ⟨rfl, ⟨rfl, ⟨rfl, rfl⟩, trivial⟩, ⟨rfl, ⟨rfl, rfl⟩, trivial⟩, ⟨rfl, ⟨rfl, rfl⟩, trivial⟩, ⟨rfl, rfl, rows_same⟩, ⟨rfl, rfl, rows_same⟩, ⟨rfl, rfl, rows_same⟩, trivial⟩, ⟨rfl, rfl⟩, rfl, ⟨rfl, rfl⟩, rfl, ⟨rfl, rfl⟩, rfl, trivial⟩
  · replace h := condT h
    conv => whnf
    refine splD (fun g259 => ?_) (fun g259 => ?_)
    · replace h := iteP h g259
      conv => whnf
      cases h
      exact Done.of [] [] rfl rfl ⟨⟨rfl, rfl⟩, ⟨rfl, trivial⟩, rfl, trivial⟩
    · replace h := iteN h g259
      conv => whnf
      refine splN (fun g260 => ?_) (fun g260 => ?_)
      · replace h := iteN h g260
        conv => whnf
        cases h
        exact Done.of [] [] rfl rfl ⟨⟨rfl, rfl⟩, ⟨rfl, trivial⟩, rfl, trivial⟩
      · replace h := iteP h g260
        conv => whnf
        refine Pick.no ?_
        conv => whnf
        obtain ⟨y261, e262, h⟩ := bind_ex h
        refine CallOk.of (laws_toSurreal_ct e262) ?_
        conv => whnf
        refine Pick.no ?_
        conv => whnf
        obtain ⟨y263, e264, h⟩ := bind_ex h
        refine CallOk.of (laws_toSurreal_ct e264) ?_
        conv => whnf
        refine Pick.no ?_
        conv => whnf
        refine Take.all (rfl) ?_
        conv => whnf
        refine Take.all (rfl) ?_
        conv => whnf
        obtain ⟨y265, e266, h⟩ := bind_ex h
        refine CallOk.of (impl_ExactQuotient_ct e266) ?_
        conv => whnf
        refine spl (fun g267 => ?_) (fun g267 => ?_)
        · replace h := iteT h g267
          conv => whnf
          exact CutK.piece (laws_FnExactExactQuotient_p24_ct  h) [some 384, some 640, some 960, some 1169000, some 1169001, some 6336] [] ⟨⟨rfl, rfl⟩, ⟨rfl, ⟨rfl, ⟨rfl, rfl⟩, trivial⟩, ⟨rfl, ⟨rfl, rfl⟩, trivial⟩, ⟨rfl, ⟨rfl, rfl⟩, trivial⟩, ⟨rfl, rfl, rows_same⟩, ⟨rfl, rfl, rows_same⟩, ⟨rfl, rfl, rows_same⟩, trivial⟩, ⟨rfl, rfl⟩, rfl, ⟨rfl, rfl⟩, rfl, ⟨rfl, rfl⟩, rfl, trivial⟩
        · replace h := iteF h g267
          conv => whnf
          exact CutK.piece (laws_FnExactExactQuotient_p24_ct  h) [some 384, some 640, some 960, some 1169000, some 1169001, some 6336] [] ⟨⟨rfl, rfl⟩, ⟨rfl, ⟨rfl, ⟨rfl, rfl⟩, trivial⟩, ⟨rfl, ⟨rfl, rfl⟩, trivial⟩, ⟨rfl, ⟨rfl, rfl⟩, trivial⟩, ⟨rfl, rfl, rows_same⟩, ⟨rfl, rfl, rows_same⟩, ⟨rfl, rfl, rows_same⟩, trivial⟩, ⟨rfl, rfl⟩, rfl, ⟨rfl, rfl⟩, rfl, ⟨rfl, rfl⟩, rfl, trivial⟩
def laws_FnExactExactQuotient_p19 (k : Nat) (a1 : Rw) (a2 : Rw) (o174 : Int) (o175 : Rw) (o176 : Rw) (v180 : Bool) : Option Bool :=
  (cond v180 ((laws_heldSurreal k o176 1).bind fun y270 => (laws_FnExactExactQuotient_p21 k a1 a2 o174 y270 o175 o176 true)) ((laws_heldSurreal k o176 1).bind fun y268 => (laws_FnExactExactQuotient_p21 k a1 a2 o174 y268 o175 o176 false)))
set_option maxHeartbeats 4000000 in
set_option maxRecDepth 100000 in
theorem laws_FnExactExactQuotient_p19_ct {k : Nat} {a1 : Rw} {a2 : Rw} {o174 : Int} {o175 : Rw} {o176 : Rw} {v180 : Bool} {r : Bool} (h : laws_FnExactExactQuotient_p19 k a1 a2 o174 o175 o176 v180 = some r) : X prog 0 (tlF f5 19) (mk 119 [(2, .ptr 128 0), (3, .ptr 192 0), (6, .ptr 384 0), (7, .d (D.bool v180)), (10, .ptr 640 0), (13, .d (D.int .i64 o174))] [(128, .box 24 [.d (D.sl a1)]), (192, .box 24 [.d (D.sl a2)]), (384, .box 28 [.os 1159000 o175.length]), (640, .box 28 [.os 1159001 o176.length]), (1159000, .arr 116 true o175), (1159001, .arr 116 true o176)]) (finK prog f5 0 (.d (D.bool r)) (⟨[], []⟩)) := by
  rw [laws_FnExactExactQuotient_p19] at h
  cases v180
  · replace h := condF h
    conv => whnf
    refine Choice.old ?_
    conv => whnf
    refine Pick.no ?_
    conv => whnf
    refine Take.all (rfl) ?_
    conv => whnf
    obtain ⟨y268, e269, h⟩ := bind_ex h
    refine CallOk.of (laws_heldSurreal_ct e269) ?_
    conv => whnf
    exact CutK.piece (laws_FnExactExactQuotient_p21_ct  h) [some 128, some 192, some 384, some 640, some 1159000, some 1159001] [] ⟨⟨rfl, rfl⟩, ⟨rfl, ⟨rfl, rfl, trivial⟩, ⟨rfl, rfl, trivial⟩, ⟨rfl, ⟨rfl, rfl⟩, trivial⟩, ⟨rfl, ⟨rfl, rfl⟩, trivial⟩, ⟨rfl, rfl, rows_same⟩, ⟨rfl, rfl, rows_same⟩, trivial⟩, ⟨rfl, rfl⟩, ⟨rfl, rfl⟩, ⟨rfl, rfl⟩, rfl, ⟨rfl, rfl⟩, rfl, rfl, trivial⟩
  · replace h := condT h
    conv => whnf
    refine Choice.old ?_
    conv => whnf
    refine Pick.no ?_
    conv => whnf
    refine Take.all (rfl) ?_
    conv => whnf
    obtain ⟨y270, e271, h⟩ := bind_ex h
    refine CallOk.of (laws_heldSurreal_ct e271) ?_
    conv => whnf
    exact CutK.piece (laws_FnExactExactQuotient_p21_ct  h) [some 128, some 192, some 384, some 640, some 1159000, some 1159001] [] ⟨⟨rfl, rfl⟩, ⟨rfl, ⟨rfl, rfl, trivial⟩, ⟨rfl, rfl, trivial⟩, ⟨rfl, ⟨rfl, rfl⟩, trivial⟩, ⟨rfl, ⟨rfl, rfl⟩, trivial⟩, ⟨rfl, rfl, rows_same⟩, ⟨rfl, rfl, rows_same⟩, trivial⟩, ⟨rfl, rfl⟩, ⟨rfl, rfl⟩, ⟨rfl, rfl⟩, rfl, ⟨rfl, rfl⟩, rfl, rfl, trivial⟩
def laws_FnExactExactQuotient_p17 (k : Nat) (a1 : Rw) (a2 : Rw) (o156 : Rw) (o157 : Rw) (v170 : Bool) : Option Bool :=
  (cond v170 ((laws_markSurreal k o157 1).bind fun y275 => (if y275.2.length = o157.length then (laws_FnExactExactQuotient_p19 k a1 a2 y275.1 o156 y275.2 true) else none)) ((laws_markSurreal k o157 1).bind fun y272 => (if y272.2.length = o157.length then (laws_FnExactExactQuotient_p19 k a1 a2 y272.1 o156 y272.2 false) else none)))
set_option maxHeartbeats 4000000 in
set_option maxRecDepth 100000 in
theorem laws_FnExactExactQuotient_p17_ct {k : Nat} {a1 : Rw} {a2 : Rw} {o156 : Rw} {o157 : Rw} {v170 : Bool} {r : Bool} (h : laws_FnExactExactQuotient_p17 k a1 a2 o156 o157 v170 = some r) : X prog 0 (tlF f5 17) (mk 119 [(2, .ptr 128 0), (3, .ptr 192 0), (6, .ptr 384 0), (7, .d (D.bool v170)), (10, .ptr 640 0)] [(128, .box 24 [.d (D.sl a1)]), (192, .box 24 [.d (D.sl a2)]), (384, .box 28 [.os 1149000 o156.length]), (640, .box 28 [.os 1149001 o157.length]), (1149000, .arr 116 true o156), (1149001, .arr 116 true o157)]) (finK prog f5 0 (.d (D.bool r)) (⟨[], []⟩)) := by
  rw [laws_FnExactExactQuotient_p17] at h
  cases v170
  · replace h := condF h
    conv => whnf
    refine Choice.new ?_
    conv => whnf
    refine Req.of (rfl) ?_
    conv => whnf
    obtain ⟨y272, e273, h⟩ := bind_ex h
    refine MarkOk.of (laws_markSurreal_ct e273) ?_
    conv => whnf
    obtain ⟨g274, h⟩ := req_ex h
    exact CutK.piece (laws_FnExactExactQuotient_p19_ct  h) [some 128, some 192, some 384, some 640, some 1149000, some 1149001] [] ⟨⟨rfl, rfl⟩, ⟨rfl, ⟨rfl, rfl, trivial⟩, ⟨rfl, rfl, trivial⟩, ⟨rfl, ⟨rfl, rfl⟩, trivial⟩, ⟨rfl, ⟨(by first | rfl | exact List.length_append.symm | (simp; done) | omega), rfl⟩, trivial⟩, ⟨rfl, rfl, rows_same⟩, ⟨rfl, rfl, rows_same⟩, trivial⟩, ⟨rfl, rfl⟩, ⟨rfl, rfl⟩, ⟨rfl, rfl⟩, rfl, ⟨rfl, rfl⟩, rfl, trivial⟩
  · replace h := condT h
    conv => whnf
    refine Choice.new ?_
    conv => whnf
    refine Req.of (rfl) ?_
    conv => whnf
    obtain ⟨y275, e276, h⟩ := bind_ex h
    refine MarkOk.of (laws_markSurreal_ct e276) ?_
    conv => whnf
    obtain ⟨g277, h⟩ := req_ex h
    exact CutK.piece (laws_FnExactExactQuotient_p19_ct  h) [some 128, some 192, some 384, some 640, some 1149000, some 1149001] [] ⟨⟨rfl, rfl⟩, ⟨rfl, ⟨rfl, rfl, trivial⟩, ⟨rfl, rfl, trivial⟩, ⟨rfl, ⟨rfl, rfl⟩, trivial⟩, ⟨rfl, ⟨(by first | rfl | exact List.length_append.symm | (simp; done) | omega), rfl⟩, trivial⟩, ⟨rfl, rfl, rows_same⟩, ⟨rfl, rfl, rows_same⟩, trivial⟩, ⟨rfl, rfl⟩, ⟨rfl, rfl⟩, ⟨rfl, rfl⟩, rfl, ⟨rfl, rfl⟩, rfl, trivial⟩
def laws_FnExactExactQuotient_p16 (k : Nat) (a1 : Rw) (a2 : Rw) (o138 : Int) (o139 : Rw) (o140 : Rw) (v144 : Bool) (v148 : Bool) : Option Bool :=
  (cond v144 (cond v148 (if o138 < (0 : Int) then some false else ((laws_eqSurreal k o140 o139).bind fun y291 => (if y291 = true then (laws_FnExactExactQuotient_p17 k a1 a2 o139 o140 true) else some false))) (if o138 < (0 : Int) then some false else ((laws_eqSurreal k o140 o139).bind fun y287 => (if y287 = true then some false else some false)))) (cond v148 (if o138 < (0 : Int) then some false else ((laws_eqSurreal k o140 o139).bind fun y283 => (if y283 = true then some false else some false))) (if o138 < (0 : Int) then some false else ((laws_eqSurreal k o140 o139).bind fun y279 => (if y279 = true then (laws_FnExactExactQuotient_p17 k a1 a2 o139 o140 false) else some false)))))
set_option maxHeartbeats 4000000 in
set_option maxRecDepth 100000 in
theorem laws_FnExactExactQuotient_p16_ct {k : Nat} {a1 : Rw} {a2 : Rw} {o138 : Int} {o139 : Rw} {o140 : Rw} {v144 : Bool} {v148 : Bool} {r : Bool} (h : laws_FnExactExactQuotient_p16 k a1 a2 o138 o139 o140 v144 v148 = some r) : X prog 0 (tlF f5 16) (mk 119 [(2, .ptr 128 0), (3, .ptr 192 0), (6, .ptr 384 0), (7, .d (D.bool v144)), (10, .ptr 640 0), (11, .d (D.bool v148)), (12, .d (D.int .i64 o138))] [(128, .box 24 [.d (D.sl a1)]), (192, .box 24 [.d (D.sl a2)]), (384, .box 28 [.os 1144000 o139.length]), (640, .box 28 [.os 1144001 o140.length]), (1144000, .arr 116 true o139), (1144001, .arr 116 true o140)]) (finK prog f5 0 (.d (D.bool r)) (⟨[], []⟩)) := by
  rw [laws_FnExactExactQuotient_p16] at h
  cases v144
  · replace h := condF h
    cases v148
    · replace h := condF h
      conv => whnf
      refine splD (fun g278 => ?_) (fun g278 => ?_)
      · replace h := iteP h g278
        conv => whnf
        refine CutK.norm [2, 3, 6, 7, 10, 82] [128, 192, 384, 640, 1144000, 1144001] ?_
        conv => whnf
        cases h
        exact Done.of [] [] rfl rfl ⟨⟨rfl, rfl⟩, ⟨rfl, trivial⟩, rfl, trivial⟩
      · replace h := iteN h g278
        conv => whnf
        refine Pick.no ?_
        conv => whnf
        refine Take.all (rfl) ?_
        conv => whnf
        refine Take.all (rfl) ?_
        conv => whnf
        obtain ⟨y279, e280, h⟩ := bind_ex h
        refine CallOk.of (laws_eqSurreal_ct e280) ?_
        conv => whnf
        refine spl (fun g281 => ?_) (fun g281 => ?_)
        · replace h := iteT h g281
          conv => whnf
          refine splF ?_
          conv => whnf
          refine CutK.norm [2, 3, 6, 7, 10, 82] [128, 192, 384, 640, 1144000, 1144001] ?_
          conv => whnf
          exact CutK.piece (laws_FnExactExactQuotient_p17_ct  h) [some 128, some 192, some 384, some 640, some 1144000, some 1144001] [] ⟨⟨rfl, rfl⟩, ⟨rfl, ⟨rfl, rfl, trivial⟩, ⟨rfl, rfl, trivial⟩, ⟨rfl, ⟨rfl, rfl⟩, trivial⟩, ⟨rfl, ⟨rfl, rfl⟩, trivial⟩, ⟨rfl, rfl, rows_same⟩, ⟨rfl, rfl, rows_same⟩, trivial⟩, ⟨rfl, rfl⟩, ⟨rfl, rfl⟩, ⟨rfl, rfl⟩, rfl, ⟨rfl, rfl⟩, trivial⟩
        · replace h := iteF h g281
          conv => whnf
          refine CutK.norm [2, 3, 6, 7, 10, 82] [128, 192, 384, 640, 1144000, 1144001] ?_
          conv => whnf
          cases h
          exact Done.of [] [] rfl rfl ⟨⟨rfl, rfl⟩, ⟨rfl, trivial⟩, rfl, trivial⟩
    · replace h := condT h
      conv => whnf
      refine splD (fun g282 => ?_) (fun g282 => ?_)
      · replace h := iteP h g282
        conv => whnf
        refine CutK.norm [2, 3, 6, 7, 10, 82] [128, 192, 384, 640, 1144000, 1144001] ?_
        conv => whnf
        cases h
        exact Done.of [] [] rfl rfl ⟨⟨rfl, rfl⟩, ⟨rfl, trivial⟩, rfl, trivial⟩
      · replace h := iteN h g282
        conv => whnf
        refine Pick.no ?_
        conv => whnf
        refine Take.all (rfl) ?_
        conv => whnf
        refine Take.all (rfl) ?_
        conv => whnf
        obtain ⟨y283, e284, h⟩ := bind_ex h
        refine CallOk.of (laws_eqSurreal_ct e284) ?_
        conv => whnf
        refine spl (fun g285 => ?_) (fun g285 => ?_)
        · replace h := iteT h g285
          conv => whnf
          refine splT ?_
          conv => whnf
          refine CutK.norm [2, 3, 6, 7, 10, 82] [128, 192, 384, 640, 1144000, 1144001] ?_
          conv => whnf
          cases h
          exact Done.of [] [] rfl rfl ⟨⟨rfl, rfl⟩, ⟨rfl, trivial⟩, rfl, trivial⟩
        · replace h := iteF h g285
          conv => whnf
          refine CutK.norm [2, 3, 6, 7, 10, 82] [128, 192, 384, 640, 1144000, 1144001] ?_
          conv => whnf
          cases h
          exact Done.of [] [] rfl rfl ⟨⟨rfl, rfl⟩, ⟨rfl, trivial⟩, rfl, trivial⟩
  · replace h := condT h
    cases v148
    · replace h := condF h
      conv => whnf
      refine splD (fun g286 => ?_) (fun g286 => ?_)
      · replace h := iteP h g286
        conv => whnf
        refine CutK.norm [2, 3, 6, 7, 10, 82] [128, 192, 384, 640, 1144000, 1144001] ?_
        conv => whnf
        cases h
        exact Done.of [] [] rfl rfl ⟨⟨rfl, rfl⟩, ⟨rfl, trivial⟩, rfl, trivial⟩
      · replace h := iteN h g286
        conv => whnf
        refine Pick.no ?_
        conv => whnf
        refine Take.all (rfl) ?_
        conv => whnf
        refine Take.all (rfl) ?_
        conv => whnf
        obtain ⟨y287, e288, h⟩ := bind_ex h
        refine CallOk.of (laws_eqSurreal_ct e288) ?_
        conv => whnf
        refine spl (fun g289 => ?_) (fun g289 => ?_)
        · replace h := iteT h g289
          conv => whnf
          refine splT ?_
          conv => whnf
          refine CutK.norm [2, 3, 6, 7, 10, 82] [128, 192, 384, 640, 1144000, 1144001] ?_
          conv => whnf
          cases h
          exact Done.of [] [] rfl rfl ⟨⟨rfl, rfl⟩, ⟨rfl, trivial⟩, rfl, trivial⟩
        · replace h := iteF h g289
          conv => whnf
          refine CutK.norm [2, 3, 6, 7, 10, 82] [128, 192, 384, 640, 1144000, 1144001] ?_
          conv => whnf
          cases h
          exact Done.of [] [] rfl rfl ⟨⟨rfl, rfl⟩, ⟨rfl, trivial⟩, rfl, trivial⟩
    · replace h := condT h
      conv => whnf
      refine splD (fun g290 => ?_) (fun g290 => ?_)
      · replace h := iteP h g290
        conv => whnf
        refine CutK.norm [2, 3, 6, 7, 10, 82] [128, 192, 384, 640, 1144000, 1144001] ?_
        conv => whnf
        cases h
        exact Done.of [] [] rfl rfl ⟨⟨rfl, rfl⟩, ⟨rfl, trivial⟩, rfl, trivial⟩
      · replace h := iteN h g290
        conv => whnf
        refine Pick.no ?_
        conv => whnf
        refine Take.all (rfl) ?_
        conv => whnf
        refine Take.all (rfl) ?_
        conv => whnf
        obtain ⟨y291, e292, h⟩ := bind_ex h
        refine CallOk.of (laws_eqSurreal_ct e292) ?_
        conv => whnf
        refine spl (fun g293 => ?_) (fun g293 => ?_)
        · replace h := iteT h g293
          conv => whnf
          refine splF ?_
          conv => whnf
          refine CutK.norm [2, 3, 6, 7, 10, 82] [128, 192, 384, 640, 1144000, 1144001] ?_
          conv => whnf
          exact CutK.piece (laws_FnExactExactQuotient_p17_ct  h) [some 128, some 192, some 384, some 640, some 1144000, some 1144001] [] ⟨⟨rfl, rfl⟩, ⟨rfl, ⟨rfl, rfl, trivial⟩, ⟨rfl, rfl, trivial⟩, ⟨rfl, ⟨rfl, rfl⟩, trivial⟩, ⟨rfl, ⟨rfl, rfl⟩, trivial⟩, ⟨rfl, rfl, rows_same⟩, ⟨rfl, rfl, rows_same⟩, trivial⟩, ⟨rfl, rfl⟩, ⟨rfl, rfl⟩, ⟨rfl, rfl⟩, rfl, ⟨rfl, rfl⟩, trivial⟩
        · replace h := iteF h g293
          conv => whnf
          refine CutK.norm [2, 3, 6, 7, 10, 82] [128, 192, 384, 640, 1144000, 1144001] ?_
          conv => whnf
          cases h
          exact Done.of [] [] rfl rfl ⟨⟨rfl, rfl⟩, ⟨rfl, trivial⟩, rfl, trivial⟩
def laws_FnExactExactQuotient_p15 (k : Nat) (a1 : Rw) (a2 : Rw) (o120 : Int) (o121 : Rw) (o122 : Rw) (o123 : Rw) (v127 : Bool) (v131 : Bool) : Option Bool :=
  (cond v127 (cond v131 ((laws_markSurreal k o122 o120).bind fun y303 => (if y303.2.length = o122.length then (laws_FnExactExactQuotient_p16 k a1 a2 y303.1 o121 o123 true true) else none)) ((laws_markSurreal k o122 o120).bind fun y300 => (if y300.2.length = o122.length then (laws_FnExactExactQuotient_p16 k a1 a2 y300.1 o121 o123 false true) else none))) (cond v131 ((laws_markSurreal k o122 o120).bind fun y297 => (if y297.2.length = o122.length then (laws_FnExactExactQuotient_p16 k a1 a2 y297.1 o121 o123 true false) else none)) ((laws_markSurreal k o122 o120).bind fun y294 => (if y294.2.length = o122.length then (laws_FnExactExactQuotient_p16 k a1 a2 y294.1 o121 o123 false false) else none))))
set_option maxHeartbeats 4000000 in
set_option maxRecDepth 100000 in
theorem laws_FnExactExactQuotient_p15_ct {k : Nat} {a1 : Rw} {a2 : Rw} {o120 : Int} {o121 : Rw} {o122 : Rw} {o123 : Rw} {v127 : Bool} {v131 : Bool} {r : Bool} (h : laws_FnExactExactQuotient_p15 k a1 a2 o120 o121 o122 o123 v127 v131 = some r) : X prog 0 (tlF f5 15) (mk 119 [(2, .ptr 128 0), (3, .ptr 192 0), (6, .ptr 384 0), (7, .d (D.bool v131)), (9, .ptr 576 0), (10, .ptr 640 0), (11, .d (D.bool v127)), (12, .d (D.int .i64 o120))] [(128, .box 24 [.d (D.sl a1)]), (192, .box 24 [.d (D.sl a2)]), (384, .box 28 [.os 1139000 o121.length]), (576, .box 28 [.os 1139001 o122.length]), (640, .box 28 [.os 1139002 o123.length]), (1139000, .arr 116 true o121), (1139001, .arr 116 true o122), (1139002, .arr 116 true o123)]) (finK prog f5 0 (.d (D.bool r)) (⟨[], []⟩)) := by
  rw [laws_FnExactExactQuotient_p15] at h
  cases v127
  · replace h := condF h
    cases v131
    · replace h := condF h
      conv => whnf
      refine Choice.new ?_
      conv => whnf
      refine Req.of (rfl) ?_
      conv => whnf
      obtain ⟨y294, e295, h⟩ := bind_ex h
      refine MarkOk.of (laws_markSurreal_ct e295) ?_
      conv => whnf
      obtain ⟨g296, h⟩ := req_ex h
      exact CutK.piece (laws_FnExactExactQuotient_p16_ct  h) [some 128, some 192, some 384, some 640, some 1139000, some 1139002] [] ⟨⟨rfl, rfl⟩, ⟨rfl, ⟨rfl, rfl, trivial⟩, ⟨rfl, rfl, trivial⟩, ⟨rfl, ⟨rfl, rfl⟩, trivial⟩, ⟨rfl, ⟨rfl, rfl⟩, trivial⟩, ⟨rfl, rfl, rows_same⟩, ⟨rfl, rfl, rows_same⟩, trivial⟩, ⟨rfl, rfl⟩, ⟨rfl, rfl⟩, ⟨rfl, rfl⟩, rfl, ⟨rfl, rfl⟩, rfl, rfl, trivial⟩
    · replace h := condT h
      conv => whnf
      refine Choice.new ?_
      conv => whnf
      refine Req.of (rfl) ?_
      conv => whnf
      obtain ⟨y297, e298, h⟩ := bind_ex h
      refine MarkOk.of (laws_markSurreal_ct e298) ?_
      conv => whnf
      obtain ⟨g299, h⟩ := req_ex h
      exact CutK.piece (laws_FnExactExactQuotient_p16_ct  h) [some 128, some 192, some 384, some 640, some 1139000, some 1139002] [] ⟨⟨rfl, rfl⟩, ⟨rfl, ⟨rfl, rfl, trivial⟩, ⟨rfl, rfl, trivial⟩, ⟨rfl, ⟨rfl, rfl⟩, trivial⟩, ⟨rfl, ⟨rfl, rfl⟩, trivial⟩, ⟨rfl, rfl, rows_same⟩, ⟨rfl, rfl, rows_same⟩, trivial⟩, ⟨rfl, rfl⟩, ⟨rfl, rfl⟩, ⟨rfl, rfl⟩, rfl, ⟨rfl, rfl⟩, rfl, rfl, trivial⟩
  · replace h := condT h
    cases v131
    · replace h := condF h
      conv => whnf
      refine Choice.new ?_
      conv => whnf
      refine Req.of (rfl) ?_
      conv => whnf
      obtain ⟨y300, e301, h⟩ := bind_ex h
      refine MarkOk.of (laws_markSurreal_ct e301) ?_
      conv => whnf
      obtain ⟨g302, h⟩ := req_ex h
      exact CutK.piece (laws_FnExactExactQuotient_p16_ct  h) [some 128, some 192, some 384, some 640, some 1139000, some 1139002] [] ⟨⟨rfl, rfl⟩, ⟨rfl, ⟨rfl, rfl, trivial⟩, ⟨rfl, rfl, trivial⟩, ⟨rfl, ⟨rfl, rfl⟩, trivial⟩, ⟨rfl, ⟨rfl, rfl⟩, trivial⟩, ⟨rfl, rfl, rows_same⟩, ⟨rfl, rfl, rows_same⟩, trivial⟩, ⟨rfl, rfl⟩, ⟨rfl, rfl⟩, ⟨rfl, rfl⟩, rfl, ⟨rfl, rfl⟩, rfl, rfl, trivial⟩
    · replace h := condT h
      conv => whnf
      refine Choice.new ?_
      conv => whnf
      refine Req.of (rfl) ?_
      conv => whnf
      obtain ⟨y303, e304, h⟩ := bind_ex h
      refine MarkOk.of (laws_markSurreal_ct e304) ?_
      conv => whnf
      obtain ⟨g305, h⟩ := req_ex h
      exact CutK.piece (laws_FnExactExactQuotient_p16_ct  h) [some 128, some 192, some 384, some 640, some 1139000, some 1139002] [] ⟨⟨rfl, rfl⟩, ⟨rfl, ⟨rfl, rfl, trivial⟩, ⟨rfl, rfl, trivial⟩, ⟨rfl, ⟨rfl, rfl⟩, trivial⟩, ⟨rfl, ⟨rfl, rfl⟩, trivial⟩, ⟨rfl, rfl, rows_same⟩, ⟨rfl, rfl, rows_same⟩, trivial⟩, ⟨rfl, rfl⟩, ⟨rfl, rfl⟩, ⟨rfl, rfl⟩, rfl, ⟨rfl, rfl⟩, rfl, rfl, trivial⟩
def laws_FnExactExactQuotient_p13 (k : Nat) (a1 : Rw) (a2 : Rw) (o96 : Rw) (o97 : Rw) (o98 : Rw) (o99 : Rw) (v105 : Bool) (v111 : Bool) : Option Bool :=
  (cond v105 (cond v111 ((laws_markSurreal k o97 1).bind fun y315 => (if y315.2.length = o97.length then (laws_FnExactExactQuotient_p15 k a1 a2 y315.1 o96 o98 o99 true true) else none)) ((laws_markSurreal k o97 1).bind fun y312 => (if y312.2.length = o97.length then (laws_FnExactExactQuotient_p15 k a1 a2 y312.1 o96 o98 o99 false true) else none))) (cond v111 ((laws_markSurreal k o97 1).bind fun y309 => (if y309.2.length = o97.length then (laws_FnExactExactQuotient_p15 k a1 a2 y309.1 o96 o98 o99 true false) else none)) ((laws_markSurreal k o97 1).bind fun y306 => (if y306.2.length = o97.length then (laws_FnExactExactQuotient_p15 k a1 a2 y306.1 o96 o98 o99 false false) else none))))
set_option maxHeartbeats 4000000 in
set_option maxRecDepth 100000 in
theorem laws_FnExactExactQuotient_p13_ct {k : Nat} {a1 : Rw} {a2 : Rw} {o96 : Rw} {o97 : Rw} {o98 : Rw} {o99 : Rw} {v105 : Bool} {v111 : Bool} {r : Bool} (h : laws_FnExactExactQuotient_p13 k a1 a2 o96 o97 o98 o99 v105 v111 = some r) : X prog 0 (tlF f5 13) (mk 119 [(2, .ptr 128 0), (3, .ptr 192 0), (6, .ptr 384 0), (7, .d (D.bool v105)), (8, .ptr 512 0), (9, .ptr 576 0), (10, .ptr 640 0), (11, .d (D.bool v111))] [(128, .box 24 [.d (D.sl a1)]), (192, .box 24 [.d (D.sl a2)]), (384, .box 28 [.os 1129000 o96.length]), (512, .box 28 [.os 1129001 o97.length]), (576, .box 28 [.os 1129002 o98.length]), (640, .box 28 [.os 1129003 o99.length]), (1129000, .arr 116 true o96), (1129001, .arr 116 true o97), (1129002, .arr 116 true o98), (1129003, .arr 116 true o99)]) (finK prog f5 0 (.d (D.bool r)) (⟨[], []⟩)) := by
  rw [laws_FnExactExactQuotient_p13] at h
  cases v105
  · replace h := condF h
    cases v111
    · replace h := condF h
      conv => whnf
      refine Choice.new ?_
      conv => whnf
      refine Req.of (rfl) ?_
      conv => whnf
      obtain ⟨y306, e307, h⟩ := bind_ex h
      refine MarkOk.of (laws_markSurreal_ct e307) ?_
      conv => whnf
      obtain ⟨g308, h⟩ := req_ex h
      exact CutK.piece (laws_FnExactExactQuotient_p15_ct  h) [some 128, some 192, some 384, some 576, some 640, some 1129000, some 1129002, some 1129003] [] ⟨⟨rfl, rfl⟩, ⟨rfl, ⟨rfl, rfl, trivial⟩, ⟨rfl, rfl, trivial⟩, ⟨rfl, ⟨rfl, rfl⟩, trivial⟩, ⟨rfl, ⟨rfl, rfl⟩, trivial⟩, ⟨rfl, ⟨rfl, rfl⟩, trivial⟩, ⟨rfl, rfl, rows_same⟩, ⟨rfl, rfl, rows_same⟩, ⟨rfl, rfl, rows_same⟩, trivial⟩, ⟨rfl, rfl⟩, ⟨rfl, rfl⟩, ⟨rfl, rfl⟩, rfl, ⟨rfl, rfl⟩, ⟨rfl, rfl⟩, rfl, rfl, trivial⟩
    · replace h := condT h
      conv => whnf
      refine Choice.new ?_
      conv => whnf
      refine Req.of (rfl) ?_
      conv => whnf
      obtain ⟨y309, e310, h⟩ := bind_ex h
      refine MarkOk.of (laws_markSurreal_ct e310) ?_
      conv => whnf
      obtain ⟨g311, h⟩ := req_ex h
      exact CutK.piece (laws_FnExactExactQuotient_p15_ct  h) [some 128, some 192, some 384, some 576, some 640, some 1129000, some 1129002, some 1129003] [] ⟨⟨rfl, rfl⟩, ⟨rfl, ⟨rfl, rfl, trivial⟩, ⟨rfl, rfl, trivial⟩, ⟨rfl, ⟨rfl, rfl⟩, trivial⟩, ⟨rfl, ⟨rfl, rfl⟩, trivial⟩, ⟨rfl, ⟨rfl, rfl⟩, trivial⟩, ⟨rfl, rfl, rows_same⟩, ⟨rfl, rfl, rows_same⟩, ⟨rfl, rfl, rows_same⟩, trivial⟩, ⟨rfl, rfl⟩, ⟨rfl, rfl⟩, ⟨rfl, rfl⟩, rfl, ⟨rfl, rfl⟩, ⟨rfl, rfl⟩, rfl, rfl, trivial⟩
  · replace h := condT h
    cases v111
    · replace h := condF h
      conv => whnf
      refine Choice.new ?_
      conv => whnf
      refine Req.of (rfl) ?_
      conv => whnf
      obtain ⟨y312, e313, h⟩ := bind_ex h
      refine MarkOk.of (laws_markSurreal_ct e313) ?_
      conv => whnf
      obtain ⟨g314, h⟩ := req_ex h
      exact CutK.piece (laws_FnExactExactQuotient_p15_ct  h) [some 128, some 192, some 384, some 576, some 640, some 1129000, some 1129002, some 1129003] [] ⟨⟨rfl, rfl⟩, ⟨rfl, ⟨rfl, rfl, trivial⟩, ⟨rfl, rfl, trivial⟩, ⟨rfl, ⟨rfl, rfl⟩, trivial⟩, ⟨rfl, ⟨rfl, rfl⟩, trivial⟩, ⟨rfl, ⟨rfl, rfl⟩, trivial⟩, ⟨rfl, rfl, rows_same⟩, ⟨rfl, rfl, rows_same⟩, ⟨rfl, rfl, rows_same⟩, trivial⟩, ⟨rfl, rfl⟩, ⟨rfl, rfl⟩, ⟨rfl, rfl⟩, rfl, ⟨rfl, rfl⟩, ⟨rfl, rfl⟩, rfl, rfl, trivial⟩
    · replace h := condT h
      conv => whnf
      refine Choice.new ?_
      conv => whnf
      refine Req.of (rfl) ?_
      conv => whnf
      obtain ⟨y315, e316, h⟩ := bind_ex h
      refine MarkOk.of (laws_markSurreal_ct e316) ?_
      conv => whnf
      obtain ⟨g317, h⟩ := req_ex h
      exact CutK.piece (laws_FnExactExactQuotient_p15_ct  h) [some 128, some 192, some 384, some 576, some 640, some 1129000, some 1129002, some 1129003] [] ⟨⟨rfl, rfl⟩, ⟨rfl, ⟨rfl, rfl, trivial⟩, ⟨rfl, rfl, trivial⟩, ⟨rfl, ⟨rfl, rfl⟩, trivial⟩, ⟨rfl, ⟨rfl, rfl⟩, trivial⟩, ⟨rfl, ⟨rfl, rfl⟩, trivial⟩, ⟨rfl, rfl, rows_same⟩, ⟨rfl, rfl, rows_same⟩, ⟨rfl, rfl, rows_same⟩, trivial⟩, ⟨rfl, rfl⟩, ⟨rfl, rfl⟩, ⟨rfl, rfl⟩, rfl, ⟨rfl, rfl⟩, ⟨rfl, rfl⟩, rfl, rfl, trivial⟩
def laws_FnExactExactQuotient_p12 (k : Nat) (a1 : Rw) (a2 : Rw) (o70 : Rw) (o71 : Rw) (o72 : Rw) (o73 : Rw) (v79 : Bool) (v85 : Bool) : Option Bool :=
  (cond v79 (cond v85 ((laws_toSurreal k a2).bind fun y333 => ((laws_eqSurreal k o72 y333).bind fun y335 => (if y335 = true then (laws_FnExactExactQuotient_p13 k a1 a2 o70 o71 o72 o73 true true) else some false))) ((laws_toSurreal k a2).bind fun y328 => ((laws_eqSurreal k o72 y328).bind fun y330 => (if y330 = true then (laws_FnExactExactQuotient_p13 k a1 a2 o70 o71 o72 o73 false true) else some false)))) (cond v85 ((laws_toSurreal k a2).bind fun y323 => ((laws_eqSurreal k o72 y323).bind fun y325 => (if y325 = true then (laws_FnExactExactQuotient_p13 k a1 a2 o70 o71 o72 o73 true false) else some false))) ((laws_toSurreal k a2).bind fun y318 => ((laws_eqSurreal k o72 y318).bind fun y320 => (if y320 = true then (laws_FnExactExactQuotient_p13 k a1 a2 o70 o71 o72 o73 false false) else some false)))))
set_option maxHeartbeats 4000000 in
set_option maxRecDepth 100000 in
theorem laws_FnExactExactQuotient_p12_ct {k : Nat} {a1 : Rw} {a2 : Rw} {o70 : Rw} {o71 : Rw} {o72 : Rw} {o73 : Rw} {v79 : Bool} {v85 : Bool} {r : Bool} (h : laws_FnExactExactQuotient_p12 k a1 a2 o70 o71 o72 o73 v79 v85 = some r) : X prog 0 (tlF f5 12) (mk 119 [(2, .ptr 128 0), (3, .ptr 192 0), (6, .ptr 384 0), (7, .d (D.bool v85)), (8, .ptr 512 0), (9, .ptr 576 0), (10, .ptr 640 0), (11, .d (D.bool v79))] [(128, .box 24 [.d (D.sl a1)]), (192, .box 24 [.d (D.sl a2)]), (384, .box 28 [.os 1124000 o70.length]), (512, .box 28 [.os 1124001 o71.length]), (576, .box 28 [.os 1124002 o72.length]), (640, .box 28 [.os 1124003 o73.length]), (1124000, .arr 116 true o70), (1124001, .arr 116 true o71), (1124002, .arr 116 true o72), (1124003, .arr 116 true o73)]) (finK prog f5 0 (.d (D.bool r)) (⟨[], []⟩)) := by
  rw [laws_FnExactExactQuotient_p12] at h
  cases v79
  · replace h := condF h
    cases v85
    · replace h := condF h
      conv => whnf
      refine Pick.no ?_
      conv => whnf
      obtain ⟨y318, e319, h⟩ := bind_ex h
      refine CallOk.of (laws_toSurreal_ct e319) ?_
      conv => whnf
      refine Pick.no ?_
      conv => whnf
      refine Take.all (rfl) ?_
      conv => whnf
      refine Take.all (rfl) ?_
      conv => whnf
      obtain ⟨y320, e321, h⟩ := bind_ex h
      refine CallOk.of (laws_eqSurreal_ct e321) ?_
      conv => whnf
      refine spl (fun g322 => ?_) (fun g322 => ?_)
      · replace h := iteT h g322
        conv => whnf
        refine CutK.norm [2, 3, 6, 7, 8, 9, 10, 11, 63] [128, 192, 384, 512, 576, 640, 1124000, 1124001, 1124002, 1124003] ?_
        conv => whnf
        exact CutK.piece (laws_FnExactExactQuotient_p13_ct  h) [some 128, some 192, some 384, some 512, some 576, some 640, some 1124000, some 1124001, some 1124002, some 1124003] [] ⟨⟨rfl, rfl⟩, ⟨rfl, ⟨rfl, rfl, trivial⟩, ⟨rfl, rfl, trivial⟩, ⟨rfl, ⟨rfl, rfl⟩, trivial⟩, ⟨rfl, ⟨rfl, rfl⟩, trivial⟩, ⟨rfl, ⟨rfl, rfl⟩, trivial⟩, ⟨rfl, ⟨rfl, rfl⟩, trivial⟩, ⟨rfl, rfl, rows_same⟩, ⟨rfl, rfl, rows_same⟩, ⟨rfl, rfl, rows_same⟩, ⟨rfl, rfl, rows_same⟩, trivial⟩, ⟨rfl, rfl⟩, ⟨rfl, rfl⟩, ⟨rfl, rfl⟩, rfl, ⟨rfl, rfl⟩, ⟨rfl, rfl⟩, ⟨rfl, rfl⟩, rfl, trivial⟩
      · replace h := iteF h g322
        conv => whnf
        refine CutK.norm [2, 3, 6, 7, 8, 9, 10, 11, 63] [128, 192, 384, 512, 576, 640, 1124000, 1124001, 1124002, 1124003] ?_
        conv => whnf
        cases h
        exact Done.of [] [] rfl rfl ⟨⟨rfl, rfl⟩, ⟨rfl, trivial⟩, rfl, trivial⟩
    · replace h := condT h
      conv => whnf
      refine Pick.no ?_
      conv => whnf
      obtain ⟨y323, e324, h⟩ := bind_ex h
      refine CallOk.of (laws_toSurreal_ct e324) ?_
      conv => whnf
      refine Pick.no ?_
      conv => whnf
      refine Take.all (rfl) ?_
      conv => whnf
      refine Take.all (rfl) ?_
      conv => whnf
      obtain ⟨y325, e326, h⟩ := bind_ex h
      refine CallOk.of (laws_eqSurreal_ct e326) ?_
      conv => whnf
      refine spl (fun g327 => ?_) (fun g327 => ?_)
      · replace h := iteT h g327
        conv => whnf
        refine CutK.norm [2, 3, 6, 7, 8, 9, 10, 11, 63] [128, 192, 384, 512, 576, 640, 1124000, 1124001, 1124002, 1124003] ?_
        conv => whnf
        exact CutK.piece (laws_FnExactExactQuotient_p13_ct  h) [some 128, some 192, some 384, some 512, some 576, some 640, some 1124000, some 1124001, some 1124002, some 1124003] [] ⟨⟨rfl, rfl⟩, ⟨rfl, ⟨rfl, rfl, trivial⟩, ⟨rfl, rfl, trivial⟩, ⟨rfl, ⟨rfl, rfl⟩, trivial⟩, ⟨rfl, ⟨rfl, rfl⟩, trivial⟩, ⟨rfl, ⟨rfl, rfl⟩, trivial⟩, ⟨rfl, ⟨rfl, rfl⟩, trivial⟩, ⟨rfl, rfl, rows_same⟩, ⟨rfl, rfl, rows_same⟩, ⟨rfl, rfl, rows_same⟩, ⟨rfl, rfl, rows_same⟩, trivial⟩, ⟨rfl, rfl⟩, ⟨rfl, rfl⟩, ⟨rfl, rfl⟩, rfl, ⟨rfl, rfl⟩, ⟨rfl, rfl⟩, ⟨rfl, rfl⟩, rfl, trivial⟩
      · replace h := iteF h g327
        conv => whnf
        refine CutK.norm [2, 3, 6, 7, 8, 9, 10, 11, 63] [128, 192, 384, 512, 576, 640, 1124000, 1124001, 1124002, 1124003] ?_
        conv => whnf
        cases h
        exact Done.of [] [] rfl rfl ⟨⟨rfl, rfl⟩, ⟨rfl, trivial⟩, rfl, trivial⟩
  · replace h := condT h
    cases v85
    · replace h := condF h
      conv => whnf
      refine Pick.no ?_
      conv => whnf
      obtain ⟨y328, e329, h⟩ := bind_ex h
      refine CallOk.of (laws_toSurreal_ct e329) ?_
      conv => whnf
      refine Pick.no ?_
      conv => whnf
      refine Take.all (rfl) ?_
      conv => whnf
      refine Take.all (rfl) ?_
      conv => whnf
      obtain ⟨y330, e331, h⟩ := bind_ex h
      refine CallOk.of (laws_eqSurreal_ct e331) ?_
      conv => whnf
      refine spl (fun g332 => ?_) (fun g332 => ?_)
      · replace h := iteT h g332
        conv => whnf
        refine CutK.norm [2, 3, 6, 7, 8, 9, 10, 11, 63] [128, 192, 384, 512, 576, 640, 1124000, 1124001, 1124002, 1124003] ?_
        conv => whnf
        exact CutK.piece (laws_FnExactExactQuotient_p13_ct  h) [some 128, some 192, some 384, some 512, some 576, some 640, some 1124000, some 1124001, some 1124002, some 1124003] [] ⟨⟨rfl, rfl⟩, ⟨rfl, ⟨rfl, rfl, trivial⟩, ⟨rfl, rfl, trivial⟩, ⟨rfl, ⟨rfl, rfl⟩, trivial⟩, ⟨rfl, ⟨rfl, rfl⟩, trivial⟩, ⟨rfl, ⟨rfl, rfl⟩, trivial⟩, ⟨rfl, ⟨rfl, rfl⟩, trivial⟩, ⟨rfl, rfl, rows_same⟩, ⟨rfl, rfl, rows_same⟩, ⟨rfl, rfl, rows_same⟩, ⟨rfl, rfl, rows_same⟩, trivial⟩, ⟨rfl, rfl⟩, ⟨rfl, rfl⟩, ⟨rfl, rfl⟩, rfl, ⟨rfl, rfl⟩, ⟨rfl, rfl⟩, ⟨rfl, rfl⟩, rfl, trivial⟩
      · replace h := iteF h g332
        conv => whnf
        refine CutK.norm [2, 3, 6, 7, 8, 9, 10, 11, 63] [128, 192, 384, 512, 576, 640, 1124000, 1124001, 1124002, 1124003] ?_
        conv => whnf
        cases h
        exact Done.of [] [] rfl rfl ⟨⟨rfl, rfl⟩, ⟨rfl, trivial⟩, rfl, trivial⟩
    · replace h := condT h
      conv => whnf
      refine Pick.no ?_
      conv => whnf
      obtain ⟨y333, e334, h⟩ := bind_ex h
      refine CallOk.of (laws_toSurreal_ct e334) ?_
      conv => whnf
      refine Pick.no ?_
      conv => whnf
      refine Take.all (rfl) ?_
      conv => whnf
      refine Take.all (rfl) ?_
      conv => whnf
      obtain ⟨y335, e336, h⟩ := bind_ex h
      refine CallOk.of (laws_eqSurreal_ct e336) ?_
      conv => whnf
      refine spl (fun g337 => ?_) (fun g337 => ?_)
      · replace h := iteT h g337
        conv => whnf
        refine CutK.norm [2, 3, 6, 7, 8, 9, 10, 11, 63] [128, 192, 384, 512, 576, 640, 1124000, 1124001, 1124002, 1124003] ?_
        conv => whnf
        exact CutK.piece (laws_FnExactExactQuotient_p13_ct  h) [some 128, some 192, some 384, some 512, some 576, some 640, some 1124000, some 1124001, some 1124002, some 1124003] [] ⟨⟨rfl, rfl⟩, ⟨rfl, ⟨rfl, rfl, trivial⟩, ⟨rfl, rfl, trivial⟩, ⟨rfl, ⟨rfl, rfl⟩, trivial⟩, ⟨rfl, ⟨rfl, rfl⟩, trivial⟩, ⟨rfl, ⟨rfl, rfl⟩, trivial⟩, ⟨rfl, ⟨rfl, rfl⟩, trivial⟩, ⟨rfl, rfl, rows_same⟩, ⟨rfl, rfl, rows_same⟩, ⟨rfl, rfl, rows_same⟩, ⟨rfl, rfl, rows_same⟩, trivial⟩, ⟨rfl, rfl⟩, ⟨rfl, rfl⟩, ⟨rfl, rfl⟩, rfl, ⟨rfl, rfl⟩, ⟨rfl, rfl⟩, ⟨rfl, rfl⟩, rfl, trivial⟩
      · replace h := iteF h g337
        conv => whnf
        refine CutK.norm [2, 3, 6, 7, 8, 9, 10, 11, 63] [128, 192, 384, 512, 576, 640, 1124000, 1124001, 1124002, 1124003] ?_
        conv => whnf
        cases h
        exact Done.of [] [] rfl rfl ⟨⟨rfl, rfl⟩, ⟨rfl, trivial⟩, rfl, trivial⟩
def laws_FnExactExactQuotient_p11 (k : Nat) (a1 : Rw) (a2 : Rw) (o50 : Rw) (o51 : Rw) (o52 : Rw) (o53 : Rw) (v63 : Bool) (v64 : Bool) : Option Bool :=
  (cond v63 (cond v64 ((laws_toSurreal k a1).bind fun y353 => ((laws_eqSurreal k o51 y353).bind fun y355 => (if y355 = true then (laws_FnExactExactQuotient_p12 k a1 a2 o50 o51 o52 o53 true true) else some false))) ((laws_toSurreal k a1).bind fun y348 => ((laws_eqSurreal k o51 y348).bind fun y350 => (if y350 = true then (laws_FnExactExactQuotient_p12 k a1 a2 o50 o51 o52 o53 false true) else some false)))) (cond v64 ((laws_toSurreal k a1).bind fun y343 => ((laws_eqSurreal k o51 y343).bind fun y345 => (if y345 = true then (laws_FnExactExactQuotient_p12 k a1 a2 o50 o51 o52 o53 true false) else some false))) ((laws_toSurreal k a1).bind fun y338 => ((laws_eqSurreal k o51 y338).bind fun y340 => (if y340 = true then (laws_FnExactExactQuotient_p12 k a1 a2 o50 o51 o52 o53 false false) else some false)))))
set_option maxHeartbeats 4000000 in
set_option maxRecDepth 100000 in
theorem laws_FnExactExactQuotient_p11_ct {k : Nat} {a1 : Rw} {a2 : Rw} {o50 : Rw} {o51 : Rw} {o52 : Rw} {o53 : Rw} {v63 : Bool} {v64 : Bool} {r : Bool} (h : laws_FnExactExactQuotient_p11 k a1 a2 o50 o51 o52 o53 v63 v64 = some r) : X prog 0 (tlF f5 11) (mk 119 [(2, .ptr 128 0), (3, .ptr 192 0), (6, .ptr 384 0), (7, .d (D.bool v63)), (8, .ptr 512 0), (9, .ptr 576 0), (10, .ptr 640 0), (11, .d (D.bool v64))] [(128, .box 24 [.d (D.sl a1)]), (192, .box 24 [.d (D.sl a2)]), (384, .box 28 [.os 1119000 o50.length]), (512, .box 28 [.os 1119001 o51.length]), (576, .box 28 [.os 1119002 o52.length]), (640, .box 28 [.os 1119003 o53.length]), (1119000, .arr 116 true o50), (1119001, .arr 116 true o51), (1119002, .arr 116 true o52), (1119003, .arr 116 true o53)]) (finK prog f5 0 (.d (D.bool r)) (⟨[], []⟩)) := by
  rw [laws_FnExactExactQuotient_p11] at h
  cases v63
  · replace h := condF h
    cases v64
    · replace h := condF h
      conv => whnf
      refine Pick.no ?_
      conv => whnf
      obtain ⟨y338, e339, h⟩ := bind_ex h
      refine CallOk.of (laws_toSurreal_ct e339) ?_
      conv => whnf
      refine Pick.no ?_
      conv => whnf
      refine Take.all (rfl) ?_
      conv => whnf
      refine Take.all (rfl) ?_
      conv => whnf
      obtain ⟨y340, e341, h⟩ := bind_ex h
      refine CallOk.of (laws_eqSurreal_ct e341) ?_
      conv => whnf
      refine spl (fun g342 => ?_) (fun g342 => ?_)
      · replace h := iteT h g342
        conv => whnf
        refine CutK.norm [2, 3, 6, 7, 8, 9, 10, 11, 58] [128, 192, 384, 512, 576, 640, 1119000, 1119001, 1119002, 1119003] ?_
        conv => whnf
        exact CutK.piece (laws_FnExactExactQuotient_p12_ct  h) [some 128, some 192, some 384, some 512, some 576, some 640, some 1119000, some 1119001, some 1119002, some 1119003] [] ⟨⟨rfl, rfl⟩, ⟨rfl, ⟨rfl, rfl, trivial⟩, ⟨rfl, rfl, trivial⟩, ⟨rfl, ⟨rfl, rfl⟩, trivial⟩, ⟨rfl, ⟨rfl, rfl⟩, trivial⟩, ⟨rfl, ⟨rfl, rfl⟩, trivial⟩, ⟨rfl, ⟨rfl, rfl⟩, trivial⟩, ⟨rfl, rfl, rows_same⟩, ⟨rfl, rfl, rows_same⟩, ⟨rfl, rfl, rows_same⟩, ⟨rfl, rfl, rows_same⟩, trivial⟩, ⟨rfl, rfl⟩, ⟨rfl, rfl⟩, ⟨rfl, rfl⟩, rfl, ⟨rfl, rfl⟩, ⟨rfl, rfl⟩, ⟨rfl, rfl⟩, rfl, trivial⟩
      · replace h := iteF h g342
        conv => whnf
        refine CutK.norm [2, 3, 6, 7, 8, 9, 10, 11, 58] [128, 192, 384, 512, 576, 640, 1119000, 1119001, 1119002, 1119003] ?_
        conv => whnf
        cases h
        exact Done.of [] [] rfl rfl ⟨⟨rfl, rfl⟩, ⟨rfl, trivial⟩, rfl, trivial⟩
    · replace h := condT h
      conv => whnf
      refine Pick.no ?_
      conv => whnf
      obtain ⟨y343, e344, h⟩ := bind_ex h
      refine CallOk.of (laws_toSurreal_ct e344) ?_
      conv => whnf
      refine Pick.no ?_
      conv => whnf
      refine Take.all (rfl) ?_
      conv => whnf
      refine Take.all (rfl) ?_
      conv => whnf
      obtain ⟨y345, e346, h⟩ := bind_ex h
      refine CallOk.of (laws_eqSurreal_ct e346) ?_
      conv => whnf
      refine spl (fun g347 => ?_) (fun g347 => ?_)
      · replace h := iteT h g347
        conv => whnf
        refine CutK.norm [2, 3, 6, 7, 8, 9, 10, 11, 58] [128, 192, 384, 512, 576, 640, 1119000, 1119001, 1119002, 1119003] ?_
        conv => whnf
        exact CutK.piece (laws_FnExactExactQuotient_p12_ct  h) [some 128, some 192, some 384, some 512, some 576, some 640, some 1119000, some 1119001, some 1119002, some 1119003] [] ⟨⟨rfl, rfl⟩, ⟨rfl, ⟨rfl, rfl, trivial⟩, ⟨rfl, rfl, trivial⟩, ⟨rfl, ⟨rfl, rfl⟩, trivial⟩, ⟨rfl, ⟨rfl, rfl⟩, trivial⟩, ⟨rfl, ⟨rfl, rfl⟩, trivial⟩, ⟨rfl, ⟨rfl, rfl⟩, trivial⟩, ⟨rfl, rfl, rows_same⟩, ⟨rfl, rfl, rows_same⟩, ⟨rfl, rfl, rows_same⟩, ⟨rfl, rfl, rows_same⟩, trivial⟩, ⟨rfl, rfl⟩, ⟨rfl, rfl⟩, ⟨rfl, rfl⟩, rfl, ⟨rfl, rfl⟩, ⟨rfl, rfl⟩, ⟨rfl, rfl⟩, rfl, trivial⟩
      · replace h := iteF h g347
        conv => whnf
        refine CutK.norm [2, 3, 6, 7, 8, 9, 10, 11, 58] [128, 192, 384, 512, 576, 640, 1119000, 1119001, 1119002, 1119003] ?_
        conv => whnf
        cases h
        exact Done.of [] [] rfl rfl ⟨⟨rfl, rfl⟩, ⟨rfl, trivial⟩, rfl, trivial⟩
  · replace h := condT h
    cases v64
    · replace h := condF h
      conv => whnf
      refine Pick.no ?_
      conv => whnf
      obtain ⟨y348, e349, h⟩ := bind_ex h
      refine CallOk.of (laws_toSurreal_ct e349) ?_
      conv => whnf
      refine Pick.no ?_
      conv => whnf
      refine Take.all (rfl) ?_
      conv => whnf
      refine Take.all (rfl) ?_
      conv => whnf
      obtain ⟨y350, e351, h⟩ := bind_ex h
      refine CallOk.of (laws_eqSurreal_ct e351) ?_
      conv => whnf
      refine spl (fun g352 => ?_) (fun g352 => ?_)
      · replace h := iteT h g352
        conv => whnf
        refine CutK.norm [2, 3, 6, 7, 8, 9, 10, 11, 58] [128, 192, 384, 512, 576, 640, 1119000, 1119001, 1119002, 1119003] ?_
        conv => whnf
        exact CutK.piece (laws_FnExactExactQuotient_p12_ct  h) [some 128, some 192, some 384, some 512, some 576, some 640, some 1119000, some 1119001, some 1119002, some 1119003] [] ⟨⟨rfl, rfl⟩, ⟨rfl, ⟨rfl, rfl, trivial⟩, ⟨rfl, rfl, trivial⟩, ⟨rfl, ⟨rfl, rfl⟩, trivial⟩, ⟨rfl, ⟨rfl, rfl⟩, trivial⟩, ⟨rfl, ⟨rfl, rfl⟩, trivial⟩, ⟨rfl, ⟨rfl, rfl⟩, trivial⟩, ⟨rfl, rfl, rows_same⟩, ⟨rfl, rfl, rows_same⟩, ⟨rfl, rfl, rows_same⟩, ⟨rfl, rfl, rows_same⟩, trivial⟩, ⟨rfl, rfl⟩, ⟨rfl, rfl⟩, ⟨rfl, rfl⟩, rfl, ⟨rfl, rfl⟩, ⟨rfl, rfl⟩, ⟨rfl, rfl⟩, rfl, trivial⟩
      · replace h := iteF h g352
        conv => whnf
        refine CutK.norm [2, 3, 6, 7, 8, 9, 10, 11, 58] [128, 192, 384, 512, 576, 640, 1119000, 1119001, 1119002, 1119003] ?_
        conv => whnf
        cases h
        exact Done.of [] [] rfl rfl ⟨⟨rfl, rfl⟩, ⟨rfl, trivial⟩, rfl, trivial⟩
    · replace h := condT h
      conv => whnf
      refine Pick.no ?_
      conv => whnf
      obtain ⟨y353, e354, h⟩ := bind_ex h
      refine CallOk.of (laws_toSurreal_ct e354) ?_
      conv => whnf
      refine Pick.no ?_
      conv => whnf
      refine Take.all (rfl) ?_
      conv => whnf
      refine Take.all (rfl) ?_
      conv => whnf
      obtain ⟨y355, e356, h⟩ := bind_ex h
      refine CallOk.of (laws_eqSurreal_ct e356) ?_
      conv => whnf
      refine spl (fun g357 => ?_) (fun g357 => ?_)
      · replace h := iteT h g357
        conv => whnf
        refine CutK.norm [2, 3, 6, 7, 8, 9, 10, 11, 58] [128, 192, 384, 512, 576, 640, 1119000, 1119001, 1119002, 1119003] ?_
        conv => whnf
        exact CutK.piece (laws_FnExactExactQuotient_p12_ct  h) [some 128, some 192, some 384, some 512, some 576, some 640, some 1119000, some 1119001, some 1119002, some 1119003] [] ⟨⟨rfl, rfl⟩, ⟨rfl, ⟨rfl, rfl, trivial⟩, ⟨rfl, rfl, trivial⟩, ⟨rfl, ⟨rfl, rfl⟩, trivial⟩, ⟨rfl, ⟨rfl, rfl⟩, trivial⟩, ⟨rfl, ⟨rfl, rfl⟩, trivial⟩, ⟨rfl, ⟨rfl, rfl⟩, trivial⟩, ⟨rfl, rfl, rows_same⟩, ⟨rfl, rfl, rows_same⟩, ⟨rfl, rfl, rows_same⟩, ⟨rfl, rfl, rows_same⟩, trivial⟩, ⟨rfl, rfl⟩, ⟨rfl, rfl⟩, ⟨rfl, rfl⟩, rfl, ⟨rfl, rfl⟩, ⟨rfl, rfl⟩, ⟨rfl, rfl⟩, rfl, trivial⟩
      · replace h := iteF h g357
        conv => whnf
        refine CutK.norm [2, 3, 6, 7, 8, 9, 10, 11, 58] [128, 192, 384, 512, 576, 640, 1119000, 1119001, 1119002, 1119003] ?_
        conv => whnf
        cases h
        exact Done.of [] [] rfl rfl ⟨⟨rfl, rfl⟩, ⟨rfl, trivial⟩, rfl, trivial⟩
def laws_FnExactExactQuotient_p10 (k : Nat) (a1 : Rw) (a2 : Rw) (o38 : Rw) (o39 : Rw) (o40 : Rw) (o41 : Rw) (v42 : Bool) (v46 : Bool) : Option Bool :=
  (cond v42 (cond v46 ((laws_eqSurreal k o41 o38).bind fun y367 => (if y367 = true then (laws_FnExactExactQuotient_p11 k a1 a2 o38 o39 o40 o41 true true) else some false)) ((laws_eqSurreal k o41 o38).bind fun y364 => (if y364 = true then some false else some false))) (cond v46 ((laws_eqSurreal k o41 o38).bind fun y361 => (if y361 = true then some false else some false)) ((laws_eqSurreal k o41 o38).bind fun y358 => (if y358 = true then (laws_FnExactExactQuotient_p11 k a1 a2 o38 o39 o40 o41 false false) else some false))))
set_option maxHeartbeats 4000000 in
set_option maxRecDepth 100000 in
theorem laws_FnExactExactQuotient_p10_ct {k : Nat} {a1 : Rw} {a2 : Rw} {o38 : Rw} {o39 : Rw} {o40 : Rw} {o41 : Rw} {v42 : Bool} {v46 : Bool} {r : Bool} (h : laws_FnExactExactQuotient_p10 k a1 a2 o38 o39 o40 o41 v42 v46 = some r) : X prog 0 (tlF f5 10) (mk 119 [(2, .ptr 128 0), (3, .ptr 192 0), (6, .ptr 384 0), (7, .d (D.bool v46)), (8, .ptr 512 0), (9, .ptr 576 0), (10, .ptr 640 0), (11, .d (D.bool v42))] [(128, .box 24 [.d (D.sl a1)]), (192, .box 24 [.d (D.sl a2)]), (384, .box 28 [.os 1114000 o38.length]), (512, .box 28 [.os 1114001 o39.length]), (576, .box 28 [.os 1114002 o40.length]), (640, .box 28 [.os 1114003 o41.length]), (1114000, .arr 116 true o38), (1114001, .arr 116 true o39), (1114002, .arr 116 true o40), (1114003, .arr 116 true o41)]) (finK prog f5 0 (.d (D.bool r)) (⟨[], []⟩)) := by
  rw [laws_FnExactExactQuotient_p10] at h
  cases v42
  · replace h := condF h
    cases v46
    · replace h := condF h
      conv => whnf
      refine Pick.no ?_
      conv => whnf
      refine Take.all (rfl) ?_
      conv => whnf
      refine Take.all (rfl) ?_
      conv => whnf
      obtain ⟨y358, e359, h⟩ := bind_ex h
      refine CallOk.of (laws_eqSurreal_ct e359) ?_
      conv => whnf
      refine spl (fun g360 => ?_) (fun g360 => ?_)
      · replace h := iteT h g360
        conv => whnf
        refine splF ?_
        conv => whnf
        refine CutK.norm [2, 3, 6, 7, 8, 9, 10, 11, 53] [128, 192, 384, 512, 576, 640, 1114000, 1114001, 1114002, 1114003] ?_
        conv => whnf
        exact CutK.piece (laws_FnExactExactQuotient_p11_ct  h) [some 128, some 192, some 384, some 512, some 576, some 640, some 1114000, some 1114001, some 1114002, some 1114003] [] ⟨⟨rfl, rfl⟩, ⟨rfl, ⟨rfl, rfl, trivial⟩, ⟨rfl, rfl, trivial⟩, ⟨rfl, ⟨rfl, rfl⟩, trivial⟩, ⟨rfl, ⟨rfl, rfl⟩, trivial⟩, ⟨rfl, ⟨rfl, rfl⟩, trivial⟩, ⟨rfl, ⟨rfl, rfl⟩, trivial⟩, ⟨rfl, rfl, rows_same⟩, ⟨rfl, rfl, rows_same⟩, ⟨rfl, rfl, rows_same⟩, ⟨rfl, rfl, rows_same⟩, trivial⟩, ⟨rfl, rfl⟩, ⟨rfl, rfl⟩, ⟨rfl, rfl⟩, rfl, ⟨rfl, rfl⟩, ⟨rfl, rfl⟩, ⟨rfl, rfl⟩, rfl, trivial⟩
      · replace h := iteF h g360
        conv => whnf
        refine CutK.norm [2, 3, 6, 7, 8, 9, 10, 11, 53] [128, 192, 384, 512, 576, 640, 1114000, 1114001, 1114002, 1114003] ?_
        conv => whnf
        cases h
        exact Done.of [] [] rfl rfl ⟨⟨rfl, rfl⟩, ⟨rfl, trivial⟩, rfl, trivial⟩
    · replace h := condT h
      conv => whnf
      refine Pick.no ?_
      conv => whnf
      refine Take.all (rfl) ?_
      conv => whnf
      refine Take.all (rfl) ?_
      conv => whnf
      obtain ⟨y361, e362, h⟩ := bind_ex h
      refine CallOk.of (laws_eqSurreal_ct e362) ?_
      conv => whnf
      refine spl (fun g363 => ?_) (fun g363 => ?_)
      · replace h := iteT h g363
        conv => whnf
        refine splT ?_
        conv => whnf
        refine CutK.norm [2, 3, 6, 7, 8, 9, 10, 11, 53] [128, 192, 384, 512, 576, 640, 1114000, 1114001, 1114002, 1114003] ?_
        conv => whnf
        cases h
        exact Done.of [] [] rfl rfl ⟨⟨rfl, rfl⟩, ⟨rfl, trivial⟩, rfl, trivial⟩
      · replace h := iteF h g363
        conv => whnf
        refine CutK.norm [2, 3, 6, 7, 8, 9, 10, 11, 53] [128, 192, 384, 512, 576, 640, 1114000, 1114001, 1114002, 1114003] ?_
        conv => whnf
        cases h
        exact Done.of [] [] rfl rfl ⟨⟨rfl, rfl⟩, ⟨rfl, trivial⟩, rfl, trivial⟩
  · replace h := condT h
    cases v46
    · replace h := condF h
      conv => whnf
      refine Pick.no ?_
      conv => whnf
      refine Take.all (rfl) ?_
      conv => whnf
      refine Take.all (rfl) ?_
      conv => whnf
      obtain ⟨y364, e365, h⟩ := bind_ex h
      refine CallOk.of (laws_eqSurreal_ct e365) ?_
      conv => whnf
      refine spl (fun g366 => ?_) (fun g366 => ?_)
      · replace h := iteT h g366
        conv => whnf
        refine splT ?_
        conv => whnf
        refine CutK.norm [2, 3, 6, 7, 8, 9, 10, 11, 53] [128, 192, 384, 512, 576, 640, 1114000, 1114001, 1114002, 1114003] ?_
        conv => whnf
        cases h
        exact Done.of [] [] rfl rfl ⟨⟨rfl, rfl⟩, ⟨rfl, trivial⟩, rfl, trivial⟩
      · replace h := iteF h g366
        conv => whnf
        refine CutK.norm [2, 3, 6, 7, 8, 9, 10, 11, 53] [128, 192, 384, 512, 576, 640, 1114000, 1114001, 1114002, 1114003] ?_
        conv => whnf
        cases h
        exact Done.of [] [] rfl rfl ⟨⟨rfl, rfl⟩, ⟨rfl, trivial⟩, rfl, trivial⟩
    · replace h := condT h
      conv => whnf
      refine Pick.no ?_
      conv => whnf
      refine Take.all (rfl) ?_
      conv => whnf
      refine Take.all (rfl) ?_
      conv => whnf
      obtain ⟨y367, e368, h⟩ := bind_ex h
      refine CallOk.of (laws_eqSurreal_ct e368) ?_
      conv => whnf
      refine spl (fun g369 => ?_) (fun g369 => ?_)
      · replace h := iteT h g369
        conv => whnf
        refine splF ?_
        conv => whnf
        refine CutK.norm [2, 3, 6, 7, 8, 9, 10, 11, 53] [128, 192, 384, 512, 576, 640, 1114000, 1114001, 1114002, 1114003] ?_
        conv => whnf
        exact CutK.piece (laws_FnExactExactQuotient_p11_ct  h) [some 128, some 192, some 384, some 512, some 576, some 640, some 1114000, some 1114001, some 1114002, some 1114003] [] ⟨⟨rfl, rfl⟩, ⟨rfl, ⟨rfl, rfl, trivial⟩, ⟨rfl, rfl, trivial⟩, ⟨rfl, ⟨rfl, rfl⟩, trivial⟩, ⟨rfl, ⟨rfl, rfl⟩, trivial⟩, ⟨rfl, ⟨rfl, rfl⟩, trivial⟩, ⟨rfl, ⟨rfl, rfl⟩, trivial⟩, ⟨rfl, rfl, rows_same⟩, ⟨rfl, rfl, rows_same⟩, ⟨rfl, rfl, rows_same⟩, ⟨rfl, rfl, rows_same⟩, trivial⟩, ⟨rfl, rfl⟩, ⟨rfl, rfl⟩, ⟨rfl, rfl⟩, rfl, ⟨rfl, rfl⟩, ⟨rfl, rfl⟩, ⟨rfl, rfl⟩, rfl, trivial⟩
      · replace h := iteF h g369
        conv => whnf
        refine CutK.norm [2, 3, 6, 7, 8, 9, 10, 11, 53] [128, 192, 384, 512, 576, 640, 1114000, 1114001, 1114002, 1114003] ?_
        conv => whnf
        cases h
        exact Done.of [] [] rfl rfl ⟨⟨rfl, rfl⟩, ⟨rfl, trivial⟩, rfl, trivial⟩
def laws_FnExactExactQuotient_p9 (k : Nat) (a1 : Rw) (a2 : Rw) (o29 : Rw) (o30 : Rw) (o31 : Rw) (v34 : Bool) : Option Bool :=
  (cond v34 ((impl_ExactQuotient k o30 o31).bind fun y373 => (if y373.2 = true then (laws_FnExactExactQuotient_p10 k a1 a2 o29 o30 o31 y373.1 true true) else (laws_FnExactExactQuotient_p10 k a1 a2 o29 o30 o31 y373.1 false true))) ((impl_ExactQuotient k o30 o31).bind fun y370 => (if y370.2 = true then (laws_FnExactExactQuotient_p10 k a1 a2 o29 o30 o31 y370.1 true false) else (laws_FnExactExactQuotient_p10 k a1 a2 o29 o30 o31 y370.1 false false))))
set_option maxHeartbeats 4000000 in
set_option maxRecDepth 100000 in
theorem laws_FnExactExactQuotient_p9_ct {k : Nat} {a1 : Rw} {a2 : Rw} {o29 : Rw} {o30 : Rw} {o31 : Rw} {v34 : Bool} {r : Bool} (h : laws_FnExactExactQuotient_p9 k a1 a2 o29 o30 o31 v34 = some r) : X prog 0 (tlF f5 9) (mk 119 [(2, .ptr 128 0), (3, .ptr 192 0), (6, .ptr 384 0), (7, .d (D.bool v34)), (8, .ptr 512 0), (9, .ptr 576 0)] [(128, .box 24 [.d (D.sl a1)]), (192, .box 24 [.d (D.sl a2)]), (384, .box 28 [.os 1109000 o29.length]), (512, .box 28 [.os 1109001 o30.length]), (576, .box 28 [.os 1109002 o31.length]), (1109000, .arr 116 true o29), (1109001, .arr 116 true o30), (1109002, .arr 116 true o31)]) (finK prog f5 0 (.d (D.bool r)) (⟨[], []⟩)) := by
  rw [laws_FnExactExactQuotient_p9] at h
  cases v34
  · replace h := condF h
    conv => whnf
    refine Pick.no ?_
    conv => whnf
    refine Take.all (rfl) ?_
    conv => whnf
    refine Take.all (rfl) ?_
    conv => whnf
    obtain ⟨y370, e371, h⟩ := bind_ex h
    refine CallOk.of (impl_ExactQuotient_ct e371) ?_
    conv => whnf
    refine spl (fun g372 => ?_) (fun g372 => ?_)
    · replace h := iteT h g372
      conv => whnf
      exact CutK.piece (laws_FnExactExactQuotient_p10_ct  h) [some 128, some 192, some 384, some 512, some 576, some 640, some 1109000, some 1109001, some 1109002, some 2688] [] ⟨⟨rfl, rfl⟩, ⟨rfl, ⟨rfl, rfl, trivial⟩, ⟨rfl, rfl, trivial⟩, ⟨rfl, ⟨rfl, rfl⟩, trivial⟩, ⟨rfl, ⟨rfl, rfl⟩, trivial⟩, ⟨rfl, ⟨rfl, rfl⟩, trivial⟩, ⟨rfl, ⟨rfl, rfl⟩, trivial⟩, ⟨rfl, rfl, rows_same⟩, ⟨rfl, rfl, rows_same⟩, ⟨rfl, rfl, rows_same⟩, ⟨rfl, rfl, rows_same⟩, trivial⟩, ⟨rfl, rfl⟩, ⟨rfl, rfl⟩, ⟨rfl, rfl⟩, rfl, ⟨rfl, rfl⟩, ⟨rfl, rfl⟩, ⟨rfl, rfl⟩, rfl, trivial⟩
    · replace h := iteF h g372
      conv => whnf
      exact CutK.piece (laws_FnExactExactQuotient_p10_ct  h) [some 128, some 192, some 384, some 512, some 576, some 640, some 1109000, some 1109001, some 1109002, some 2688] [] ⟨⟨rfl, rfl⟩, ⟨rfl, ⟨rfl, rfl, trivial⟩, ⟨rfl, rfl, trivial⟩, ⟨rfl, ⟨rfl, rfl⟩, trivial⟩, ⟨rfl, ⟨rfl, rfl⟩, trivial⟩, ⟨rfl, ⟨rfl, rfl⟩, trivial⟩, ⟨rfl, ⟨rfl, rfl⟩, trivial⟩, ⟨rfl, rfl, rows_same⟩, ⟨rfl, rfl, rows_same⟩, ⟨rfl, rfl, rows_same⟩, ⟨rfl, rfl, rows_same⟩, trivial⟩, ⟨rfl, rfl⟩, ⟨rfl, rfl⟩, ⟨rfl, rfl⟩, rfl, ⟨rfl, rfl⟩, ⟨rfl, rfl⟩, ⟨rfl, rfl⟩, rfl, trivial⟩
  · replace h := condT h
    conv => whnf
    refine Pick.no ?_
    conv => whnf
    refine Take.all (rfl) ?_
    conv => whnf
    refine Take.all (rfl) ?_
    conv => whnf
    obtain ⟨y373, e374, h⟩ := bind_ex h
    refine CallOk.of (impl_ExactQuotient_ct e374) ?_
    conv => whnf
    refine spl (fun g375 => ?_) (fun g375 => ?_)
    · replace h := iteT h g375
      conv => whnf
      exact CutK.piece (laws_FnExactExactQuotient_p10_ct  h) [some 128, some 192, some 384, some 512, some 576, some 640, some 1109000, some 1109001, some 1109002, some 2688] [] ⟨⟨rfl, rfl⟩, ⟨rfl, ⟨rfl, rfl, trivial⟩, ⟨rfl, rfl, trivial⟩, ⟨rfl, ⟨rfl, rfl⟩, trivial⟩, ⟨rfl, ⟨rfl, rfl⟩, trivial⟩, ⟨rfl, ⟨rfl, rfl⟩, trivial⟩, ⟨rfl, ⟨rfl, rfl⟩, trivial⟩, ⟨rfl, rfl, rows_same⟩, ⟨rfl, rfl, rows_same⟩, ⟨rfl, rfl, rows_same⟩, ⟨rfl, rfl, rows_same⟩, trivial⟩, ⟨rfl, rfl⟩, ⟨rfl, rfl⟩, ⟨rfl, rfl⟩, rfl, ⟨rfl, rfl⟩, ⟨rfl, rfl⟩, ⟨rfl, rfl⟩, rfl, trivial⟩
    · replace h := iteF h g375
      conv => whnf
      exact CutK.piece (laws_FnExactExactQuotient_p10_ct  h) [some 128, some 192, some 384, some 512, some 576, some 640, some 1109000, some 1109001, some 1109002, some 2688] [] ⟨⟨rfl, rfl⟩, ⟨rfl, ⟨rfl, rfl, trivial⟩, ⟨rfl, rfl, trivial⟩, ⟨rfl, ⟨rfl, rfl⟩, trivial⟩, ⟨rfl, ⟨rfl, rfl⟩, trivial⟩, ⟨rfl, ⟨rfl, rfl⟩, trivial⟩, ⟨rfl, ⟨rfl, rfl⟩, trivial⟩, ⟨rfl, rfl, rows_same⟩, ⟨rfl, rfl, rows_same⟩, ⟨rfl, rfl, rows_same⟩, ⟨rfl, rfl, rows_same⟩, trivial⟩, ⟨rfl, rfl⟩, ⟨rfl, rfl⟩, ⟨rfl, rfl⟩, rfl, ⟨rfl, rfl⟩, ⟨rfl, rfl⟩, ⟨rfl, rfl⟩, rfl, trivial⟩
def laws_FnExactExactQuotient_p8 (k : Nat) (a1 : Rw) (a2 : Rw) (o22 : Rw) (o23 : Rw) (v26 : Bool) : Option Bool :=
  (cond v26 ((laws_toSurreal k a2).bind fun y378 => (laws_FnExactExactQuotient_p9 k a1 a2 o22 o23 y378 true)) ((laws_toSurreal k a2).bind fun y376 => (laws_FnExactExactQuotient_p9 k a1 a2 o22 o23 y376 false)))
set_option maxHeartbeats 4000000 in
set_option maxRecDepth 100000 in
theorem laws_FnExactExactQuotient_p8_ct {k : Nat} {a1 : Rw} {a2 : Rw} {o22 : Rw} {o23 : Rw} {v26 : Bool} {r : Bool} (h : laws_FnExactExactQuotient_p8 k a1 a2 o22 o23 v26 = some r) : X prog 0 (tlF f5 8) (mk 119 [(2, .ptr 128 0), (3, .ptr 192 0), (6, .ptr 384 0), (7, .d (D.bool v26)), (8, .ptr 512 0)] [(128, .box 24 [.d (D.sl a1)]), (192, .box 24 [.d (D.sl a2)]), (384, .box 28 [.os 1104000 o22.length]), (512, .box 28 [.os 1104001 o23.length]), (1104000, .arr 116 true o22), (1104001, .arr 116 true o23)]) (finK prog f5 0 (.d (D.bool r)) (⟨[], []⟩)) := by
  rw [laws_FnExactExactQuotient_p8] at h
  cases v26
  · replace h := condF h
    conv => whnf
    refine Pick.no ?_
    conv => whnf
    obtain ⟨y376, e377, h⟩ := bind_ex h
    refine CallOk.of (laws_toSurreal_ct e377) ?_
    conv => whnf
    exact CutK.piece (laws_FnExactExactQuotient_p9_ct  h) [some 128, some 192, some 384, some 512, some 576, some 1104000, some 1104001, some 2432] [] ⟨⟨rfl, rfl⟩, ⟨rfl, ⟨rfl, rfl, trivial⟩, ⟨rfl, rfl, trivial⟩, ⟨rfl, ⟨rfl, rfl⟩, trivial⟩, ⟨rfl, ⟨rfl, rfl⟩, trivial⟩, ⟨rfl, ⟨rfl, rfl⟩, trivial⟩, ⟨rfl, rfl, rows_same⟩, ⟨rfl, rfl, rows_same⟩, ⟨rfl, rfl, rows_same⟩, trivial⟩, ⟨rfl, rfl⟩, ⟨rfl, rfl⟩, ⟨rfl, rfl⟩, rfl, ⟨rfl, rfl⟩, ⟨rfl, rfl⟩, trivial⟩
  · replace h := condT h
    conv => whnf
    refine Pick.no ?_
    conv => whnf
    obtain ⟨y378, e379, h⟩ := bind_ex h
    refine CallOk.of (laws_toSurreal_ct e379) ?_
    conv => whnf
    exact CutK.piece (laws_FnExactExactQuotient_p9_ct  h) [some 128, some 192, some 384, some 512, some 576, some 1104000, some 1104001, some 2432] [] ⟨⟨rfl, rfl⟩, ⟨rfl, ⟨rfl, rfl, trivial⟩, ⟨rfl, rfl, trivial⟩, ⟨rfl, ⟨rfl, rfl⟩, trivial⟩, ⟨rfl, ⟨rfl, rfl⟩, trivial⟩, ⟨rfl, ⟨rfl, rfl⟩, trivial⟩, ⟨rfl, rfl, rows_same⟩, ⟨rfl, rfl, rows_same⟩, ⟨rfl, rfl, rows_same⟩, trivial⟩, ⟨rfl, rfl⟩, ⟨rfl, rfl⟩, ⟨rfl, rfl⟩, rfl, ⟨rfl, rfl⟩, ⟨rfl, rfl⟩, trivial⟩
def laws_FnExactExactQuotient_p7 (k : Nat) (a1 : Rw) (a2 : Rw) (o18 : Rw) (v19 : Bool) : Option Bool :=
  (cond v19 ((laws_toSurreal k a1).bind fun y382 => (laws_FnExactExactQuotient_p8 k a1 a2 o18 y382 true)) ((laws_toSurreal k a1).bind fun y380 => (laws_FnExactExactQuotient_p8 k a1 a2 o18 y380 false)))
set_option maxHeartbeats 4000000 in
set_option maxRecDepth 100000 in
theorem laws_FnExactExactQuotient_p7_ct {k : Nat} {a1 : Rw} {a2 : Rw} {o18 : Rw} {v19 : Bool} {r : Bool} (h : laws_FnExactExactQuotient_p7 k a1 a2 o18 v19 = some r) : X prog 0 (tlF f5 7) (mk 119 [(2, .ptr 128 0), (3, .ptr 192 0), (6, .ptr 384 0), (7, .d (D.bool v19))] [(128, .box 24 [.d (D.sl a1)]), (192, .box 24 [.d (D.sl a2)]), (384, .box 28 [.os 1099000 o18.length]), (1099000, .arr 116 true o18)]) (finK prog f5 0 (.d (D.bool r)) (⟨[], []⟩)) := by
  rw [laws_FnExactExactQuotient_p7] at h
  cases v19
  · replace h := condF h
    conv => whnf
    refine Pick.no ?_
    conv => whnf
    obtain ⟨y380, e381, h⟩ := bind_ex h
    refine CallOk.of (laws_toSurreal_ct e381) ?_
    conv => whnf
    exact CutK.piece (laws_FnExactExactQuotient_p8_ct  h) [some 128, some 192, some 384, some 512, some 1099000, some 2304] [] ⟨⟨rfl, rfl⟩, ⟨rfl, ⟨rfl, rfl, trivial⟩, ⟨rfl, rfl, trivial⟩, ⟨rfl, ⟨rfl, rfl⟩, trivial⟩, ⟨rfl, ⟨rfl, rfl⟩, trivial⟩, ⟨rfl, rfl, rows_same⟩, ⟨rfl, rfl, rows_same⟩, trivial⟩, ⟨rfl, rfl⟩, ⟨rfl, rfl⟩, ⟨rfl, rfl⟩, rfl, ⟨rfl, rfl⟩, trivial⟩
  · replace h := condT h
    conv => whnf
    refine Pick.no ?_
    conv => whnf
    obtain ⟨y382, e383, h⟩ := bind_ex h
    refine CallOk.of (laws_toSurreal_ct e383) ?_
    conv => whnf
    exact CutK.piece (laws_FnExactExactQuotient_p8_ct  h) [some 128, some 192, some 384, some 512, some 1099000, some 2304] [] ⟨⟨rfl, rfl⟩, ⟨rfl, ⟨rfl, rfl, trivial⟩, ⟨rfl, rfl, trivial⟩, ⟨rfl, ⟨rfl, rfl⟩, trivial⟩, ⟨rfl, ⟨rfl, rfl⟩, trivial⟩, ⟨rfl, rfl, rows_same⟩, ⟨rfl, rfl, rows_same⟩, trivial⟩, ⟨rfl, rfl⟩, ⟨rfl, rfl⟩, ⟨rfl, rfl⟩, rfl, ⟨rfl, rfl⟩, trivial⟩
def laws_FnExactExactQuotient_p5 (k : Nat) (a1 : Rw) (a2 : Rw) (o9 : Int) : Option Bool :=
  (if o9 < (0 : Int) then some true else ((laws_toSurreal k a1).bind fun y385 => ((laws_toSurreal k a2).bind fun y387 => ((spec_ExactQuotient k y385 y387).bind fun y389 => (if y389.2 = true then (laws_FnExactExactQuotient_p7 k a1 a2 y389.1 true) else (laws_FnExactExactQuotient_p7 k a1 a2 y389.1 false))))))
set_option maxHeartbeats 4000000 in
set_option maxRecDepth 100000 in
theorem laws_FnExactExactQuotient_p5_ct {k : Nat} {a1 : Rw} {a2 : Rw} {o9 : Int} {r : Bool} (h : laws_FnExactExactQuotient_p5 k a1 a2 o9 = some r) : X prog 0 (tlF f5 5) (mk 119 [(2, .ptr 128 0), (3, .ptr 192 0), (5, .d (D.int .i64 o9))] [(128, .box 24 [.d (D.sl a1)]), (192, .box 24 [.d (D.sl a2)])]) (finK prog f5 0 (.d (D.bool r)) (⟨[], []⟩)) := by
  rw [laws_FnExactExactQuotient_p5] at h
  conv => whnf
  refine splD (fun g384 => ?_) (fun g384 => ?_)
  · replace h := iteP h g384
    conv => whnf
    cases h
    exact Done.of [] [] rfl rfl ⟨⟨rfl, rfl⟩, ⟨rfl, trivial⟩, rfl, trivial⟩
  · replace h := iteN h g384
    conv => whnf
    refine Pick.no ?_
    conv => whnf
    obtain ⟨y385, e386, h⟩ := bind_ex h
    refine CallOk.of (laws_toSurreal_ct e386) ?_
    conv => whnf
    refine Pick.no ?_
    conv => whnf
    obtain ⟨y387, e388, h⟩ := bind_ex h
    refine CallOk.of (laws_toSurreal_ct e388) ?_
    conv => whnf
    refine Pick.no ?_
    conv => whnf
    refine Take.all (rfl) ?_
    conv => whnf
    refine Take.all (rfl) ?_
    conv => whnf
    obtain ⟨y389, e390, h⟩ := bind_ex h
    refine CallOk.of (spec_ExactQuotient_ct e390) ?_
    conv => whnf
    refine spl (fun g391 => ?_) (fun g391 => ?_)
    · replace h := iteT h g391
      conv => whnf
      exact CutK.piece (laws_FnExactExactQuotient_p7_ct  h) [some 128, some 192, some 384, some 2048] [] ⟨⟨rfl, rfl⟩, ⟨rfl, ⟨rfl, rfl, trivial⟩, ⟨rfl, rfl, trivial⟩, ⟨rfl, ⟨rfl, rfl⟩, trivial⟩, ⟨rfl, rfl, rows_same⟩, trivial⟩, ⟨rfl, rfl⟩, ⟨rfl, rfl⟩, ⟨rfl, rfl⟩, rfl, trivial⟩
    · replace h := iteF h g391
      conv => whnf
      exact CutK.piece (laws_FnExactExactQuotient_p7_ct  h) [some 128, some 192, some 384, some 2048] [] ⟨⟨rfl, rfl⟩, ⟨rfl, ⟨rfl, rfl, trivial⟩, ⟨rfl, rfl, trivial⟩, ⟨rfl, ⟨rfl, rfl⟩, trivial⟩, ⟨rfl, rfl, rows_same⟩, trivial⟩, ⟨rfl, rfl⟩, ⟨rfl, rfl⟩, ⟨rfl, rfl⟩, rfl, trivial⟩
def laws_FnExactExactQuotient_p3 (k : Nat) (a1 : Rw) (a2 : Rw) (o5 : Int) : Option Bool :=
  (if o5 < (0 : Int) then some true else ((laws_szSurreal k a2 o5).bind fun y393 => (laws_FnExactExactQuotient_p5 k a1 a2 y393)))
set_option maxHeartbeats 4000000 in
set_option maxRecDepth 100000 in
theorem laws_FnExactExactQuotient_p3_ct {k : Nat} {a1 : Rw} {a2 : Rw} {o5 : Int} {r : Bool} (h : laws_FnExactExactQuotient_p3 k a1 a2 o5 = some r) : X prog 0 (tlF f5 3) (mk 119 [(2, .ptr 128 0), (3, .ptr 192 0), (5, .d (D.int .i64 o5))] [(128, .box 24 [.d (D.sl a1)]), (192, .box 24 [.d (D.sl a2)])]) (finK prog f5 0 (.d (D.bool r)) (⟨[], []⟩)) := by
  rw [laws_FnExactExactQuotient_p3] at h
  conv => whnf
  refine splD (fun g392 => ?_) (fun g392 => ?_)
  · replace h := iteP h g392
    conv => whnf
    cases h
    exact Done.of [] [] rfl rfl ⟨⟨rfl, rfl⟩, ⟨rfl, trivial⟩, rfl, trivial⟩
  · replace h := iteN h g392
    conv => whnf
    refine Pick.no ?_
    conv => whnf
    obtain ⟨y393, e394, h⟩ := bind_ex h
    refine CallOk.of (laws_szSurreal_ct e394) ?_
    conv => whnf
    exact CutK.piece (laws_FnExactExactQuotient_p5_ct  h) [some 128, some 192] [] ⟨⟨rfl, rfl⟩, ⟨rfl, ⟨rfl, rfl, trivial⟩, ⟨rfl, rfl, trivial⟩, trivial⟩, ⟨rfl, rfl⟩, ⟨rfl, rfl⟩, rfl, trivial⟩
def laws_FnExactExactQuotient (k : Nat) (a1 : Rw) (a2 : Rw) : Option Bool :=
  ((laws_szSurreal k a1 1048576).bind fun y395 => (laws_FnExactExactQuotient_p3 k a1 a2 y395))
set_option maxHeartbeats 4000000 in
set_option maxRecDepth 100000 in
theorem laws_FnExactExactQuotient_ct {k : Nat} {a1 : Rw} {a2 : Rw} {r : Bool} (h : laws_FnExactExactQuotient k a1 a2 = some r) : Ct prog 5 [.agg [.d (D.sl a1)], .agg [.d (D.sl a2)]] (⟨[], []⟩) (.d (D.bool r)) (⟨[], []⟩) := by
  rw [laws_FnExactExactQuotient] at h
  refine Ct.of (c := _) mixed func5 ⟨rfl, rfl, rfl⟩ ?_ rfl
  conv => whnf
  refine Pick.no ?_
  conv => whnf
  obtain ⟨y395, e396, h⟩ := bind_ex h
  refine CallOk.of (laws_szSurreal_ct e396) ?_
  conv => whnf
  exact CutK.piece (laws_FnExactExactQuotient_p3_ct  h) [some 128, some 192] [] ⟨⟨rfl, rfl⟩, ⟨rfl, ⟨rfl, rfl, trivial⟩, ⟨rfl, rfl, trivial⟩, trivial⟩, ⟨rfl, rfl⟩, ⟨rfl, rfl⟩, rfl, trivial⟩
end
end Go.Proofs.Try
