/- Printed by program (axgen): pure functions, and that the Go functions compute them. -/
import Derived.Test.YtlhdcdnbiodphaaOA0
set_option linter.unusedVariables false
set_option linter.unusedSimpArgs false
namespace Go.Proofs.Try
open Go Go.AX
noncomputable section
def spec_odCmp_p2 (a1 : Rw) (a2 : Rw) : Option Int :=
  (if (a1.length : Int) < (a2.length : Int) then some (-1) else some 0)
set_option maxHeartbeats 4000000 in
set_option maxRecDepth 100000 in
theorem spec_odCmp_p2_ct {a1 : Rw} {a2 : Rw} {r : Int} (h : spec_odCmp_p2 a1 a2 = some r) : X prog 0 (tlF f162 2) (mk 60 [(2, .ptr 128 0), (3, .ptr 192 0)] [(128, .box 26 [.d (D.sl a1)]), (192, .box 26 [.d (D.sl a2)])]) (finK prog f162 0 (.d (D.int .i64 r)) (⟨[], []⟩)) := by
  rw [spec_odCmp_p2] at h
  conv => whnf
  refine splD (fun g37 => ?_) (fun g37 => ?_)
  · replace h := iteP h g37
    conv => whnf
    cases h
    exact Done.of [] [] rfl rfl ⟨⟨rfl, rfl⟩, ⟨rfl, trivial⟩, rfl, trivial⟩
  · replace h := iteN h g37
    conv => whnf
    cases h
    exact Done.of [] [] rfl rfl ⟨⟨rfl, rfl⟩, ⟨rfl, trivial⟩, rfl, trivial⟩
def spec_odCmp_l0 (rec_spec_odCmp : Rw → Rw → Option Int) (a1 : Rw) (a2 : Rw) (K0 : Option Int) : Rw → Nat → Option Int
  | [], v54n => (K0)
  | cs :: rest, v54n => (cell_si cs fun x71 x72 => (if (v54n : Int) = (a2.length : Int) then some 1 else (row_si a2 (v54n : Int) fun x75 x76 => ((rec_spec_odCmp x71 x75).bind fun y79 => (if y79 = (0 : Int) then (if x72 = x76 then (spec_odCmp_l0 rec_spec_odCmp a1 a2 K0 rest (v54n + 1)) else ((spec_l1Sign (IntKind.i64.wrap (x72 - x76))).bind fun y83 => some y83)) else some y79)))))
set_option maxRecDepth 100000 in
theorem spec_odCmp_l0_ct {rec_spec_odCmp : Rw → Rw → Option Int} {a1 : Rw} {a2 : Rw} {K0 : Option Int} (hrec_spec_odCmp : ∀ (a1 : Rw) (a2 : Rw) (r : Int), rec_spec_odCmp a1 a2 = some r → Ct prog 162 [.agg [.d (D.sl a1)], .agg [.d (D.sl a2)]] (⟨[], []⟩) (.d (D.int .i64 r)) (⟨[], []⟩)) {r : Int} (hx : a1.length ≤ cap) : ∀ (rest : Rw) (v54n : Nat), a1.drop v54n = rest → spec_odCmp_l0 rec_spec_odCmp a1 a2 K0 rest v54n = some r → LoopOk prog 0 (lp f162 0) (mk 60 [(2, .ptr 128 0), (3, .ptr 192 0), (9, .d (D.sl a1)), (10, .d (D.int .i64 (a1.length : Int))), (11, .d (D.int .i64 (v54n : Int)))] [(128, .box 26 [.d (D.sl a1)]), (192, .box 26 [.d (D.sl a2)])]) (LoopEnd prog f162 0 60 (.d (D.int .i64 r)) (⟨[], []⟩) (fun i ts os => (i = 0 ∧ K0 = some r ∧ ts = [(2, .ptr 128 0), (3, .ptr 192 0)] ∧ os = [(128, .box 26 [.d (D.sl a1)]), (192, .box 26 [.d (D.sl a2)])])))
  | [], v54n, hd, h => by
      rw [spec_odCmp_l0] at h
      have hn := drop_nil hd
      refine LoopOk.step ?_
      conv => whnf
      refine splD (fun g => absurd g hn) (fun _ => ?_)
      conv => whnf
      exact ⟨_, _, [some 128, some 192], [], ⟨rfl, h, rfl, rfl⟩, ⟨⟨rfl, rfl⟩, ⟨rfl, ⟨rfl, rfl, trivial⟩, ⟨rfl, rfl, trivial⟩, trivial⟩, ⟨rfl, rfl⟩, ⟨rfl, rfl⟩, trivial⟩⟩
  | cs :: rest, v54n, hd, h => by
      rw [spec_odCmp_l0] at h
      obtain ⟨hrow, hd1, hlt⟩ := drop_cons hd
      refine LoopOk.step ?_
      conv => whnf
      refine splD (fun _ => ?_) (fun g => absurd hlt g)
      conv => whnf
      obtain ⟨x71, x72, e73, h⟩ := cell_si_ex h
      rw [e73] at hrow
      refine Req.of (Int.natCast_nonneg _) ?_
      refine Row.of _ hrow ?_
      conv => whnf
      refine splD (fun g74 => ?_) (fun g74 => ?_)
      · replace h := iteP h g74
        conv => whnf
        cases h
        exact Done.of [] [] rfl rfl ⟨⟨rfl, rfl⟩, ⟨rfl, trivial⟩, rfl, trivial⟩
      · replace h := iteN h g74
        conv => whnf
        obtain ⟨g78, x75, x76, e77, h⟩ := row_si_ex h
        refine Req.of g78 ?_
        refine Row.of _ e77 ?_
        conv => whnf
        obtain ⟨y79, e80, h⟩ := bind_ex h
        refine CallOk.of (hrec_spec_odCmp _ _ _ e80) ?_
        conv => whnf
        refine CutK.norm [2, 3, 5, 6, 7, 9, 10, 11] [128, 192, 384] ?_
        conv => whnf
        refine splN (fun g81 => ?_) (fun g81 => ?_)
        · replace h := iteN h g81
          conv => whnf
          cases h
          exact Done.of [] [] rfl rfl ⟨⟨rfl, rfl⟩, ⟨rfl, trivial⟩, rfl, trivial⟩
        · replace h := iteP h g81
          conv => whnf
          refine CutK.norm [2, 3, 5, 6, 9, 10, 11] [128, 192, 384] ?_
          conv => whnf
          refine Req.of g78 ?_
          refine Row.of _ e77 ?_
          conv => whnf
          refine splN (fun g82 => ?_) (fun g82 => ?_)
          · replace h := iteN h g82
            conv => whnf
            refine Req.of g78 ?_
            refine Row.of _ e77 ?_
            conv => whnf
            obtain ⟨y83, e84, h⟩ := bind_ex h
            refine CallOk.of (spec_l1Sign_ct e84) ?_
            conv => whnf
            refine CutK.norm [4] [] ?_
            conv => whnf
            cases h
            exact Done.of [] [] rfl rfl ⟨⟨rfl, rfl⟩, ⟨rfl, trivial⟩, rfl, trivial⟩
          · replace h := iteP h g82
            conv => whnf
            refine CutK.norm [2, 3, 9, 10, 11] [128, 192] ?_
            conv => whnf
            exact LoopOk.back (spec_odCmp_l0_ct hrec_spec_odCmp hx rest (v54n + 1)  hd1 h) [some 128, some 192] [] ⟨⟨rfl, rfl⟩, ⟨rfl, ⟨rfl, rfl, trivial⟩, ⟨rfl, rfl, trivial⟩, trivial⟩, ⟨rfl, rfl⟩, ⟨rfl, rfl⟩, rfl, rfl, i64eq (wrap_up hlt hx), trivial⟩
def spec_odCmp_b (rec_spec_odCmp : Rw → Rw → Option Int) (a1 : Rw) (a2 : Rw) : Option Int :=
  (if a1.length ≤ cap then (spec_odCmp_l0 rec_spec_odCmp a1 a2 (spec_odCmp_p2 a1 a2) a1 0) else none)
set_option maxHeartbeats 4000000 in
set_option maxRecDepth 100000 in
theorem spec_odCmp_b_ct {rec_spec_odCmp : Rw → Rw → Option Int} (hrec_spec_odCmp : ∀ (a1 : Rw) (a2 : Rw) (r : Int), rec_spec_odCmp a1 a2 = some r → Ct prog 162 [.agg [.d (D.sl a1)], .agg [.d (D.sl a2)]] (⟨[], []⟩) (.d (D.int .i64 r)) (⟨[], []⟩)) {a1 : Rw} {a2 : Rw} {r : Int} (h : spec_odCmp_b rec_spec_odCmp a1 a2 = some r) : Ct prog 162 [.agg [.d (D.sl a1)], .agg [.d (D.sl a2)]] (⟨[], []⟩) (.d (D.int .i64 r)) (⟨[], []⟩) := by
  rw [spec_odCmp_b] at h
  refine Ct.of (c := _) mixed func162 ⟨rfl, rfl, rfl⟩ ?_ rfl
  conv => whnf
  obtain ⟨g85, h⟩ := req_ex h
  refine LoopOk.into (spec_odCmp_l0_ct hrec_spec_odCmp g85 _ _  rfl h) [some 128, some 192] [] ⟨⟨rfl, rfl⟩, ⟨rfl, ⟨rfl, rfl, trivial⟩, ⟨rfl, rfl, trivial⟩, trivial⟩, ⟨rfl, rfl⟩, ⟨rfl, rfl⟩, rfl, rfl, rfl, trivial⟩ ?_ (fun _ hs => hs)
  rintro i ts os ⟨rfl, h, rfl, rfl⟩
  conv => whnf
  exact CutK.piece (spec_odCmp_p2_ct  h) [some 128, some 192] [] ⟨⟨rfl, rfl⟩, ⟨rfl, ⟨rfl, rfl, trivial⟩, ⟨rfl, rfl, trivial⟩, trivial⟩, ⟨rfl, rfl⟩, ⟨rfl, rfl⟩, trivial⟩
def spec_odCmp : Nat → Rw → Rw → Option Int
  | 0, _, _ => none
  | k + 1, a1, a2 => spec_odCmp_b (spec_odCmp k) a1 a2
theorem spec_odCmp_ct' : ∀ (k : Nat) (a1 : Rw) (a2 : Rw) (r : Int), spec_odCmp k a1 a2 = some r → Ct prog 162 [.agg [.d (D.sl a1)], .agg [.d (D.sl a2)]] (⟨[], []⟩) (.d (D.int .i64 r)) (⟨[], []⟩)
  | 0, _, _, _, h => by rw [spec_odCmp] at h; cases h
  | k + 1, _, _, _, h => by rw [spec_odCmp] at h; exact spec_odCmp_b_ct (spec_odCmp_ct' k) h
theorem spec_odCmp_ct {k : Nat} {a1 : Rw} {a2 : Rw} {r : Int} (h : spec_odCmp k a1 a2 = some r) : Ct prog 162 [.agg [.d (D.sl a1)], .agg [.d (D.sl a2)]] (⟨[], []⟩) (.d (D.int .i64 r)) (⟨[], []⟩) := spec_odCmp_ct' k _ _ _ h

def spec_odForm_p3  : Option Bool :=
  some true
set_option maxHeartbeats 4000000 in
set_option maxRecDepth 100000 in
theorem spec_odForm_p3_ct  {r : Bool} (h : spec_odForm_p3 = some r) : X prog 0 (tlF f156 3) (mk 47 [] []) (finK prog f156 0 (.d (D.bool r)) (⟨[], []⟩)) := by
  rw [spec_odForm_p3] at h
  conv => whnf
  cases h
  exact Done.of [] [] rfl rfl ⟨⟨rfl, rfl⟩, ⟨rfl, trivial⟩, rfl, trivial⟩
def spec_odForm_l0 (k : Nat) (rec_spec_odForm : Rw → Int → Option Bool) (a1 : Rw) (a2 : Int) (K0 : Option Bool) : Rw → Nat → Option Bool
  | [], v47n => (K0)
  | cs :: rest, v47n => (cell_si cs fun x67 x68 => ((spec_l1In x68 1 1000000).bind fun y70 => (if y70 = true then ((rec_spec_odForm x67 (IntKind.i64.wrap (a2 - 1))).bind fun y73 => (if y73 = true then (if (0 : Int) < (v47n : Int) then (row_si a1 (IntKind.i64.wrap ((v47n : Int) - 1)) fun x77 x78 => ((spec_odCmp k x77 x67).bind fun y81 => (if y81 ≤ (0 : Int) then some false else (spec_odForm_l0 k rec_spec_odForm a1 a2 K0 rest (v47n + 1))))) else (spec_odForm_l0 k rec_spec_odForm a1 a2 K0 rest (v47n + 1))) else some false)) else some false)))
set_option maxRecDepth 100000 in
theorem spec_odForm_l0_ct {k : Nat} {rec_spec_odForm : Rw → Int → Option Bool} {a1 : Rw} {a2 : Int} {K0 : Option Bool} (hrec_spec_odForm : ∀ (a1 : Rw) (a2 : Int) (r : Bool), rec_spec_odForm a1 a2 = some r → Ct prog 156 [.agg [.d (D.sl a1)], .d (D.int .i64 a2)] (⟨[], []⟩) (.d (D.bool r)) (⟨[], []⟩)) {r : Bool} (hx : a1.length ≤ cap) : ∀ (rest : Rw) (v47n : Nat), a1.drop v47n = rest → spec_odForm_l0 k rec_spec_odForm a1 a2 K0 rest v47n = some r → LoopOk prog 0 (lp f156 0) (mk 47 [(1, .d (D.int .i64 a2)), (2, .ptr 128 0), (10, .d (D.sl a1)), (11, .d (D.int .i64 (a1.length : Int))), (12, .d (D.int .i64 (v47n : Int)))] [(128, .box 26 [.d (D.sl a1)])]) (LoopEnd prog f156 0 47 (.d (D.bool r)) (⟨[], []⟩) (fun i ts os => (i = 0 ∧ K0 = some r ∧ ts = [] ∧ os = [])))
  | [], v47n, hd, h => by
      rw [spec_odForm_l0] at h
      have hn := drop_nil hd
      refine LoopOk.step ?_
      conv => whnf
      refine splD (fun g => absurd g hn) (fun _ => ?_)
      conv => whnf
      exact ⟨_, _, [], [], ⟨rfl, h, rfl, rfl⟩, ⟨⟨rfl, rfl⟩, ⟨rfl, trivial⟩, trivial⟩⟩
  | cs :: rest, v47n, hd, h => by
      rw [spec_odForm_l0] at h
      obtain ⟨hrow, hd1, hlt⟩ := drop_cons hd
      refine LoopOk.step ?_
      conv => whnf
      refine splD (fun _ => ?_) (fun g => absurd hlt g)
      conv => whnf
      obtain ⟨x67, x68, e69, h⟩ := cell_si_ex h
      rw [e69] at hrow
      refine Req.of (Int.natCast_nonneg _) ?_
      refine Row.of _ hrow ?_
      conv => whnf
      obtain ⟨y70, e71, h⟩ := bind_ex h
      refine CallOk.of (spec_l1In_ct e71) ?_
      conv => whnf
      refine spl (fun g72 => ?_) (fun g72 => ?_)
      · replace h := iteT h g72
        conv => whnf
        obtain ⟨y73, e74, h⟩ := bind_ex h
        refine CallOk.of (hrec_spec_odForm _ _ _ e74) ?_
        conv => whnf
        refine spl (fun g75 => ?_) (fun g75 => ?_)
        · replace h := iteT h g75
          conv => whnf
          refine splD (fun g76 => ?_) (fun g76 => ?_)
          · replace h := iteP h g76
            conv => whnf
            obtain ⟨g80, x77, x78, e79, h⟩ := row_si_ex h
            refine Req.of g80 ?_
            refine Row.of _ e79 ?_
            conv => whnf
            obtain ⟨y81, e82, h⟩ := bind_ex h
            refine CallOk.of (spec_odCmp_ct e82) ?_
            conv => whnf
            refine splD (fun g83 => ?_) (fun g83 => ?_)
            · replace h := iteP h g83
              conv => whnf
              refine CutK.norm [1, 2, 10, 11, 12, 45] [128] ?_
              conv => whnf
              cases h
              exact Done.of [] [] rfl rfl ⟨⟨rfl, rfl⟩, ⟨rfl, trivial⟩, rfl, trivial⟩
            · replace h := iteN h g83
              conv => whnf
              refine CutK.norm [1, 2, 10, 11, 12, 45] [128] ?_
              conv => whnf
              refine CutK.norm [1, 2, 10, 11, 12] [128] ?_
              conv => whnf
              exact LoopOk.back (spec_odForm_l0_ct hrec_spec_odForm hx rest (v47n + 1)  hd1 h) [some 128] [] ⟨⟨rfl, rfl⟩, ⟨rfl, ⟨rfl, rfl, trivial⟩, trivial⟩, rfl, ⟨rfl, rfl⟩, rfl, rfl, i64eq (wrap_up hlt hx), trivial⟩
          · replace h := iteN h g76
            conv => whnf
            refine CutK.norm [1, 2, 10, 11, 12, 45] [128] ?_
            conv => whnf
            refine CutK.norm [1, 2, 10, 11, 12] [128] ?_
            conv => whnf
            exact LoopOk.back (spec_odForm_l0_ct hrec_spec_odForm hx rest (v47n + 1)  hd1 h) [some 128] [] ⟨⟨rfl, rfl⟩, ⟨rfl, ⟨rfl, rfl, trivial⟩, trivial⟩, rfl, ⟨rfl, rfl⟩, rfl, rfl, i64eq (wrap_up hlt hx), trivial⟩
        · replace h := iteF h g75
          conv => whnf
          refine CutK.norm [1, 2, 10, 11, 12, 45] [128] ?_
          conv => whnf
          cases h
          exact Done.of [] [] rfl rfl ⟨⟨rfl, rfl⟩, ⟨rfl, trivial⟩, rfl, trivial⟩
      · replace h := iteF h g72
        conv => whnf
        refine CutK.norm [1, 2, 10, 11, 12, 45] [128] ?_
        conv => whnf
        cases h
        exact Done.of [] [] rfl rfl ⟨⟨rfl, rfl⟩, ⟨rfl, trivial⟩, rfl, trivial⟩
def spec_odForm_b (k : Nat) (rec_spec_odForm : Rw → Int → Option Bool) (a1 : Rw) (a2 : Int) : Option Bool :=
  (if a2 < (0 : Int) then some false else (if a1.length ≤ cap then (spec_odForm_l0 k rec_spec_odForm a1 a2 (spec_odForm_p3) a1 0) else none))
set_option maxHeartbeats 4000000 in
set_option maxRecDepth 100000 in
theorem spec_odForm_b_ct {k : Nat} {rec_spec_odForm : Rw → Int → Option Bool} (hrec_spec_odForm : ∀ (a1 : Rw) (a2 : Int) (r : Bool), rec_spec_odForm a1 a2 = some r → Ct prog 156 [.agg [.d (D.sl a1)], .d (D.int .i64 a2)] (⟨[], []⟩) (.d (D.bool r)) (⟨[], []⟩)) {a1 : Rw} {a2 : Int} {r : Bool} (h : spec_odForm_b k rec_spec_odForm a1 a2 = some r) : Ct prog 156 [.agg [.d (D.sl a1)], .d (D.int .i64 a2)] (⟨[], []⟩) (.d (D.bool r)) (⟨[], []⟩) := by
  rw [spec_odForm_b] at h
  refine Ct.of (c := _) mixed func156 ⟨rfl, rfl, rfl⟩ ?_ rfl
  conv => whnf
  refine splD (fun g35 => ?_) (fun g35 => ?_)
  · replace h := iteP h g35
    conv => whnf
    cases h
    exact Done.of [] [] rfl rfl ⟨⟨rfl, rfl⟩, ⟨rfl, trivial⟩, rfl, trivial⟩
  · replace h := iteN h g35
    conv => whnf
    obtain ⟨g84, h⟩ := req_ex h
    refine LoopOk.into (spec_odForm_l0_ct hrec_spec_odForm g84 _ _  rfl h) [some 128] [] ⟨⟨rfl, rfl⟩, ⟨rfl, ⟨rfl, rfl, trivial⟩, trivial⟩, rfl, ⟨rfl, rfl⟩, rfl, rfl, rfl, trivial⟩ ?_ (fun _ hs => hs)
    rintro i ts os ⟨rfl, h, rfl, rfl⟩
    conv => whnf
    exact CutK.piece (spec_odForm_p3_ct  h) [] [] ⟨⟨rfl, rfl⟩, ⟨rfl, trivial⟩, trivial⟩
def spec_odForm : Nat → Rw → Int → Option Bool
  | 0, _, _ => none
  | k + 1, a1, a2 => spec_odForm_b k (spec_odForm k) a1 a2
theorem spec_odForm_ct' : ∀ (k : Nat) (a1 : Rw) (a2 : Int) (r : Bool), spec_odForm k a1 a2 = some r → Ct prog 156 [.agg [.d (D.sl a1)], .d (D.int .i64 a2)] (⟨[], []⟩) (.d (D.bool r)) (⟨[], []⟩)
  | 0, _, _, _, h => by rw [spec_odForm] at h; cases h
  | k + 1, _, _, _, h => by rw [spec_odForm] at h; exact spec_odForm_b_ct (spec_odForm_ct' k) h
theorem spec_odForm_ct {k : Nat} {a1 : Rw} {a2 : Int} {r : Bool} (h : spec_odForm k a1 a2 = some r) : Ct prog 156 [.agg [.d (D.sl a1)], .d (D.int .i64 a2)] (⟨[], []⟩) (.d (D.bool r)) (⟨[], []⟩) := spec_odForm_ct' k _ _ _ h

def spec_odGood (k : Nat) (a1 : Rw) : Option Bool :=
  ((spec_odLeft k a1 6 60).bind fun y2 => (if (0 : Int) ≤ y2 then ((spec_odForm k a1 6).bind fun y5 => (if y5 = true then some true else some false)) else some false))
set_option maxHeartbeats 4000000 in
set_option maxRecDepth 100000 in
theorem spec_odGood_ct {k : Nat} {a1 : Rw} {r : Bool} (h : spec_odGood k a1 = some r) : Ct prog 74 [.agg [.d (D.sl a1)]] (⟨[], []⟩) (.d (D.bool r)) (⟨[], []⟩) := by
  rw [spec_odGood] at h
  refine Ct.of (c := _) mixed func74 ⟨rfl, rfl, rfl⟩ ?_ rfl
  conv => whnf
  obtain ⟨y2, e3, h⟩ := bind_ex h
  refine CallOk.of (spec_odLeft_ct e3) ?_
  conv => whnf
  refine splD (fun g4 => ?_) (fun g4 => ?_)
  · replace h := iteP h g4
    conv => whnf
    obtain ⟨y5, e6, h⟩ := bind_ex h
    refine CallOk.of (spec_odForm_ct e6) ?_
    conv => whnf
    refine spl (fun g7 => ?_) (fun g7 => ?_)
    · replace h := iteT h g7
      conv => whnf
      refine CutK.go ?_
      conv => whnf
      cases h
      exact Done.of [] [] rfl rfl ⟨⟨rfl, rfl⟩, ⟨rfl, trivial⟩, rfl, trivial⟩
    · replace h := iteF h g7
      conv => whnf
      refine CutK.go ?_
      conv => whnf
      cases h
      exact Done.of [] [] rfl rfl ⟨⟨rfl, rfl⟩, ⟨rfl, trivial⟩, rfl, trivial⟩
  · replace h := iteN h g4
    conv => whnf
    refine CutK.go ?_
    conv => whnf
    cases h
    exact Done.of [] [] rfl rfl ⟨⟨rfl, rfl⟩, ⟨rfl, trivial⟩, rfl, trivial⟩

def spec_shInt  (a1 : Int) : Option (Int × Int) :=
  some (a1, 1)
set_option maxHeartbeats 4000000 in
set_option maxRecDepth 100000 in
theorem spec_shInt_ct  {a1 : Int} {r : Int × Int} (h : spec_shInt a1 = some r) : Ct prog 172 [.d (D.int .i64 a1)] (⟨[], []⟩) (.agg [.d (D.int .i64 r.1), .d (D.int .i64 r.2)]) (⟨[], []⟩) := by
  rw [spec_shInt] at h
  refine Ct.of (c := _) mixed func172 ⟨rfl, rfl, rfl⟩ ?_ rfl
  conv => whnf
  cases h
  exact Done.of [] [] rfl rfl ⟨⟨rfl, rfl⟩, ⟨rfl, trivial⟩, ⟨rfl, rfl, trivial⟩, trivial⟩

def spec_suFrom_l0 (rec_spec_suFrom : Rw → Option Rw) (a1 : Rw) (K0 : Rw → Option Rw) : Rw → Rw → Option Rw
  | [], v12 => (K0 v12)
  | cs :: rest, v12 => (cell_si cs fun x34 x35 => ((rec_spec_suFrom x34).bind fun y37 => ((spec_shInt x35).bind fun y39 => (if v12.length + 1 ≤ cap then (spec_suFrom_l0 rec_spec_suFrom a1 K0 rest (v12 ++ ([[D.sl y37, D.int .i64 y39.1, D.int .i64 y39.2]]))) else none))))
set_option maxRecDepth 100000 in
theorem spec_suFrom_l0_ct {rec_spec_suFrom : Rw → Option Rw} {a1 : Rw} {K0 : Rw → Option Rw} (hrec_spec_suFrom : ∀ (a1 : Rw) (r : Rw), rec_spec_suFrom a1 = some r → Ct prog 98 [.agg [.d (D.sl a1)]] (⟨[], []⟩) (.agg [.os 8 r.length]) (⟨[], [(120, true, r)]⟩)) {r : Rw} (hx : a1.length ≤ cap) : ∀ (rest : Rw) (v11n : Nat) (v12 : Rw), a1.drop v11n = rest → spec_suFrom_l0 rec_spec_suFrom a1 K0 rest v12 = some r → LoopOk prog 0 (lp f98 0) (mk 28 [(2, .ptr 128 0), (3, .ptr 192 0), (8, .d (D.sl a1)), (9, .d (D.int .i64 (a1.length : Int))), (10, .d (D.int .i64 (v11n : Int)))] [(128, .box 46 [.es]), (192, .box 46 [.os 64000 v12.length]), (64000, .arr 120 true v12)]) (LoopEnd prog f98 0 28 (.agg [.os 8 r.length]) (⟨[], [(120, true, r)]⟩) (fun i ts os => (i = 0 ∧ ∃ v23 : Rw, K0 v23 = some r ∧ ts = [(2, .ptr 128 0), (3, .ptr 192 0)] ∧ os = [(128, .box 46 [.es]), (192, .box 46 [.os 67001 v23.length]), (67001, .arr 120 true v23)])))
  | [], v11n, v12, hd, h => by
      rw [spec_suFrom_l0] at h
      have hn := drop_nil hd
      refine LoopOk.step ?_
      conv => whnf
      refine splD (fun g => absurd g hn) (fun _ => ?_)
      conv => whnf
      exact ⟨_, _, [some 128, some 192, some 64000], [], ⟨rfl, _, h, rfl, rfl⟩, ⟨⟨rfl, rfl⟩, ⟨rfl, ⟨rfl, trivial, trivial⟩, ⟨rfl, ⟨rfl, rfl⟩, trivial⟩, ⟨rfl, rfl, rows_same⟩, trivial⟩, ⟨rfl, rfl⟩, ⟨rfl, rfl⟩, trivial⟩⟩
  | cs :: rest, v11n, v12, hd, h => by
      rw [spec_suFrom_l0] at h
      obtain ⟨hrow, hd1, hlt⟩ := drop_cons hd
      refine LoopOk.step ?_
      conv => whnf
      refine splD (fun _ => ?_) (fun g => absurd hlt g)
      conv => whnf
      obtain ⟨x34, x35, e36, h⟩ := cell_si_ex h
      rw [e36] at hrow
      refine Req.of (Int.natCast_nonneg _) ?_
      refine Row.of _ hrow ?_
      conv => whnf
      obtain ⟨y37, e38, h⟩ := bind_ex h
      refine CallOk.of (hrec_spec_suFrom _ _ e38) ?_
      conv => whnf
      obtain ⟨y39, e40, h⟩ := bind_ex h
      refine CallOk.of (spec_shInt_ct e40) ?_
      conv => whnf
      refine Take.all (rfl) ?_
      conv => whnf
      refine Take.all (rfl) ?_
      conv => whnf
      refine Take.all (by first | rfl | exact List.length_append.symm | (simp; done) | omega) ?_
      conv => whnf
      obtain ⟨g41, h⟩ := req_ex h
      refine Req.of (room (b := 40) (by decide) g41 (wide1 rfl wide0)) ?_
      conv => whnf
      refine CutK.go ?_
      conv => whnf
      exact LoopOk.back (spec_suFrom_l0_ct hrec_spec_suFrom hx rest (v11n + 1) _ hd1 h) [some 128, some 192, some 1536] [] ⟨⟨rfl, rfl⟩, ⟨rfl, ⟨rfl, trivial, trivial⟩, ⟨rfl, ⟨(by first | rfl | exact List.length_append.symm | (simp; done) | omega), rfl⟩, trivial⟩, ⟨rfl, rfl, rows_same⟩, trivial⟩, ⟨rfl, rfl⟩, ⟨rfl, rfl⟩, rfl, rfl, i64eq (wrap_up hlt hx), trivial⟩
def spec_suFrom_b (rec_spec_suFrom : Rw → Option Rw) (a1 : Rw) : Option Rw :=
  (if a1.length ≤ cap then (spec_suFrom_l0 rec_spec_suFrom a1 (fun (v23 : Rw) => some v23) a1 ([] : Rw)) else none)
set_option maxHeartbeats 4000000 in
set_option maxRecDepth 100000 in
theorem spec_suFrom_b_ct {rec_spec_suFrom : Rw → Option Rw} (hrec_spec_suFrom : ∀ (a1 : Rw) (r : Rw), rec_spec_suFrom a1 = some r → Ct prog 98 [.agg [.d (D.sl a1)]] (⟨[], []⟩) (.agg [.os 8 r.length]) (⟨[], [(120, true, r)]⟩)) {a1 : Rw} {r : Rw} (h : spec_suFrom_b rec_spec_suFrom a1 = some r) : Ct prog 98 [.agg [.d (D.sl a1)]] (⟨[], []⟩) (.agg [.os 8 r.length]) (⟨[], [(120, true, r)]⟩) := by
  rw [spec_suFrom_b] at h
  refine Ct.of (c := _) mixed func98 ⟨rfl, rfl, rfl⟩ ?_ rfl
  conv => whnf
  obtain ⟨g42, h⟩ := req_ex h
  refine LoopOk.into (spec_suFrom_l0_ct hrec_spec_suFrom g42 _ _ _ rfl h) [some 128, some 192, none] [] ⟨⟨rfl, rfl⟩, ⟨rfl, ⟨rfl, trivial, trivial⟩, ⟨rfl, ⟨rfl, rfl⟩, trivial⟩, rfl, trivial⟩, ⟨rfl, rfl⟩, ⟨rfl, rfl⟩, rfl, rfl, rfl, trivial⟩ ?_ (fun _ hs => hs)
  rintro i ts os ⟨rfl, v23, h, rfl, rfl⟩
  conv => whnf
  refine CutK.go ?_
  conv => whnf
  cases h
  exact Done.of [some 67001] [] rfl rfl ⟨⟨rfl, rfl⟩, ⟨rfl, ⟨rfl, rfl, rows_same⟩, trivial⟩, ⟨⟨rfl, rfl⟩, trivial⟩, trivial⟩
def spec_suFrom : Nat → Rw → Option Rw
  | 0, _ => none
  | k + 1, a1 => spec_suFrom_b (spec_suFrom k) a1
theorem spec_suFrom_ct' : ∀ (k : Nat) (a1 : Rw) (r : Rw), spec_suFrom k a1 = some r → Ct prog 98 [.agg [.d (D.sl a1)]] (⟨[], []⟩) (.agg [.os 8 r.length]) (⟨[], [(120, true, r)]⟩)
  | 0, _, _, h => by rw [spec_suFrom] at h; cases h
  | k + 1, _, _, h => by rw [spec_suFrom] at h; exact spec_suFrom_b_ct (spec_suFrom_ct' k) h
theorem spec_suFrom_ct {k : Nat} {a1 : Rw} {r : Rw} (h : spec_suFrom k a1 = some r) : Ct prog 98 [.agg [.d (D.sl a1)]] (⟨[], []⟩) (.agg [.os 8 r.length]) (⟨[], [(120, true, r)]⟩) := spec_suFrom_ct' k _ _ h

def spec_FromOrdinal (k : Nat) (a1 : Rw) : Option (Rw × Bool) :=
  ((spec_odGood k a1).bind fun y2 => (if y2 = true then ((spec_suFrom k a1).bind fun y5 => some (y5, true)) else some (([] : Rw), false)))
set_option maxHeartbeats 4000000 in
set_option maxRecDepth 100000 in
theorem spec_FromOrdinal_ct {k : Nat} {a1 : Rw} {r : Rw × Bool} (h : spec_FromOrdinal k a1 = some r) : Ct prog 30 [.agg [.d (D.sl a1)]] (⟨[], []⟩) (.tup [.agg [.os 8 r.1.length], .d (D.bool r.2)]) (⟨[], [(120, true, r.1)]⟩) := by
  rw [spec_FromOrdinal] at h
  refine Ct.of (c := _) mixed func30 ⟨rfl, rfl, rfl⟩ ?_ rfl
  conv => whnf
  obtain ⟨y2, e3, h⟩ := bind_ex h
  refine CallOk.of (spec_odGood_ct e3) ?_
  conv => whnf
  refine spl (fun g4 => ?_) (fun g4 => ?_)
  · replace h := iteT h g4
    conv => whnf
    refine CutK.go ?_
    conv => whnf
    refine CutK.go ?_
    conv => whnf
    obtain ⟨y5, e6, h⟩ := bind_ex h
    refine CallOk.of (spec_suFrom_ct e6) ?_
    conv => whnf
    refine CutK.go ?_
    conv => whnf
    cases h
    exact Done.of [some 576] [] rfl rfl ⟨⟨rfl, rfl⟩, ⟨rfl, ⟨rfl, rfl, rows_same⟩, trivial⟩, ⟨⟨⟨rfl, rfl⟩, trivial⟩, rfl, trivial⟩, trivial⟩
  · replace h := iteF h g4
    conv => whnf
    refine CutK.go ?_
    conv => whnf
    cases h
    exact Done.of [none] [] rfl rfl ⟨⟨rfl, rfl⟩, ⟨rfl, rfl, trivial⟩, ⟨⟨⟨rfl, rfl⟩, trivial⟩, rfl, trivial⟩, trivial⟩

def spec_l1Cur_next  (a1 : Rw) (a2 : Int) (a3 : Int) : Option (Int × Rw × Int × Int) :=
  (if a2 < (a1.length : Int) then (row_iu8 a1 a2 fun x5 => (if (IntKind.i64.wrap (a2 + 1)) ≤ (a1.length : Int) then some (IntKind.i64.wrap x5, a1, IntKind.i64.wrap (a2 + 1), IntKind.u64.wrap ((IntKind.u64.wrap ((IntKind.u64.wrap (a3 * 6364136223846793005)) + (IntKind.u64.wrap (IntKind.i64.wrap x5)))) + 1442695040888963407)) else some (IntKind.i64.wrap (IntKind.u64.wrap (BitVec.ofInt (IntKind.u64).bits ((IntKind.u64.wrap ((IntKind.u64.wrap ((IntKind.u64.wrap (a3 * 6364136223846793005)) + (IntKind.u64.wrap (IntKind.i64.wrap x5)))) + 1442695040888963407)).fdiv (2 ^ (min (40 : Int).toNat (IntKind.u64).bits))) &&& BitVec.ofInt (IntKind.u64).bits 255).toNat), a1, IntKind.i64.wrap (a2 + 1), IntKind.u64.wrap ((IntKind.u64.wrap ((IntKind.u64.wrap (a3 * 6364136223846793005)) + (IntKind.u64.wrap (IntKind.i64.wrap x5)))) + 1442695040888963407)))) else (if (IntKind.i64.wrap (a2 + 1)) ≤ (a1.length : Int) then some (0, a1, IntKind.i64.wrap (a2 + 1), IntKind.u64.wrap ((IntKind.u64.wrap ((IntKind.u64.wrap (a3 * 6364136223846793005)) + (IntKind.u64.wrap 0))) + 1442695040888963407)) else some (IntKind.i64.wrap (IntKind.u64.wrap (BitVec.ofInt (IntKind.u64).bits ((IntKind.u64.wrap ((IntKind.u64.wrap ((IntKind.u64.wrap (a3 * 6364136223846793005)) + (IntKind.u64.wrap 0))) + 1442695040888963407)).fdiv (2 ^ (min (40 : Int).toNat (IntKind.u64).bits))) &&& BitVec.ofInt (IntKind.u64).bits 255).toNat), a1, IntKind.i64.wrap (a2 + 1), IntKind.u64.wrap ((IntKind.u64.wrap ((IntKind.u64.wrap (a3 * 6364136223846793005)) + (IntKind.u64.wrap 0))) + 1442695040888963407))))
set_option maxHeartbeats 4000000 in
set_option maxRecDepth 100000 in
theorem spec_l1Cur_next_ct  {a1 : Rw} {a2 : Int} {a3 : Int} {r : Int × Rw × Int × Int} (h : spec_l1Cur_next a1 a2 a3 = some r) : Ct prog 147 [.ptr 0 0] (⟨[(91, [.d (D.sl a1), .d (D.int .i64 a2), .d (D.int .u64 a3)])], []⟩) (.d (D.int .i64 r.1)) (⟨[(91, [.d (D.sl r.2.1), .d (D.int .i64 r.2.2.1), .d (D.int .u64 r.2.2.2)])], []⟩) := by
  rw [spec_l1Cur_next] at h
  refine Ct.of (c := _) mixed func147 ⟨rfl, rfl, rfl⟩ ?_ rfl
  conv => whnf
  refine splD (fun g4 => ?_) (fun g4 => ?_)
  · replace h := iteP h g4
    conv => whnf
    obtain ⟨g7, x5, e6, h⟩ := row_iu8_ex h
    refine Req.of g7 ?_
    refine Row.of _ e6 ?_
    conv => whnf
    refine splD (fun g8 => ?_) (fun g8 => ?_)
    · replace h := iteP h g8
      conv => whnf
      cases h
      exact Done.of [some 0] [] rfl rfl ⟨⟨rfl, rfl⟩, ⟨rfl, ⟨rfl, rfl, rfl, rfl, trivial⟩, trivial⟩, rfl, trivial⟩
    · replace h := iteN h g8
      conv => whnf
      cases h
      exact Done.of [some 0] [] rfl rfl ⟨⟨rfl, rfl⟩, ⟨rfl, ⟨rfl, rfl, rfl, rfl, trivial⟩, trivial⟩, rfl, trivial⟩
  · replace h := iteN h g4
    conv => whnf
    refine splD (fun g9 => ?_) (fun g9 => ?_)
    · replace h := iteP h g9
      conv => whnf
      cases h
      exact Done.of [some 0] [] rfl rfl ⟨⟨rfl, rfl⟩, ⟨rfl, ⟨rfl, rfl, rfl, rfl, trivial⟩, trivial⟩, rfl, trivial⟩
    · replace h := iteN h g9
      conv => whnf
      cases h
      exact Done.of [some 0] [] rfl rfl ⟨⟨rfl, rfl⟩, ⟨rfl, ⟨rfl, rfl, rfl, rfl, trivial⟩, trivial⟩, rfl, trivial⟩

def spec_l1Cur_pick  (a1 : Rw) (a2 : Int) (a3 : Int) (a4 : Int) : Option (Int × Rw × Int × Int) :=
  (if a4 ≤ (1 : Int) then some (0, a1, a2, a3) else ((spec_l1Cur_next a1 a2 a3).bind fun y6 => (if (200 : Int) < a4 then ((spec_l1Cur_next y6.2.1 y6.2.2.1 y6.2.2.2).bind fun y9 => (if a4 ≠ 0 then some ((IntKind.i64.wrap ((IntKind.i64.wrap (y6.1 * 256)) + y9.1)).tmod a4, y9.2.1, y9.2.2.1, y9.2.2.2) else none)) else (if a4 ≠ 0 then some (y6.1.tmod a4, y6.2.1, y6.2.2.1, y6.2.2.2) else none))))
set_option maxHeartbeats 4000000 in
set_option maxRecDepth 100000 in
theorem spec_l1Cur_pick_ct  {a1 : Rw} {a2 : Int} {a3 : Int} {a4 : Int} {r : Int × Rw × Int × Int} (h : spec_l1Cur_pick a1 a2 a3 a4 = some r) : Ct prog 65 [.ptr 0 0, .d (D.int .i64 a4)] (⟨[(91, [.d (D.sl a1), .d (D.int .i64 a2), .d (D.int .u64 a3)])], []⟩) (.d (D.int .i64 r.1)) (⟨[(91, [.d (D.sl r.2.1), .d (D.int .i64 r.2.2.1), .d (D.int .u64 r.2.2.2)])], []⟩) := by
  rw [spec_l1Cur_pick] at h
  refine Ct.of (c := _) mixed func65 ⟨rfl, rfl, rfl⟩ ?_ rfl
  conv => whnf
  refine splD (fun g5 => ?_) (fun g5 => ?_)
  · replace h := iteP h g5
    conv => whnf
    cases h
    exact Done.of [some 0] [] rfl rfl ⟨⟨rfl, rfl⟩, ⟨rfl, ⟨rfl, rfl, rfl, rfl, trivial⟩, trivial⟩, rfl, trivial⟩
  · replace h := iteN h g5
    conv => whnf
    obtain ⟨y6, e7, h⟩ := bind_ex h
    refine CallOk.of (spec_l1Cur_next_ct e7) ?_
    conv => whnf
    refine CutK.go ?_
    conv => whnf
    refine splD (fun g8 => ?_) (fun g8 => ?_)
    · replace h := iteP h g8
      conv => whnf
      obtain ⟨y9, e10, h⟩ := bind_ex h
      refine CallOk.of (spec_l1Cur_next_ct e10) ?_
      conv => whnf
      refine CutK.go ?_
      conv => whnf
      obtain ⟨g11, h⟩ := req_ex h
      refine Req.of g11 ?_
      conv => whnf
      cases h
      exact Done.of [some 0] [] rfl rfl ⟨⟨rfl, rfl⟩, ⟨rfl, ⟨rfl, rfl, rfl, rfl, trivial⟩, trivial⟩, rfl, trivial⟩
    · replace h := iteN h g8
      conv => whnf
      refine CutK.go ?_
      conv => whnf
      obtain ⟨g12, h⟩ := req_ex h
      refine Req.of g12 ?_
      conv => whnf
      cases h
      exact Done.of [some 0] [] rfl rfl ⟨⟨rfl, rfl⟩, ⟨rfl, ⟨rfl, rfl, rfl, rfl, trivial⟩, trivial⟩, rfl, trivial⟩

def spec_odTerm  (a1 : Rw) (a2 : Int) : Option Rw :=
  (if a2 = (0 : Int) then some ([] : Rw) else some ([[D.sl a1, D.int .i64 a2]] : Rw))
set_option maxHeartbeats 4000000 in
set_option maxRecDepth 100000 in
theorem spec_odTerm_ct  {a1 : Rw} {a2 : Int} {r : Rw} (h : spec_odTerm a1 a2 = some r) : Ct prog 149 [.agg [.d (D.sl a1)], .d (D.int .i64 a2)] (⟨[], []⟩) (.agg [.os 8 r.length]) (⟨[], [(104, false, r)]⟩) := by
  rw [spec_odTerm] at h
  refine Ct.of (c := _) mixed func149 ⟨rfl, rfl, rfl⟩ ?_ rfl
  conv => whnf
  refine splD (fun g3 => ?_) (fun g3 => ?_)
  · replace h := iteP h g3
    conv => whnf
    cases h
    exact Done.of [none] [] rfl rfl ⟨⟨rfl, rfl⟩, ⟨rfl, rfl, trivial⟩, ⟨⟨rfl, rfl⟩, trivial⟩, trivial⟩
  · replace h := iteN h g3
    conv => whnf
    cases h
    exact Done.of [some 704] [] rfl rfl ⟨⟨rfl, rfl⟩, ⟨rfl, ⟨rfl, rfl, rows_same⟩, trivial⟩, ⟨⟨(by first | rfl | exact List.length_append.symm | (simp; done) | omega), rfl⟩, trivial⟩, trivial⟩

def spec_odInt  (a1 : Int) : Option Rw :=
  ((spec_odTerm ([] : Rw) a1).bind fun y2 => some y2)
set_option maxHeartbeats 4000000 in
set_option maxRecDepth 100000 in
theorem spec_odInt_ct  {a1 : Int} {r : Rw} (h : spec_odInt a1 = some r) : Ct prog 148 [.d (D.int .i64 a1)] (⟨[], []⟩) (.agg [.os 8 r.length]) (⟨[], [(104, false, r)]⟩) := by
  rw [spec_odInt] at h
  refine Ct.of (c := _) mixed func148 ⟨rfl, rfl, rfl⟩ ?_ rfl
  conv => whnf
  obtain ⟨y2, e3, h⟩ := bind_ex h
  refine CallOk.of (spec_odTerm_ct e3) ?_
  conv => whnf
  refine CutK.go ?_
  conv => whnf
  cases h
  exact Done.of [some 320] [] rfl rfl ⟨⟨rfl, rfl⟩, ⟨rfl, ⟨rfl, rfl, rows_same⟩, trivial⟩, ⟨⟨rfl, rfl⟩, trivial⟩, trivial⟩

def spec_l1Cur_among  (a1 : Rw) (a2 : Int) (a3 : Int) (a4 : Rw) : Option (Int × Rw × Int × Int) :=
  ((spec_l1Cur_pick a1 a2 a3 (a4.length : Int)).bind fun y5 => (row_i a4 y5.1 fun x7 => some (x7, y5.2.1, y5.2.2.1, y5.2.2.2)))
set_option maxHeartbeats 4000000 in
set_option maxRecDepth 100000 in
theorem spec_l1Cur_among_ct  {a1 : Rw} {a2 : Int} {a3 : Int} {a4 : Rw} {r : Int × Rw × Int × Int} (h : spec_l1Cur_among a1 a2 a3 a4 = some r) : Ct prog 67 [.ptr 0 0, .d (D.sl a4)] (⟨[(91, [.d (D.sl a1), .d (D.int .i64 a2), .d (D.int .u64 a3)])], []⟩) (.d (D.int .i64 r.1)) (⟨[(91, [.d (D.sl r.2.1), .d (D.int .i64 r.2.2.1), .d (D.int .u64 r.2.2.2)])], []⟩) := by
  rw [spec_l1Cur_among] at h
  refine Ct.of (c := _) mixed func67 ⟨rfl, rfl, rfl⟩ ?_ rfl
  conv => whnf
  obtain ⟨y5, e6, h⟩ := bind_ex h
  refine CallOk.of (spec_l1Cur_pick_ct e6) ?_
  conv => whnf
  obtain ⟨g9, x7, e8, h⟩ := row_i_ex h
  refine Req.of g9 ?_
  refine Row.of _ e8 ?_
  conv => whnf
  refine CutK.go ?_
  conv => whnf
  cases h
  exact Done.of [some 0] [] rfl rfl ⟨⟨rfl, rfl⟩, ⟨rfl, ⟨rfl, rfl, rfl, rfl, trivial⟩, trivial⟩, rfl, trivial⟩

def spec_odMeet_p4 (a2 : Rw) (a3 : Int) (o61 : Rw) (v62 : Bool) : Option Rw :=
  (cond v62 (some o61) (if o61.length + 1 ≤ cap then some (o61 ++ ([[D.sl a2, D.int .i64 a3]])) else none))
set_option maxHeartbeats 4000000 in
set_option maxRecDepth 100000 in
theorem spec_odMeet_p4_ct {a2 : Rw} {a3 : Int} {o61 : Rw} {v62 : Bool} {r : Rw} (h : spec_odMeet_p4 a2 a3 o61 v62 = some r) : X prog 0 (tlF f150 4) (mk 66 [(3, .ptr 192 0), (4, .ptr 256 0), (5, .ptr 320 0), (6, .d (D.bool v62))] [(192, .box 104 [.d (D.sl a2), .d (D.int .i64 a3)]), (256, .box 26 [.es]), (320, .box 26 [.os 1084000 o61.length]), (1084000, .arr 104 false o61)]) (finK prog f150 0 (.agg [.os 8 r.length]) (⟨[], [(104, false, r)]⟩)) := by
  rw [spec_odMeet_p4] at h
  cases v62
  · replace h := condF h
    conv => whnf
    refine Take.all (rfl) ?_
    conv => whnf
    refine Take.all (by first | rfl | exact List.length_append.symm | (simp; done) | omega) ?_
    conv => whnf
    obtain ⟨g64, h⟩ := req_ex h
    refine Req.of (room (b := 32) (by decide) g64 (wide1 rfl wide0)) ?_
    conv => whnf
    cases h
    exact Done.of [some 4032] [] rfl rfl ⟨⟨rfl, rfl⟩, ⟨rfl, ⟨rfl, rfl, rows_same⟩, trivial⟩, ⟨⟨(by first | rfl | exact List.length_append.symm | (simp; done) | omega), rfl⟩, trivial⟩, trivial⟩
  · replace h := condT h
    conv => whnf
    cases h
    exact Done.of [some 1084000] [] rfl rfl ⟨⟨rfl, rfl⟩, ⟨rfl, ⟨rfl, rfl, rows_same⟩, trivial⟩, ⟨⟨rfl, rfl⟩, trivial⟩, trivial⟩
def spec_odMeet_l0 (k : Nat) (a1 : Rw) (a2 : Rw) (a3 : Int) (K0 : Rw → Bool → Option Rw) : Rw → Bool → Rw → Option Rw
  | [], v74, v76 => (cond v74 (K0 v76 true) (K0 v76 false))
  | cs :: rest, v74, v76 => (cond v74 (cell_si cs fun x133 x134 => ((spec_odCmp k x133 a2).bind fun y136 => (if v76.length + 1 ≤ cap then (spec_odMeet_l0 k a1 a2 a3 K0 rest true (v76 ++ ([[D.sl x133, D.int .i64 x134]]))) else none))) (cell_si cs fun x122 x123 => ((spec_odCmp k x122 a2).bind fun y125 => (if y125 ≤ (0 : Int) then (if y125 = (0 : Int) then (if v76.length + 1 ≤ cap then (spec_odMeet_l0 k a1 a2 a3 K0 rest true (v76 ++ ([[D.sl a2, D.int .i64 (IntKind.i64.wrap (a3 + x123))]]))) else none) else (if v76.length + 1 ≤ cap then (if (v76 ++ ([[D.sl a2, D.int .i64 a3]])).length + 1 ≤ cap then (spec_odMeet_l0 k a1 a2 a3 K0 rest true ((v76 ++ ([[D.sl a2, D.int .i64 a3]])) ++ ([[D.sl x122, D.int .i64 x123]]))) else none) else none)) else (if v76.length + 1 ≤ cap then (spec_odMeet_l0 k a1 a2 a3 K0 rest false (v76 ++ ([[D.sl x122, D.int .i64 x123]]))) else none)))))
set_option maxRecDepth 100000 in
theorem spec_odMeet_l0_ct {k : Nat} {a1 : Rw} {a2 : Rw} {a3 : Int} {K0 : Rw → Bool → Option Rw} {r : Rw} (hx : a1.length ≤ cap) : ∀ (rest : Rw) (v75n : Nat) (v74 : Bool) (v76 : Rw), a1.drop v75n = rest → spec_odMeet_l0 k a1 a2 a3 K0 rest v74 v76 = some r → LoopOk prog 0 (lp f150 0) (mk 66 [(3, .ptr 192 0), (4, .ptr 256 0), (5, .ptr 320 0), (6, .d (D.bool v74)), (12, .d (D.sl a1)), (13, .d (D.int .i64 (a1.length : Int))), (14, .d (D.int .i64 (v75n : Int)))] [(192, .box 104 [.d (D.sl a2), .d (D.int .i64 a3)]), (256, .box 26 [.es]), (320, .box 26 [.os 64000 v76.length]), (64000, .arr 104 false v76)]) (LoopEnd prog f150 0 66 (.agg [.os 8 r.length]) (⟨[], [(104, false, r)]⟩) (fun i ts os => (i = 0 ∧ ∃ v91 : Rw, ∃ v100 : Bool, K0 v91 v100 = some r ∧ ts = [(3, .ptr 192 0), (4, .ptr 256 0), (5, .ptr 320 0), (6, .d (D.bool v100))] ∧ os = [(192, .box 104 [.d (D.sl a2), .d (D.int .i64 a3)]), (256, .box 26 [.es]), (320, .box 26 [.os 67001 v91.length]), (67001, .arr 104 false v91)])))
  | [], v75n, v74, v76, hd, h => by
      rw [spec_odMeet_l0] at h
      have hn := drop_nil hd
      cases v74
      · replace h := condF h
        refine LoopOk.step ?_
        conv => whnf
        refine splD (fun g => absurd g hn) (fun _ => ?_)
        conv => whnf
        exact ⟨_, _, [some 192, some 256, some 320, some 64000], [], ⟨rfl, _, _, h, rfl, rfl⟩, ⟨⟨rfl, rfl⟩, ⟨rfl, ⟨rfl, rfl, rfl, trivial⟩, ⟨rfl, trivial, trivial⟩, ⟨rfl, ⟨rfl, rfl⟩, trivial⟩, ⟨rfl, rfl, rows_same⟩, trivial⟩, ⟨rfl, rfl⟩, ⟨rfl, rfl⟩, ⟨rfl, rfl⟩, rfl, trivial⟩⟩
      · replace h := condT h
        refine LoopOk.step ?_
        conv => whnf
        refine splD (fun g => absurd g hn) (fun _ => ?_)
        conv => whnf
        exact ⟨_, _, [some 192, some 256, some 320, some 64000], [], ⟨rfl, _, _, h, rfl, rfl⟩, ⟨⟨rfl, rfl⟩, ⟨rfl, ⟨rfl, rfl, rfl, trivial⟩, ⟨rfl, trivial, trivial⟩, ⟨rfl, ⟨rfl, rfl⟩, trivial⟩, ⟨rfl, rfl, rows_same⟩, trivial⟩, ⟨rfl, rfl⟩, ⟨rfl, rfl⟩, ⟨rfl, rfl⟩, rfl, trivial⟩⟩
  | cs :: rest, v75n, v74, v76, hd, h => by
      rw [spec_odMeet_l0] at h
      obtain ⟨hrow, hd1, hlt⟩ := drop_cons hd
      cases v74
      · replace h := condF h
        refine LoopOk.step ?_
        conv => whnf
        refine splD (fun _ => ?_) (fun g => absurd hlt g)
        conv => whnf
        obtain ⟨x122, x123, e124, h⟩ := cell_si_ex h
        rw [e124] at hrow
        refine Req.of (Int.natCast_nonneg _) ?_
        refine Row.of _ hrow ?_
        conv => whnf
        obtain ⟨y125, e126, h⟩ := bind_ex h
        refine CallOk.of (spec_odCmp_ct e126) ?_
        conv => whnf
        refine CutK.norm [3, 4, 5, 6, 8, 9, 12, 13, 14] [192, 256, 320, 512, 64000] ?_
        conv => whnf
        refine splD (fun g127 => ?_) (fun g127 => ?_)
        · replace h := iteP h g127
          conv => whnf
          refine splD (fun g128 => ?_) (fun g128 => ?_)
          · replace h := iteP h g128
            conv => whnf
            refine Take.all (rfl) ?_
            conv => whnf
            refine Take.all (by first | rfl | exact List.length_append.symm | (simp; done) | omega) ?_
            conv => whnf
            obtain ⟨g129, h⟩ := req_ex h
            refine Req.of (room (b := 32) (by decide) g129 (wide1 rfl wide0)) ?_
            conv => whnf
            refine CutK.norm [3, 4, 5, 6, 12, 13, 14] [192, 256, 320, 2688] ?_
            conv => whnf
            exact LoopOk.back (spec_odMeet_l0_ct hx rest (v75n + 1) _ _ hd1 h) [some 192, some 256, some 320, some 2688] [] ⟨⟨rfl, rfl⟩, ⟨rfl, ⟨rfl, rfl, rfl, trivial⟩, ⟨rfl, trivial, trivial⟩, ⟨rfl, ⟨(by first | rfl | exact List.length_append.symm | (simp; done) | omega), rfl⟩, trivial⟩, ⟨rfl, rfl, rows_same⟩, trivial⟩, ⟨rfl, rfl⟩, ⟨rfl, rfl⟩, ⟨rfl, rfl⟩, rfl, rfl, rfl, i64eq (wrap_up hlt hx), trivial⟩
          · replace h := iteN h g128
            conv => whnf
            refine Take.all (rfl) ?_
            conv => whnf
            refine Take.all (by first | rfl | exact List.length_append.symm | (simp; done) | omega) ?_
            conv => whnf
            obtain ⟨g130, h⟩ := req_ex h
            refine Req.of (room (b := 32) (by decide) g130 (wide1 rfl wide0)) ?_
            conv => whnf
            refine CutK.norm [3, 4, 5, 6, 8, 12, 13, 14] [192, 256, 320, 512, 3072] ?_
            conv => whnf
            refine Take.all (by first | rfl | exact List.length_append.symm | (simp; done) | omega) ?_
            conv => whnf
            refine Take.all (by first | rfl | exact List.length_append.symm | (simp; done) | omega) ?_
            conv => whnf
            obtain ⟨g131, h⟩ := req_ex h
            refine Req.of (room (b := 32) (by decide) g131 (wide1 rfl wide0)) ?_
            conv => whnf
            refine CutK.norm [3, 4, 5, 6, 12, 13, 14] [192, 256, 320, 3456] ?_
            conv => whnf
            exact LoopOk.back (spec_odMeet_l0_ct hx rest (v75n + 1) _ _ hd1 h) [some 192, some 256, some 320, some 3456] [] ⟨⟨rfl, rfl⟩, ⟨rfl, ⟨rfl, rfl, rfl, trivial⟩, ⟨rfl, trivial, trivial⟩, ⟨rfl, ⟨(by first | rfl | exact List.length_append.symm | (simp; done) | omega), rfl⟩, trivial⟩, ⟨rfl, rfl, rows_same⟩, trivial⟩, ⟨rfl, rfl⟩, ⟨rfl, rfl⟩, ⟨rfl, rfl⟩, rfl, rfl, rfl, i64eq (wrap_up hlt hx), trivial⟩
        · replace h := iteN h g127
          conv => whnf
          refine CutK.norm [3, 4, 5, 6, 8, 12, 13, 14] [192, 256, 320, 512, 64000] ?_
          conv => whnf
          refine Take.all (rfl) ?_
          conv => whnf
          refine Take.all (by first | rfl | exact List.length_append.symm | (simp; done) | omega) ?_
          conv => whnf
          obtain ⟨g132, h⟩ := req_ex h
          refine Req.of (room (b := 32) (by decide) g132 (wide1 rfl wide0)) ?_
          conv => whnf
          refine CutK.norm [3, 4, 5, 6, 12, 13, 14] [192, 256, 320, 3456] ?_
          conv => whnf
          exact LoopOk.back (spec_odMeet_l0_ct hx rest (v75n + 1) _ _ hd1 h) [some 192, some 256, some 320, some 3456] [] ⟨⟨rfl, rfl⟩, ⟨rfl, ⟨rfl, rfl, rfl, trivial⟩, ⟨rfl, trivial, trivial⟩, ⟨rfl, ⟨(by first | rfl | exact List.length_append.symm | (simp; done) | omega), rfl⟩, trivial⟩, ⟨rfl, rfl, rows_same⟩, trivial⟩, ⟨rfl, rfl⟩, ⟨rfl, rfl⟩, ⟨rfl, rfl⟩, rfl, rfl, rfl, i64eq (wrap_up hlt hx), trivial⟩
      · replace h := condT h
        refine LoopOk.step ?_
        conv => whnf
        refine splD (fun _ => ?_) (fun g => absurd hlt g)
        conv => whnf
        obtain ⟨x133, x134, e135, h⟩ := cell_si_ex h
        rw [e135] at hrow
        refine Req.of (Int.natCast_nonneg _) ?_
        refine Row.of _ hrow ?_
        conv => whnf
        obtain ⟨y136, e137, h⟩ := bind_ex h
        refine CallOk.of (spec_odCmp_ct e137) ?_
        conv => whnf
        refine CutK.norm [3, 4, 5, 6, 8, 9, 12, 13, 14] [192, 256, 320, 512, 64000] ?_
        conv => whnf
        refine CutK.norm [3, 4, 5, 6, 8, 12, 13, 14] [192, 256, 320, 512, 64000] ?_
        conv => whnf
        refine Take.all (rfl) ?_
        conv => whnf
        refine Take.all (by first | rfl | exact List.length_append.symm | (simp; done) | omega) ?_
        conv => whnf
        obtain ⟨g138, h⟩ := req_ex h
        refine Req.of (room (b := 32) (by decide) g138 (wide1 rfl wide0)) ?_
        conv => whnf
        refine CutK.norm [3, 4, 5, 6, 12, 13, 14] [192, 256, 320, 3456] ?_
        conv => whnf
        exact LoopOk.back (spec_odMeet_l0_ct hx rest (v75n + 1) _ _ hd1 h) [some 192, some 256, some 320, some 3456] [] ⟨⟨rfl, rfl⟩, ⟨rfl, ⟨rfl, rfl, rfl, trivial⟩, ⟨rfl, trivial, trivial⟩, ⟨rfl, ⟨(by first | rfl | exact List.length_append.symm | (simp; done) | omega), rfl⟩, trivial⟩, ⟨rfl, rfl, rows_same⟩, trivial⟩, ⟨rfl, rfl⟩, ⟨rfl, rfl⟩, ⟨rfl, rfl⟩, rfl, rfl, rfl, i64eq (wrap_up hlt hx), trivial⟩
def spec_odMeet (k : Nat) (a1 : Rw) (a2 : Rw) (a3 : Int) : Option Rw :=
  (if a1.length ≤ cap then (spec_odMeet_l0 k a1 a2 a3 (fun (v91 : Rw) (v100 : Bool) => (cond v100 (spec_odMeet_p4 a2 a3 v91 true) (spec_odMeet_p4 a2 a3 v91 false))) a1 false ([] : Rw)) else none)
set_option maxHeartbeats 4000000 in
set_option maxRecDepth 100000 in
theorem spec_odMeet_ct {k : Nat} {a1 : Rw} {a2 : Rw} {a3 : Int} {r : Rw} (h : spec_odMeet k a1 a2 a3 = some r) : Ct prog 150 [.agg [.d (D.sl a1)], .agg [.d (D.sl a2), .d (D.int .i64 a3)]] (⟨[], []⟩) (.agg [.os 8 r.length]) (⟨[], [(104, false, r)]⟩) := by
  rw [spec_odMeet] at h
  refine Ct.of (c := _) mixed func150 ⟨rfl, rfl, rfl⟩ ?_ rfl
  conv => whnf
  obtain ⟨g139, h⟩ := req_ex h
  refine LoopOk.into (spec_odMeet_l0_ct  g139 _ _ _ _ rfl h) [some 192, some 256, some 320, none] [] ⟨⟨rfl, rfl⟩, ⟨rfl, ⟨rfl, rfl, rfl, trivial⟩, ⟨rfl, trivial, trivial⟩, ⟨rfl, ⟨rfl, rfl⟩, trivial⟩, rfl, trivial⟩, ⟨rfl, rfl⟩, ⟨rfl, rfl⟩, ⟨rfl, rfl⟩, rfl, rfl, rfl, rfl, trivial⟩ ?_ (fun _ hs => hs)
  rintro i ts os ⟨rfl, v91, v100, h, rfl, rfl⟩
  cases v100
  · replace h := condF h
    conv => whnf
    exact CutK.piece (spec_odMeet_p4_ct  h) [some 192, some 256, some 320, some 67001] [] ⟨⟨rfl, rfl⟩, ⟨rfl, ⟨rfl, rfl, rfl, trivial⟩, ⟨rfl, trivial, trivial⟩, ⟨rfl, ⟨rfl, rfl⟩, trivial⟩, ⟨rfl, rfl, rows_same⟩, trivial⟩, ⟨rfl, rfl⟩, ⟨rfl, rfl⟩, ⟨rfl, rfl⟩, rfl, trivial⟩
  · replace h := condT h
    conv => whnf
    exact CutK.piece (spec_odMeet_p4_ct  h) [some 192, some 256, some 320, some 67001] [] ⟨⟨rfl, rfl⟩, ⟨rfl, ⟨rfl, rfl, rfl, trivial⟩, ⟨rfl, trivial, trivial⟩, ⟨rfl, ⟨rfl, rfl⟩, trivial⟩, ⟨rfl, rfl, rows_same⟩, trivial⟩, ⟨rfl, rfl⟩, ⟨rfl, rfl⟩, ⟨rfl, rfl⟩, rfl, trivial⟩

def spec_l1Cur_one  (a1 : Rw) (a2 : Int) (a3 : Int) (a4 : Int) : Option (Bool × Rw × Int × Int) :=
  ((spec_l1Cur_pick a1 a2 a3 a4).bind fun y5 => (if y5.1 = (0 : Int) then some (true, y5.2.1, y5.2.2.1, y5.2.2.2) else some (false, y5.2.1, y5.2.2.1, y5.2.2.2)))
set_option maxHeartbeats 4000000 in
set_option maxRecDepth 100000 in
theorem spec_l1Cur_one_ct  {a1 : Rw} {a2 : Int} {a3 : Int} {a4 : Int} {r : Bool × Rw × Int × Int} (h : spec_l1Cur_one a1 a2 a3 a4 = some r) : Ct prog 66 [.ptr 0 0, .d (D.int .i64 a4)] (⟨[(91, [.d (D.sl a1), .d (D.int .i64 a2), .d (D.int .u64 a3)])], []⟩) (.d (D.bool r.1)) (⟨[(91, [.d (D.sl r.2.1), .d (D.int .i64 r.2.2.1), .d (D.int .u64 r.2.2.2)])], []⟩) := by
  rw [spec_l1Cur_one] at h
  refine Ct.of (c := _) mixed func66 ⟨rfl, rfl, rfl⟩ ?_ rfl
  conv => whnf
  obtain ⟨y5, e6, h⟩ := bind_ex h
  refine CallOk.of (spec_l1Cur_pick_ct e6) ?_
  conv => whnf
  refine splD (fun g7 => ?_) (fun g7 => ?_)
  · replace h := iteP h g7
    conv => whnf
    refine CutK.go ?_
    conv => whnf
    cases h
    exact Done.of [some 0] [] rfl rfl ⟨⟨rfl, rfl⟩, ⟨rfl, ⟨rfl, rfl, rfl, rfl, trivial⟩, trivial⟩, rfl, trivial⟩
  · replace h := iteN h g7
    conv => whnf
    refine CutK.go ?_
    conv => whnf
    cases h
    exact Done.of [some 0] [] rfl rfl ⟨⟨rfl, rfl⟩, ⟨rfl, ⟨rfl, rfl, rfl, rfl, trivial⟩, trivial⟩, rfl, trivial⟩

def spec_l1Cur_ordinal_l0 (k : Nat) (rec_spec_l1Cur_ordinal : Rw → Int → Int → Int → Option (Rw × Rw × Int × Int)) (a4 : Int) (K0 : Rw → Int → Int → Rw → Option (Rw × Rw × Int × Int)) : Nat → Int → Rw → Int → Int → Rw → Option (Rw × Rw × Int × Int)
  | 0, _, _, _, _, _ => none
  | n + 1, v28, v29, v30, v31, v32 => (if (0 : Int) < v28 then ((spec_l1Cur_pick v29 v30 v31 3).bind fun y76 => ((spec_odInt y76.1).bind fun y78 => ((spec_l1Cur_pick y76.2.1 y76.2.2.1 y76.2.2.2 1000).bind fun y80 => ((spec_l1Cur_among y80.2.1 y80.2.2.1 y80.2.2.2 ([[D.int .i64 1], [D.int .i64 1], [D.int .i64 2], [D.int .i64 3], [D.int .i64 (IntKind.i64.wrap (1 + y80.1))]] : Rw)).bind fun y82 => ((spec_l1Cur_one y82.2.1 y82.2.2.1 y82.2.2.2 3).bind fun y84 => (if y84.1 = true then ((rec_spec_l1Cur_ordinal y84.2.1 y84.2.2.1 y84.2.2.2 (IntKind.i64.wrap (a4 - 1))).bind fun y87 => ((spec_odMeet k v32 y87.1 y82.1).bind fun y89 => (spec_l1Cur_ordinal_l0 k rec_spec_l1Cur_ordinal a4 K0 n (IntKind.i64.wrap (v28 - 1)) y87.2.1 y87.2.2.1 y87.2.2.2 y89))) else ((spec_odMeet k v32 y78 y82.1).bind fun y91 => (spec_l1Cur_ordinal_l0 k rec_spec_l1Cur_ordinal a4 K0 n (IntKind.i64.wrap (v28 - 1)) y84.2.1 y84.2.2.1 y84.2.2.2 y91)))))))) else (K0 v29 v30 v31 v32))
set_option maxRecDepth 100000 in
theorem spec_l1Cur_ordinal_l0_ct {k : Nat} {rec_spec_l1Cur_ordinal : Rw → Int → Int → Int → Option (Rw × Rw × Int × Int)} {a4 : Int} {K0 : Rw → Int → Int → Rw → Option (Rw × Rw × Int × Int)} (hrec_spec_l1Cur_ordinal : ∀ (a1 : Rw) (a2 : Int) (a3 : Int) (a4 : Int) (r : Rw × Rw × Int × Int), rec_spec_l1Cur_ordinal a1 a2 a3 a4 = some r → Ct prog 95 [.ptr 0 0, .d (D.int .i64 a4)] (⟨[(91, [.d (D.sl a1), .d (D.int .i64 a2), .d (D.int .u64 a3)])], []⟩) (.agg [.os 8 r.1.length]) (⟨[(91, [.d (D.sl r.2.1), .d (D.int .i64 r.2.2.1), .d (D.int .u64 r.2.2.2)])], [(104, false, r.1)]⟩)) {r : Rw × Rw × Int × Int} : ∀ (n : Nat) (v28 : Int) (v29 : Rw) (v30 : Int) (v31 : Int) (v32 : Rw), spec_l1Cur_ordinal_l0 k rec_spec_l1Cur_ordinal a4 K0 n v28 v29 v30 v31 v32 = some r → LoopOk prog 1 (lp f95 0) (mk 42 [(0, .ptr 0 0), (1, .d (D.int .i64 a4)), (4, .ptr 256 0), (5, .ptr 320 0), (6, .d (D.int .i64 v28))] [(0, .box 91 [.d (D.sl v29), .d (D.int .i64 v30), .d (D.int .u64 v31)]), (256, .box 26 [.es]), (320, .box 26 [.os 64000 v32.length]), (64000, .arr 104 false v32)]) (LoopEnd prog f95 1 42 (.agg [.os 8 r.1.length]) (⟨[(91, [.d (D.sl r.2.1), .d (D.int .i64 r.2.2.1), .d (D.int .u64 r.2.2.2)])], [(104, false, r.1)]⟩) (fun i ts os => (i = 0 ∧ ∃ v53 : Rw, ∃ v54 : Int, ∃ v55 : Int, ∃ v56 : Rw, K0 v53 v54 v55 v56 = some r ∧ ts = [(4, .ptr 256 0), (5, .ptr 320 0)] ∧ os = [(0, .box 91 [.d (D.sl v53), .d (D.int .i64 v54), .d (D.int .u64 v55)]), (256, .box 26 [.es]), (320, .box 26 [.os 67001 v56.length]), (67001, .arr 104 false v56)])))
  | 0, _, _, _, _, _, h => by
      rw [spec_l1Cur_ordinal_l0] at h; cases h
  | n + 1, v28, v29, v30, v31, v32, h => by
      rw [spec_l1Cur_ordinal_l0] at h
      refine LoopOk.step ?_
      conv => whnf
      refine splD (fun g75 => ?_) (fun g75 => ?_)
      · replace h := iteP h g75
        conv => whnf
        obtain ⟨y76, e77, h⟩ := bind_ex h
        refine CallOk.of (spec_l1Cur_pick_ct e77) ?_
        conv => whnf
        obtain ⟨y78, e79, h⟩ := bind_ex h
        refine CallOk.of (spec_odInt_ct e79) ?_
        conv => whnf
        obtain ⟨y80, e81, h⟩ := bind_ex h
        refine CallOk.of (spec_l1Cur_pick_ct e81) ?_
        conv => whnf
        refine Take.all (by first | rfl | exact List.length_append.symm | (simp; done) | omega) ?_
        conv => whnf
        obtain ⟨y82, e83, h⟩ := bind_ex h
        refine CallOk.of (spec_l1Cur_among_ct e83) ?_
        conv => whnf
        refine CutK.norm [0, 1, 4, 5, 6, 7] [0, 256, 320, 448, 1472, 64000] ?_
        conv => whnf
        obtain ⟨y84, e85, h⟩ := bind_ex h
        refine CallOk.of (spec_l1Cur_one_ct e85) ?_
        conv => whnf
        refine spl (fun g86 => ?_) (fun g86 => ?_)
        · replace h := iteT h g86
          conv => whnf
          refine CutK.norm [0, 1, 4, 5, 6, 7, 32] [0, 256, 320, 448, 1472, 64000] ?_
          conv => whnf
          obtain ⟨y87, e88, h⟩ := bind_ex h
          refine CallOk.of (hrec_spec_l1Cur_ordinal _ _ _ _ _ e88) ?_
          conv => whnf
          refine CutK.norm [0, 1, 4, 5, 6, 7] [0, 256, 320, 448, 2304, 64000] ?_
          conv => whnf
          refine Take.all (rfl) ?_
          conv => whnf
          refine Take.all (rfl) ?_
          conv => whnf
          obtain ⟨y89, e90, h⟩ := bind_ex h
          refine CallOk.of (spec_odMeet_ct e90) ?_
          conv => whnf
          refine CutK.norm [0, 1, 4, 5, 6] [0, 256, 320, 2560] ?_
          conv => whnf
          exact LoopOk.back (spec_l1Cur_ordinal_l0_ct hrec_spec_l1Cur_ordinal n _ _ _ _ _ h) [some 0, some 256, some 320, some 2560] [] ⟨⟨rfl, rfl⟩, ⟨rfl, ⟨rfl, rfl, rfl, rfl, trivial⟩, ⟨rfl, trivial, trivial⟩, ⟨rfl, ⟨rfl, rfl⟩, trivial⟩, ⟨rfl, rfl, rows_same⟩, trivial⟩, ⟨rfl, rfl⟩, rfl, ⟨rfl, rfl⟩, ⟨rfl, rfl⟩, rfl, trivial⟩
        · replace h := iteF h g86
          conv => whnf
          refine CutK.norm [0, 1, 4, 5, 6, 7, 32] [0, 256, 320, 448, 1472, 64000] ?_
          conv => whnf
          refine CutK.norm [0, 1, 4, 5, 6, 7] [0, 256, 320, 448, 1472, 64000] ?_
          conv => whnf
          refine Take.all (rfl) ?_
          conv => whnf
          refine Take.all (rfl) ?_
          conv => whnf
          obtain ⟨y91, e92, h⟩ := bind_ex h
          refine CallOk.of (spec_odMeet_ct e92) ?_
          conv => whnf
          refine CutK.norm [0, 1, 4, 5, 6] [0, 256, 320, 2560] ?_
          conv => whnf
          exact LoopOk.back (spec_l1Cur_ordinal_l0_ct hrec_spec_l1Cur_ordinal n _ _ _ _ _ h) [some 0, some 256, some 320, some 2560] [] ⟨⟨rfl, rfl⟩, ⟨rfl, ⟨rfl, rfl, rfl, rfl, trivial⟩, ⟨rfl, trivial, trivial⟩, ⟨rfl, ⟨rfl, rfl⟩, trivial⟩, ⟨rfl, rfl, rows_same⟩, trivial⟩, ⟨rfl, rfl⟩, rfl, ⟨rfl, rfl⟩, ⟨rfl, rfl⟩, rfl, trivial⟩
      · replace h := iteN h g75
        conv => whnf
        exact ⟨_, _, [some 0, some 256, some 320, some 64000], [], ⟨rfl, _, _, _, _, h, rfl, rfl⟩, ⟨⟨rfl, rfl⟩, ⟨rfl, ⟨rfl, rfl, rfl, rfl, trivial⟩, ⟨rfl, trivial, trivial⟩, ⟨rfl, ⟨rfl, rfl⟩, trivial⟩, ⟨rfl, rfl, rows_same⟩, trivial⟩, ⟨rfl, rfl⟩, ⟨rfl, rfl⟩, trivial⟩⟩
def spec_l1Cur_ordinal_b (k : Nat) (rec_spec_l1Cur_ordinal : Rw → Int → Int → Int → Option (Rw × Rw × Int × Int)) (a1 : Rw) (a2 : Int) (a3 : Int) (a4 : Int) : Option (Rw × Rw × Int × Int) :=
  (if a4 = (0 : Int) then ((spec_l1Cur_pick a1 a2 a3 4).bind fun y6 => ((spec_odInt y6.1).bind fun y8 => some (y8, y6.2.1, y6.2.2.1, y6.2.2.2))) else ((spec_l1Cur_among a1 a2 a3 ([[D.int .i64 0], [D.int .i64 1], [D.int .i64 1], [D.int .i64 2], [D.int .i64 2], [D.int .i64 3]] : Rw)).bind fun y10 => (spec_l1Cur_ordinal_l0 k rec_spec_l1Cur_ordinal a4 (fun (v53 : Rw) (v54 : Int) (v55 : Int) (v56 : Rw) => some (v56, v53, v54, v55)) k y10.1 y10.2.1 y10.2.2.1 y10.2.2.2 ([] : Rw))))
set_option maxHeartbeats 4000000 in
set_option maxRecDepth 100000 in
theorem spec_l1Cur_ordinal_b_ct {k : Nat} {rec_spec_l1Cur_ordinal : Rw → Int → Int → Int → Option (Rw × Rw × Int × Int)} (hrec_spec_l1Cur_ordinal : ∀ (a1 : Rw) (a2 : Int) (a3 : Int) (a4 : Int) (r : Rw × Rw × Int × Int), rec_spec_l1Cur_ordinal a1 a2 a3 a4 = some r → Ct prog 95 [.ptr 0 0, .d (D.int .i64 a4)] (⟨[(91, [.d (D.sl a1), .d (D.int .i64 a2), .d (D.int .u64 a3)])], []⟩) (.agg [.os 8 r.1.length]) (⟨[(91, [.d (D.sl r.2.1), .d (D.int .i64 r.2.2.1), .d (D.int .u64 r.2.2.2)])], [(104, false, r.1)]⟩)) {a1 : Rw} {a2 : Int} {a3 : Int} {a4 : Int} {r : Rw × Rw × Int × Int} (h : spec_l1Cur_ordinal_b k rec_spec_l1Cur_ordinal a1 a2 a3 a4 = some r) : Ct prog 95 [.ptr 0 0, .d (D.int .i64 a4)] (⟨[(91, [.d (D.sl a1), .d (D.int .i64 a2), .d (D.int .u64 a3)])], []⟩) (.agg [.os 8 r.1.length]) (⟨[(91, [.d (D.sl r.2.1), .d (D.int .i64 r.2.2.1), .d (D.int .u64 r.2.2.2)])], [(104, false, r.1)]⟩) := by
  rw [spec_l1Cur_ordinal_b] at h
  refine Ct.of (c := _) mixed func95 ⟨rfl, rfl, rfl⟩ ?_ rfl
  conv => whnf
  refine splD (fun g5 => ?_) (fun g5 => ?_)
  · replace h := iteP h g5
    conv => whnf
    obtain ⟨y6, e7, h⟩ := bind_ex h
    refine CallOk.of (spec_l1Cur_pick_ct e7) ?_
    conv => whnf
    obtain ⟨y8, e9, h⟩ := bind_ex h
    refine CallOk.of (spec_odInt_ct e9) ?_
    conv => whnf
    refine CutK.norm [4] [0, 256, 832] ?_
    conv => whnf
    cases h
    exact Done.of [some 0, some 832] [] rfl rfl ⟨⟨rfl, rfl⟩, ⟨rfl, ⟨rfl, rfl, rfl, rfl, trivial⟩, ⟨rfl, rfl, rows_same⟩, trivial⟩, ⟨⟨rfl, rfl⟩, trivial⟩, trivial⟩
  · replace h := iteN h g5
    conv => whnf
    refine CutK.norm [0, 1, 4, 5] [0, 256, 320] ?_
    conv => whnf
    refine Take.all (by first | rfl | exact List.length_append.symm | (simp; done) | omega) ?_
    conv => whnf
    obtain ⟨y10, e11, h⟩ := bind_ex h
    refine CallOk.of (spec_l1Cur_among_ct e11) ?_
    conv => whnf
    refine CutK.norm [0, 1, 4, 5, 6] [0, 256, 320] ?_
    conv => whnf
    refine LoopOk.into (spec_l1Cur_ordinal_l0_ct hrec_spec_l1Cur_ordinal _ _ _ _ _ _ h) [some 0, some 256, some 320, none] [] ⟨⟨rfl, rfl⟩, ⟨rfl, ⟨rfl, rfl, rfl, rfl, trivial⟩, ⟨rfl, trivial, trivial⟩, ⟨rfl, ⟨rfl, rfl⟩, trivial⟩, rfl, trivial⟩, ⟨rfl, rfl⟩, rfl, ⟨rfl, rfl⟩, ⟨rfl, rfl⟩, rfl, trivial⟩ ?_ (fun _ hs => hs)
    rintro i ts os ⟨rfl, v53, v54, v55, v56, h, rfl, rfl⟩
    conv => whnf
    refine CutK.norm [4, 5] [0, 256, 320, 67001] ?_
    conv => whnf
    cases h
    exact Done.of [some 0, some 67001] [] rfl rfl ⟨⟨rfl, rfl⟩, ⟨rfl, ⟨rfl, rfl, rfl, rfl, trivial⟩, ⟨rfl, rfl, rows_same⟩, trivial⟩, ⟨⟨rfl, rfl⟩, trivial⟩, trivial⟩
def spec_l1Cur_ordinal : Nat → Rw → Int → Int → Int → Option (Rw × Rw × Int × Int)
  | 0, _, _, _, _ => none
  | k + 1, a1, a2, a3, a4 => spec_l1Cur_ordinal_b k (spec_l1Cur_ordinal k) a1 a2 a3 a4
theorem spec_l1Cur_ordinal_ct' : ∀ (k : Nat) (a1 : Rw) (a2 : Int) (a3 : Int) (a4 : Int) (r : Rw × Rw × Int × Int), spec_l1Cur_ordinal k a1 a2 a3 a4 = some r → Ct prog 95 [.ptr 0 0, .d (D.int .i64 a4)] (⟨[(91, [.d (D.sl a1), .d (D.int .i64 a2), .d (D.int .u64 a3)])], []⟩) (.agg [.os 8 r.1.length]) (⟨[(91, [.d (D.sl r.2.1), .d (D.int .i64 r.2.2.1), .d (D.int .u64 r.2.2.2)])], [(104, false, r.1)]⟩)
  | 0, _, _, _, _, _, h => by rw [spec_l1Cur_ordinal] at h; cases h
  | k + 1, _, _, _, _, _, h => by rw [spec_l1Cur_ordinal] at h; exact spec_l1Cur_ordinal_b_ct (spec_l1Cur_ordinal_ct' k) h
theorem spec_l1Cur_ordinal_ct {k : Nat} {a1 : Rw} {a2 : Int} {a3 : Int} {a4 : Int} {r : Rw × Rw × Int × Int} (h : spec_l1Cur_ordinal k a1 a2 a3 a4 = some r) : Ct prog 95 [.ptr 0 0, .d (D.int .i64 a4)] (⟨[(91, [.d (D.sl a1), .d (D.int .i64 a2), .d (D.int .u64 a3)])], []⟩) (.agg [.os 8 r.1.length]) (⟨[(91, [.d (D.sl r.2.1), .d (D.int .i64 r.2.2.1), .d (D.int .u64 r.2.2.2)])], [(104, false, r.1)]⟩) := spec_l1Cur_ordinal_ct' k _ _ _ _ _ h

def spec_l1Cur_anyOrdinal_p4 (o25 : Rw) (o26 : Int) (o27 : Int) (o28 : Rw) : Option (Rw × Rw × Int × Int) :=
  some (o28, o25, o26, o27)
set_option maxHeartbeats 4000000 in
set_option maxRecDepth 100000 in
theorem spec_l1Cur_anyOrdinal_p4_ct {o25 : Rw} {o26 : Int} {o27 : Int} {o28 : Rw} {r : Rw × Rw × Int × Int} (h : spec_l1Cur_anyOrdinal_p4 o25 o26 o27 o28 = some r) : X prog 1 (tlF f69 4) (mk 59 [(2, .ptr 128 0), (3, .ptr 192 0)] [(0, .box 91 [.d (D.sl o25), .d (D.int .i64 o26), .d (D.int .u64 o27)]), (128, .box 26 [.es]), (192, .box 26 [.os 1084000 o28.length]), (1084000, .arr 104 false o28)]) (finK prog f69 1 (.agg [.os 8 r.1.length]) (⟨[(91, [.d (D.sl r.2.1), .d (D.int .i64 r.2.2.1), .d (D.int .u64 r.2.2.2)])], [(104, false, r.1)]⟩)) := by
  rw [spec_l1Cur_anyOrdinal_p4] at h
  conv => whnf
  cases h
  exact Done.of [some 0, some 1084000] [] rfl rfl ⟨⟨rfl, rfl⟩, ⟨rfl, ⟨rfl, rfl, rfl, rfl, trivial⟩, ⟨rfl, rfl, rows_same⟩, trivial⟩, ⟨⟨rfl, rfl⟩, trivial⟩, trivial⟩
def spec_l1Cur_anyOrdinal_l0 (y79 : Int × Rw × Int × Int) (K3 : Rw → Option (Rw × Rw × Int × Int)) : Nat → Int → Rw → Option (Rw × Rw × Int × Int)
  | 0, _, _ => none
  | n + 1, v84, v85 => (if (0 : Int) < v84 then ((spec_odTerm v85 1).bind fun y94 => (spec_l1Cur_anyOrdinal_l0 y79 K3 n (IntKind.i64.wrap (v84 - 1)) y94)) else (K3 v85))
set_option maxRecDepth 100000 in
theorem spec_l1Cur_anyOrdinal_l0_ct {y79 : Int × Rw × Int × Int} {K3 : Rw → Option (Rw × Rw × Int × Int)} {r : Rw × Rw × Int × Int} : ∀ (n : Nat) (v84 : Int) (v85 : Rw), spec_l1Cur_anyOrdinal_l0 y79 K3 n v84 v85 = some r → LoopOk prog 1 (lp f69 0) (mk 59 [(2, .ptr 128 0), (3, .ptr 192 0), (4, .d (D.int .i64 v84))] [(0, .box 91 [.d (D.sl y79.2.1), .d (D.int .i64 y79.2.2.1), .d (D.int .u64 y79.2.2.2)]), (128, .box 26 [.es]), (192, .box 26 [.os 64000 v85.length]), (64000, .arr 104 false v85)]) (LoopEnd prog f69 1 59 (.agg [.os 8 r.1.length]) (⟨[(91, [.d (D.sl r.2.1), .d (D.int .i64 r.2.2.1), .d (D.int .u64 r.2.2.2)])], [(104, false, r.1)]⟩) (fun i ts os => (i = 3 ∧ ∃ v89 : Rw, K3 v89 = some r ∧ ts = [(2, .ptr 128 0), (3, .ptr 192 0)] ∧ os = [(0, .box 91 [.d (D.sl y79.2.1), .d (D.int .i64 y79.2.2.1), .d (D.int .u64 y79.2.2.2)]), (128, .box 26 [.es]), (192, .box 26 [.os 67001 v89.length]), (67001, .arr 104 false v89)])))
  | 0, _, _, h => by
      rw [spec_l1Cur_anyOrdinal_l0] at h; cases h
  | n + 1, v84, v85, h => by
      rw [spec_l1Cur_anyOrdinal_l0] at h
      refine LoopOk.step ?_
      conv => whnf
      refine splD (fun g93 => ?_) (fun g93 => ?_)
      · replace h := iteP h g93
        conv => whnf
        refine Take.all (rfl) ?_
        conv => whnf
        obtain ⟨y94, e95, h⟩ := bind_ex h
        refine CallOk.of (spec_odTerm_ct e95) ?_
        conv => whnf
        refine CutK.norm [2, 3, 4] [0, 128, 192, 3648] ?_
        conv => whnf
        exact LoopOk.back (spec_l1Cur_anyOrdinal_l0_ct  n _ _ h) [some 0, some 128, some 192, some 3648] [] ⟨⟨rfl, rfl⟩, ⟨rfl, ⟨rfl, rfl, rfl, rfl, trivial⟩, ⟨rfl, trivial, trivial⟩, ⟨rfl, ⟨rfl, rfl⟩, trivial⟩, ⟨rfl, rfl, rows_same⟩, trivial⟩, ⟨rfl, rfl⟩, ⟨rfl, rfl⟩, rfl, trivial⟩
      · replace h := iteN h g93
        conv => whnf
        exact ⟨_, _, [some 0, some 128, some 192, some 64000], [], ⟨rfl, _, h, rfl, rfl⟩, ⟨⟨rfl, rfl⟩, ⟨rfl, ⟨rfl, rfl, rfl, rfl, trivial⟩, ⟨rfl, trivial, trivial⟩, ⟨rfl, ⟨rfl, rfl⟩, trivial⟩, ⟨rfl, rfl, rows_same⟩, trivial⟩, ⟨rfl, rfl⟩, ⟨rfl, rfl⟩, trivial⟩⟩
def spec_l1Cur_anyOrdinal_l1 (k : Nat) (y96 : Int × Rw × Int × Int) (K1 : Rw → Option (Rw × Rw × Int × Int)) : Nat → Int → Rw → Option (Rw × Rw × Int × Int)
  | 0, _, _ => none
  | n + 1, v103, v104 => (if (0 : Int) < v103 then ((spec_odInt v103).bind fun y117 => ((spec_odMeet k v104 y117 1000000).bind fun y119 => (spec_l1Cur_anyOrdinal_l1 k y96 K1 n (IntKind.i64.wrap (v103 - 1)) y119))) else (K1 v104))
set_option maxRecDepth 100000 in
theorem spec_l1Cur_anyOrdinal_l1_ct {k : Nat} {y96 : Int × Rw × Int × Int} {K1 : Rw → Option (Rw × Rw × Int × Int)} {r : Rw × Rw × Int × Int} : ∀ (n : Nat) (v103 : Int) (v104 : Rw), spec_l1Cur_anyOrdinal_l1 k y96 K1 n v103 v104 = some r → LoopOk prog 1 (lp f69 1) (mk 59 [(2, .ptr 128 0), (3, .ptr 192 0), (5, .d (D.int .i64 v103))] [(0, .box 91 [.d (D.sl y96.2.1), .d (D.int .i64 y96.2.2.1), .d (D.int .u64 y96.2.2.2)]), (128, .box 26 [.es]), (192, .box 26 [.os 70400 v104.length]), (70400, .arr 104 false v104)]) (LoopEnd prog f69 1 59 (.agg [.os 8 r.1.length]) (⟨[(91, [.d (D.sl r.2.1), .d (D.int .i64 r.2.2.1), .d (D.int .u64 r.2.2.2)])], [(104, false, r.1)]⟩) (fun i ts os => (i = 1 ∧ ∃ v110 : Rw, K1 v110 = some r ∧ ts = [(2, .ptr 128 0), (3, .ptr 192 0)] ∧ os = [(0, .box 91 [.d (D.sl y96.2.1), .d (D.int .i64 y96.2.2.1), .d (D.int .u64 y96.2.2.2)]), (128, .box 26 [.es]), (192, .box 26 [.os 73401 v110.length]), (73401, .arr 104 false v110)])))
  | 0, _, _, h => by
      rw [spec_l1Cur_anyOrdinal_l1] at h; cases h
  | n + 1, v103, v104, h => by
      rw [spec_l1Cur_anyOrdinal_l1] at h
      refine LoopOk.step ?_
      conv => whnf
      refine splD (fun g116 => ?_) (fun g116 => ?_)
      · replace h := iteP h g116
        conv => whnf
        obtain ⟨y117, e118, h⟩ := bind_ex h
        refine CallOk.of (spec_odInt_ct e118) ?_
        conv => whnf
        refine Take.all (rfl) ?_
        conv => whnf
        refine Take.all (rfl) ?_
        conv => whnf
        obtain ⟨y119, e120, h⟩ := bind_ex h
        refine CallOk.of (spec_odMeet_ct e120) ?_
        conv => whnf
        refine CutK.norm [2, 3, 5] [0, 128, 192, 1728] ?_
        conv => whnf
        exact LoopOk.back (spec_l1Cur_anyOrdinal_l1_ct  n _ _ h) [some 0, some 128, some 192, some 1728] [] ⟨⟨rfl, rfl⟩, ⟨rfl, ⟨rfl, rfl, rfl, rfl, trivial⟩, ⟨rfl, trivial, trivial⟩, ⟨rfl, ⟨rfl, rfl⟩, trivial⟩, ⟨rfl, rfl, rows_same⟩, trivial⟩, ⟨rfl, rfl⟩, ⟨rfl, rfl⟩, rfl, trivial⟩
      · replace h := iteN h g116
        conv => whnf
        exact ⟨_, _, [some 0, some 128, some 192, some 70400], [], ⟨rfl, _, h, rfl, rfl⟩, ⟨⟨rfl, rfl⟩, ⟨rfl, ⟨rfl, rfl, rfl, rfl, trivial⟩, ⟨rfl, trivial, trivial⟩, ⟨rfl, ⟨rfl, rfl⟩, trivial⟩, ⟨rfl, rfl, rows_same⟩, trivial⟩, ⟨rfl, rfl⟩, ⟨rfl, rfl⟩, trivial⟩⟩
def spec_l1Cur_anyOrdinal_p3 (k : Nat) (o15 : Rw) (o16 : Int) (o17 : Int) (o18 : Rw) : Option (Rw × Rw × Int × Int) :=
  ((spec_l1Cur_pick o15 o16 o17 4).bind fun y68 => (if y68.1 = (0 : Int) then ((spec_odInt 7).bind fun y71 => (if o18.length + 1 ≤ cap then (spec_l1Cur_anyOrdinal_p4 y68.2.1 y68.2.2.1 y68.2.2.2 (o18 ++ ([[D.sl y71, D.int .i64 1]]))) else none)) else (if y68.1 = (1 : Int) then ((spec_l1Cur_among y68.2.1 y68.2.2.1 y68.2.2.2 ([[D.int .i64 0], [D.int .i64 (-1)], [D.int .i64 1000001], [D.int .i64 1000000]] : Rw)).bind fun y75 => (if o18.length + 1 ≤ cap then (spec_l1Cur_anyOrdinal_p4 y75.2.1 y75.2.2.1 y75.2.2.2 (o18 ++ ([[D.sl ([]), D.int .i64 y75.1]]))) else none)) else (if y68.1 = (2 : Int) then ((spec_l1Cur_pick y68.2.1 y68.2.2.1 y68.2.2.2 9).bind fun y79 => (spec_l1Cur_anyOrdinal_l0 y79 (fun (v89 : Rw) => (spec_l1Cur_anyOrdinal_p4 y79.2.1 y79.2.2.1 y79.2.2.2 v89)) k y79.1 o18)) else ((spec_l1Cur_pick y68.2.1 y68.2.2.1 y68.2.2.2 40).bind fun y96 => (spec_l1Cur_anyOrdinal_l1 k y96 (fun (v110 : Rw) => (spec_l1Cur_anyOrdinal_p4 y96.2.1 y96.2.2.1 y96.2.2.2 v110)) k y96.1 o18))))))
set_option maxHeartbeats 4000000 in
set_option maxRecDepth 100000 in
theorem spec_l1Cur_anyOrdinal_p3_ct {k : Nat} {o15 : Rw} {o16 : Int} {o17 : Int} {o18 : Rw} {r : Rw × Rw × Int × Int} (h : spec_l1Cur_anyOrdinal_p3 k o15 o16 o17 o18 = some r) : X prog 1 (tlF f69 3) (mk 59 [(0, .ptr 0 0), (2, .ptr 128 0), (3, .ptr 192 0)] [(0, .box 91 [.d (D.sl o15), .d (D.int .i64 o16), .d (D.int .u64 o17)]), (128, .box 26 [.es]), (192, .box 26 [.os 1079000 o18.length]), (1079000, .arr 104 false o18)]) (finK prog f69 1 (.agg [.os 8 r.1.length]) (⟨[(91, [.d (D.sl r.2.1), .d (D.int .i64 r.2.2.1), .d (D.int .u64 r.2.2.2)])], [(104, false, r.1)]⟩)) := by
  rw [spec_l1Cur_anyOrdinal_p3] at h
  conv => whnf
  obtain ⟨y68, e69, h⟩ := bind_ex h
  refine CallOk.of (spec_l1Cur_pick_ct e69) ?_
  conv => whnf
  refine CutK.norm [0, 2, 3, 16] [0, 128, 192, 1079000] ?_
  conv => whnf
  refine splD (fun g70 => ?_) (fun g70 => ?_)
  · replace h := iteP h g70
    conv => whnf
    obtain ⟨y71, e72, h⟩ := bind_ex h
    refine CallOk.of (spec_odInt_ct e72) ?_
    conv => whnf
    refine Take.all (rfl) ?_
    conv => whnf
    refine Take.all (rfl) ?_
    conv => whnf
    refine Take.all (by first | rfl | exact List.length_append.symm | (simp; done) | omega) ?_
    conv => whnf
    obtain ⟨g73, h⟩ := req_ex h
    refine Req.of (room (b := 32) (by decide) g73 (wide1 rfl wide0)) ?_
    conv => whnf
    exact CutK.piece (spec_l1Cur_anyOrdinal_p4_ct  h) [some 0, some 128, some 192, some 2240] [] ⟨⟨rfl, rfl⟩, ⟨rfl, ⟨rfl, rfl, rfl, rfl, trivial⟩, ⟨rfl, trivial, trivial⟩, ⟨rfl, ⟨(by first | rfl | exact List.length_append.symm | (simp; done) | omega), rfl⟩, trivial⟩, ⟨rfl, rfl, rows_same⟩, trivial⟩, ⟨rfl, rfl⟩, ⟨rfl, rfl⟩, trivial⟩
  · replace h := iteN h g70
    conv => whnf
    refine splD (fun g74 => ?_) (fun g74 => ?_)
    · replace h := iteP h g74
      conv => whnf
      refine Take.all (by first | rfl | exact List.length_append.symm | (simp; done) | omega) ?_
      conv => whnf
      obtain ⟨y75, e76, h⟩ := bind_ex h
      refine CallOk.of (spec_l1Cur_among_ct e76) ?_
      conv => whnf
      refine Take.all (rfl) ?_
      conv => whnf
      refine Take.all (by first | rfl | exact List.length_append.symm | (simp; done) | omega) ?_
      conv => whnf
      obtain ⟨g77, h⟩ := req_ex h
      refine Req.of (room (b := 32) (by decide) g77 (wide1 rfl wide0)) ?_
      conv => whnf
      exact CutK.piece (spec_l1Cur_anyOrdinal_p4_ct  h) [some 0, some 128, some 192, some 2944] [] ⟨⟨rfl, rfl⟩, ⟨rfl, ⟨rfl, rfl, rfl, rfl, trivial⟩, ⟨rfl, trivial, trivial⟩, ⟨rfl, ⟨(by first | rfl | exact List.length_append.symm | (simp; done) | omega), rfl⟩, trivial⟩, ⟨rfl, rfl, rows_same⟩, trivial⟩, ⟨rfl, rfl⟩, ⟨rfl, rfl⟩, trivial⟩
    · replace h := iteN h g74
      conv => whnf
      refine splD (fun g78 => ?_) (fun g78 => ?_)
      · replace h := iteP h g78
        conv => whnf
        obtain ⟨y79, e80, h⟩ := bind_ex h
        refine CallOk.of (spec_l1Cur_pick_ct e80) ?_
        conv => whnf
        refine CutK.norm [2, 3, 4] [0, 128, 192, 1079000] ?_
        conv => whnf
        refine LoopOk.into (spec_l1Cur_anyOrdinal_l0_ct  _ _ _ h) [some 0, some 128, some 192, some 1079000] [] ⟨⟨rfl, rfl⟩, ⟨rfl, ⟨rfl, rfl, rfl, rfl, trivial⟩, ⟨rfl, trivial, trivial⟩, ⟨rfl, ⟨rfl, rfl⟩, trivial⟩, ⟨rfl, rfl, rows_same⟩, trivial⟩, ⟨rfl, rfl⟩, ⟨rfl, rfl⟩, rfl, trivial⟩ ?_ (fun _ hs => hs)
        rintro i ts os ⟨rfl, v89, h, rfl, rfl⟩
        conv => whnf
        exact CutK.piece (spec_l1Cur_anyOrdinal_p4_ct  h) [some 0, some 128, some 192, some 67001] [] ⟨⟨rfl, rfl⟩, ⟨rfl, ⟨rfl, rfl, rfl, rfl, trivial⟩, ⟨rfl, trivial, trivial⟩, ⟨rfl, ⟨rfl, rfl⟩, trivial⟩, ⟨rfl, rfl, rows_same⟩, trivial⟩, ⟨rfl, rfl⟩, ⟨rfl, rfl⟩, trivial⟩
      · replace h := iteN h g78
        conv => whnf
        obtain ⟨y96, e97, h⟩ := bind_ex h
        refine CallOk.of (spec_l1Cur_pick_ct e97) ?_
        conv => whnf
        refine CutK.norm [2, 3, 5] [0, 128, 192, 1079000] ?_
        conv => whnf
        refine LoopOk.into (spec_l1Cur_anyOrdinal_l1_ct  _ _ _ h) [some 0, some 128, some 192, some 1079000] [] ⟨⟨rfl, rfl⟩, ⟨rfl, ⟨rfl, rfl, rfl, rfl, trivial⟩, ⟨rfl, trivial, trivial⟩, ⟨rfl, ⟨rfl, rfl⟩, trivial⟩, ⟨rfl, rfl, rows_same⟩, trivial⟩, ⟨rfl, rfl⟩, ⟨rfl, rfl⟩, rfl, trivial⟩ ?_ (fun _ hs => hs)
        rintro i ts os ⟨rfl, v110, h, rfl, rfl⟩
        conv => whnf
        exact CutK.piece (spec_l1Cur_anyOrdinal_p4_ct  h) [some 0, some 128, some 192, some 73401] [] ⟨⟨rfl, rfl⟩, ⟨rfl, ⟨rfl, rfl, rfl, rfl, trivial⟩, ⟨rfl, trivial, trivial⟩, ⟨rfl, ⟨rfl, rfl⟩, trivial⟩, ⟨rfl, rfl, rows_same⟩, trivial⟩, ⟨rfl, rfl⟩, ⟨rfl, rfl⟩, trivial⟩
def spec_l1Cur_anyOrdinal_p2 (k : Nat) (o8 : Rw) (o9 : Int) (o10 : Int) (o11 : Rw) : Option (Rw × Rw × Int × Int) :=
  ((spec_l1Cur_one o8 o9 o10 20).bind fun y121 => (if y121.1 = true then (spec_l1Cur_anyOrdinal_p3 k y121.2.1 y121.2.2.1 y121.2.2.2 o11) else some (o11, y121.2.1, y121.2.2.1, y121.2.2.2)))
set_option maxHeartbeats 4000000 in
set_option maxRecDepth 100000 in
theorem spec_l1Cur_anyOrdinal_p2_ct {k : Nat} {o8 : Rw} {o9 : Int} {o10 : Int} {o11 : Rw} {r : Rw × Rw × Int × Int} (h : spec_l1Cur_anyOrdinal_p2 k o8 o9 o10 o11 = some r) : X prog 1 (tlF f69 2) (mk 59 [(0, .ptr 0 0), (2, .ptr 128 0), (3, .ptr 192 0)] [(0, .box 91 [.d (D.sl o8), .d (D.int .i64 o9), .d (D.int .u64 o10)]), (128, .box 26 [.es]), (192, .box 26 [.os 1074000 o11.length]), (1074000, .arr 104 false o11)]) (finK prog f69 1 (.agg [.os 8 r.1.length]) (⟨[(91, [.d (D.sl r.2.1), .d (D.int .i64 r.2.2.1), .d (D.int .u64 r.2.2.2)])], [(104, false, r.1)]⟩)) := by
  rw [spec_l1Cur_anyOrdinal_p2] at h
  conv => whnf
  obtain ⟨y121, e122, h⟩ := bind_ex h
  refine CallOk.of (spec_l1Cur_one_ct e122) ?_
  conv => whnf
  refine spl (fun g123 => ?_) (fun g123 => ?_)
  · replace h := iteT h g123
    conv => whnf
    refine CutK.norm [0, 2, 3, 13] [0, 128, 192, 1074000] ?_
    conv => whnf
    exact CutK.piece (spec_l1Cur_anyOrdinal_p3_ct  h) [some 0, some 128, some 192, some 1074000] [] ⟨⟨rfl, rfl⟩, ⟨rfl, ⟨rfl, rfl, rfl, rfl, trivial⟩, ⟨rfl, trivial, trivial⟩, ⟨rfl, ⟨rfl, rfl⟩, trivial⟩, ⟨rfl, rfl, rows_same⟩, trivial⟩, ⟨rfl, rfl⟩, ⟨rfl, rfl⟩, ⟨rfl, rfl⟩, trivial⟩
  · replace h := iteF h g123
    conv => whnf
    refine CutK.norm [0, 2, 3, 13] [0, 128, 192, 1074000] ?_
    conv => whnf
    cases h
    exact Done.of [some 0, some 1074000] [] rfl rfl ⟨⟨rfl, rfl⟩, ⟨rfl, ⟨rfl, rfl, rfl, rfl, trivial⟩, ⟨rfl, rfl, rows_same⟩, trivial⟩, ⟨⟨rfl, rfl⟩, trivial⟩, trivial⟩
def spec_l1Cur_anyOrdinal (k : Nat) (a1 : Rw) (a2 : Int) (a3 : Int) : Option (Rw × Rw × Int × Int) :=
  ((spec_l1Cur_among a1 a2 a3 ([[D.int .i64 0], [D.int .i64 1], [D.int .i64 2], [D.int .i64 3]] : Rw)).bind fun y124 => ((spec_l1Cur_ordinal k y124.2.1 y124.2.2.1 y124.2.2.2 y124.1).bind fun y126 => (spec_l1Cur_anyOrdinal_p2 k y126.2.1 y126.2.2.1 y126.2.2.2 y126.1)))
set_option maxHeartbeats 4000000 in
set_option maxRecDepth 100000 in
theorem spec_l1Cur_anyOrdinal_ct {k : Nat} {a1 : Rw} {a2 : Int} {a3 : Int} {r : Rw × Rw × Int × Int} (h : spec_l1Cur_anyOrdinal k a1 a2 a3 = some r) : Ct prog 69 [.ptr 0 0] (⟨[(91, [.d (D.sl a1), .d (D.int .i64 a2), .d (D.int .u64 a3)])], []⟩) (.agg [.os 8 r.1.length]) (⟨[(91, [.d (D.sl r.2.1), .d (D.int .i64 r.2.2.1), .d (D.int .u64 r.2.2.2)])], [(104, false, r.1)]⟩) := by
  rw [spec_l1Cur_anyOrdinal] at h
  refine Ct.of (c := _) mixed func69 ⟨rfl, rfl, rfl⟩ ?_ rfl
  conv => whnf
  refine Take.all (by first | rfl | exact List.length_append.symm | (simp; done) | omega) ?_
  conv => whnf
  obtain ⟨y124, e125, h⟩ := bind_ex h
  refine CallOk.of (spec_l1Cur_among_ct e125) ?_
  conv => whnf
  obtain ⟨y126, e127, h⟩ := bind_ex h
  refine CallOk.of (spec_l1Cur_ordinal_ct e127) ?_
  conv => whnf
  exact CutK.piece (spec_l1Cur_anyOrdinal_p2_ct  h) [some 0, some 128, some 192, some 640] [] ⟨⟨rfl, rfl⟩, ⟨rfl, ⟨rfl, rfl, rfl, rfl, trivial⟩, ⟨rfl, trivial, trivial⟩, ⟨rfl, ⟨rfl, rfl⟩, trivial⟩, ⟨rfl, rfl, rows_same⟩, trivial⟩, ⟨rfl, rfl⟩, ⟨rfl, rfl⟩, ⟨rfl, rfl⟩, trivial⟩

def spec_DrawFromOrdinal (k : Nat) (a1 : Rw) : Option Rw :=
  ((spec_l1Cur_anyOrdinal k a1 0 0).bind fun y2 => some y2.1)
set_option maxHeartbeats 4000000 in
set_option maxRecDepth 100000 in
theorem spec_DrawFromOrdinal_ct {k : Nat} {a1 : Rw} {r : Rw} (h : spec_DrawFromOrdinal k a1 = some r) : Ct prog 28 [.d (D.sl a1)] (⟨[], []⟩) (.agg [.os 8 r.length]) (⟨[], [(104, false, r)]⟩) := by
  rw [spec_DrawFromOrdinal] at h
  refine Ct.of (c := _) mixed func28 ⟨rfl, rfl, rfl⟩ ?_ rfl
  conv => whnf
  obtain ⟨y2, e3, h⟩ := bind_ex h
  refine CallOk.of (spec_l1Cur_anyOrdinal_ct e3) ?_
  conv => whnf
  refine CutK.go ?_
  conv => whnf
  cases h
  exact Done.of [some 512] [] rfl rfl ⟨⟨rfl, rfl⟩, ⟨rfl, ⟨rfl, rfl, rows_same⟩, trivial⟩, ⟨⟨rfl, rfl⟩, trivial⟩, trivial⟩

def laws_big  (a1 : Rw) (a2 : Rw) : Option Bool :=
  (if (1048576 : Int) < (a1.length : Int) then some true else (if (IntKind.i64.wrap (1048576 - (a1.length : Int))) < (a2.length : Int) then some true else some false))
set_option maxHeartbeats 4000000 in
set_option maxRecDepth 100000 in
theorem laws_big_ct  {a1 : Rw} {a2 : Rw} {r : Bool} (h : laws_big a1 a2 = some r) : Ct prog 11 [.d (D.sl a1), .d (D.sl a2)] (⟨[], []⟩) (.d (D.bool r)) (⟨[], []⟩) := by
  rw [laws_big] at h
  refine Ct.of (c := _) mixed func11 ⟨rfl, rfl, rfl⟩ ?_ rfl
  conv => whnf
  refine splD (fun g3 => ?_) (fun g3 => ?_)
  · replace h := iteP h g3
    conv => whnf
    cases h
    exact Done.of [] [] rfl rfl ⟨⟨rfl, rfl⟩, ⟨rfl, trivial⟩, rfl, trivial⟩
  · replace h := iteN h g3
    conv => whnf
    refine splD (fun g4 => ?_) (fun g4 => ?_)
    · replace h := iteP h g4
      conv => whnf
      cases h
      exact Done.of [] [] rfl rfl ⟨⟨rfl, rfl⟩, ⟨rfl, trivial⟩, rfl, trivial⟩
    · replace h := iteN h g4
      conv => whnf
      cases h
      exact Done.of [] [] rfl rfl ⟨⟨rfl, rfl⟩, ⟨rfl, trivial⟩, rfl, trivial⟩

def laws_FnOrdinalsAsNumbers_p18  : Option Bool :=
  some true
set_option maxHeartbeats 4000000 in
set_option maxRecDepth 100000 in
theorem laws_FnOrdinalsAsNumbers_p18_ct  {r : Bool} (h : laws_FnOrdinalsAsNumbers_p18 = some r) : X prog 0 (tlF f6 18) (mk 162 [] []) (finK prog f6 0 (.d (D.bool r)) (⟨[], []⟩)) := by
  rw [laws_FnOrdinalsAsNumbers_p18] at h
  conv => whnf
  cases h
  exact Done.of [] [] rfl rfl ⟨⟨rfl, rfl⟩, ⟨rfl, trivial⟩, rfl, trivial⟩
def laws_FnOrdinalsAsNumbers_p17 (k : Nat) (o174 : Rw) (o175 : Rw) (v176 : Bool) (v180 : Bool) : Option Bool :=
  (cond v176 (cond v180 ((impl_FromOrdinal k o174).bind fun y187 => (if y187.2 = true then ((laws_sameSurreal k y187.1 o175).bind fun y190 => (if y190 = true then some true else some false)) else some false)) (laws_FnOrdinalsAsNumbers_p18)) (cond v180 (laws_FnOrdinalsAsNumbers_p18) (laws_FnOrdinalsAsNumbers_p18)))
set_option maxHeartbeats 4000000 in
set_option maxRecDepth 100000 in
theorem laws_FnOrdinalsAsNumbers_p17_ct {k : Nat} {o174 : Rw} {o175 : Rw} {v176 : Bool} {v180 : Bool} {r : Bool} (h : laws_FnOrdinalsAsNumbers_p17 k o174 o175 v176 v180 = some r) : X prog 0 (tlF f6 17) (mk 162 [(25, .ptr 1600 0), (26, .d (D.bool v180)), (27, .ptr 1728 0), (28, .d (D.bool v176))] [(1600, .box 26 [.os 1149000 o174.length]), (1728, .box 46 [.os 1149001 o175.length]), (1149000, .arr 104 true o174), (1149001, .arr 120 true o175)]) (finK prog f6 0 (.d (D.bool r)) (⟨[], []⟩)) := by
  rw [laws_FnOrdinalsAsNumbers_p17] at h
  cases v176
  · replace h := condF h
    cases v180
    · replace h := condF h
      conv => whnf
      exact CutK.piece (laws_FnOrdinalsAsNumbers_p18_ct  h) [] [] ⟨⟨rfl, rfl⟩, ⟨rfl, trivial⟩, trivial⟩
    · replace h := condT h
      conv => whnf
      exact CutK.piece (laws_FnOrdinalsAsNumbers_p18_ct  h) [] [] ⟨⟨rfl, rfl⟩, ⟨rfl, trivial⟩, trivial⟩
  · replace h := condT h
    cases v180
    · replace h := condF h
      conv => whnf
      exact CutK.piece (laws_FnOrdinalsAsNumbers_p18_ct  h) [] [] ⟨⟨rfl, rfl⟩, ⟨rfl, trivial⟩, trivial⟩
    · replace h := condT h
      conv => whnf
      refine Take.all (rfl) ?_
      conv => whnf
      obtain ⟨y187, e188, h⟩ := bind_ex h
      refine CallOk.of (impl_FromOrdinal_ct e188) ?_
      conv => whnf
      refine spl (fun g189 => ?_) (fun g189 => ?_)
      · replace h := iteT h g189
        conv => whnf
        refine CutK.norm [27, 29, 30] [1728, 1856, 9792, 1149001] ?_
        conv => whnf
        refine Take.all (rfl) ?_
        conv => whnf
        refine Take.all (rfl) ?_
        conv => whnf
        obtain ⟨y190, e191, h⟩ := bind_ex h
        refine CallOk.of (laws_sameSurreal_ct e191) ?_
        conv => whnf
        refine spl (fun g192 => ?_) (fun g192 => ?_)
        · replace h := iteT h g192
          conv => whnf
          refine CutK.norm [4] [] ?_
          conv => whnf
          cases h
          exact Done.of [] [] rfl rfl ⟨⟨rfl, rfl⟩, ⟨rfl, trivial⟩, rfl, trivial⟩
        · replace h := iteF h g192
          conv => whnf
          refine CutK.norm [4] [] ?_
          conv => whnf
          cases h
          exact Done.of [] [] rfl rfl ⟨⟨rfl, rfl⟩, ⟨rfl, trivial⟩, rfl, trivial⟩
      · replace h := iteF h g189
        conv => whnf
        refine CutK.norm [27, 29, 30] [1728, 1856, 9792, 1149001] ?_
        conv => whnf
        refine CutK.norm [4] [] ?_
        conv => whnf
        cases h
        exact Done.of [] [] rfl rfl ⟨⟨rfl, rfl⟩, ⟨rfl, trivial⟩, rfl, trivial⟩
def laws_FnOrdinalsAsNumbers_p16 (k : Nat) (o167 : Rw) (o168 : Rw) (o169 : Rw) (v170 : Bool) : Option Bool :=
  (cond v170 ((impl_MultiplySurreals k o167 o168).bind fun y196 => (if y196.2 = true then (laws_FnOrdinalsAsNumbers_p17 k o169 y196.1 true true) else (laws_FnOrdinalsAsNumbers_p17 k o169 y196.1 false true))) ((impl_MultiplySurreals k o167 o168).bind fun y193 => (if y193.2 = true then (laws_FnOrdinalsAsNumbers_p17 k o169 y193.1 true false) else (laws_FnOrdinalsAsNumbers_p17 k o169 y193.1 false false))))
set_option maxHeartbeats 4000000 in
set_option maxRecDepth 100000 in
theorem laws_FnOrdinalsAsNumbers_p16_ct {k : Nat} {o167 : Rw} {o168 : Rw} {o169 : Rw} {v170 : Bool} {r : Bool} (h : laws_FnOrdinalsAsNumbers_p16 k o167 o168 o169 v170 = some r) : X prog 0 (tlF f6 16) (mk 162 [(7, .ptr 448 0), (11, .ptr 704 0), (25, .ptr 1600 0), (26, .d (D.bool v170))] [(448, .box 46 [.os 1144000 o167.length]), (704, .box 46 [.os 1144001 o168.length]), (1600, .box 26 [.os 1144002 o169.length]), (1144000, .arr 120 true o167), (1144001, .arr 120 true o168), (1144002, .arr 104 true o169)]) (finK prog f6 0 (.d (D.bool r)) (⟨[], []⟩)) := by
  rw [laws_FnOrdinalsAsNumbers_p16] at h
  cases v170
  · replace h := condF h
    conv => whnf
    refine Take.all (rfl) ?_
    conv => whnf
    refine Take.all (rfl) ?_
    conv => whnf
    obtain ⟨y193, e194, h⟩ := bind_ex h
    refine CallOk.of (impl_MultiplySurreals_ct e194) ?_
    conv => whnf
    refine spl (fun g195 => ?_) (fun g195 => ?_)
    · replace h := iteT h g195
      conv => whnf
      exact CutK.piece (laws_FnOrdinalsAsNumbers_p17_ct  h) [some 1600, some 1728, some 1144002, some 9216] [] ⟨⟨rfl, rfl⟩, ⟨rfl, ⟨rfl, ⟨rfl, rfl⟩, trivial⟩, ⟨rfl, ⟨rfl, rfl⟩, trivial⟩, ⟨rfl, rfl, rows_same⟩, ⟨rfl, rfl, rows_same⟩, trivial⟩, ⟨rfl, rfl⟩, rfl, ⟨rfl, rfl⟩, rfl, trivial⟩
    · replace h := iteF h g195
      conv => whnf
      exact CutK.piece (laws_FnOrdinalsAsNumbers_p17_ct  h) [some 1600, some 1728, some 1144002, some 9216] [] ⟨⟨rfl, rfl⟩, ⟨rfl, ⟨rfl, ⟨rfl, rfl⟩, trivial⟩, ⟨rfl, ⟨rfl, rfl⟩, trivial⟩, ⟨rfl, rfl, rows_same⟩, ⟨rfl, rfl, rows_same⟩, trivial⟩, ⟨rfl, rfl⟩, rfl, ⟨rfl, rfl⟩, rfl, trivial⟩
  · replace h := condT h
    conv => whnf
    refine Take.all (rfl) ?_
    conv => whnf
    refine Take.all (rfl) ?_
    conv => whnf
    obtain ⟨y196, e197, h⟩ := bind_ex h
    refine CallOk.of (impl_MultiplySurreals_ct e197) ?_
    conv => whnf
    refine spl (fun g198 => ?_) (fun g198 => ?_)
    · replace h := iteT h g198
      conv => whnf
      exact CutK.piece (laws_FnOrdinalsAsNumbers_p17_ct  h) [some 1600, some 1728, some 1144002, some 9216] [] ⟨⟨rfl, rfl⟩, ⟨rfl, ⟨rfl, ⟨rfl, rfl⟩, trivial⟩, ⟨rfl, ⟨rfl, rfl⟩, trivial⟩, ⟨rfl, rfl, rows_same⟩, ⟨rfl, rfl, rows_same⟩, trivial⟩, ⟨rfl, rfl⟩, rfl, ⟨rfl, rfl⟩, rfl, trivial⟩
    · replace h := iteF h g198
      conv => whnf
      exact CutK.piece (laws_FnOrdinalsAsNumbers_p17_ct  h) [some 1600, some 1728, some 1144002, some 9216] [] ⟨⟨rfl, rfl⟩, ⟨rfl, ⟨rfl, ⟨rfl, rfl⟩, trivial⟩, ⟨rfl, ⟨rfl, rfl⟩, trivial⟩, ⟨rfl, rfl, rows_same⟩, ⟨rfl, rfl, rows_same⟩, trivial⟩, ⟨rfl, rfl⟩, rfl, ⟨rfl, rfl⟩, rfl, trivial⟩
def laws_FnOrdinalsAsNumbers_p15 (k : Nat) (o154 : Rw) (o155 : Rw) (o156 : Rw) (o157 : Rw) : Option Bool :=
  ((impl_NaturalProduct k o154 o155).bind fun y199 => (if y199.2 = true then (laws_FnOrdinalsAsNumbers_p16 k o156 o157 y199.1 true) else (laws_FnOrdinalsAsNumbers_p16 k o156 o157 y199.1 false)))
set_option maxHeartbeats 4000000 in
set_option maxRecDepth 100000 in
theorem laws_FnOrdinalsAsNumbers_p15_ct {k : Nat} {o154 : Rw} {o155 : Rw} {o156 : Rw} {o157 : Rw} {r : Bool} (h : laws_FnOrdinalsAsNumbers_p15 k o154 o155 o156 o157 = some r) : X prog 0 (tlF f6 15) (mk 162 [(5, .ptr 320 0), (6, .ptr 384 0), (7, .ptr 448 0), (11, .ptr 704 0)] [(320, .box 26 [.os 1139000 o154.length]), (384, .box 26 [.os 1139001 o155.length]), (448, .box 46 [.os 1139002 o156.length]), (704, .box 46 [.os 1139003 o157.length]), (1139000, .arr 104 false o154), (1139001, .arr 104 false o155), (1139002, .arr 120 true o156), (1139003, .arr 120 true o157)]) (finK prog f6 0 (.d (D.bool r)) (⟨[], []⟩)) := by
  rw [laws_FnOrdinalsAsNumbers_p15] at h
  conv => whnf
  refine Take.all (rfl) ?_
  conv => whnf
  refine Take.all (rfl) ?_
  conv => whnf
  obtain ⟨y199, e200, h⟩ := bind_ex h
  refine CallOk.of (impl_NaturalProduct_ct e200) ?_
  conv => whnf
  refine spl (fun g201 => ?_) (fun g201 => ?_)
  · replace h := iteT h g201
    conv => whnf
    exact CutK.piece (laws_FnOrdinalsAsNumbers_p16_ct  h) [some 448, some 704, some 1600, some 1139002, some 1139003, some 8832] [] ⟨⟨rfl, rfl⟩, ⟨rfl, ⟨rfl, ⟨rfl, rfl⟩, trivial⟩, ⟨rfl, ⟨rfl, rfl⟩, trivial⟩, ⟨rfl, ⟨rfl, rfl⟩, trivial⟩, ⟨rfl, rfl, rows_same⟩, ⟨rfl, rfl, rows_same⟩, ⟨rfl, rfl, rows_same⟩, trivial⟩, ⟨rfl, rfl⟩, ⟨rfl, rfl⟩, ⟨rfl, rfl⟩, rfl, trivial⟩
  · replace h := iteF h g201
    conv => whnf
    exact CutK.piece (laws_FnOrdinalsAsNumbers_p16_ct  h) [some 448, some 704, some 1600, some 1139002, some 1139003, some 8832] [] ⟨⟨rfl, rfl⟩, ⟨rfl, ⟨rfl, ⟨rfl, rfl⟩, trivial⟩, ⟨rfl, ⟨rfl, rfl⟩, trivial⟩, ⟨rfl, ⟨rfl, rfl⟩, trivial⟩, ⟨rfl, rfl, rows_same⟩, ⟨rfl, rfl, rows_same⟩, ⟨rfl, rfl, rows_same⟩, trivial⟩, ⟨rfl, rfl⟩, ⟨rfl, rfl⟩, ⟨rfl, rfl⟩, rfl, trivial⟩
def laws_FnOrdinalsAsNumbers_p14 (k : Nat) (o143 : Rw) (o144 : Rw) (o145 : Rw) (o146 : Rw) (o147 : Rw) (o148 : Rw) (v149 : Bool) (v153 : Bool) : Option Bool :=
  (cond v149 (cond v153 ((impl_FromOrdinal k o147).bind fun y202 => (if y202.2 = true then ((laws_sameSurreal k y202.1 o148).bind fun y205 => (if y205 = true then (laws_FnOrdinalsAsNumbers_p15 k o143 o144 o145 o146) else some false)) else some false)) (laws_FnOrdinalsAsNumbers_p15 k o143 o144 o145 o146)) (cond v153 (laws_FnOrdinalsAsNumbers_p15 k o143 o144 o145 o146) (laws_FnOrdinalsAsNumbers_p15 k o143 o144 o145 o146)))
set_option maxHeartbeats 4000000 in
set_option maxRecDepth 100000 in
theorem laws_FnOrdinalsAsNumbers_p14_ct {k : Nat} {o143 : Rw} {o144 : Rw} {o145 : Rw} {o146 : Rw} {o147 : Rw} {o148 : Rw} {v149 : Bool} {v153 : Bool} {r : Bool} (h : laws_FnOrdinalsAsNumbers_p14 k o143 o144 o145 o146 o147 o148 v149 v153 = some r) : X prog 0 (tlF f6 14) (mk 162 [(5, .ptr 320 0), (6, .ptr 384 0), (7, .ptr 448 0), (11, .ptr 704 0), (19, .ptr 1216 0), (20, .d (D.bool v153)), (21, .ptr 1344 0), (22, .d (D.bool v149))] [(320, .box 26 [.os 1134000 o143.length]), (384, .box 26 [.os 1134001 o144.length]), (448, .box 46 [.os 1134002 o145.length]), (704, .box 46 [.os 1134003 o146.length]), (1216, .box 26 [.os 1134004 o147.length]), (1344, .box 46 [.os 1134005 o148.length]), (1134000, .arr 104 false o143), (1134001, .arr 104 false o144), (1134002, .arr 120 true o145), (1134003, .arr 120 true o146), (1134004, .arr 104 true o147), (1134005, .arr 120 true o148)]) (finK prog f6 0 (.d (D.bool r)) (⟨[], []⟩)) := by
  rw [laws_FnOrdinalsAsNumbers_p14] at h
  cases v149
  · replace h := condF h
    cases v153
    · replace h := condF h
      conv => whnf
      exact CutK.piece (laws_FnOrdinalsAsNumbers_p15_ct  h) [some 320, some 384, some 448, some 704, some 1134000, some 1134001, some 1134002, some 1134003] [] ⟨⟨rfl, rfl⟩, ⟨rfl, ⟨rfl, ⟨rfl, rfl⟩, trivial⟩, ⟨rfl, ⟨rfl, rfl⟩, trivial⟩, ⟨rfl, ⟨rfl, rfl⟩, trivial⟩, ⟨rfl, ⟨rfl, rfl⟩, trivial⟩, ⟨rfl, rfl, rows_same⟩, ⟨rfl, rfl, rows_same⟩, ⟨rfl, rfl, rows_same⟩, ⟨rfl, rfl, rows_same⟩, trivial⟩, ⟨rfl, rfl⟩, ⟨rfl, rfl⟩, ⟨rfl, rfl⟩, ⟨rfl, rfl⟩, trivial⟩
    · replace h := condT h
      conv => whnf
      exact CutK.piece (laws_FnOrdinalsAsNumbers_p15_ct  h) [some 320, some 384, some 448, some 704, some 1134000, some 1134001, some 1134002, some 1134003] [] ⟨⟨rfl, rfl⟩, ⟨rfl, ⟨rfl, ⟨rfl, rfl⟩, trivial⟩, ⟨rfl, ⟨rfl, rfl⟩, trivial⟩, ⟨rfl, ⟨rfl, rfl⟩, trivial⟩, ⟨rfl, ⟨rfl, rfl⟩, trivial⟩, ⟨rfl, rfl, rows_same⟩, ⟨rfl, rfl, rows_same⟩, ⟨rfl, rfl, rows_same⟩, ⟨rfl, rfl, rows_same⟩, trivial⟩, ⟨rfl, rfl⟩, ⟨rfl, rfl⟩, ⟨rfl, rfl⟩, ⟨rfl, rfl⟩, trivial⟩
  · replace h := condT h
    cases v153
    · replace h := condF h
      conv => whnf
      exact CutK.piece (laws_FnOrdinalsAsNumbers_p15_ct  h) [some 320, some 384, some 448, some 704, some 1134000, some 1134001, some 1134002, some 1134003] [] ⟨⟨rfl, rfl⟩, ⟨rfl, ⟨rfl, ⟨rfl, rfl⟩, trivial⟩, ⟨rfl, ⟨rfl, rfl⟩, trivial⟩, ⟨rfl, ⟨rfl, rfl⟩, trivial⟩, ⟨rfl, ⟨rfl, rfl⟩, trivial⟩, ⟨rfl, rfl, rows_same⟩, ⟨rfl, rfl, rows_same⟩, ⟨rfl, rfl, rows_same⟩, ⟨rfl, rfl, rows_same⟩, trivial⟩, ⟨rfl, rfl⟩, ⟨rfl, rfl⟩, ⟨rfl, rfl⟩, ⟨rfl, rfl⟩, trivial⟩
    · replace h := condT h
      conv => whnf
      refine Take.all (rfl) ?_
      conv => whnf
      obtain ⟨y202, e203, h⟩ := bind_ex h
      refine CallOk.of (impl_FromOrdinal_ct e203) ?_
      conv => whnf
      refine spl (fun g204 => ?_) (fun g204 => ?_)
      · replace h := iteT h g204
        conv => whnf
        refine CutK.norm [5, 6, 7, 11, 21, 23, 24] [320, 384, 448, 704, 1344, 1472, 7936, 1134000, 1134001, 1134002, 1134003, 1134005] ?_
        conv => whnf
        refine Take.all (rfl) ?_
        conv => whnf
        refine Take.all (rfl) ?_
        conv => whnf
        obtain ⟨y205, e206, h⟩ := bind_ex h
        refine CallOk.of (laws_sameSurreal_ct e206) ?_
        conv => whnf
        refine spl (fun g207 => ?_) (fun g207 => ?_)
        · replace h := iteT h g207
          conv => whnf
          refine CutK.norm [5, 6, 7, 11, 134] [320, 384, 448, 704, 1134000, 1134001, 1134002, 1134003] ?_
          conv => whnf
          exact CutK.piece (laws_FnOrdinalsAsNumbers_p15_ct  h) [some 320, some 384, some 448, some 704, some 1134000, some 1134001, some 1134002, some 1134003] [] ⟨⟨rfl, rfl⟩, ⟨rfl, ⟨rfl, ⟨rfl, rfl⟩, trivial⟩, ⟨rfl, ⟨rfl, rfl⟩, trivial⟩, ⟨rfl, ⟨rfl, rfl⟩, trivial⟩, ⟨rfl, ⟨rfl, rfl⟩, trivial⟩, ⟨rfl, rfl, rows_same⟩, ⟨rfl, rfl, rows_same⟩, ⟨rfl, rfl, rows_same⟩, ⟨rfl, rfl, rows_same⟩, trivial⟩, ⟨rfl, rfl⟩, ⟨rfl, rfl⟩, ⟨rfl, rfl⟩, ⟨rfl, rfl⟩, trivial⟩
        · replace h := iteF h g207
          conv => whnf
          refine CutK.norm [5, 6, 7, 11, 134] [320, 384, 448, 704, 1134000, 1134001, 1134002, 1134003] ?_
          conv => whnf
          cases h
          exact Done.of [] [] rfl rfl ⟨⟨rfl, rfl⟩, ⟨rfl, trivial⟩, rfl, trivial⟩
      · replace h := iteF h g204
        conv => whnf
        refine CutK.norm [5, 6, 7, 11, 21, 23, 24] [320, 384, 448, 704, 1344, 1472, 7936, 1134000, 1134001, 1134002, 1134003, 1134005] ?_
        conv => whnf
        refine CutK.norm [5, 6, 7, 11, 134] [320, 384, 448, 704, 1134000, 1134001, 1134002, 1134003] ?_
        conv => whnf
        cases h
        exact Done.of [] [] rfl rfl ⟨⟨rfl, rfl⟩, ⟨rfl, trivial⟩, rfl, trivial⟩
def laws_FnOrdinalsAsNumbers_p13 (k : Nat) (o134 : Rw) (o135 : Rw) (o136 : Rw) (o137 : Rw) (o138 : Rw) (v139 : Bool) : Option Bool :=
  (cond v139 ((impl_AddSurreals k o136 o137).bind fun y211 => (if y211.2 = true then (laws_FnOrdinalsAsNumbers_p14 k o134 o135 o136 o137 o138 y211.1 true true) else (laws_FnOrdinalsAsNumbers_p14 k o134 o135 o136 o137 o138 y211.1 false true))) ((impl_AddSurreals k o136 o137).bind fun y208 => (if y208.2 = true then (laws_FnOrdinalsAsNumbers_p14 k o134 o135 o136 o137 o138 y208.1 true false) else (laws_FnOrdinalsAsNumbers_p14 k o134 o135 o136 o137 o138 y208.1 false false))))
set_option maxHeartbeats 4000000 in
set_option maxRecDepth 100000 in
theorem laws_FnOrdinalsAsNumbers_p13_ct {k : Nat} {o134 : Rw} {o135 : Rw} {o136 : Rw} {o137 : Rw} {o138 : Rw} {v139 : Bool} {r : Bool} (h : laws_FnOrdinalsAsNumbers_p13 k o134 o135 o136 o137 o138 v139 = some r) : X prog 0 (tlF f6 13) (mk 162 [(5, .ptr 320 0), (6, .ptr 384 0), (7, .ptr 448 0), (11, .ptr 704 0), (19, .ptr 1216 0), (20, .d (D.bool v139))] [(320, .box 26 [.os 1129000 o134.length]), (384, .box 26 [.os 1129001 o135.length]), (448, .box 46 [.os 1129002 o136.length]), (704, .box 46 [.os 1129003 o137.length]), (1216, .box 26 [.os 1129004 o138.length]), (1129000, .arr 104 false o134), (1129001, .arr 104 false o135), (1129002, .arr 120 true o136), (1129003, .arr 120 true o137), (1129004, .arr 104 true o138)]) (finK prog f6 0 (.d (D.bool r)) (⟨[], []⟩)) := by
  rw [laws_FnOrdinalsAsNumbers_p13] at h
  cases v139
  · replace h := condF h
    conv => whnf
    refine Take.all (rfl) ?_
    conv => whnf
    refine Take.all (rfl) ?_
    conv => whnf
    obtain ⟨y208, e209, h⟩ := bind_ex h
    refine CallOk.of (impl_AddSurreals_ct e209) ?_
    conv => whnf
    refine spl (fun g210 => ?_) (fun g210 => ?_)
    · replace h := iteT h g210
      conv => whnf
      exact CutK.piece (laws_FnOrdinalsAsNumbers_p14_ct  h) [some 320, some 384, some 448, some 704, some 1216, some 1344, some 1129000, some 1129001, some 1129002, some 1129003, some 1129004, some 7360] [] ⟨⟨rfl, rfl⟩, ⟨rfl, ⟨rfl, ⟨rfl, rfl⟩, trivial⟩, ⟨rfl, ⟨rfl, rfl⟩, trivial⟩, ⟨rfl, ⟨rfl, rfl⟩, trivial⟩, ⟨rfl, ⟨rfl, rfl⟩, trivial⟩, ⟨rfl, ⟨rfl, rfl⟩, trivial⟩, ⟨rfl, ⟨rfl, rfl⟩, trivial⟩, ⟨rfl, rfl, rows_same⟩, ⟨rfl, rfl, rows_same⟩, ⟨rfl, rfl, rows_same⟩, ⟨rfl, rfl, rows_same⟩, ⟨rfl, rfl, rows_same⟩, ⟨rfl, rfl, rows_same⟩, trivial⟩, ⟨rfl, rfl⟩, ⟨rfl, rfl⟩, ⟨rfl, rfl⟩, ⟨rfl, rfl⟩, ⟨rfl, rfl⟩, rfl, ⟨rfl, rfl⟩, rfl, trivial⟩
    · replace h := iteF h g210
      conv => whnf
      exact CutK.piece (laws_FnOrdinalsAsNumbers_p14_ct  h) [some 320, some 384, some 448, some 704, some 1216, some 1344, some 1129000, some 1129001, some 1129002, some 1129003, some 1129004, some 7360] [] ⟨⟨rfl, rfl⟩, ⟨rfl, ⟨rfl, ⟨rfl, rfl⟩, trivial⟩, ⟨rfl, ⟨rfl, rfl⟩, trivial⟩, ⟨rfl, ⟨rfl, rfl⟩, trivial⟩, ⟨rfl, ⟨rfl, rfl⟩, trivial⟩, ⟨rfl, ⟨rfl, rfl⟩, trivial⟩, ⟨rfl, ⟨rfl, rfl⟩, trivial⟩, ⟨rfl, rfl, rows_same⟩, ⟨rfl, rfl, rows_same⟩, ⟨rfl, rfl, rows_same⟩, ⟨rfl, rfl, rows_same⟩, ⟨rfl, rfl, rows_same⟩, ⟨rfl, rfl, rows_same⟩, trivial⟩, ⟨rfl, rfl⟩, ⟨rfl, rfl⟩, ⟨rfl, rfl⟩, ⟨rfl, rfl⟩, ⟨rfl, rfl⟩, rfl, ⟨rfl, rfl⟩, rfl, trivial⟩
  · replace h := condT h
    conv => whnf
    refine Take.all (rfl) ?_
    conv => whnf
    refine Take.all (rfl) ?_
    conv => whnf
    obtain ⟨y211, e212, h⟩ := bind_ex h
    refine CallOk.of (impl_AddSurreals_ct e212) ?_
    conv => whnf
    refine spl (fun g213 => ?_) (fun g213 => ?_)
    · replace h := iteT h g213
      conv => whnf
      exact CutK.piece (laws_FnOrdinalsAsNumbers_p14_ct  h) [some 320, some 384, some 448, some 704, some 1216, some 1344, some 1129000, some 1129001, some 1129002, some 1129003, some 1129004, some 7360] [] ⟨⟨rfl, rfl⟩, ⟨rfl, ⟨rfl, ⟨rfl, rfl⟩, trivial⟩, ⟨rfl, ⟨rfl, rfl⟩, trivial⟩, ⟨rfl, ⟨rfl, rfl⟩, trivial⟩, ⟨rfl, ⟨rfl, rfl⟩, trivial⟩, ⟨rfl, ⟨rfl, rfl⟩, trivial⟩, ⟨rfl, ⟨rfl, rfl⟩, trivial⟩, ⟨rfl, rfl, rows_same⟩, ⟨rfl, rfl, rows_same⟩, ⟨rfl, rfl, rows_same⟩, ⟨rfl, rfl, rows_same⟩, ⟨rfl, rfl, rows_same⟩, ⟨rfl, rfl, rows_same⟩, trivial⟩, ⟨rfl, rfl⟩, ⟨rfl, rfl⟩, ⟨rfl, rfl⟩, ⟨rfl, rfl⟩, ⟨rfl, rfl⟩, rfl, ⟨rfl, rfl⟩, rfl, trivial⟩
    · replace h := iteF h g213
      conv => whnf
      exact CutK.piece (laws_FnOrdinalsAsNumbers_p14_ct  h) [some 320, some 384, some 448, some 704, some 1216, some 1344, some 1129000, some 1129001, some 1129002, some 1129003, some 1129004, some 7360] [] ⟨⟨rfl, rfl⟩, ⟨rfl, ⟨rfl, ⟨rfl, rfl⟩, trivial⟩, ⟨rfl, ⟨rfl, rfl⟩, trivial⟩, ⟨rfl, ⟨rfl, rfl⟩, trivial⟩, ⟨rfl, ⟨rfl, rfl⟩, trivial⟩, ⟨rfl, ⟨rfl, rfl⟩, trivial⟩, ⟨rfl, ⟨rfl, rfl⟩, trivial⟩, ⟨rfl, rfl, rows_same⟩, ⟨rfl, rfl, rows_same⟩, ⟨rfl, rfl, rows_same⟩, ⟨rfl, rfl, rows_same⟩, ⟨rfl, rfl, rows_same⟩, ⟨rfl, rfl, rows_same⟩, trivial⟩, ⟨rfl, rfl⟩, ⟨rfl, rfl⟩, ⟨rfl, rfl⟩, ⟨rfl, rfl⟩, ⟨rfl, rfl⟩, rfl, ⟨rfl, rfl⟩, rfl, trivial⟩
def laws_FnOrdinalsAsNumbers_p12 (k : Nat) (o127 : Rw) (o128 : Rw) (o129 : Rw) (o130 : Rw) : Option Bool :=
  ((impl_NaturalSum k o127 o128).bind fun y214 => (if y214.2 = true then (laws_FnOrdinalsAsNumbers_p13 k o127 o128 o129 o130 y214.1 true) else (laws_FnOrdinalsAsNumbers_p13 k o127 o128 o129 o130 y214.1 false)))
set_option maxHeartbeats 4000000 in
set_option maxRecDepth 100000 in
theorem laws_FnOrdinalsAsNumbers_p12_ct {k : Nat} {o127 : Rw} {o128 : Rw} {o129 : Rw} {o130 : Rw} {r : Bool} (h : laws_FnOrdinalsAsNumbers_p12 k o127 o128 o129 o130 = some r) : X prog 0 (tlF f6 12) (mk 162 [(5, .ptr 320 0), (6, .ptr 384 0), (7, .ptr 448 0), (11, .ptr 704 0)] [(320, .box 26 [.os 1124000 o127.length]), (384, .box 26 [.os 1124001 o128.length]), (448, .box 46 [.os 1124002 o129.length]), (704, .box 46 [.os 1124003 o130.length]), (1124000, .arr 104 false o127), (1124001, .arr 104 false o128), (1124002, .arr 120 true o129), (1124003, .arr 120 true o130)]) (finK prog f6 0 (.d (D.bool r)) (⟨[], []⟩)) := by
  rw [laws_FnOrdinalsAsNumbers_p12] at h
  conv => whnf
  refine Take.all (rfl) ?_
  conv => whnf
  refine Take.all (rfl) ?_
  conv => whnf
  obtain ⟨y214, e215, h⟩ := bind_ex h
  refine CallOk.of (impl_NaturalSum_ct e215) ?_
  conv => whnf
  refine spl (fun g216 => ?_) (fun g216 => ?_)
  · replace h := iteT h g216
    conv => whnf
    exact CutK.piece (laws_FnOrdinalsAsNumbers_p13_ct  h) [some 320, some 384, some 448, some 704, some 1216, some 1124000, some 1124001, some 1124002, some 1124003, some 6976] [] ⟨⟨rfl, rfl⟩, ⟨rfl, ⟨rfl, ⟨rfl, rfl⟩, trivial⟩, ⟨rfl, ⟨rfl, rfl⟩, trivial⟩, ⟨rfl, ⟨rfl, rfl⟩, trivial⟩, ⟨rfl, ⟨rfl, rfl⟩, trivial⟩, ⟨rfl, ⟨rfl, rfl⟩, trivial⟩, ⟨rfl, rfl, rows_same⟩, ⟨rfl, rfl, rows_same⟩, ⟨rfl, rfl, rows_same⟩, ⟨rfl, rfl, rows_same⟩, ⟨rfl, rfl, rows_same⟩, trivial⟩, ⟨rfl, rfl⟩, ⟨rfl, rfl⟩, ⟨rfl, rfl⟩, ⟨rfl, rfl⟩, ⟨rfl, rfl⟩, rfl, trivial⟩
  · replace h := iteF h g216
    conv => whnf
    exact CutK.piece (laws_FnOrdinalsAsNumbers_p13_ct  h) [some 320, some 384, some 448, some 704, some 1216, some 1124000, some 1124001, some 1124002, some 1124003, some 6976] [] ⟨⟨rfl, rfl⟩, ⟨rfl, ⟨rfl, ⟨rfl, rfl⟩, trivial⟩, ⟨rfl, ⟨rfl, rfl⟩, trivial⟩, ⟨rfl, ⟨rfl, rfl⟩, trivial⟩, ⟨rfl, ⟨rfl, rfl⟩, trivial⟩, ⟨rfl, ⟨rfl, rfl⟩, trivial⟩, ⟨rfl, rfl, rows_same⟩, ⟨rfl, rfl, rows_same⟩, ⟨rfl, rfl, rows_same⟩, ⟨rfl, rfl, rows_same⟩, ⟨rfl, rfl, rows_same⟩, trivial⟩, ⟨rfl, rfl⟩, ⟨rfl, rfl⟩, ⟨rfl, rfl⟩, ⟨rfl, rfl⟩, ⟨rfl, rfl⟩, rfl, trivial⟩
def laws_FnOrdinalsAsNumbers_p11 (k : Nat) (o95 : Int) (o96 : Int) (o97 : Rw) (o98 : Rw) (o99 : Rw) (o100 : Rw) (o101 : Rw) (v102 : Bool) (v106 : Bool) (v110 : Bool) : Option Bool :=
  (cond v102 (cond v106 (cond v110 ((laws_sameOrdinal k o101 o97).bind fun y226 => (if y226 = true then (if o95 = o96 then (laws_FnOrdinalsAsNumbers_p12 k o97 o98 o99 o100) else some false) else some false)) ((laws_sameOrdinal k o101 o97).bind fun y223 => (if y223 = true then some false else some false))) (cond v110 (some false) (some false))) (cond v106 (cond v110 ((laws_sameOrdinal k o101 o97).bind fun y220 => (if y220 = true then some false else some false)) ((laws_sameOrdinal k o101 o97).bind fun y217 => (if y217 = true then some false else some false))) (cond v110 (some false) (some false))))
set_option maxHeartbeats 4000000 in
set_option maxRecDepth 100000 in
theorem laws_FnOrdinalsAsNumbers_p11_ct {k : Nat} {o95 : Int} {o96 : Int} {o97 : Rw} {o98 : Rw} {o99 : Rw} {o100 : Rw} {o101 : Rw} {v102 : Bool} {v106 : Bool} {v110 : Bool} {r : Bool} (h : laws_FnOrdinalsAsNumbers_p11 k o95 o96 o97 o98 o99 o100 o101 v102 v106 v110 = some r) : X prog 0 (tlF f6 11) (mk 162 [(5, .ptr 320 0), (6, .ptr 384 0), (7, .ptr 448 0), (11, .ptr 704 0), (13, .ptr 832 0), (14, .d (D.bool v106)), (15, .d (D.int .i64 o95)), (16, .d (D.bool v110)), (17, .d (D.int .i64 o96)), (18, .d (D.bool v102))] [(320, .box 26 [.os 1119000 o97.length]), (384, .box 26 [.os 1119001 o98.length]), (448, .box 46 [.os 1119002 o99.length]), (704, .box 46 [.os 1119003 o100.length]), (832, .box 26 [.os 1119004 o101.length]), (1119000, .arr 104 false o97), (1119001, .arr 104 false o98), (1119002, .arr 120 true o99), (1119003, .arr 120 true o100), (1119004, .arr 104 true o101)]) (finK prog f6 0 (.d (D.bool r)) (⟨[], []⟩)) := by
  rw [laws_FnOrdinalsAsNumbers_p11] at h
  cases v102
  · replace h := condF h
    cases v106
    · replace h := condF h
      cases v110
      · replace h := condF h
        conv => whnf
        refine CutK.norm [5, 6, 7, 11, 105] [320, 384, 448, 704, 1119000, 1119001, 1119002, 1119003] ?_
        conv => whnf
        cases h
        exact Done.of [] [] rfl rfl ⟨⟨rfl, rfl⟩, ⟨rfl, trivial⟩, rfl, trivial⟩
      · replace h := condT h
        conv => whnf
        refine CutK.norm [5, 6, 7, 11, 105] [320, 384, 448, 704, 1119000, 1119001, 1119002, 1119003] ?_
        conv => whnf
        cases h
        exact Done.of [] [] rfl rfl ⟨⟨rfl, rfl⟩, ⟨rfl, trivial⟩, rfl, trivial⟩
    · replace h := condT h
      cases v110
      · replace h := condF h
        conv => whnf
        refine Take.all (rfl) ?_
        conv => whnf
        refine Take.all (rfl) ?_
        conv => whnf
        obtain ⟨y217, e218, h⟩ := bind_ex h
        refine CallOk.of (laws_sameOrdinal_ct e218) ?_
        conv => whnf
        refine spl (fun g219 => ?_) (fun g219 => ?_)
        · replace h := iteT h g219
          conv => whnf
          refine CutK.norm [5, 6, 7, 11, 105] [320, 384, 448, 704, 1119000, 1119001, 1119002, 1119003] ?_
          conv => whnf
          cases h
          exact Done.of [] [] rfl rfl ⟨⟨rfl, rfl⟩, ⟨rfl, trivial⟩, rfl, trivial⟩
        · replace h := iteF h g219
          conv => whnf
          refine CutK.norm [5, 6, 7, 11, 105] [320, 384, 448, 704, 1119000, 1119001, 1119002, 1119003] ?_
          conv => whnf
          cases h
          exact Done.of [] [] rfl rfl ⟨⟨rfl, rfl⟩, ⟨rfl, trivial⟩, rfl, trivial⟩
      · replace h := condT h
        conv => whnf
        refine Take.all (rfl) ?_
        conv => whnf
        refine Take.all (rfl) ?_
        conv => whnf
        obtain ⟨y220, e221, h⟩ := bind_ex h
        refine CallOk.of (laws_sameOrdinal_ct e221) ?_
        conv => whnf
        refine spl (fun g222 => ?_) (fun g222 => ?_)
        · replace h := iteT h g222
          conv => whnf
          refine CutK.norm [5, 6, 7, 11, 105] [320, 384, 448, 704, 1119000, 1119001, 1119002, 1119003] ?_
          conv => whnf
          cases h
          exact Done.of [] [] rfl rfl ⟨⟨rfl, rfl⟩, ⟨rfl, trivial⟩, rfl, trivial⟩
        · replace h := iteF h g222
          conv => whnf
          refine CutK.norm [5, 6, 7, 11, 105] [320, 384, 448, 704, 1119000, 1119001, 1119002, 1119003] ?_
          conv => whnf
          cases h
          exact Done.of [] [] rfl rfl ⟨⟨rfl, rfl⟩, ⟨rfl, trivial⟩, rfl, trivial⟩
  · replace h := condT h
    cases v106
    · replace h := condF h
      cases v110
      · replace h := condF h
        conv => whnf
        refine CutK.norm [5, 6, 7, 11, 105] [320, 384, 448, 704, 1119000, 1119001, 1119002, 1119003] ?_
        conv => whnf
        cases h
        exact Done.of [] [] rfl rfl ⟨⟨rfl, rfl⟩, ⟨rfl, trivial⟩, rfl, trivial⟩
      · replace h := condT h
        conv => whnf
        refine CutK.norm [5, 6, 7, 11, 105] [320, 384, 448, 704, 1119000, 1119001, 1119002, 1119003] ?_
        conv => whnf
        cases h
        exact Done.of [] [] rfl rfl ⟨⟨rfl, rfl⟩, ⟨rfl, trivial⟩, rfl, trivial⟩
    · replace h := condT h
      cases v110
      · replace h := condF h
        conv => whnf
        refine Take.all (rfl) ?_
        conv => whnf
        refine Take.all (rfl) ?_
        conv => whnf
        obtain ⟨y223, e224, h⟩ := bind_ex h
        refine CallOk.of (laws_sameOrdinal_ct e224) ?_
        conv => whnf
        refine spl (fun g225 => ?_) (fun g225 => ?_)
        · replace h := iteT h g225
          conv => whnf
          refine CutK.norm [5, 6, 7, 11, 105] [320, 384, 448, 704, 1119000, 1119001, 1119002, 1119003] ?_
          conv => whnf
          cases h
          exact Done.of [] [] rfl rfl ⟨⟨rfl, rfl⟩, ⟨rfl, trivial⟩, rfl, trivial⟩
        · replace h := iteF h g225
          conv => whnf
          refine CutK.norm [5, 6, 7, 11, 105] [320, 384, 448, 704, 1119000, 1119001, 1119002, 1119003] ?_
          conv => whnf
          cases h
          exact Done.of [] [] rfl rfl ⟨⟨rfl, rfl⟩, ⟨rfl, trivial⟩, rfl, trivial⟩
      · replace h := condT h
        conv => whnf
        refine Take.all (rfl) ?_
        conv => whnf
        refine Take.all (rfl) ?_
        conv => whnf
        obtain ⟨y226, e227, h⟩ := bind_ex h
        refine CallOk.of (laws_sameOrdinal_ct e227) ?_
        conv => whnf
        refine spl (fun g228 => ?_) (fun g228 => ?_)
        · replace h := iteT h g228
          conv => whnf
          refine splN (fun g229 => ?_) (fun g229 => ?_)
          · replace h := iteN h g229
            conv => whnf
            refine CutK.norm [5, 6, 7, 11, 105] [320, 384, 448, 704, 1119000, 1119001, 1119002, 1119003] ?_
            conv => whnf
            cases h
            exact Done.of [] [] rfl rfl ⟨⟨rfl, rfl⟩, ⟨rfl, trivial⟩, rfl, trivial⟩
          · replace h := iteP h g229
            conv => whnf
            refine CutK.norm [5, 6, 7, 11, 105] [320, 384, 448, 704, 1119000, 1119001, 1119002, 1119003] ?_
            conv => whnf
            exact CutK.piece (laws_FnOrdinalsAsNumbers_p12_ct  h) [some 320, some 384, some 448, some 704, some 1119000, some 1119001, some 1119002, some 1119003] [] ⟨⟨rfl, rfl⟩, ⟨rfl, ⟨rfl, ⟨rfl, rfl⟩, trivial⟩, ⟨rfl, ⟨rfl, rfl⟩, trivial⟩, ⟨rfl, ⟨rfl, rfl⟩, trivial⟩, ⟨rfl, ⟨rfl, rfl⟩, trivial⟩, ⟨rfl, rfl, rows_same⟩, ⟨rfl, rfl, rows_same⟩, ⟨rfl, rfl, rows_same⟩, ⟨rfl, rfl, rows_same⟩, trivial⟩, ⟨rfl, rfl⟩, ⟨rfl, rfl⟩, ⟨rfl, rfl⟩, ⟨rfl, rfl⟩, trivial⟩
        · replace h := iteF h g228
          conv => whnf
          refine CutK.norm [5, 6, 7, 11, 105] [320, 384, 448, 704, 1119000, 1119001, 1119002, 1119003] ?_
          conv => whnf
          cases h
          exact Done.of [] [] rfl rfl ⟨⟨rfl, rfl⟩, ⟨rfl, trivial⟩, rfl, trivial⟩
def laws_FnOrdinalsAsNumbers_p10 (k : Nat) (o81 : Int) (o82 : Rw) (o83 : Rw) (o84 : Rw) (o85 : Rw) (o86 : Rw) (v87 : Bool) (v91 : Bool) : Option Bool :=
  (cond v87 (cond v91 ((impl_CompareSurreals k o84 o85).bind fun y239 => (if y239.2 = true then (laws_FnOrdinalsAsNumbers_p11 k o81 y239.1 o82 o83 o84 o85 o86 true true true) else (laws_FnOrdinalsAsNumbers_p11 k o81 y239.1 o82 o83 o84 o85 o86 false true true))) ((impl_CompareSurreals k o84 o85).bind fun y236 => (if y236.2 = true then (laws_FnOrdinalsAsNumbers_p11 k o81 y236.1 o82 o83 o84 o85 o86 true false true) else (laws_FnOrdinalsAsNumbers_p11 k o81 y236.1 o82 o83 o84 o85 o86 false false true)))) (cond v91 ((impl_CompareSurreals k o84 o85).bind fun y233 => (if y233.2 = true then (laws_FnOrdinalsAsNumbers_p11 k o81 y233.1 o82 o83 o84 o85 o86 true true false) else (laws_FnOrdinalsAsNumbers_p11 k o81 y233.1 o82 o83 o84 o85 o86 false true false))) ((impl_CompareSurreals k o84 o85).bind fun y230 => (if y230.2 = true then (laws_FnOrdinalsAsNumbers_p11 k o81 y230.1 o82 o83 o84 o85 o86 true false false) else (laws_FnOrdinalsAsNumbers_p11 k o81 y230.1 o82 o83 o84 o85 o86 false false false)))))
set_option maxHeartbeats 4000000 in
set_option maxRecDepth 100000 in
theorem laws_FnOrdinalsAsNumbers_p10_ct {k : Nat} {o81 : Int} {o82 : Rw} {o83 : Rw} {o84 : Rw} {o85 : Rw} {o86 : Rw} {v87 : Bool} {v91 : Bool} {r : Bool} (h : laws_FnOrdinalsAsNumbers_p10 k o81 o82 o83 o84 o85 o86 v87 v91 = some r) : X prog 0 (tlF f6 10) (mk 162 [(5, .ptr 320 0), (6, .ptr 384 0), (7, .ptr 448 0), (11, .ptr 704 0), (13, .ptr 832 0), (14, .d (D.bool v91)), (15, .d (D.int .i64 o81)), (16, .d (D.bool v87))] [(320, .box 26 [.os 1114000 o82.length]), (384, .box 26 [.os 1114001 o83.length]), (448, .box 46 [.os 1114002 o84.length]), (704, .box 46 [.os 1114003 o85.length]), (832, .box 26 [.os 1114004 o86.length]), (1114000, .arr 104 false o82), (1114001, .arr 104 false o83), (1114002, .arr 120 true o84), (1114003, .arr 120 true o85), (1114004, .arr 104 true o86)]) (finK prog f6 0 (.d (D.bool r)) (⟨[], []⟩)) := by
  rw [laws_FnOrdinalsAsNumbers_p10] at h
  cases v87
  · replace h := condF h
    cases v91
    · replace h := condF h
      conv => whnf
      refine Take.all (rfl) ?_
      conv => whnf
      refine Take.all (rfl) ?_
      conv => whnf
      obtain ⟨y230, e231, h⟩ := bind_ex h
      refine CallOk.of (impl_CompareSurreals_ct e231) ?_
      conv => whnf
      refine spl (fun g232 => ?_) (fun g232 => ?_)
      · replace h := iteT h g232
        conv => whnf
        exact CutK.piece (laws_FnOrdinalsAsNumbers_p11_ct  h) [some 320, some 384, some 448, some 704, some 832, some 1114000, some 1114001, some 1114002, some 1114003, some 1114004] [] ⟨⟨rfl, rfl⟩, ⟨rfl, ⟨rfl, ⟨rfl, rfl⟩, trivial⟩, ⟨rfl, ⟨rfl, rfl⟩, trivial⟩, ⟨rfl, ⟨rfl, rfl⟩, trivial⟩, ⟨rfl, ⟨rfl, rfl⟩, trivial⟩, ⟨rfl, ⟨rfl, rfl⟩, trivial⟩, ⟨rfl, rfl, rows_same⟩, ⟨rfl, rfl, rows_same⟩, ⟨rfl, rfl, rows_same⟩, ⟨rfl, rfl, rows_same⟩, ⟨rfl, rfl, rows_same⟩, trivial⟩, ⟨rfl, rfl⟩, ⟨rfl, rfl⟩, ⟨rfl, rfl⟩, ⟨rfl, rfl⟩, ⟨rfl, rfl⟩, rfl, rfl, rfl, rfl, rfl, trivial⟩
      · replace h := iteF h g232
        conv => whnf
        exact CutK.piece (laws_FnOrdinalsAsNumbers_p11_ct  h) [some 320, some 384, some 448, some 704, some 832, some 1114000, some 1114001, some 1114002, some 1114003, some 1114004] [] ⟨⟨rfl, rfl⟩, ⟨rfl, ⟨rfl, ⟨rfl, rfl⟩, trivial⟩, ⟨rfl, ⟨rfl, rfl⟩, trivial⟩, ⟨rfl, ⟨rfl, rfl⟩, trivial⟩, ⟨rfl, ⟨rfl, rfl⟩, trivial⟩, ⟨rfl, ⟨rfl, rfl⟩, trivial⟩, ⟨rfl, rfl, rows_same⟩, ⟨rfl, rfl, rows_same⟩, ⟨rfl, rfl, rows_same⟩, ⟨rfl, rfl, rows_same⟩, ⟨rfl, rfl, rows_same⟩, trivial⟩, ⟨rfl, rfl⟩, ⟨rfl, rfl⟩, ⟨rfl, rfl⟩, ⟨rfl, rfl⟩, ⟨rfl, rfl⟩, rfl, rfl, rfl, rfl, rfl, trivial⟩
    · replace h := condT h
      conv => whnf
      refine Take.all (rfl) ?_
      conv => whnf
      refine Take.all (rfl) ?_
      conv => whnf
      obtain ⟨y233, e234, h⟩ := bind_ex h
      refine CallOk.of (impl_CompareSurreals_ct e234) ?_
      conv => whnf
      refine spl (fun g235 => ?_) (fun g235 => ?_)
      · replace h := iteT h g235
        conv => whnf
        exact CutK.piece (laws_FnOrdinalsAsNumbers_p11_ct  h) [some 320, some 384, some 448, some 704, some 832, some 1114000, some 1114001, some 1114002, some 1114003, some 1114004] [] ⟨⟨rfl, rfl⟩, ⟨rfl, ⟨rfl, ⟨rfl, rfl⟩, trivial⟩, ⟨rfl, ⟨rfl, rfl⟩, trivial⟩, ⟨rfl, ⟨rfl, rfl⟩, trivial⟩, ⟨rfl, ⟨rfl, rfl⟩, trivial⟩, ⟨rfl, ⟨rfl, rfl⟩, trivial⟩, ⟨rfl, rfl, rows_same⟩, ⟨rfl, rfl, rows_same⟩, ⟨rfl, rfl, rows_same⟩, ⟨rfl, rfl, rows_same⟩, ⟨rfl, rfl, rows_same⟩, trivial⟩, ⟨rfl, rfl⟩, ⟨rfl, rfl⟩, ⟨rfl, rfl⟩, ⟨rfl, rfl⟩, ⟨rfl, rfl⟩, rfl, rfl, rfl, rfl, rfl, trivial⟩
      · replace h := iteF h g235
        conv => whnf
        exact CutK.piece (laws_FnOrdinalsAsNumbers_p11_ct  h) [some 320, some 384, some 448, some 704, some 832, some 1114000, some 1114001, some 1114002, some 1114003, some 1114004] [] ⟨⟨rfl, rfl⟩, ⟨rfl, ⟨rfl, ⟨rfl, rfl⟩, trivial⟩, ⟨rfl, ⟨rfl, rfl⟩, trivial⟩, ⟨rfl, ⟨rfl, rfl⟩, trivial⟩, ⟨rfl, ⟨rfl, rfl⟩, trivial⟩, ⟨rfl, ⟨rfl, rfl⟩, trivial⟩, ⟨rfl, rfl, rows_same⟩, ⟨rfl, rfl, rows_same⟩, ⟨rfl, rfl, rows_same⟩, ⟨rfl, rfl, rows_same⟩, ⟨rfl, rfl, rows_same⟩, trivial⟩, ⟨rfl, rfl⟩, ⟨rfl, rfl⟩, ⟨rfl, rfl⟩, ⟨rfl, rfl⟩, ⟨rfl, rfl⟩, rfl, rfl, rfl, rfl, rfl, trivial⟩
  · replace h := condT h
    cases v91
    · replace h := condF h
      conv => whnf
      refine Take.all (rfl) ?_
      conv => whnf
      refine Take.all (rfl) ?_
      conv => whnf
      obtain ⟨y236, e237, h⟩ := bind_ex h
      refine CallOk.of (impl_CompareSurreals_ct e237) ?_
      conv => whnf
      refine spl (fun g238 => ?_) (fun g238 => ?_)
      · replace h := iteT h g238
        conv => whnf
        exact CutK.piece (laws_FnOrdinalsAsNumbers_p11_ct  h) [some 320, some 384, some 448, some 704, some 832, some 1114000, some 1114001, some 1114002, some 1114003, some 1114004] [] ⟨⟨rfl, rfl⟩, ⟨rfl, ⟨rfl, ⟨rfl, rfl⟩, trivial⟩, ⟨rfl, ⟨rfl, rfl⟩, trivial⟩, ⟨rfl, ⟨rfl, rfl⟩, trivial⟩, ⟨rfl, ⟨rfl, rfl⟩, trivial⟩, ⟨rfl, ⟨rfl, rfl⟩, trivial⟩, ⟨rfl, rfl, rows_same⟩, ⟨rfl, rfl, rows_same⟩, ⟨rfl, rfl, rows_same⟩, ⟨rfl, rfl, rows_same⟩, ⟨rfl, rfl, rows_same⟩, trivial⟩, ⟨rfl, rfl⟩, ⟨rfl, rfl⟩, ⟨rfl, rfl⟩, ⟨rfl, rfl⟩, ⟨rfl, rfl⟩, rfl, rfl, rfl, rfl, rfl, trivial⟩
      · replace h := iteF h g238
        conv => whnf
        exact CutK.piece (laws_FnOrdinalsAsNumbers_p11_ct  h) [some 320, some 384, some 448, some 704, some 832, some 1114000, some 1114001, some 1114002, some 1114003, some 1114004] [] ⟨⟨rfl, rfl⟩, ⟨rfl, ⟨rfl, ⟨rfl, rfl⟩, trivial⟩, ⟨rfl, ⟨rfl, rfl⟩, trivial⟩, ⟨rfl, ⟨rfl, rfl⟩, trivial⟩, ⟨rfl, ⟨rfl, rfl⟩, trivial⟩, ⟨rfl, ⟨rfl, rfl⟩, trivial⟩, ⟨rfl, rfl, rows_same⟩, ⟨rfl, rfl, rows_same⟩, ⟨rfl, rfl, rows_same⟩, ⟨rfl, rfl, rows_same⟩, ⟨rfl, rfl, rows_same⟩, trivial⟩, ⟨rfl, rfl⟩, ⟨rfl, rfl⟩, ⟨rfl, rfl⟩, ⟨rfl, rfl⟩, ⟨rfl, rfl⟩, rfl, rfl, rfl, rfl, rfl, trivial⟩
    · replace h := condT h
      conv => whnf
      refine Take.all (rfl) ?_
      conv => whnf
      refine Take.all (rfl) ?_
      conv => whnf
      obtain ⟨y239, e240, h⟩ := bind_ex h
      refine CallOk.of (impl_CompareSurreals_ct e240) ?_
      conv => whnf
      refine spl (fun g241 => ?_) (fun g241 => ?_)
      · replace h := iteT h g241
        conv => whnf
        exact CutK.piece (laws_FnOrdinalsAsNumbers_p11_ct  h) [some 320, some 384, some 448, some 704, some 832, some 1114000, some 1114001, some 1114002, some 1114003, some 1114004] [] ⟨⟨rfl, rfl⟩, ⟨rfl, ⟨rfl, ⟨rfl, rfl⟩, trivial⟩, ⟨rfl, ⟨rfl, rfl⟩, trivial⟩, ⟨rfl, ⟨rfl, rfl⟩, trivial⟩, ⟨rfl, ⟨rfl, rfl⟩, trivial⟩, ⟨rfl, ⟨rfl, rfl⟩, trivial⟩, ⟨rfl, rfl, rows_same⟩, ⟨rfl, rfl, rows_same⟩, ⟨rfl, rfl, rows_same⟩, ⟨rfl, rfl, rows_same⟩, ⟨rfl, rfl, rows_same⟩, trivial⟩, ⟨rfl, rfl⟩, ⟨rfl, rfl⟩, ⟨rfl, rfl⟩, ⟨rfl, rfl⟩, ⟨rfl, rfl⟩, rfl, rfl, rfl, rfl, rfl, trivial⟩
      · replace h := iteF h g241
        conv => whnf
        exact CutK.piece (laws_FnOrdinalsAsNumbers_p11_ct  h) [some 320, some 384, some 448, some 704, some 832, some 1114000, some 1114001, some 1114002, some 1114003, some 1114004] [] ⟨⟨rfl, rfl⟩, ⟨rfl, ⟨rfl, ⟨rfl, rfl⟩, trivial⟩, ⟨rfl, ⟨rfl, rfl⟩, trivial⟩, ⟨rfl, ⟨rfl, rfl⟩, trivial⟩, ⟨rfl, ⟨rfl, rfl⟩, trivial⟩, ⟨rfl, ⟨rfl, rfl⟩, trivial⟩, ⟨rfl, rfl, rows_same⟩, ⟨rfl, rfl, rows_same⟩, ⟨rfl, rfl, rows_same⟩, ⟨rfl, rfl, rows_same⟩, ⟨rfl, rfl, rows_same⟩, trivial⟩, ⟨rfl, rfl⟩, ⟨rfl, rfl⟩, ⟨rfl, rfl⟩, ⟨rfl, rfl⟩, ⟨rfl, rfl⟩, rfl, rfl, rfl, rfl, rfl, trivial⟩
def laws_FnOrdinalsAsNumbers_p9 (k : Nat) (o72 : Rw) (o73 : Rw) (o74 : Rw) (o75 : Rw) (o76 : Rw) (v77 : Bool) : Option Bool :=
  (cond v77 ((impl_CompareOrdinals k o72 o73).bind fun y245 => (if y245.2 = true then (laws_FnOrdinalsAsNumbers_p10 k y245.1 o72 o73 o74 o75 o76 true true) else (laws_FnOrdinalsAsNumbers_p10 k y245.1 o72 o73 o74 o75 o76 false true))) ((impl_CompareOrdinals k o72 o73).bind fun y242 => (if y242.2 = true then (laws_FnOrdinalsAsNumbers_p10 k y242.1 o72 o73 o74 o75 o76 true false) else (laws_FnOrdinalsAsNumbers_p10 k y242.1 o72 o73 o74 o75 o76 false false))))
set_option maxHeartbeats 4000000 in
set_option maxRecDepth 100000 in
theorem laws_FnOrdinalsAsNumbers_p9_ct {k : Nat} {o72 : Rw} {o73 : Rw} {o74 : Rw} {o75 : Rw} {o76 : Rw} {v77 : Bool} {r : Bool} (h : laws_FnOrdinalsAsNumbers_p9 k o72 o73 o74 o75 o76 v77 = some r) : X prog 0 (tlF f6 9) (mk 162 [(5, .ptr 320 0), (6, .ptr 384 0), (7, .ptr 448 0), (11, .ptr 704 0), (13, .ptr 832 0), (14, .d (D.bool v77))] [(320, .box 26 [.os 1109000 o72.length]), (384, .box 26 [.os 1109001 o73.length]), (448, .box 46 [.os 1109002 o74.length]), (704, .box 46 [.os 1109003 o75.length]), (832, .box 26 [.os 1109004 o76.length]), (1109000, .arr 104 false o72), (1109001, .arr 104 false o73), (1109002, .arr 120 true o74), (1109003, .arr 120 true o75), (1109004, .arr 104 true o76)]) (finK prog f6 0 (.d (D.bool r)) (⟨[], []⟩)) := by
  rw [laws_FnOrdinalsAsNumbers_p9] at h
  cases v77
  · replace h := condF h
    conv => whnf
    refine Take.all (rfl) ?_
    conv => whnf
    refine Take.all (rfl) ?_
    conv => whnf
    obtain ⟨y242, e243, h⟩ := bind_ex h
    refine CallOk.of (impl_CompareOrdinals_ct e243) ?_
    conv => whnf
    refine spl (fun g244 => ?_) (fun g244 => ?_)
    · replace h := iteT h g244
      conv => whnf
      exact CutK.piece (laws_FnOrdinalsAsNumbers_p10_ct  h) [some 320, some 384, some 448, some 704, some 832, some 1109000, some 1109001, some 1109002, some 1109003, some 1109004] [] ⟨⟨rfl, rfl⟩, ⟨rfl, ⟨rfl, ⟨rfl, rfl⟩, trivial⟩, ⟨rfl, ⟨rfl, rfl⟩, trivial⟩, ⟨rfl, ⟨rfl, rfl⟩, trivial⟩, ⟨rfl, ⟨rfl, rfl⟩, trivial⟩, ⟨rfl, ⟨rfl, rfl⟩, trivial⟩, ⟨rfl, rfl, rows_same⟩, ⟨rfl, rfl, rows_same⟩, ⟨rfl, rfl, rows_same⟩, ⟨rfl, rfl, rows_same⟩, ⟨rfl, rfl, rows_same⟩, trivial⟩, ⟨rfl, rfl⟩, ⟨rfl, rfl⟩, ⟨rfl, rfl⟩, ⟨rfl, rfl⟩, ⟨rfl, rfl⟩, rfl, rfl, rfl, trivial⟩
    · replace h := iteF h g244
      conv => whnf
      exact CutK.piece (laws_FnOrdinalsAsNumbers_p10_ct  h) [some 320, some 384, some 448, some 704, some 832, some 1109000, some 1109001, some 1109002, some 1109003, some 1109004] [] ⟨⟨rfl, rfl⟩, ⟨rfl, ⟨rfl, ⟨rfl, rfl⟩, trivial⟩, ⟨rfl, ⟨rfl, rfl⟩, trivial⟩, ⟨rfl, ⟨rfl, rfl⟩, trivial⟩, ⟨rfl, ⟨rfl, rfl⟩, trivial⟩, ⟨rfl, ⟨rfl, rfl⟩, trivial⟩, ⟨rfl, rfl, rows_same⟩, ⟨rfl, rfl, rows_same⟩, ⟨rfl, rfl, rows_same⟩, ⟨rfl, rfl, rows_same⟩, ⟨rfl, rfl, rows_same⟩, trivial⟩, ⟨rfl, rfl⟩, ⟨rfl, rfl⟩, ⟨rfl, rfl⟩, ⟨rfl, rfl⟩, ⟨rfl, rfl⟩, rfl, rfl, rfl, trivial⟩
  · replace h := condT h
    conv => whnf
    refine Take.all (rfl) ?_
    conv => whnf
    refine Take.all (rfl) ?_
    conv => whnf
    obtain ⟨y245, e246, h⟩ := bind_ex h
    refine CallOk.of (impl_CompareOrdinals_ct e246) ?_
    conv => whnf
    refine spl (fun g247 => ?_) (fun g247 => ?_)
    · replace h := iteT h g247
      conv => whnf
      exact CutK.piece (laws_FnOrdinalsAsNumbers_p10_ct  h) [some 320, some 384, some 448, some 704, some 832, some 1109000, some 1109001, some 1109002, some 1109003, some 1109004] [] ⟨⟨rfl, rfl⟩, ⟨rfl, ⟨rfl, ⟨rfl, rfl⟩, trivial⟩, ⟨rfl, ⟨rfl, rfl⟩, trivial⟩, ⟨rfl, ⟨rfl, rfl⟩, trivial⟩, ⟨rfl, ⟨rfl, rfl⟩, trivial⟩, ⟨rfl, ⟨rfl, rfl⟩, trivial⟩, ⟨rfl, rfl, rows_same⟩, ⟨rfl, rfl, rows_same⟩, ⟨rfl, rfl, rows_same⟩, ⟨rfl, rfl, rows_same⟩, ⟨rfl, rfl, rows_same⟩, trivial⟩, ⟨rfl, rfl⟩, ⟨rfl, rfl⟩, ⟨rfl, rfl⟩, ⟨rfl, rfl⟩, ⟨rfl, rfl⟩, rfl, rfl, rfl, trivial⟩
    · replace h := iteF h g247
      conv => whnf
      exact CutK.piece (laws_FnOrdinalsAsNumbers_p10_ct  h) [some 320, some 384, some 448, some 704, some 832, some 1109000, some 1109001, some 1109002, some 1109003, some 1109004] [] ⟨⟨rfl, rfl⟩, ⟨rfl, ⟨rfl, ⟨rfl, rfl⟩, trivial⟩, ⟨rfl, ⟨rfl, rfl⟩, trivial⟩, ⟨rfl, ⟨rfl, rfl⟩, trivial⟩, ⟨rfl, ⟨rfl, rfl⟩, trivial⟩, ⟨rfl, ⟨rfl, rfl⟩, trivial⟩, ⟨rfl, rfl, rows_same⟩, ⟨rfl, rfl, rows_same⟩, ⟨rfl, rfl, rows_same⟩, ⟨rfl, rfl, rows_same⟩, ⟨rfl, rfl, rows_same⟩, trivial⟩, ⟨rfl, rfl⟩, ⟨rfl, rfl⟩, ⟨rfl, rfl⟩, ⟨rfl, rfl⟩, ⟨rfl, rfl⟩, rfl, rfl, rfl, trivial⟩
def laws_FnOrdinalsAsNumbers_p7 (k : Nat) (o54 : Rw) (o55 : Rw) (o56 : Rw) (o57 : Rw) (v61 : Bool) (v65 : Bool) : Option Bool :=
  (cond v61 (cond v65 ((impl_ToOrdinal k o56).bind fun y248 => (if y248.2 = true then (laws_FnOrdinalsAsNumbers_p9 k o54 o55 o56 o57 y248.1 true) else (laws_FnOrdinalsAsNumbers_p9 k o54 o55 o56 o57 y248.1 false))) (some true)) (cond v65 (some true) (some true)))
set_option maxHeartbeats 4000000 in
set_option maxRecDepth 100000 in
theorem laws_FnOrdinalsAsNumbers_p7_ct {k : Nat} {o54 : Rw} {o55 : Rw} {o56 : Rw} {o57 : Rw} {v61 : Bool} {v65 : Bool} {r : Bool} (h : laws_FnOrdinalsAsNumbers_p7 k o54 o55 o56 o57 v61 v65 = some r) : X prog 0 (tlF f6 7) (mk 162 [(5, .ptr 320 0), (6, .ptr 384 0), (7, .ptr 448 0), (8, .d (D.bool v61)), (11, .ptr 704 0), (12, .d (D.bool v65))] [(320, .box 26 [.os 1099000 o54.length]), (384, .box 26 [.os 1099001 o55.length]), (448, .box 46 [.os 1099002 o56.length]), (704, .box 46 [.os 1099003 o57.length]), (1099000, .arr 104 false o54), (1099001, .arr 104 false o55), (1099002, .arr 120 true o56), (1099003, .arr 120 true o57)]) (finK prog f6 0 (.d (D.bool r)) (⟨[], []⟩)) := by
  rw [laws_FnOrdinalsAsNumbers_p7] at h
  cases v61
  · replace h := condF h
    cases v65
    · replace h := condF h
      conv => whnf
      cases h
      exact Done.of [] [] rfl rfl ⟨⟨rfl, rfl⟩, ⟨rfl, trivial⟩, rfl, trivial⟩
    · replace h := condT h
      conv => whnf
      cases h
      exact Done.of [] [] rfl rfl ⟨⟨rfl, rfl⟩, ⟨rfl, trivial⟩, rfl, trivial⟩
  · replace h := condT h
    cases v65
    · replace h := condF h
      conv => whnf
      cases h
      exact Done.of [] [] rfl rfl ⟨⟨rfl, rfl⟩, ⟨rfl, trivial⟩, rfl, trivial⟩
    · replace h := condT h
      conv => whnf
      refine Take.all (rfl) ?_
      conv => whnf
      obtain ⟨y248, e249, h⟩ := bind_ex h
      refine CallOk.of (impl_ToOrdinal_ct e249) ?_
      conv => whnf
      refine spl (fun g250 => ?_) (fun g250 => ?_)
      · replace h := iteT h g250
        conv => whnf
        exact CutK.piece (laws_FnOrdinalsAsNumbers_p9_ct  h) [some 320, some 384, some 448, some 704, some 832, some 1099000, some 1099001, some 1099002, some 1099003, some 4480] [] ⟨⟨rfl, rfl⟩, ⟨rfl, ⟨rfl, ⟨rfl, rfl⟩, trivial⟩, ⟨rfl, ⟨rfl, rfl⟩, trivial⟩, ⟨rfl, ⟨rfl, rfl⟩, trivial⟩, ⟨rfl, ⟨rfl, rfl⟩, trivial⟩, ⟨rfl, ⟨rfl, rfl⟩, trivial⟩, ⟨rfl, rfl, rows_same⟩, ⟨rfl, rfl, rows_same⟩, ⟨rfl, rfl, rows_same⟩, ⟨rfl, rfl, rows_same⟩, ⟨rfl, rfl, rows_same⟩, trivial⟩, ⟨rfl, rfl⟩, ⟨rfl, rfl⟩, ⟨rfl, rfl⟩, ⟨rfl, rfl⟩, ⟨rfl, rfl⟩, rfl, trivial⟩
      · replace h := iteF h g250
        conv => whnf
        exact CutK.piece (laws_FnOrdinalsAsNumbers_p9_ct  h) [some 320, some 384, some 448, some 704, some 832, some 1099000, some 1099001, some 1099002, some 1099003, some 4480] [] ⟨⟨rfl, rfl⟩, ⟨rfl, ⟨rfl, ⟨rfl, rfl⟩, trivial⟩, ⟨rfl, ⟨rfl, rfl⟩, trivial⟩, ⟨rfl, ⟨rfl, rfl⟩, trivial⟩, ⟨rfl, ⟨rfl, rfl⟩, trivial⟩, ⟨rfl, ⟨rfl, rfl⟩, trivial⟩, ⟨rfl, rfl, rows_same⟩, ⟨rfl, rfl, rows_same⟩, ⟨rfl, rfl, rows_same⟩, ⟨rfl, rfl, rows_same⟩, ⟨rfl, rfl, rows_same⟩, trivial⟩, ⟨rfl, rfl⟩, ⟨rfl, rfl⟩, ⟨rfl, rfl⟩, ⟨rfl, rfl⟩, ⟨rfl, rfl⟩, rfl, trivial⟩
def laws_FnOrdinalsAsNumbers_p6 (k : Nat) (o34 : Rw) (o35 : Rw) (o36 : Rw) (o37 : Rw) (o38 : Rw) (v39 : Bool) (v43 : Bool) (v47 : Bool) : Option Bool :=
  (cond v39 (cond v43 (cond v47 ((laws_sameSurreal k o36 o37).bind fun y260 => (if y260 = true then (laws_FnOrdinalsAsNumbers_p7 k o34 o35 o36 o38 true true) else some false)) (some false)) (cond v47 (some false) ((laws_sameSurreal k o36 o37).bind fun y257 => (if y257 = true then (laws_FnOrdinalsAsNumbers_p7 k o34 o35 o36 o38 false true) else some false)))) (cond v43 (cond v47 ((laws_sameSurreal k o36 o37).bind fun y254 => (if y254 = true then (laws_FnOrdinalsAsNumbers_p7 k o34 o35 o36 o38 true false) else some false)) (some false)) (cond v47 (some false) ((laws_sameSurreal k o36 o37).bind fun y251 => (if y251 = true then (laws_FnOrdinalsAsNumbers_p7 k o34 o35 o36 o38 false false) else some false)))))
set_option maxHeartbeats 4000000 in
set_option maxRecDepth 100000 in
theorem laws_FnOrdinalsAsNumbers_p6_ct {k : Nat} {o34 : Rw} {o35 : Rw} {o36 : Rw} {o37 : Rw} {o38 : Rw} {v39 : Bool} {v43 : Bool} {v47 : Bool} {r : Bool} (h : laws_FnOrdinalsAsNumbers_p6 k o34 o35 o36 o37 o38 v39 v43 v47 = some r) : X prog 0 (tlF f6 6) (mk 162 [(5, .ptr 320 0), (6, .ptr 384 0), (7, .ptr 448 0), (8, .d (D.bool v43)), (9, .ptr 576 0), (10, .d (D.bool v47)), (11, .ptr 704 0), (12, .d (D.bool v39))] [(320, .box 26 [.os 1094000 o34.length]), (384, .box 26 [.os 1094001 o35.length]), (448, .box 46 [.os 1094002 o36.length]), (576, .box 46 [.os 1094003 o37.length]), (704, .box 46 [.os 1094004 o38.length]), (1094000, .arr 104 false o34), (1094001, .arr 104 false o35), (1094002, .arr 120 true o36), (1094003, .arr 120 true o37), (1094004, .arr 120 true o38)]) (finK prog f6 0 (.d (D.bool r)) (⟨[], []⟩)) := by
  rw [laws_FnOrdinalsAsNumbers_p6] at h
  cases v39
  · replace h := condF h
    cases v43
    · replace h := condF h
      cases v47
      · replace h := condF h
        conv => whnf
        refine splF ?_
        conv => whnf
        refine Take.all (rfl) ?_
        conv => whnf
        refine Take.all (rfl) ?_
        conv => whnf
        obtain ⟨y251, e252, h⟩ := bind_ex h
        refine CallOk.of (laws_sameSurreal_ct e252) ?_
        conv => whnf
        refine spl (fun g253 => ?_) (fun g253 => ?_)
        · replace h := iteT h g253
          conv => whnf
          refine CutK.norm [5, 6, 7, 8, 11, 12, 61] [320, 384, 448, 704, 1094000, 1094001, 1094002, 1094004] ?_
          conv => whnf
          exact CutK.piece (laws_FnOrdinalsAsNumbers_p7_ct  h) [some 320, some 384, some 448, some 704, some 1094000, some 1094001, some 1094002, some 1094004] [] ⟨⟨rfl, rfl⟩, ⟨rfl, ⟨rfl, ⟨rfl, rfl⟩, trivial⟩, ⟨rfl, ⟨rfl, rfl⟩, trivial⟩, ⟨rfl, ⟨rfl, rfl⟩, trivial⟩, ⟨rfl, ⟨rfl, rfl⟩, trivial⟩, ⟨rfl, rfl, rows_same⟩, ⟨rfl, rfl, rows_same⟩, ⟨rfl, rfl, rows_same⟩, ⟨rfl, rfl, rows_same⟩, trivial⟩, ⟨rfl, rfl⟩, ⟨rfl, rfl⟩, ⟨rfl, rfl⟩, rfl, ⟨rfl, rfl⟩, rfl, trivial⟩
        · replace h := iteF h g253
          conv => whnf
          refine CutK.norm [5, 6, 7, 8, 11, 12, 61] [320, 384, 448, 704, 1094000, 1094001, 1094002, 1094004] ?_
          conv => whnf
          cases h
          exact Done.of [] [] rfl rfl ⟨⟨rfl, rfl⟩, ⟨rfl, trivial⟩, rfl, trivial⟩
      · replace h := condT h
        conv => whnf
        refine splT ?_
        conv => whnf
        refine CutK.norm [5, 6, 7, 8, 11, 12, 61] [320, 384, 448, 704, 1094000, 1094001, 1094002, 1094004] ?_
        conv => whnf
        cases h
        exact Done.of [] [] rfl rfl ⟨⟨rfl, rfl⟩, ⟨rfl, trivial⟩, rfl, trivial⟩
    · replace h := condT h
      cases v47
      · replace h := condF h
        conv => whnf
        refine splT ?_
        conv => whnf
        refine CutK.norm [5, 6, 7, 8, 11, 12, 61] [320, 384, 448, 704, 1094000, 1094001, 1094002, 1094004] ?_
        conv => whnf
        cases h
        exact Done.of [] [] rfl rfl ⟨⟨rfl, rfl⟩, ⟨rfl, trivial⟩, rfl, trivial⟩
      · replace h := condT h
        conv => whnf
        refine splF ?_
        conv => whnf
        refine Take.all (rfl) ?_
        conv => whnf
        refine Take.all (rfl) ?_
        conv => whnf
        obtain ⟨y254, e255, h⟩ := bind_ex h
        refine CallOk.of (laws_sameSurreal_ct e255) ?_
        conv => whnf
        refine spl (fun g256 => ?_) (fun g256 => ?_)
        · replace h := iteT h g256
          conv => whnf
          refine CutK.norm [5, 6, 7, 8, 11, 12, 61] [320, 384, 448, 704, 1094000, 1094001, 1094002, 1094004] ?_
          conv => whnf
          exact CutK.piece (laws_FnOrdinalsAsNumbers_p7_ct  h) [some 320, some 384, some 448, some 704, some 1094000, some 1094001, some 1094002, some 1094004] [] ⟨⟨rfl, rfl⟩, ⟨rfl, ⟨rfl, ⟨rfl, rfl⟩, trivial⟩, ⟨rfl, ⟨rfl, rfl⟩, trivial⟩, ⟨rfl, ⟨rfl, rfl⟩, trivial⟩, ⟨rfl, ⟨rfl, rfl⟩, trivial⟩, ⟨rfl, rfl, rows_same⟩, ⟨rfl, rfl, rows_same⟩, ⟨rfl, rfl, rows_same⟩, ⟨rfl, rfl, rows_same⟩, trivial⟩, ⟨rfl, rfl⟩, ⟨rfl, rfl⟩, ⟨rfl, rfl⟩, rfl, ⟨rfl, rfl⟩, rfl, trivial⟩
        · replace h := iteF h g256
          conv => whnf
          refine CutK.norm [5, 6, 7, 8, 11, 12, 61] [320, 384, 448, 704, 1094000, 1094001, 1094002, 1094004] ?_
          conv => whnf
          cases h
          exact Done.of [] [] rfl rfl ⟨⟨rfl, rfl⟩, ⟨rfl, trivial⟩, rfl, trivial⟩
  · replace h := condT h
    cases v43
    · replace h := condF h
      cases v47
      · replace h := condF h
        conv => whnf
        refine splF ?_
        conv => whnf
        refine Take.all (rfl) ?_
        conv => whnf
        refine Take.all (rfl) ?_
        conv => whnf
        obtain ⟨y257, e258, h⟩ := bind_ex h
        refine CallOk.of (laws_sameSurreal_ct e258) ?_
        conv => whnf
        refine spl (fun g259 => ?_) (fun g259 => ?_)
        · replace h := iteT h g259
          conv => whnf
          refine CutK.norm [5, 6, 7, 8, 11, 12, 61] [320, 384, 448, 704, 1094000, 1094001, 1094002, 1094004] ?_
          conv => whnf
          exact CutK.piece (laws_FnOrdinalsAsNumbers_p7_ct  h) [some 320, some 384, some 448, some 704, some 1094000, some 1094001, some 1094002, some 1094004] [] ⟨⟨rfl, rfl⟩, ⟨rfl, ⟨rfl, ⟨rfl, rfl⟩, trivial⟩, ⟨rfl, ⟨rfl, rfl⟩, trivial⟩, ⟨rfl, ⟨rfl, rfl⟩, trivial⟩, ⟨rfl, ⟨rfl, rfl⟩, trivial⟩, ⟨rfl, rfl, rows_same⟩, ⟨rfl, rfl, rows_same⟩, ⟨rfl, rfl, rows_same⟩, ⟨rfl, rfl, rows_same⟩, trivial⟩, ⟨rfl, rfl⟩, ⟨rfl, rfl⟩, ⟨rfl, rfl⟩, rfl, ⟨rfl, rfl⟩, rfl, trivial⟩
        · replace h := iteF h g259
          conv => whnf
          refine CutK.norm [5, 6, 7, 8, 11, 12, 61] [320, 384, 448, 704, 1094000, 1094001, 1094002, 1094004] ?_
          conv => whnf
          cases h
          exact Done.of [] [] rfl rfl ⟨⟨rfl, rfl⟩, ⟨rfl, trivial⟩, rfl, trivial⟩
      · replace h := condT h
        conv => whnf
        refine splT ?_
        conv => whnf
        refine CutK.norm [5, 6, 7, 8, 11, 12, 61] [320, 384, 448, 704, 1094000, 1094001, 1094002, 1094004] ?_
        conv => whnf
        cases h
        exact Done.of [] [] rfl rfl ⟨⟨rfl, rfl⟩, ⟨rfl, trivial⟩, rfl, trivial⟩
    · replace h := condT h
      cases v47
      · replace h := condF h
        conv => whnf
        refine splT ?_
        conv => whnf
        refine CutK.norm [5, 6, 7, 8, 11, 12, 61] [320, 384, 448, 704, 1094000, 1094001, 1094002, 1094004] ?_
        conv => whnf
        cases h
        exact Done.of [] [] rfl rfl ⟨⟨rfl, rfl⟩, ⟨rfl, trivial⟩, rfl, trivial⟩
      · replace h := condT h
        conv => whnf
        refine splF ?_
        conv => whnf
        refine Take.all (rfl) ?_
        conv => whnf
        refine Take.all (rfl) ?_
        conv => whnf
        obtain ⟨y260, e261, h⟩ := bind_ex h
        refine CallOk.of (laws_sameSurreal_ct e261) ?_
        conv => whnf
        refine spl (fun g262 => ?_) (fun g262 => ?_)
        · replace h := iteT h g262
          conv => whnf
          refine CutK.norm [5, 6, 7, 8, 11, 12, 61] [320, 384, 448, 704, 1094000, 1094001, 1094002, 1094004] ?_
          conv => whnf
          exact CutK.piece (laws_FnOrdinalsAsNumbers_p7_ct  h) [some 320, some 384, some 448, some 704, some 1094000, some 1094001, some 1094002, some 1094004] [] ⟨⟨rfl, rfl⟩, ⟨rfl, ⟨rfl, ⟨rfl, rfl⟩, trivial⟩, ⟨rfl, ⟨rfl, rfl⟩, trivial⟩, ⟨rfl, ⟨rfl, rfl⟩, trivial⟩, ⟨rfl, ⟨rfl, rfl⟩, trivial⟩, ⟨rfl, rfl, rows_same⟩, ⟨rfl, rfl, rows_same⟩, ⟨rfl, rfl, rows_same⟩, ⟨rfl, rfl, rows_same⟩, trivial⟩, ⟨rfl, rfl⟩, ⟨rfl, rfl⟩, ⟨rfl, rfl⟩, rfl, ⟨rfl, rfl⟩, rfl, trivial⟩
        · replace h := iteF h g262
          conv => whnf
          refine CutK.norm [5, 6, 7, 8, 11, 12, 61] [320, 384, 448, 704, 1094000, 1094001, 1094002, 1094004] ?_
          conv => whnf
          cases h
          exact Done.of [] [] rfl rfl ⟨⟨rfl, rfl⟩, ⟨rfl, trivial⟩, rfl, trivial⟩
def laws_FnOrdinalsAsNumbers_p5 (k : Nat) (o22 : Rw) (o23 : Rw) (o24 : Rw) (o25 : Rw) (v26 : Bool) (v30 : Bool) : Option Bool :=
  (cond v26 (cond v30 ((impl_FromOrdinal k o23).bind fun y272 => (if y272.2 = true then (laws_FnOrdinalsAsNumbers_p6 k o22 o23 o24 o25 y272.1 true true true) else (laws_FnOrdinalsAsNumbers_p6 k o22 o23 o24 o25 y272.1 false true true))) ((impl_FromOrdinal k o23).bind fun y269 => (if y269.2 = true then (laws_FnOrdinalsAsNumbers_p6 k o22 o23 o24 o25 y269.1 true false true) else (laws_FnOrdinalsAsNumbers_p6 k o22 o23 o24 o25 y269.1 false false true)))) (cond v30 ((impl_FromOrdinal k o23).bind fun y266 => (if y266.2 = true then (laws_FnOrdinalsAsNumbers_p6 k o22 o23 o24 o25 y266.1 true true false) else (laws_FnOrdinalsAsNumbers_p6 k o22 o23 o24 o25 y266.1 false true false))) ((impl_FromOrdinal k o23).bind fun y263 => (if y263.2 = true then (laws_FnOrdinalsAsNumbers_p6 k o22 o23 o24 o25 y263.1 true false false) else (laws_FnOrdinalsAsNumbers_p6 k o22 o23 o24 o25 y263.1 false false false)))))
set_option maxHeartbeats 4000000 in
set_option maxRecDepth 100000 in
theorem laws_FnOrdinalsAsNumbers_p5_ct {k : Nat} {o22 : Rw} {o23 : Rw} {o24 : Rw} {o25 : Rw} {v26 : Bool} {v30 : Bool} {r : Bool} (h : laws_FnOrdinalsAsNumbers_p5 k o22 o23 o24 o25 v26 v30 = some r) : X prog 0 (tlF f6 5) (mk 162 [(5, .ptr 320 0), (6, .ptr 384 0), (7, .ptr 448 0), (8, .d (D.bool v30)), (9, .ptr 576 0), (10, .d (D.bool v26))] [(320, .box 26 [.os 1089000 o22.length]), (384, .box 26 [.os 1089001 o23.length]), (448, .box 46 [.os 1089002 o24.length]), (576, .box 46 [.os 1089003 o25.length]), (1089000, .arr 104 false o22), (1089001, .arr 104 false o23), (1089002, .arr 120 true o24), (1089003, .arr 120 true o25)]) (finK prog f6 0 (.d (D.bool r)) (⟨[], []⟩)) := by
  rw [laws_FnOrdinalsAsNumbers_p5] at h
  cases v26
  · replace h := condF h
    cases v30
    · replace h := condF h
      conv => whnf
      refine Take.all (rfl) ?_
      conv => whnf
      obtain ⟨y263, e264, h⟩ := bind_ex h
      refine CallOk.of (impl_FromOrdinal_ct e264) ?_
      conv => whnf
      refine spl (fun g265 => ?_) (fun g265 => ?_)
      · replace h := iteT h g265
        conv => whnf
        exact CutK.piece (laws_FnOrdinalsAsNumbers_p6_ct  h) [some 320, some 384, some 448, some 576, some 704, some 1089000, some 1089001, some 1089002, some 1089003, some 3200] [] ⟨⟨rfl, rfl⟩, ⟨rfl, ⟨rfl, ⟨rfl, rfl⟩, trivial⟩, ⟨rfl, ⟨rfl, rfl⟩, trivial⟩, ⟨rfl, ⟨rfl, rfl⟩, trivial⟩, ⟨rfl, ⟨rfl, rfl⟩, trivial⟩, ⟨rfl, ⟨rfl, rfl⟩, trivial⟩, ⟨rfl, rfl, rows_same⟩, ⟨rfl, rfl, rows_same⟩, ⟨rfl, rfl, rows_same⟩, ⟨rfl, rfl, rows_same⟩, ⟨rfl, rfl, rows_same⟩, trivial⟩, ⟨rfl, rfl⟩, ⟨rfl, rfl⟩, ⟨rfl, rfl⟩, rfl, ⟨rfl, rfl⟩, rfl, ⟨rfl, rfl⟩, rfl, trivial⟩
      · replace h := iteF h g265
        conv => whnf
        exact CutK.piece (laws_FnOrdinalsAsNumbers_p6_ct  h) [some 320, some 384, some 448, some 576, some 704, some 1089000, some 1089001, some 1089002, some 1089003, some 3200] [] ⟨⟨rfl, rfl⟩, ⟨rfl, ⟨rfl, ⟨rfl, rfl⟩, trivial⟩, ⟨rfl, ⟨rfl, rfl⟩, trivial⟩, ⟨rfl, ⟨rfl, rfl⟩, trivial⟩, ⟨rfl, ⟨rfl, rfl⟩, trivial⟩, ⟨rfl, ⟨rfl, rfl⟩, trivial⟩, ⟨rfl, rfl, rows_same⟩, ⟨rfl, rfl, rows_same⟩, ⟨rfl, rfl, rows_same⟩, ⟨rfl, rfl, rows_same⟩, ⟨rfl, rfl, rows_same⟩, trivial⟩, ⟨rfl, rfl⟩, ⟨rfl, rfl⟩, ⟨rfl, rfl⟩, rfl, ⟨rfl, rfl⟩, rfl, ⟨rfl, rfl⟩, rfl, trivial⟩
    · replace h := condT h
      conv => whnf
      refine Take.all (rfl) ?_
      conv => whnf
      obtain ⟨y266, e267, h⟩ := bind_ex h
      refine CallOk.of (impl_FromOrdinal_ct e267) ?_
      conv => whnf
      refine spl (fun g268 => ?_) (fun g268 => ?_)
      · replace h := iteT h g268
        conv => whnf
        exact CutK.piece (laws_FnOrdinalsAsNumbers_p6_ct  h) [some 320, some 384, some 448, some 576, some 704, some 1089000, some 1089001, some 1089002, some 1089003, some 3200] [] ⟨⟨rfl, rfl⟩, ⟨rfl, ⟨rfl, ⟨rfl, rfl⟩, trivial⟩, ⟨rfl, ⟨rfl, rfl⟩, trivial⟩, ⟨rfl, ⟨rfl, rfl⟩, trivial⟩, ⟨rfl, ⟨rfl, rfl⟩, trivial⟩, ⟨rfl, ⟨rfl, rfl⟩, trivial⟩, ⟨rfl, rfl, rows_same⟩, ⟨rfl, rfl, rows_same⟩, ⟨rfl, rfl, rows_same⟩, ⟨rfl, rfl, rows_same⟩, ⟨rfl, rfl, rows_same⟩, trivial⟩, ⟨rfl, rfl⟩, ⟨rfl, rfl⟩, ⟨rfl, rfl⟩, rfl, ⟨rfl, rfl⟩, rfl, ⟨rfl, rfl⟩, rfl, trivial⟩
      · replace h := iteF h g268
        conv => whnf
        exact CutK.piece (laws_FnOrdinalsAsNumbers_p6_ct  h) [some 320, some 384, some 448, some 576, some 704, some 1089000, some 1089001, some 1089002, some 1089003, some 3200] [] ⟨⟨rfl, rfl⟩, ⟨rfl, ⟨rfl, ⟨rfl, rfl⟩, trivial⟩, ⟨rfl, ⟨rfl, rfl⟩, trivial⟩, ⟨rfl, ⟨rfl, rfl⟩, trivial⟩, ⟨rfl, ⟨rfl, rfl⟩, trivial⟩, ⟨rfl, ⟨rfl, rfl⟩, trivial⟩, ⟨rfl, rfl, rows_same⟩, ⟨rfl, rfl, rows_same⟩, ⟨rfl, rfl, rows_same⟩, ⟨rfl, rfl, rows_same⟩, ⟨rfl, rfl, rows_same⟩, trivial⟩, ⟨rfl, rfl⟩, ⟨rfl, rfl⟩, ⟨rfl, rfl⟩, rfl, ⟨rfl, rfl⟩, rfl, ⟨rfl, rfl⟩, rfl, trivial⟩
  · replace h := condT h
    cases v30
    · replace h := condF h
      conv => whnf
      refine Take.all (rfl) ?_
      conv => whnf
      obtain ⟨y269, e270, h⟩ := bind_ex h
      refine CallOk.of (impl_FromOrdinal_ct e270) ?_
      conv => whnf
      refine spl (fun g271 => ?_) (fun g271 => ?_)
      · replace h := iteT h g271
        conv => whnf
        exact CutK.piece (laws_FnOrdinalsAsNumbers_p6_ct  h) [some 320, some 384, some 448, some 576, some 704, some 1089000, some 1089001, some 1089002, some 1089003, some 3200] [] ⟨⟨rfl, rfl⟩, ⟨rfl, ⟨rfl, ⟨rfl, rfl⟩, trivial⟩, ⟨rfl, ⟨rfl, rfl⟩, trivial⟩, ⟨rfl, ⟨rfl, rfl⟩, trivial⟩, ⟨rfl, ⟨rfl, rfl⟩, trivial⟩, ⟨rfl, ⟨rfl, rfl⟩, trivial⟩, ⟨rfl, rfl, rows_same⟩, ⟨rfl, rfl, rows_same⟩, ⟨rfl, rfl, rows_same⟩, ⟨rfl, rfl, rows_same⟩, ⟨rfl, rfl, rows_same⟩, trivial⟩, ⟨rfl, rfl⟩, ⟨rfl, rfl⟩, ⟨rfl, rfl⟩, rfl, ⟨rfl, rfl⟩, rfl, ⟨rfl, rfl⟩, rfl, trivial⟩
      · replace h := iteF h g271
        conv => whnf
        exact CutK.piece (laws_FnOrdinalsAsNumbers_p6_ct  h) [some 320, some 384, some 448, some 576, some 704, some 1089000, some 1089001, some 1089002, some 1089003, some 3200] [] ⟨⟨rfl, rfl⟩, ⟨rfl, ⟨rfl, ⟨rfl, rfl⟩, trivial⟩, ⟨rfl, ⟨rfl, rfl⟩, trivial⟩, ⟨rfl, ⟨rfl, rfl⟩, trivial⟩, ⟨rfl, ⟨rfl, rfl⟩, trivial⟩, ⟨rfl, ⟨rfl, rfl⟩, trivial⟩, ⟨rfl, rfl, rows_same⟩, ⟨rfl, rfl, rows_same⟩, ⟨rfl, rfl, rows_same⟩, ⟨rfl, rfl, rows_same⟩, ⟨rfl, rfl, rows_same⟩, trivial⟩, ⟨rfl, rfl⟩, ⟨rfl, rfl⟩, ⟨rfl, rfl⟩, rfl, ⟨rfl, rfl⟩, rfl, ⟨rfl, rfl⟩, rfl, trivial⟩
    · replace h := condT h
      conv => whnf
      refine Take.all (rfl) ?_
      conv => whnf
      obtain ⟨y272, e273, h⟩ := bind_ex h
      refine CallOk.of (impl_FromOrdinal_ct e273) ?_
      conv => whnf
      refine spl (fun g274 => ?_) (fun g274 => ?_)
      · replace h := iteT h g274
        conv => whnf
        exact CutK.piece (laws_FnOrdinalsAsNumbers_p6_ct  h) [some 320, some 384, some 448, some 576, some 704, some 1089000, some 1089001, some 1089002, some 1089003, some 3200] [] ⟨⟨rfl, rfl⟩, ⟨rfl, ⟨rfl, ⟨rfl, rfl⟩, trivial⟩, ⟨rfl, ⟨rfl, rfl⟩, trivial⟩, ⟨rfl, ⟨rfl, rfl⟩, trivial⟩, ⟨rfl, ⟨rfl, rfl⟩, trivial⟩, ⟨rfl, ⟨rfl, rfl⟩, trivial⟩, ⟨rfl, rfl, rows_same⟩, ⟨rfl, rfl, rows_same⟩, ⟨rfl, rfl, rows_same⟩, ⟨rfl, rfl, rows_same⟩, ⟨rfl, rfl, rows_same⟩, trivial⟩, ⟨rfl, rfl⟩, ⟨rfl, rfl⟩, ⟨rfl, rfl⟩, rfl, ⟨rfl, rfl⟩, rfl, ⟨rfl, rfl⟩, rfl, trivial⟩
      · replace h := iteF h g274
        conv => whnf
        exact CutK.piece (laws_FnOrdinalsAsNumbers_p6_ct  h) [some 320, some 384, some 448, some 576, some 704, some 1089000, some 1089001, some 1089002, some 1089003, some 3200] [] ⟨⟨rfl, rfl⟩, ⟨rfl, ⟨rfl, ⟨rfl, rfl⟩, trivial⟩, ⟨rfl, ⟨rfl, rfl⟩, trivial⟩, ⟨rfl, ⟨rfl, rfl⟩, trivial⟩, ⟨rfl, ⟨rfl, rfl⟩, trivial⟩, ⟨rfl, ⟨rfl, rfl⟩, trivial⟩, ⟨rfl, rfl, rows_same⟩, ⟨rfl, rfl, rows_same⟩, ⟨rfl, rfl, rows_same⟩, ⟨rfl, rfl, rows_same⟩, ⟨rfl, rfl, rows_same⟩, trivial⟩, ⟨rfl, rfl⟩, ⟨rfl, rfl⟩, ⟨rfl, rfl⟩, rfl, ⟨rfl, rfl⟩, rfl, ⟨rfl, rfl⟩, rfl, trivial⟩
def laws_FnOrdinalsAsNumbers_p4 (k : Nat) (o15 : Rw) (o16 : Rw) (o17 : Rw) (v18 : Bool) : Option Bool :=
  (cond v18 ((spec_FromOrdinal k o15).bind fun y278 => (if y278.2 = true then (laws_FnOrdinalsAsNumbers_p5 k o15 o16 o17 y278.1 true true) else (laws_FnOrdinalsAsNumbers_p5 k o15 o16 o17 y278.1 false true))) ((spec_FromOrdinal k o15).bind fun y275 => (if y275.2 = true then (laws_FnOrdinalsAsNumbers_p5 k o15 o16 o17 y275.1 true false) else (laws_FnOrdinalsAsNumbers_p5 k o15 o16 o17 y275.1 false false))))
set_option maxHeartbeats 4000000 in
set_option maxRecDepth 100000 in
theorem laws_FnOrdinalsAsNumbers_p4_ct {k : Nat} {o15 : Rw} {o16 : Rw} {o17 : Rw} {v18 : Bool} {r : Bool} (h : laws_FnOrdinalsAsNumbers_p4 k o15 o16 o17 v18 = some r) : X prog 0 (tlF f6 4) (mk 162 [(5, .ptr 320 0), (6, .ptr 384 0), (7, .ptr 448 0), (8, .d (D.bool v18))] [(320, .box 26 [.os 1084000 o15.length]), (384, .box 26 [.os 1084001 o16.length]), (448, .box 46 [.os 1084002 o17.length]), (1084000, .arr 104 false o15), (1084001, .arr 104 false o16), (1084002, .arr 120 true o17)]) (finK prog f6 0 (.d (D.bool r)) (⟨[], []⟩)) := by
  rw [laws_FnOrdinalsAsNumbers_p4] at h
  cases v18
  · replace h := condF h
    conv => whnf
    refine Take.all (rfl) ?_
    conv => whnf
    obtain ⟨y275, e276, h⟩ := bind_ex h
    refine CallOk.of (spec_FromOrdinal_ct e276) ?_
    conv => whnf
    refine spl (fun g277 => ?_) (fun g277 => ?_)
    · replace h := iteT h g277
      conv => whnf
      exact CutK.piece (laws_FnOrdinalsAsNumbers_p5_ct  h) [some 320, some 384, some 448, some 576, some 1084000, some 1084001, some 1084002, some 2880] [] ⟨⟨rfl, rfl⟩, ⟨rfl, ⟨rfl, ⟨rfl, rfl⟩, trivial⟩, ⟨rfl, ⟨rfl, rfl⟩, trivial⟩, ⟨rfl, ⟨rfl, rfl⟩, trivial⟩, ⟨rfl, ⟨rfl, rfl⟩, trivial⟩, ⟨rfl, rfl, rows_same⟩, ⟨rfl, rfl, rows_same⟩, ⟨rfl, rfl, rows_same⟩, ⟨rfl, rfl, rows_same⟩, trivial⟩, ⟨rfl, rfl⟩, ⟨rfl, rfl⟩, ⟨rfl, rfl⟩, rfl, ⟨rfl, rfl⟩, rfl, trivial⟩
    · replace h := iteF h g277
      conv => whnf
      exact CutK.piece (laws_FnOrdinalsAsNumbers_p5_ct  h) [some 320, some 384, some 448, some 576, some 1084000, some 1084001, some 1084002, some 2880] [] ⟨⟨rfl, rfl⟩, ⟨rfl, ⟨rfl, ⟨rfl, rfl⟩, trivial⟩, ⟨rfl, ⟨rfl, rfl⟩, trivial⟩, ⟨rfl, ⟨rfl, rfl⟩, trivial⟩, ⟨rfl, ⟨rfl, rfl⟩, trivial⟩, ⟨rfl, rfl, rows_same⟩, ⟨rfl, rfl, rows_same⟩, ⟨rfl, rfl, rows_same⟩, ⟨rfl, rfl, rows_same⟩, trivial⟩, ⟨rfl, rfl⟩, ⟨rfl, rfl⟩, ⟨rfl, rfl⟩, rfl, ⟨rfl, rfl⟩, rfl, trivial⟩
  · replace h := condT h
    conv => whnf
    refine Take.all (rfl) ?_
    conv => whnf
    obtain ⟨y278, e279, h⟩ := bind_ex h
    refine CallOk.of (spec_FromOrdinal_ct e279) ?_
    conv => whnf
    refine spl (fun g280 => ?_) (fun g280 => ?_)
    · replace h := iteT h g280
      conv => whnf
      exact CutK.piece (laws_FnOrdinalsAsNumbers_p5_ct  h) [some 320, some 384, some 448, some 576, some 1084000, some 1084001, some 1084002, some 2880] [] ⟨⟨rfl, rfl⟩, ⟨rfl, ⟨rfl, ⟨rfl, rfl⟩, trivial⟩, ⟨rfl, ⟨rfl, rfl⟩, trivial⟩, ⟨rfl, ⟨rfl, rfl⟩, trivial⟩, ⟨rfl, ⟨rfl, rfl⟩, trivial⟩, ⟨rfl, rfl, rows_same⟩, ⟨rfl, rfl, rows_same⟩, ⟨rfl, rfl, rows_same⟩, ⟨rfl, rfl, rows_same⟩, trivial⟩, ⟨rfl, rfl⟩, ⟨rfl, rfl⟩, ⟨rfl, rfl⟩, rfl, ⟨rfl, rfl⟩, rfl, trivial⟩
    · replace h := iteF h g280
      conv => whnf
      exact CutK.piece (laws_FnOrdinalsAsNumbers_p5_ct  h) [some 320, some 384, some 448, some 576, some 1084000, some 1084001, some 1084002, some 2880] [] ⟨⟨rfl, rfl⟩, ⟨rfl, ⟨rfl, ⟨rfl, rfl⟩, trivial⟩, ⟨rfl, ⟨rfl, rfl⟩, trivial⟩, ⟨rfl, ⟨rfl, rfl⟩, trivial⟩, ⟨rfl, ⟨rfl, rfl⟩, trivial⟩, ⟨rfl, rfl, rows_same⟩, ⟨rfl, rfl, rows_same⟩, ⟨rfl, rfl, rows_same⟩, ⟨rfl, rfl, rows_same⟩, trivial⟩, ⟨rfl, rfl⟩, ⟨rfl, rfl⟩, ⟨rfl, rfl⟩, rfl, ⟨rfl, rfl⟩, rfl, trivial⟩
def laws_FnOrdinalsAsNumbers_p3 (k : Nat) (o10 : Rw) (o11 : Rw) : Option Bool :=
  ((impl_FromOrdinal k o10).bind fun y281 => (if y281.2 = true then (laws_FnOrdinalsAsNumbers_p4 k o10 o11 y281.1 true) else (laws_FnOrdinalsAsNumbers_p4 k o10 o11 y281.1 false)))
set_option maxHeartbeats 4000000 in
set_option maxRecDepth 100000 in
theorem laws_FnOrdinalsAsNumbers_p3_ct {k : Nat} {o10 : Rw} {o11 : Rw} {r : Bool} (h : laws_FnOrdinalsAsNumbers_p3 k o10 o11 = some r) : X prog 0 (tlF f6 3) (mk 162 [(5, .ptr 320 0), (6, .ptr 384 0)] [(320, .box 26 [.os 1079000 o10.length]), (384, .box 26 [.os 1079001 o11.length]), (1079000, .arr 104 false o10), (1079001, .arr 104 false o11)]) (finK prog f6 0 (.d (D.bool r)) (⟨[], []⟩)) := by
  rw [laws_FnOrdinalsAsNumbers_p3] at h
  conv => whnf
  refine Take.all (rfl) ?_
  conv => whnf
  obtain ⟨y281, e282, h⟩ := bind_ex h
  refine CallOk.of (impl_FromOrdinal_ct e282) ?_
  conv => whnf
  refine spl (fun g283 => ?_) (fun g283 => ?_)
  · replace h := iteT h g283
    conv => whnf
    exact CutK.piece (laws_FnOrdinalsAsNumbers_p4_ct  h) [some 320, some 384, some 448, some 1079000, some 1079001, some 2560] [] ⟨⟨rfl, rfl⟩, ⟨rfl, ⟨rfl, ⟨rfl, rfl⟩, trivial⟩, ⟨rfl, ⟨rfl, rfl⟩, trivial⟩, ⟨rfl, ⟨rfl, rfl⟩, trivial⟩, ⟨rfl, rfl, rows_same⟩, ⟨rfl, rfl, rows_same⟩, ⟨rfl, rfl, rows_same⟩, trivial⟩, ⟨rfl, rfl⟩, ⟨rfl, rfl⟩, ⟨rfl, rfl⟩, rfl, trivial⟩
  · replace h := iteF h g283
    conv => whnf
    exact CutK.piece (laws_FnOrdinalsAsNumbers_p4_ct  h) [some 320, some 384, some 448, some 1079000, some 1079001, some 2560] [] ⟨⟨rfl, rfl⟩, ⟨rfl, ⟨rfl, ⟨rfl, rfl⟩, trivial⟩, ⟨rfl, ⟨rfl, rfl⟩, trivial⟩, ⟨rfl, ⟨rfl, rfl⟩, trivial⟩, ⟨rfl, rfl, rows_same⟩, ⟨rfl, rfl, rows_same⟩, ⟨rfl, rfl, rows_same⟩, trivial⟩, ⟨rfl, rfl⟩, ⟨rfl, rfl⟩, ⟨rfl, rfl⟩, rfl, trivial⟩
def laws_FnOrdinalsAsNumbers_p2 (k : Nat) (a1 : Rw) (a2 : Rw) : Option Bool :=
  ((spec_DrawFromOrdinal k a1).bind fun y284 => ((spec_DrawFromOrdinal k a2).bind fun y286 => (laws_FnOrdinalsAsNumbers_p3 k y284 y286)))
set_option maxHeartbeats 4000000 in
set_option maxRecDepth 100000 in
theorem laws_FnOrdinalsAsNumbers_p2_ct {k : Nat} {a1 : Rw} {a2 : Rw} {r : Bool} (h : laws_FnOrdinalsAsNumbers_p2 k a1 a2 = some r) : X prog 0 (tlF f6 2) (mk 162 [(0, .d (D.sl a1)), (1, .d (D.sl a2))] []) (finK prog f6 0 (.d (D.bool r)) (⟨[], []⟩)) := by
  rw [laws_FnOrdinalsAsNumbers_p2] at h
  conv => whnf
  obtain ⟨y284, e285, h⟩ := bind_ex h
  refine CallOk.of (spec_DrawFromOrdinal_ct e285) ?_
  conv => whnf
  obtain ⟨y286, e287, h⟩ := bind_ex h
  refine CallOk.of (spec_DrawFromOrdinal_ct e287) ?_
  conv => whnf
  exact CutK.piece (laws_FnOrdinalsAsNumbers_p3_ct  h) [some 320, some 384, some 2240, some 2368] [] ⟨⟨rfl, rfl⟩, ⟨rfl, ⟨rfl, ⟨rfl, rfl⟩, trivial⟩, ⟨rfl, ⟨rfl, rfl⟩, trivial⟩, ⟨rfl, rfl, rows_same⟩, ⟨rfl, rfl, rows_same⟩, trivial⟩, ⟨rfl, rfl⟩, ⟨rfl, rfl⟩, trivial⟩
def laws_FnOrdinalsAsNumbers (k : Nat) (a1 : Rw) (a2 : Rw) : Option Bool :=
  ((laws_big a1 a2).bind fun y288 => (if y288 = true then some true else (laws_FnOrdinalsAsNumbers_p2 k a1 a2)))
set_option maxHeartbeats 4000000 in
set_option maxRecDepth 100000 in
theorem laws_FnOrdinalsAsNumbers_ct {k : Nat} {a1 : Rw} {a2 : Rw} {r : Bool} (h : laws_FnOrdinalsAsNumbers k a1 a2 = some r) : Ct prog 6 [.d (D.sl a1), .d (D.sl a2)] (⟨[], []⟩) (.d (D.bool r)) (⟨[], []⟩) := by
  rw [laws_FnOrdinalsAsNumbers] at h
  refine Ct.of (c := _) mixed func6 ⟨rfl, rfl, rfl⟩ ?_ rfl
  conv => whnf
  obtain ⟨y288, e289, h⟩ := bind_ex h
  refine CallOk.of (laws_big_ct e289) ?_
  conv => whnf
  refine spl (fun g290 => ?_) (fun g290 => ?_)
  · replace h := iteT h g290
    conv => whnf
    refine CutK.norm [0, 1, 33] [] ?_
    conv => whnf
    cases h
    exact Done.of [] [] rfl rfl ⟨⟨rfl, rfl⟩, ⟨rfl, trivial⟩, rfl, trivial⟩
  · replace h := iteF h g290
    conv => whnf
    refine CutK.norm [0, 1, 33] [] ?_
    conv => whnf
    exact CutK.piece (laws_FnOrdinalsAsNumbers_p2_ct  h) [] [] ⟨⟨rfl, rfl⟩, ⟨rfl, trivial⟩, rfl, rfl, trivial⟩
end
end Go.Proofs.Try
