/- Printed by program (axgen): pure functions, and that the Go functions compute them. -/
import Derived.Test.YtnphoocghfgjcaaWtbG0
set_option linter.unusedVariables false
set_option linter.unusedSimpArgs false
namespace Go.Proofs.Try
open Go Go.AX
noncomputable section
def spec_odOwn_l0 (rec_spec_odOwn : Rw → Option Rw) (a1 : Rw) (K0 : Rw → Option Rw) : Rw → Rw → Option Rw
  | [], v10 => (K0 v10)
  | cs :: rest, v10 => (cell_si cs fun x28 x29 => ((rec_spec_odOwn x28).bind fun y31 => (if v10.length + 1 ≤ cap then (spec_odOwn_l0 rec_spec_odOwn a1 K0 rest (v10 ++ ([[D.sl y31, D.int .i64 x29]]))) else none)))
set_option maxRecDepth 100000 in
theorem spec_odOwn_l0_ct {rec_spec_odOwn : Rw → Option Rw} {a1 : Rw} {K0 : Rw → Option Rw} (hrec_spec_odOwn : ∀ (a1 : Rw) (r : Rw), rec_spec_odOwn a1 = some r → Ct prog 154 [.agg [.d (D.sl a1)]] (⟨[], []⟩) (.agg [.os 8 r.length]) (⟨[], [(119, true, r)]⟩)) {r : Rw} (hx : a1.length ≤ cap) : ∀ (rest : Rw) (v9n : Nat) (v10 : Rw), a1.drop v9n = rest → spec_odOwn_l0 rec_spec_odOwn a1 K0 rest v10 = some r → LoopOk prog 0 (lp f154 0) (mk 27 [(2, .ptr 128 0), (3, .ptr 192 0), (8, .d (D.sl a1)), (9, .d (D.int .i64 (a1.length : Int))), (10, .d (D.int .i64 (v9n : Int)))] [(128, .box 28 [.es]), (192, .box 28 [.os 64000 v10.length]), (64000, .arr 119 true v10)]) (LoopEnd prog f154 0 27 (.agg [.os 8 r.length]) (⟨[], [(119, true, r)]⟩) (fun i ts os => (i = 0 ∧ ∃ v19 : Rw, K0 v19 = some r ∧ ts = [(2, .ptr 128 0), (3, .ptr 192 0)] ∧ os = [(128, .box 28 [.es]), (192, .box 28 [.os 67001 v19.length]), (67001, .arr 119 true v19)])))
  | [], v9n, v10, hd, h => by
      rw [spec_odOwn_l0] at h
      have hn := drop_nil hd
      refine LoopOk.step ?_
      conv => whnf
      refine splD (fun g => absurd g hn) (fun _ => ?_)
      conv => whnf
      exact ⟨_, _, [some 128, some 192, some 64000], [], ⟨rfl, _, h, rfl, rfl⟩, ⟨⟨rfl, rfl⟩, ⟨rfl, ⟨rfl, trivial, trivial⟩, ⟨rfl, ⟨rfl, rfl⟩, trivial⟩, ⟨rfl, rfl, rows_same⟩, trivial⟩, ⟨rfl, rfl⟩, ⟨rfl, rfl⟩, trivial⟩⟩
  | cs :: rest, v9n, v10, hd, h => by
      rw [spec_odOwn_l0] at h
      obtain ⟨hrow, hd1, hlt⟩ := drop_cons hd
      refine LoopOk.step ?_
      conv => whnf
      refine splD (fun _ => ?_) (fun g => absurd hlt g)
      conv => whnf
      obtain ⟨x28, x29, e30, h⟩ := cell_si_ex h
      rw [e30] at hrow
      refine Req.of (Int.natCast_nonneg _) ?_
      refine Row.of _ hrow ?_
      conv => whnf
      obtain ⟨y31, e32, h⟩ := bind_ex h
      refine CallOk.of (hrec_spec_odOwn _ _ e32) ?_
      conv => whnf
      refine Take.all (rfl) ?_
      conv => whnf
      refine Take.all (rfl) ?_
      conv => whnf
      refine Take.all (by first | rfl | exact List.length_append.symm | (simp; done) | omega) ?_
      conv => whnf
      obtain ⟨g33, h⟩ := req_ex h
      refine Req.of (room (b := 32) (by decide) g33 (wide1 rfl wide0)) ?_
      conv => whnf
      refine CutK.go ?_
      conv => whnf
      exact LoopOk.back (spec_odOwn_l0_ct hrec_spec_odOwn hx rest (v9n + 1) _ hd1 h) [some 128, some 192, some 1472] [] ⟨⟨rfl, rfl⟩, ⟨rfl, ⟨rfl, trivial, trivial⟩, ⟨rfl, ⟨(by first | rfl | exact List.length_append.symm | (simp; done) | omega), rfl⟩, trivial⟩, ⟨rfl, rfl, rows_same⟩, trivial⟩, ⟨rfl, rfl⟩, ⟨rfl, rfl⟩, rfl, rfl, i64eq (wrap_up hlt hx), trivial⟩
def spec_odOwn_b (rec_spec_odOwn : Rw → Option Rw) (a1 : Rw) : Option Rw :=
  (if a1.length ≤ cap then (spec_odOwn_l0 rec_spec_odOwn a1 (fun (v19 : Rw) => some v19) a1 ([] : Rw)) else none)
set_option maxHeartbeats 4000000 in
set_option maxRecDepth 100000 in
theorem spec_odOwn_b_ct {rec_spec_odOwn : Rw → Option Rw} (hrec_spec_odOwn : ∀ (a1 : Rw) (r : Rw), rec_spec_odOwn a1 = some r → Ct prog 154 [.agg [.d (D.sl a1)]] (⟨[], []⟩) (.agg [.os 8 r.length]) (⟨[], [(119, true, r)]⟩)) {a1 : Rw} {r : Rw} (h : spec_odOwn_b rec_spec_odOwn a1 = some r) : Ct prog 154 [.agg [.d (D.sl a1)]] (⟨[], []⟩) (.agg [.os 8 r.length]) (⟨[], [(119, true, r)]⟩) := by
  rw [spec_odOwn_b] at h
  refine Ct.of (c := _) mixed func154 ⟨rfl, rfl, rfl⟩ ?_ rfl
  conv => whnf
  obtain ⟨g34, h⟩ := req_ex h
  refine LoopOk.into (spec_odOwn_l0_ct hrec_spec_odOwn g34 _ _ _ rfl h) [some 128, some 192, none] [] ⟨⟨rfl, rfl⟩, ⟨rfl, ⟨rfl, trivial, trivial⟩, ⟨rfl, ⟨rfl, rfl⟩, trivial⟩, rfl, trivial⟩, ⟨rfl, rfl⟩, ⟨rfl, rfl⟩, rfl, rfl, rfl, trivial⟩ ?_ (fun _ hs => hs)
  rintro i ts os ⟨rfl, v19, h, rfl, rfl⟩
  conv => whnf
  refine CutK.go ?_
  conv => whnf
  cases h
  exact Done.of [some 67001] [] rfl rfl ⟨⟨rfl, rfl⟩, ⟨rfl, ⟨rfl, rfl, rows_same⟩, trivial⟩, ⟨⟨rfl, rfl⟩, trivial⟩, trivial⟩
def spec_odOwn : Nat → Rw → Option Rw
  | 0, _ => none
  | k + 1, a1 => spec_odOwn_b (spec_odOwn k) a1
theorem spec_odOwn_ct' : ∀ (k : Nat) (a1 : Rw) (r : Rw), spec_odOwn k a1 = some r → Ct prog 154 [.agg [.d (D.sl a1)]] (⟨[], []⟩) (.agg [.os 8 r.length]) (⟨[], [(119, true, r)]⟩)
  | 0, _, _, h => by rw [spec_odOwn] at h; cases h
  | k + 1, _, _, h => by rw [spec_odOwn] at h; exact spec_odOwn_b_ct (spec_odOwn_ct' k) h
theorem spec_odOwn_ct {k : Nat} {a1 : Rw} {r : Rw} (h : spec_odOwn k a1 = some r) : Ct prog 154 [.agg [.d (D.sl a1)]] (⟨[], []⟩) (.agg [.os 8 r.length]) (⟨[], [(119, true, r)]⟩) := spec_odOwn_ct' k _ _ h

def spec_woIf_l0 (k : Nat) (a1 : Rw) (K0 : Rw → Option (Rw × Bool)) : Rw → Rw → Option (Rw × Bool)
  | [], v14 => (K0 v14)
  | cs :: rest, v14 => (cell_bs cs fun x42 x43 => (if x42 = true then ((spec_odOwn k x43).bind fun y46 => (if v14.length + 1 ≤ cap then (spec_woIf_l0 k a1 K0 rest (v14 ++ ([[D.bool true, D.sl y46]]))) else none)) else ((spec_odOwn k x43).bind fun y49 => (if v14.length + 1 ≤ cap then (spec_woIf_l0 k a1 K0 rest (v14 ++ ([[D.bool false, D.sl y49]]))) else none))))
set_option maxRecDepth 100000 in
theorem spec_woIf_l0_ct {k : Nat} {a1 : Rw} {K0 : Rw → Option (Rw × Bool)} {r : Rw × Bool} (hx : a1.length ≤ cap) : ∀ (rest : Rw) (v13n : Nat) (v14 : Rw), a1.drop v13n = rest → spec_woIf_l0 k a1 K0 rest v14 = some r → LoopOk prog 0 (lp f93 0) (mk 32 [(2, .ptr 128 0), (4, .ptr 256 0), (13, .d (D.sl a1)), (14, .d (D.int .i64 (a1.length : Int))), (15, .d (D.int .i64 (v13n : Int)))] [(128, .box 56 [.es]), (256, .box 56 [.os 64000 v14.length]), (64000, .arr 111 true v14)]) (LoopEnd prog f93 0 32 (.tup [.agg [.os 8 r.1.length], .d (D.bool r.2)]) (⟨[], [(111, true, r.1)]⟩) (fun i ts os => (i = 0 ∧ ∃ v29 : Rw, K0 v29 = some r ∧ ts = [(2, .ptr 128 0), (4, .ptr 256 0)] ∧ os = [(128, .box 56 [.es]), (256, .box 56 [.os 67001 v29.length]), (67001, .arr 111 true v29)])))
  | [], v13n, v14, hd, h => by
      rw [spec_woIf_l0] at h
      have hn := drop_nil hd
      refine LoopOk.step ?_
      conv => whnf
      refine splD (fun g => absurd g hn) (fun _ => ?_)
      conv => whnf
      exact ⟨_, _, [some 128, some 256, some 64000], [], ⟨rfl, _, h, rfl, rfl⟩, ⟨⟨rfl, rfl⟩, ⟨rfl, ⟨rfl, trivial, trivial⟩, ⟨rfl, ⟨rfl, rfl⟩, trivial⟩, ⟨rfl, rfl, rows_same⟩, trivial⟩, ⟨rfl, rfl⟩, ⟨rfl, rfl⟩, trivial⟩⟩
  | cs :: rest, v13n, v14, hd, h => by
      rw [spec_woIf_l0] at h
      obtain ⟨hrow, hd1, hlt⟩ := drop_cons hd
      refine LoopOk.step ?_
      conv => whnf
      refine splD (fun _ => ?_) (fun g => absurd hlt g)
      conv => whnf
      obtain ⟨x42, x43, e44, h⟩ := cell_bs_ex h
      rw [e44] at hrow
      refine Req.of (Int.natCast_nonneg _) ?_
      refine Row.of _ hrow ?_
      conv => whnf
      refine spl (fun g45 => ?_) (fun g45 => ?_)
      · replace h := iteT h g45
        conv => whnf
        refine splT ?_
        conv => whnf
        obtain ⟨y46, e47, h⟩ := bind_ex h
        refine CallOk.of (spec_odOwn_ct e47) ?_
        conv => whnf
        refine Take.all (rfl) ?_
        conv => whnf
        refine Take.all (rfl) ?_
        conv => whnf
        refine Take.all (by first | rfl | exact List.length_append.symm | (simp; done) | omega) ?_
        conv => whnf
        obtain ⟨g48, h⟩ := req_ex h
        refine Req.of (room (b := 32) (by decide) g48 (wide1 rfl wide0)) ?_
        conv => whnf
        refine CutK.norm [2, 4, 13, 14, 15] [128, 256, 1792] ?_
        conv => whnf
        exact LoopOk.back (spec_woIf_l0_ct hx rest (v13n + 1) _ hd1 h) [some 128, some 256, some 1792] [] ⟨⟨rfl, rfl⟩, ⟨rfl, ⟨rfl, trivial, trivial⟩, ⟨rfl, ⟨(by first | rfl | exact List.length_append.symm | (simp; done) | omega), rfl⟩, trivial⟩, ⟨rfl, rfl, rows_same⟩, trivial⟩, ⟨rfl, rfl⟩, ⟨rfl, rfl⟩, rfl, rfl, i64eq (wrap_up hlt hx), trivial⟩
      · replace h := iteF h g45
        conv => whnf
        refine splF ?_
        conv => whnf
        obtain ⟨y49, e50, h⟩ := bind_ex h
        refine CallOk.of (spec_odOwn_ct e50) ?_
        conv => whnf
        refine Take.all (rfl) ?_
        conv => whnf
        refine Take.all (rfl) ?_
        conv => whnf
        refine Take.all (by first | rfl | exact List.length_append.symm | (simp; done) | omega) ?_
        conv => whnf
        obtain ⟨g51, h⟩ := req_ex h
        refine Req.of (room (b := 32) (by decide) g51 (wide1 rfl wide0)) ?_
        conv => whnf
        refine CutK.norm [2, 4, 13, 14, 15] [128, 256, 1792] ?_
        conv => whnf
        exact LoopOk.back (spec_woIf_l0_ct hx rest (v13n + 1) _ hd1 h) [some 128, some 256, some 1792] [] ⟨⟨rfl, rfl⟩, ⟨rfl, ⟨rfl, trivial, trivial⟩, ⟨rfl, ⟨(by first | rfl | exact List.length_append.symm | (simp; done) | omega), rfl⟩, trivial⟩, ⟨rfl, rfl, rows_same⟩, trivial⟩, ⟨rfl, rfl⟩, ⟨rfl, rfl⟩, rfl, rfl, i64eq (wrap_up hlt hx), trivial⟩
def spec_woIf (k : Nat) (a1 : Rw) : Option (Rw × Bool) :=
  ((spec_woGood k a1).bind fun y2 => (if y2 = true then (if a1.length ≤ cap then (spec_woIf_l0 k a1 (fun (v29 : Rw) => some (v29, true)) a1 ([] : Rw)) else none) else some (([] : Rw), false)))
set_option maxHeartbeats 4000000 in
set_option maxRecDepth 100000 in
theorem spec_woIf_ct {k : Nat} {a1 : Rw} {r : Rw × Bool} (h : spec_woIf k a1 = some r) : Ct prog 93 [.agg [.d (D.sl a1)]] (⟨[], []⟩) (.tup [.agg [.os 8 r.1.length], .d (D.bool r.2)]) (⟨[], [(111, true, r.1)]⟩) := by
  rw [spec_woIf] at h
  refine Ct.of (c := _) mixed func93 ⟨rfl, rfl, rfl⟩ ?_ rfl
  conv => whnf
  obtain ⟨y2, e3, h⟩ := bind_ex h
  refine CallOk.of (spec_woGood_ct e3) ?_
  conv => whnf
  refine spl (fun g4 => ?_) (fun g4 => ?_)
  · replace h := iteT h g4
    conv => whnf
    refine CutK.norm [1, 2, 9] [64, 128] ?_
    conv => whnf
    refine CutK.norm [1, 2] [64, 128] ?_
    conv => whnf
    obtain ⟨g52, h⟩ := req_ex h
    refine LoopOk.into (spec_woIf_l0_ct  g52 _ _ _ rfl h) [some 128, some 256, none] [] ⟨⟨rfl, rfl⟩, ⟨rfl, ⟨rfl, trivial, trivial⟩, ⟨rfl, ⟨rfl, rfl⟩, trivial⟩, rfl, trivial⟩, ⟨rfl, rfl⟩, ⟨rfl, rfl⟩, rfl, rfl, rfl, trivial⟩ ?_ (fun _ hs => hs)
    rintro i ts os ⟨rfl, v29, h, rfl, rfl⟩
    conv => whnf
    refine CutK.norm [2, 4] [128, 256, 67001] ?_
    conv => whnf
    cases h
    exact Done.of [some 67001] [] rfl rfl ⟨⟨rfl, rfl⟩, ⟨rfl, ⟨rfl, rfl, rows_same⟩, trivial⟩, ⟨⟨⟨rfl, rfl⟩, trivial⟩, rfl, trivial⟩, trivial⟩
  · replace h := iteF h g4
    conv => whnf
    refine CutK.norm [1, 2, 9] [64, 128] ?_
    conv => whnf
    cases h
    exact Done.of [none] [] rfl rfl ⟨⟨rfl, rfl⟩, ⟨rfl, rfl, trivial⟩, ⟨⟨⟨rfl, rfl⟩, trivial⟩, rfl, trivial⟩, trivial⟩

def spec_MeetOfWords (k : Nat) (a1 : Rw) (a2 : Rw) : Option (Rw × Bool) :=
  ((spec_woGood k a1).bind fun y3 => (if y3 = true then ((spec_woGood k a2).bind fun y6 => (if y6 = true then ((spec_woMeet k a1 a2).bind fun y9 => ((spec_woIf k y9).bind fun y11 => (if y11.2 = true then some (y11.1, true) else some (y11.1, false)))) else some (([] : Rw), false))) else some (([] : Rw), false)))
set_option maxHeartbeats 4000000 in
set_option maxRecDepth 100000 in
theorem spec_MeetOfWords_ct {k : Nat} {a1 : Rw} {a2 : Rw} {r : Rw × Bool} (h : spec_MeetOfWords k a1 a2 = some r) : Ct prog 42 [.agg [.d (D.sl a1)], .agg [.d (D.sl a2)]] (⟨[], []⟩) (.tup [.agg [.os 8 r.1.length], .d (D.bool r.2)]) (⟨[], [(111, true, r.1)]⟩) := by
  rw [spec_MeetOfWords] at h
  refine Ct.of (c := _) mixed func42 ⟨rfl, rfl, rfl⟩ ?_ rfl
  conv => whnf
  obtain ⟨y3, e4, h⟩ := bind_ex h
  refine CallOk.of (spec_woGood_ct e4) ?_
  conv => whnf
  refine spl (fun g5 => ?_) (fun g5 => ?_)
  · replace h := iteT h g5
    conv => whnf
    obtain ⟨y6, e7, h⟩ := bind_ex h
    refine CallOk.of (spec_woGood_ct e7) ?_
    conv => whnf
    refine spl (fun g8 => ?_) (fun g8 => ?_)
    · replace h := iteT h g8
      conv => whnf
      refine CutK.go ?_
      conv => whnf
      refine CutK.go ?_
      conv => whnf
      obtain ⟨y9, e10, h⟩ := bind_ex h
      refine CallOk.of (spec_woMeet_ct e10) ?_
      conv => whnf
      refine Take.all (rfl) ?_
      conv => whnf
      obtain ⟨y11, e12, h⟩ := bind_ex h
      refine CallOk.of (spec_woIf_ct e12) ?_
      conv => whnf
      refine spl (fun g13 => ?_) (fun g13 => ?_)
      · replace h := iteT h g13
        conv => whnf
        refine CutK.go ?_
        conv => whnf
        cases h
        exact Done.of [some 1152] [] rfl rfl ⟨⟨rfl, rfl⟩, ⟨rfl, ⟨rfl, rfl, rows_same⟩, trivial⟩, ⟨⟨⟨rfl, rfl⟩, trivial⟩, rfl, trivial⟩, trivial⟩
      · replace h := iteF h g13
        conv => whnf
        refine CutK.go ?_
        conv => whnf
        cases h
        exact Done.of [some 1152] [] rfl rfl ⟨⟨rfl, rfl⟩, ⟨rfl, ⟨rfl, rfl, rows_same⟩, trivial⟩, ⟨⟨⟨rfl, rfl⟩, trivial⟩, rfl, trivial⟩, trivial⟩
    · replace h := iteF h g8
      conv => whnf
      refine CutK.go ?_
      conv => whnf
      cases h
      exact Done.of [none] [] rfl rfl ⟨⟨rfl, rfl⟩, ⟨rfl, rfl, trivial⟩, ⟨⟨⟨rfl, rfl⟩, trivial⟩, rfl, trivial⟩, trivial⟩
  · replace h := iteF h g5
    conv => whnf
    refine CutK.go ?_
    conv => whnf
    cases h
    exact Done.of [none] [] rfl rfl ⟨⟨rfl, rfl⟩, ⟨rfl, rfl, trivial⟩, ⟨⟨⟨rfl, rfl⟩, trivial⟩, rfl, trivial⟩, trivial⟩

def laws_szOrdinalTerm (rec_laws_szOrdinal : Rw → Int → Option Int) (a1 : Rw) (a2 : Int) (a3 : Int) : Option Int :=
  ((rec_laws_szOrdinal a1 a3).bind fun y4 => (if y4 < (0 : Int) then some (-1) else some y4))
set_option maxHeartbeats 4000000 in
set_option maxRecDepth 100000 in
theorem laws_szOrdinalTerm_ct {rec_laws_szOrdinal : Rw → Int → Option Int} (hrec_laws_szOrdinal : ∀ (a1 : Rw) (a2 : Int) (r : Int), rec_laws_szOrdinal a1 a2 = some r → Ct prog 30 [.agg [.d (D.sl a1)], .d (D.int .i64 a2)] (⟨[], []⟩) (.d (D.int .i64 r)) (⟨[], []⟩)) {a1 : Rw} {a2 : Int} {a3 : Int} {r : Int} (h : laws_szOrdinalTerm rec_laws_szOrdinal a1 a2 a3 = some r) : Ct prog 137 [.agg [.d (D.sl a1), .d (D.int .i64 a2)], .d (D.int .i64 a3)] (⟨[], []⟩) (.d (D.int .i64 r)) (⟨[], []⟩) := by
  rw [laws_szOrdinalTerm] at h
  refine Ct.of (c := _) mixed func137 ⟨rfl, rfl, rfl⟩ ?_ rfl
  conv => whnf
  obtain ⟨y4, e5, h⟩ := bind_ex h
  refine CallOk.of (hrec_laws_szOrdinal _ _ _ e5) ?_
  conv => whnf
  refine CutK.go ?_
  conv => whnf
  refine splD (fun g6 => ?_) (fun g6 => ?_)
  · replace h := iteP h g6
    conv => whnf
    cases h
    exact Done.of [] [] rfl rfl ⟨⟨rfl, rfl⟩, ⟨rfl, trivial⟩, rfl, trivial⟩
  · replace h := iteN h g6
    conv => whnf
    cases h
    exact Done.of [] [] rfl rfl ⟨⟨rfl, rfl⟩, ⟨rfl, trivial⟩, rfl, trivial⟩

def laws_szOrdinalTermS_l0 (rec_laws_szOrdinal : Rw → Int → Option Int) (a1 : Rw) (K0 : Int → Option Int) : Rw → Int → Option Int
  | [], v12 => (K0 v12)
  | cs :: rest, v12 => (cell_si cs fun x31 x32 => ((laws_szOrdinalTerm rec_laws_szOrdinal x31 x32 v12).bind fun y34 => (if y34 < (0 : Int) then some (-1) else (laws_szOrdinalTermS_l0 rec_laws_szOrdinal a1 K0 rest y34))))
set_option maxRecDepth 100000 in
theorem laws_szOrdinalTermS_l0_ct {rec_laws_szOrdinal : Rw → Int → Option Int} {a1 : Rw} {K0 : Int → Option Int} (hrec_laws_szOrdinal : ∀ (a1 : Rw) (a2 : Int) (r : Int), rec_laws_szOrdinal a1 a2 = some r → Ct prog 30 [.agg [.d (D.sl a1)], .d (D.int .i64 a2)] (⟨[], []⟩) (.d (D.int .i64 r)) (⟨[], []⟩)) {r : Int} (hx : a1.length ≤ cap) : ∀ (rest : Rw) (v13n : Nat) (v12 : Int), a1.drop v13n = rest → laws_szOrdinalTermS_l0 rec_laws_szOrdinal a1 K0 rest v12 = some r → LoopOk prog 0 (lp f81 0) (mk 27 [(0, .d (D.sl a1)), (1, .d (D.int .i64 v12)), (5, .d (D.int .i64 (v13n : Int)))] []) (LoopEnd prog f81 0 27 (.d (D.int .i64 r)) (⟨[], []⟩) (fun i ts os => (i = 0 ∧ ∃ v22 : Int, K0 v22 = some r ∧ ts = [(1, .d (D.int .i64 v22))] ∧ os = [])))
  | [], v13n, v12, hd, h => by
      rw [laws_szOrdinalTermS_l0] at h
      have hn := drop_nil hd
      refine LoopOk.step ?_
      conv => whnf
      refine splD (fun g => absurd g hn) (fun _ => ?_)
      conv => whnf
      exact ⟨_, _, [], [], ⟨rfl, _, h, rfl, rfl⟩, ⟨⟨rfl, rfl⟩, ⟨rfl, trivial⟩, rfl, trivial⟩⟩
  | cs :: rest, v13n, v12, hd, h => by
      rw [laws_szOrdinalTermS_l0] at h
      obtain ⟨hrow, hd1, hlt⟩ := drop_cons hd
      refine LoopOk.step ?_
      conv => whnf
      refine splD (fun _ => ?_) (fun g => absurd hlt g)
      conv => whnf
      obtain ⟨x31, x32, e33, h⟩ := cell_si_ex h
      rw [e33] at hrow
      refine Req.of (Int.natCast_nonneg _) ?_
      refine Row.of _ hrow ?_
      conv => whnf
      obtain ⟨y34, e35, h⟩ := bind_ex h
      refine CallOk.of (laws_szOrdinalTerm_ct hrec_laws_szOrdinal e35) ?_
      conv => whnf
      refine CutK.go ?_
      conv => whnf
      refine splD (fun g36 => ?_) (fun g36 => ?_)
      · replace h := iteP h g36
        conv => whnf
        cases h
        exact Done.of [] [] rfl rfl ⟨⟨rfl, rfl⟩, ⟨rfl, trivial⟩, rfl, trivial⟩
      · replace h := iteN h g36
        conv => whnf
        refine CutK.go ?_
        conv => whnf
        exact LoopOk.back (laws_szOrdinalTermS_l0_ct hrec_laws_szOrdinal hx rest (v13n + 1) _ hd1 h) [] [] ⟨⟨rfl, rfl⟩, ⟨rfl, trivial⟩, rfl, rfl, i64eq (wrap_up hlt hx), trivial⟩
def laws_szOrdinalTermS (rec_laws_szOrdinal : Rw → Int → Option Int) (a1 : Rw) (a2 : Int) : Option Int :=
  (if (IntKind.i64.wrap (a2 - (a1.length : Int))) < (0 : Int) then some (-1) else (if a1.length ≤ cap then (laws_szOrdinalTermS_l0 rec_laws_szOrdinal a1 (fun (v22 : Int) => some v22) a1 (IntKind.i64.wrap (a2 - (a1.length : Int)))) else none))
set_option maxHeartbeats 4000000 in
set_option maxRecDepth 100000 in
theorem laws_szOrdinalTermS_ct {rec_laws_szOrdinal : Rw → Int → Option Int} (hrec_laws_szOrdinal : ∀ (a1 : Rw) (a2 : Int) (r : Int), rec_laws_szOrdinal a1 a2 = some r → Ct prog 30 [.agg [.d (D.sl a1)], .d (D.int .i64 a2)] (⟨[], []⟩) (.d (D.int .i64 r)) (⟨[], []⟩)) {a1 : Rw} {a2 : Int} {r : Int} (h : laws_szOrdinalTermS rec_laws_szOrdinal a1 a2 = some r) : Ct prog 81 [.d (D.sl a1), .d (D.int .i64 a2)] (⟨[], []⟩) (.d (D.int .i64 r)) (⟨[], []⟩) := by
  rw [laws_szOrdinalTermS] at h
  refine Ct.of (c := _) mixed func81 ⟨rfl, rfl, rfl⟩ ?_ rfl
  conv => whnf
  refine splD (fun g3 => ?_) (fun g3 => ?_)
  · replace h := iteP h g3
    conv => whnf
    cases h
    exact Done.of [] [] rfl rfl ⟨⟨rfl, rfl⟩, ⟨rfl, trivial⟩, rfl, trivial⟩
  · replace h := iteN h g3
    conv => whnf
    obtain ⟨g37, h⟩ := req_ex h
    refine LoopOk.into (laws_szOrdinalTermS_l0_ct hrec_laws_szOrdinal g37 _ _ _ rfl h) [] [] ⟨⟨rfl, rfl⟩, ⟨rfl, trivial⟩, rfl, rfl, rfl, trivial⟩ ?_ (fun _ hs => hs)
    rintro i ts os ⟨rfl, v22, h, rfl, rfl⟩
    conv => whnf
    refine CutK.go ?_
    conv => whnf
    cases h
    exact Done.of [] [] rfl rfl ⟨⟨rfl, rfl⟩, ⟨rfl, trivial⟩, rfl, trivial⟩

def laws_szOrdinal_b (rec_laws_szOrdinal : Rw → Int → Option Int) (a1 : Rw) (a2 : Int) : Option Int :=
  ((laws_szOrdinalTermS rec_laws_szOrdinal a1 a2).bind fun y3 => (if y3 < (0 : Int) then some (-1) else some y3))
set_option maxHeartbeats 4000000 in
set_option maxRecDepth 100000 in
theorem laws_szOrdinal_b_ct {rec_laws_szOrdinal : Rw → Int → Option Int} (hrec_laws_szOrdinal : ∀ (a1 : Rw) (a2 : Int) (r : Int), rec_laws_szOrdinal a1 a2 = some r → Ct prog 30 [.agg [.d (D.sl a1)], .d (D.int .i64 a2)] (⟨[], []⟩) (.d (D.int .i64 r)) (⟨[], []⟩)) {a1 : Rw} {a2 : Int} {r : Int} (h : laws_szOrdinal_b rec_laws_szOrdinal a1 a2 = some r) : Ct prog 30 [.agg [.d (D.sl a1)], .d (D.int .i64 a2)] (⟨[], []⟩) (.d (D.int .i64 r)) (⟨[], []⟩) := by
  rw [laws_szOrdinal_b] at h
  refine Ct.of (c := _) mixed func30 ⟨rfl, rfl, rfl⟩ ?_ rfl
  conv => whnf
  obtain ⟨y3, e4, h⟩ := bind_ex h
  refine CallOk.of (laws_szOrdinalTermS_ct hrec_laws_szOrdinal e4) ?_
  conv => whnf
  refine CutK.go ?_
  conv => whnf
  refine splD (fun g5 => ?_) (fun g5 => ?_)
  · replace h := iteP h g5
    conv => whnf
    cases h
    exact Done.of [] [] rfl rfl ⟨⟨rfl, rfl⟩, ⟨rfl, trivial⟩, rfl, trivial⟩
  · replace h := iteN h g5
    conv => whnf
    cases h
    exact Done.of [] [] rfl rfl ⟨⟨rfl, rfl⟩, ⟨rfl, trivial⟩, rfl, trivial⟩
def laws_szOrdinal : Nat → Rw → Int → Option Int
  | 0, _, _ => none
  | k + 1, a1, a2 => laws_szOrdinal_b (laws_szOrdinal k) a1 a2
theorem laws_szOrdinal_ct' : ∀ (k : Nat) (a1 : Rw) (a2 : Int) (r : Int), laws_szOrdinal k a1 a2 = some r → Ct prog 30 [.agg [.d (D.sl a1)], .d (D.int .i64 a2)] (⟨[], []⟩) (.d (D.int .i64 r)) (⟨[], []⟩)
  | 0, _, _, _, h => by rw [laws_szOrdinal] at h; cases h
  | k + 1, _, _, _, h => by rw [laws_szOrdinal] at h; exact laws_szOrdinal_b_ct (laws_szOrdinal_ct' k) h
theorem laws_szOrdinal_ct {k : Nat} {a1 : Rw} {a2 : Int} {r : Int} (h : laws_szOrdinal k a1 a2 = some r) : Ct prog 30 [.agg [.d (D.sl a1)], .d (D.int .i64 a2)] (⟨[], []⟩) (.d (D.int .i64 r)) (⟨[], []⟩) := laws_szOrdinal_ct' k _ _ _ h

def laws_szRun (k : Nat) (a1 : Bool) (a2 : Rw) (a3 : Int) : Option Int :=
  (cond a1 ((laws_szOrdinal k a2 a3).bind fun y7 => (if y7 < (0 : Int) then some (-1) else some y7)) ((laws_szOrdinal k a2 a3).bind fun y4 => (if y4 < (0 : Int) then some (-1) else some y4)))
set_option maxHeartbeats 4000000 in
set_option maxRecDepth 100000 in
theorem laws_szRun_ct {k : Nat} {a1 : Bool} {a2 : Rw} {a3 : Int} {r : Int} (h : laws_szRun k a1 a2 a3 = some r) : Ct prog 136 [.agg [.d (D.bool a1), .d (D.sl a2)], .d (D.int .i64 a3)] (⟨[], []⟩) (.d (D.int .i64 r)) (⟨[], []⟩) := by
  rw [laws_szRun] at h
  refine Ct.of (c := _) mixed func136 ⟨rfl, rfl, rfl⟩ ?_ rfl
  cases a1
  · replace h := condF h
    conv => whnf
    obtain ⟨y4, e5, h⟩ := bind_ex h
    refine CallOk.of (laws_szOrdinal_ct e5) ?_
    conv => whnf
    refine CutK.go ?_
    conv => whnf
    refine splD (fun g6 => ?_) (fun g6 => ?_)
    · replace h := iteP h g6
      conv => whnf
      cases h
      exact Done.of [] [] rfl rfl ⟨⟨rfl, rfl⟩, ⟨rfl, trivial⟩, rfl, trivial⟩
    · replace h := iteN h g6
      conv => whnf
      cases h
      exact Done.of [] [] rfl rfl ⟨⟨rfl, rfl⟩, ⟨rfl, trivial⟩, rfl, trivial⟩
  · replace h := condT h
    conv => whnf
    obtain ⟨y7, e8, h⟩ := bind_ex h
    refine CallOk.of (laws_szOrdinal_ct e8) ?_
    conv => whnf
    refine CutK.go ?_
    conv => whnf
    refine splD (fun g9 => ?_) (fun g9 => ?_)
    · replace h := iteP h g9
      conv => whnf
      cases h
      exact Done.of [] [] rfl rfl ⟨⟨rfl, rfl⟩, ⟨rfl, trivial⟩, rfl, trivial⟩
    · replace h := iteN h g9
      conv => whnf
      cases h
      exact Done.of [] [] rfl rfl ⟨⟨rfl, rfl⟩, ⟨rfl, trivial⟩, rfl, trivial⟩

def laws_szRunS_l0 (k : Nat) (a1 : Rw) (K0 : Int → Option Int) : Rw → Int → Option Int
  | [], v13 => (K0 v13)
  | cs :: rest, v13 => (cell_bs cs fun x43 x44 => (if x43 = true then ((laws_szRun k true x44 v13).bind fun y47 => (if y47 < (0 : Int) then some (-1) else (laws_szRunS_l0 k a1 K0 rest y47))) else ((laws_szRun k false x44 v13).bind fun y50 => (if y50 < (0 : Int) then some (-1) else (laws_szRunS_l0 k a1 K0 rest y50)))))
set_option maxRecDepth 100000 in
theorem laws_szRunS_l0_ct {k : Nat} {a1 : Rw} {K0 : Int → Option Int} {r : Int} (hx : a1.length ≤ cap) : ∀ (rest : Rw) (v14n : Nat) (v13 : Int), a1.drop v14n = rest → laws_szRunS_l0 k a1 K0 rest v13 = some r → LoopOk prog 0 (lp f80 0) (mk 27 [(0, .d (D.sl a1)), (1, .d (D.int .i64 v13)), (5, .d (D.int .i64 (v14n : Int)))] []) (LoopEnd prog f80 0 27 (.d (D.int .i64 r)) (⟨[], []⟩) (fun i ts os => (i = 0 ∧ ∃ v30 : Int, K0 v30 = some r ∧ ts = [(1, .d (D.int .i64 v30))] ∧ os = [])))
  | [], v14n, v13, hd, h => by
      rw [laws_szRunS_l0] at h
      have hn := drop_nil hd
      refine LoopOk.step ?_
      conv => whnf
      refine splD (fun g => absurd g hn) (fun _ => ?_)
      conv => whnf
      exact ⟨_, _, [], [], ⟨rfl, _, h, rfl, rfl⟩, ⟨⟨rfl, rfl⟩, ⟨rfl, trivial⟩, rfl, trivial⟩⟩
  | cs :: rest, v14n, v13, hd, h => by
      rw [laws_szRunS_l0] at h
      obtain ⟨hrow, hd1, hlt⟩ := drop_cons hd
      refine LoopOk.step ?_
      conv => whnf
      refine splD (fun _ => ?_) (fun g => absurd hlt g)
      conv => whnf
      obtain ⟨x43, x44, e45, h⟩ := cell_bs_ex h
      rw [e45] at hrow
      refine Req.of (Int.natCast_nonneg _) ?_
      refine Row.of _ hrow ?_
      conv => whnf
      refine spl (fun g46 => ?_) (fun g46 => ?_)
      · replace h := iteT h g46
        conv => whnf
        obtain ⟨y47, e48, h⟩ := bind_ex h
        refine CallOk.of (laws_szRun_ct e48) ?_
        conv => whnf
        refine CutK.go ?_
        conv => whnf
        refine splD (fun g49 => ?_) (fun g49 => ?_)
        · replace h := iteP h g49
          conv => whnf
          cases h
          exact Done.of [] [] rfl rfl ⟨⟨rfl, rfl⟩, ⟨rfl, trivial⟩, rfl, trivial⟩
        · replace h := iteN h g49
          conv => whnf
          refine CutK.go ?_
          conv => whnf
          exact LoopOk.back (laws_szRunS_l0_ct hx rest (v14n + 1) _ hd1 h) [] [] ⟨⟨rfl, rfl⟩, ⟨rfl, trivial⟩, rfl, rfl, i64eq (wrap_up hlt hx), trivial⟩
      · replace h := iteF h g46
        conv => whnf
        obtain ⟨y50, e51, h⟩ := bind_ex h
        refine CallOk.of (laws_szRun_ct e51) ?_
        conv => whnf
        refine CutK.go ?_
        conv => whnf
        refine splD (fun g52 => ?_) (fun g52 => ?_)
        · replace h := iteP h g52
          conv => whnf
          cases h
          exact Done.of [] [] rfl rfl ⟨⟨rfl, rfl⟩, ⟨rfl, trivial⟩, rfl, trivial⟩
        · replace h := iteN h g52
          conv => whnf
          refine CutK.go ?_
          conv => whnf
          exact LoopOk.back (laws_szRunS_l0_ct hx rest (v14n + 1) _ hd1 h) [] [] ⟨⟨rfl, rfl⟩, ⟨rfl, trivial⟩, rfl, rfl, i64eq (wrap_up hlt hx), trivial⟩
def laws_szRunS (k : Nat) (a1 : Rw) (a2 : Int) : Option Int :=
  (if (IntKind.i64.wrap (a2 - (a1.length : Int))) < (0 : Int) then some (-1) else (if a1.length ≤ cap then (laws_szRunS_l0 k a1 (fun (v30 : Int) => some v30) a1 (IntKind.i64.wrap (a2 - (a1.length : Int)))) else none))
set_option maxHeartbeats 4000000 in
set_option maxRecDepth 100000 in
theorem laws_szRunS_ct {k : Nat} {a1 : Rw} {a2 : Int} {r : Int} (h : laws_szRunS k a1 a2 = some r) : Ct prog 80 [.d (D.sl a1), .d (D.int .i64 a2)] (⟨[], []⟩) (.d (D.int .i64 r)) (⟨[], []⟩) := by
  rw [laws_szRunS] at h
  refine Ct.of (c := _) mixed func80 ⟨rfl, rfl, rfl⟩ ?_ rfl
  conv => whnf
  refine splD (fun g3 => ?_) (fun g3 => ?_)
  · replace h := iteP h g3
    conv => whnf
    cases h
    exact Done.of [] [] rfl rfl ⟨⟨rfl, rfl⟩, ⟨rfl, trivial⟩, rfl, trivial⟩
  · replace h := iteN h g3
    conv => whnf
    obtain ⟨g53, h⟩ := req_ex h
    refine LoopOk.into (laws_szRunS_l0_ct  g53 _ _ _ rfl h) [] [] ⟨⟨rfl, rfl⟩, ⟨rfl, trivial⟩, rfl, rfl, rfl, trivial⟩ ?_ (fun _ hs => hs)
    rintro i ts os ⟨rfl, v30, h, rfl, rfl⟩
    conv => whnf
    refine CutK.go ?_
    conv => whnf
    cases h
    exact Done.of [] [] rfl rfl ⟨⟨rfl, rfl⟩, ⟨rfl, trivial⟩, rfl, trivial⟩

def laws_szWord (k : Nat) (a1 : Rw) (a2 : Int) : Option Int :=
  ((laws_szRunS k a1 a2).bind fun y3 => (if y3 < (0 : Int) then some (-1) else some y3))
set_option maxHeartbeats 4000000 in
set_option maxRecDepth 100000 in
theorem laws_szWord_ct {k : Nat} {a1 : Rw} {a2 : Int} {r : Int} (h : laws_szWord k a1 a2 = some r) : Ct prog 29 [.agg [.d (D.sl a1)], .d (D.int .i64 a2)] (⟨[], []⟩) (.d (D.int .i64 r)) (⟨[], []⟩) := by
  rw [laws_szWord] at h
  refine Ct.of (c := _) mixed func29 ⟨rfl, rfl, rfl⟩ ?_ rfl
  conv => whnf
  obtain ⟨y3, e4, h⟩ := bind_ex h
  refine CallOk.of (laws_szRunS_ct e4) ?_
  conv => whnf
  refine CutK.go ?_
  conv => whnf
  refine splD (fun g5 => ?_) (fun g5 => ?_)
  · replace h := iteP h g5
    conv => whnf
    cases h
    exact Done.of [] [] rfl rfl ⟨⟨rfl, rfl⟩, ⟨rfl, trivial⟩, rfl, trivial⟩
  · replace h := iteN h g5
    conv => whnf
    cases h
    exact Done.of [] [] rfl rfl ⟨⟨rfl, rfl⟩, ⟨rfl, trivial⟩, rfl, trivial⟩

def laws_FnExactMeetOfWords_p27 (o230 : Int) (o231 : Int) : Option Bool :=
  (if o231 < (0 : Int) then some false else (if o231 = o230 then some true else some false))
set_option maxHeartbeats 4000000 in
set_option maxRecDepth 100000 in
theorem laws_FnExactMeetOfWords_p27_ct {o230 : Int} {o231 : Int} {r : Bool} (h : laws_FnExactMeetOfWords_p27 o230 o231 = some r) : X prog 0 (tlF f9 27) (mk 119 [(13, .d (D.int .i64 o230)), (14, .d (D.int .i64 o231))] []) (finK prog f9 0 (.d (D.bool r)) (⟨[], []⟩)) := by
  rw [laws_FnExactMeetOfWords_p27] at h
  conv => whnf
  refine splD (fun g234 => ?_) (fun g234 => ?_)
  · replace h := iteP h g234
    conv => whnf
    cases h
    exact Done.of [] [] rfl rfl ⟨⟨rfl, rfl⟩, ⟨rfl, trivial⟩, rfl, trivial⟩
  · replace h := iteN h g234
    conv => whnf
    refine splN (fun g235 => ?_) (fun g235 => ?_)
    · replace h := iteN h g235
      conv => whnf
      cases h
      exact Done.of [] [] rfl rfl ⟨⟨rfl, rfl⟩, ⟨rfl, trivial⟩, rfl, trivial⟩
    · replace h := iteP h g235
      conv => whnf
      cases h
      exact Done.of [] [] rfl rfl ⟨⟨rfl, rfl⟩, ⟨rfl, trivial⟩, rfl, trivial⟩
def laws_FnExactMeetOfWords_p25 (k : Nat) (o217 : Int) (o218 : Rw) : Option Bool :=
  ((laws_heldWord k o218 1).bind fun y236 => (laws_FnExactMeetOfWords_p27 o217 y236))
set_option maxHeartbeats 4000000 in
set_option maxRecDepth 100000 in
theorem laws_FnExactMeetOfWords_p25_ct {k : Nat} {o217 : Int} {o218 : Rw} {r : Bool} (h : laws_FnExactMeetOfWords_p25 k o217 o218 = some r) : X prog 0 (tlF f9 25) (mk 119 [(10, .ptr 640 0), (13, .d (D.int .i64 o217))] [(640, .box 56 [.os 1189000 o218.length]), (1189000, .arr 111 true o218)]) (finK prog f9 0 (.d (D.bool r)) (⟨[], []⟩)) := by
  rw [laws_FnExactMeetOfWords_p25] at h
  conv => whnf
  refine Choice.old ?_
  conv => whnf
  refine Take.all (rfl) ?_
  conv => whnf
  obtain ⟨y236, e237, h⟩ := bind_ex h
  refine CallOk.of (laws_heldWord_ct e237) ?_
  conv => whnf
  exact CutK.piece (laws_FnExactMeetOfWords_p27_ct  h) [] [] ⟨⟨rfl, rfl⟩, ⟨rfl, trivial⟩, rfl, rfl, trivial⟩
def laws_FnExactMeetOfWords_p24 (k : Nat) (o199 : Int) (o200 : Rw) (o201 : Rw) (o202 : Rw) (v203 : Bool) (v213 : Bool) : Option Bool :=
  (cond v203 (cond v213 ((laws_eqWord k o202 o200).bind fun y247 => (if y247 = true then (laws_FnExactMeetOfWords_p25 k o199 o201) else some false)) ((laws_eqWord k o202 o200).bind fun y244 => (if y244 = true then some false else some false))) (cond v213 ((laws_eqWord k o202 o200).bind fun y241 => (if y241 = true then some false else some false)) ((laws_eqWord k o202 o200).bind fun y238 => (if y238 = true then (laws_FnExactMeetOfWords_p25 k o199 o201) else some false))))
set_option maxHeartbeats 4000000 in
set_option maxRecDepth 100000 in
theorem laws_FnExactMeetOfWords_p24_ct {k : Nat} {o199 : Int} {o200 : Rw} {o201 : Rw} {o202 : Rw} {v203 : Bool} {v213 : Bool} {r : Bool} (h : laws_FnExactMeetOfWords_p24 k o199 o200 o201 o202 v203 v213 = some r) : X prog 0 (tlF f9 24) (mk 119 [(6, .ptr 384 0), (7, .d (D.bool v213)), (10, .ptr 640 0), (13, .d (D.int .i64 o199)), (15, .ptr 960 0), (16, .d (D.bool v203))] [(384, .box 56 [.os 1184000 o200.length]), (640, .box 56 [.os 1184001 o201.length]), (960, .box 56 [.os 1184002 o202.length]), (1184000, .arr 111 true o200), (1184001, .arr 111 true o201), (1184002, .arr 111 true o202)]) (finK prog f9 0 (.d (D.bool r)) (⟨[], []⟩)) := by
  rw [laws_FnExactMeetOfWords_p24] at h
  cases v203
  · replace h := condF h
    cases v213
    · replace h := condF h
      conv => whnf
      refine Take.all (rfl) ?_
      conv => whnf
      refine Take.all (rfl) ?_
      conv => whnf
      obtain ⟨y238, e239, h⟩ := bind_ex h
      refine CallOk.of (laws_eqWord_ct e239) ?_
      conv => whnf
      refine spl (fun g240 => ?_) (fun g240 => ?_)
      · replace h := iteT h g240
        conv => whnf
        refine splF ?_
        conv => whnf
        refine CutK.norm [10, 13, 110] [640, 1184001] ?_
        conv => whnf
        exact CutK.piece (laws_FnExactMeetOfWords_p25_ct  h) [some 640, some 1184001] [] ⟨⟨rfl, rfl⟩, ⟨rfl, ⟨rfl, ⟨rfl, rfl⟩, trivial⟩, ⟨rfl, rfl, rows_same⟩, trivial⟩, ⟨rfl, rfl⟩, rfl, trivial⟩
      · replace h := iteF h g240
        conv => whnf
        refine CutK.norm [10, 13, 110] [640, 1184001] ?_
        conv => whnf
        cases h
        exact Done.of [] [] rfl rfl ⟨⟨rfl, rfl⟩, ⟨rfl, trivial⟩, rfl, trivial⟩
    · replace h := condT h
      conv => whnf
      refine Take.all (rfl) ?_
      conv => whnf
      refine Take.all (rfl) ?_
      conv => whnf
      obtain ⟨y241, e242, h⟩ := bind_ex h
      refine CallOk.of (laws_eqWord_ct e242) ?_
      conv => whnf
      refine spl (fun g243 => ?_) (fun g243 => ?_)
      · replace h := iteT h g243
        conv => whnf
        refine splT ?_
        conv => whnf
        refine CutK.norm [10, 13, 110] [640, 1184001] ?_
        conv => whnf
        cases h
        exact Done.of [] [] rfl rfl ⟨⟨rfl, rfl⟩, ⟨rfl, trivial⟩, rfl, trivial⟩
      · replace h := iteF h g243
        conv => whnf
        refine CutK.norm [10, 13, 110] [640, 1184001] ?_
        conv => whnf
        cases h
        exact Done.of [] [] rfl rfl ⟨⟨rfl, rfl⟩, ⟨rfl, trivial⟩, rfl, trivial⟩
  · replace h := condT h
    cases v213
    · replace h := condF h
      conv => whnf
      refine Take.all (rfl) ?_
      conv => whnf
      refine Take.all (rfl) ?_
      conv => whnf
      obtain ⟨y244, e245, h⟩ := bind_ex h
      refine CallOk.of (laws_eqWord_ct e245) ?_
      conv => whnf
      refine spl (fun g246 => ?_) (fun g246 => ?_)
      · replace h := iteT h g246
        conv => whnf
        refine splT ?_
        conv => whnf
        refine CutK.norm [10, 13, 110] [640, 1184001] ?_
        conv => whnf
        cases h
        exact Done.of [] [] rfl rfl ⟨⟨rfl, rfl⟩, ⟨rfl, trivial⟩, rfl, trivial⟩
      · replace h := iteF h g246
        conv => whnf
        refine CutK.norm [10, 13, 110] [640, 1184001] ?_
        conv => whnf
        cases h
        exact Done.of [] [] rfl rfl ⟨⟨rfl, rfl⟩, ⟨rfl, trivial⟩, rfl, trivial⟩
    · replace h := condT h
      conv => whnf
      refine Take.all (rfl) ?_
      conv => whnf
      refine Take.all (rfl) ?_
      conv => whnf
      obtain ⟨y247, e248, h⟩ := bind_ex h
      refine CallOk.of (laws_eqWord_ct e248) ?_
      conv => whnf
      refine spl (fun g249 => ?_) (fun g249 => ?_)
      · replace h := iteT h g249
        conv => whnf
        refine splF ?_
        conv => whnf
        refine CutK.norm [10, 13, 110] [640, 1184001] ?_
        conv => whnf
        exact CutK.piece (laws_FnExactMeetOfWords_p25_ct  h) [some 640, some 1184001] [] ⟨⟨rfl, rfl⟩, ⟨rfl, ⟨rfl, ⟨rfl, rfl⟩, trivial⟩, ⟨rfl, rfl, rows_same⟩, trivial⟩, ⟨rfl, rfl⟩, rfl, trivial⟩
      · replace h := iteF h g249
        conv => whnf
        refine CutK.norm [10, 13, 110] [640, 1184001] ?_
        conv => whnf
        cases h
        exact Done.of [] [] rfl rfl ⟨⟨rfl, rfl⟩, ⟨rfl, trivial⟩, rfl, trivial⟩
def laws_FnExactMeetOfWords_p21 (k : Nat) (a1 : Rw) (a2 : Rw) (o183 : Int) (o184 : Int) (o185 : Rw) (o186 : Rw) (v189 : Bool) : Option Bool :=
  (cond v189 (if o184 < (0 : Int) then some false else (if o184 = o183 then ((laws_toWord k a1).bind fun y261 => ((laws_toWord k a2).bind fun y263 => ((impl_MeetOfWords k y261 y263).bind fun y265 => (if y265.2 = true then (laws_FnExactMeetOfWords_p24 k o183 o185 o186 y265.1 true true) else (laws_FnExactMeetOfWords_p24 k o183 o185 o186 y265.1 false true))))) else some false)) (if o184 < (0 : Int) then some false else (if o184 = o183 then ((laws_toWord k a1).bind fun y252 => ((laws_toWord k a2).bind fun y254 => ((impl_MeetOfWords k y252 y254).bind fun y256 => (if y256.2 = true then (laws_FnExactMeetOfWords_p24 k o183 o185 o186 y256.1 true false) else (laws_FnExactMeetOfWords_p24 k o183 o185 o186 y256.1 false false))))) else some false)))
set_option maxHeartbeats 4000000 in
set_option maxRecDepth 100000 in
theorem laws_FnExactMeetOfWords_p21_ct {k : Nat} {a1 : Rw} {a2 : Rw} {o183 : Int} {o184 : Int} {o185 : Rw} {o186 : Rw} {v189 : Bool} {r : Bool} (h : laws_FnExactMeetOfWords_p21 k a1 a2 o183 o184 o185 o186 v189 = some r) : X prog 0 (tlF f9 21) (mk 119 [(2, .ptr 128 0), (3, .ptr 192 0), (6, .ptr 384 0), (7, .d (D.bool v189)), (10, .ptr 640 0), (13, .d (D.int .i64 o183)), (14, .d (D.int .i64 o184))] [(128, .box 46 [.d (D.sl a1)]), (192, .box 46 [.d (D.sl a2)]), (384, .box 56 [.os 1169000 o185.length]), (640, .box 56 [.os 1169001 o186.length]), (1169000, .arr 111 true o185), (1169001, .arr 111 true o186)]) (finK prog f9 0 (.d (D.bool r)) (⟨[], []⟩)) := by
  rw [laws_FnExactMeetOfWords_p21] at h
  cases v189
  · replace h := condF h
    conv => whnf
    refine splD (fun g250 => ?_) (fun g250 => ?_)
    · replace h := iteP h g250
      conv => whnf
      cases h
      exact Done.of [] [] rfl rfl ⟨⟨rfl, rfl⟩, ⟨rfl, trivial⟩, rfl, trivial⟩
    · replace h := iteN h g250
      conv => whnf
      refine splN (fun g251 => ?_) (fun g251 => ?_)
      · replace h := iteN h g251
        conv => whnf
        cases h
        exact Done.of [] [] rfl rfl ⟨⟨rfl, rfl⟩, ⟨rfl, trivial⟩, rfl, trivial⟩
      · replace h := iteP h g251
        conv => whnf
        obtain ⟨y252, e253, h⟩ := bind_ex h
        refine CallOk.of (laws_toWord_ct e253) ?_
        conv => whnf
        obtain ⟨y254, e255, h⟩ := bind_ex h
        refine CallOk.of (laws_toWord_ct e255) ?_
        conv => whnf
        refine Take.all (rfl) ?_
        conv => whnf
        refine Take.all (rfl) ?_
        conv => whnf
        obtain ⟨y256, e257, h⟩ := bind_ex h
        refine CallOk.of (impl_MeetOfWords_ct e257) ?_
        conv => whnf
        refine spl (fun g258 => ?_) (fun g258 => ?_)
        · replace h := iteT h g258
          conv => whnf
          exact CutK.piece (laws_FnExactMeetOfWords_p24_ct  h) [some 384, some 640, some 960, some 1169000, some 1169001, some 6336] [] ⟨⟨rfl, rfl⟩, ⟨rfl, ⟨rfl, ⟨rfl, rfl⟩, trivial⟩, ⟨rfl, ⟨rfl, rfl⟩, trivial⟩, ⟨rfl, ⟨rfl, rfl⟩, trivial⟩, ⟨rfl, rfl, rows_same⟩, ⟨rfl, rfl, rows_same⟩, ⟨rfl, rfl, rows_same⟩, trivial⟩, ⟨rfl, rfl⟩, rfl, ⟨rfl, rfl⟩, rfl, ⟨rfl, rfl⟩, rfl, trivial⟩
        · replace h := iteF h g258
          conv => whnf
          exact CutK.piece (laws_FnExactMeetOfWords_p24_ct  h) [some 384, some 640, some 960, some 1169000, some 1169001, some 6336] [] ⟨⟨rfl, rfl⟩, ⟨rfl, ⟨rfl, ⟨rfl, rfl⟩, trivial⟩, ⟨rfl, ⟨rfl, rfl⟩, trivial⟩, ⟨rfl, ⟨rfl, rfl⟩, trivial⟩, ⟨rfl, rfl, rows_same⟩, ⟨rfl, rfl, rows_same⟩, ⟨rfl, rfl, rows_same⟩, trivial⟩, ⟨rfl, rfl⟩, rfl, ⟨rfl, rfl⟩, rfl, ⟨rfl, rfl⟩, rfl, trivial⟩
  · replace h := condT h
    conv => whnf
    refine splD (fun g259 => ?_) (fun g259 => ?_)
    · replace h := iteP h g259
      conv => whnf
      cases h
      exact Done.of [] [] rfl rfl ⟨⟨rfl, rfl⟩, ⟨rfl, trivial⟩, rfl, trivial⟩
    · replace h := iteN h g259
      conv => whnf
      refine splN (fun g260 => ?_) (fun g260 => ?_)
      · replace h := iteN h g260
        conv => whnf
        cases h
        exact Done.of [] [] rfl rfl ⟨⟨rfl, rfl⟩, ⟨rfl, trivial⟩, rfl, trivial⟩
      · replace h := iteP h g260
        conv => whnf
        obtain ⟨y261, e262, h⟩ := bind_ex h
        refine CallOk.of (laws_toWord_ct e262) ?_
        conv => whnf
        obtain ⟨y263, e264, h⟩ := bind_ex h
        refine CallOk.of (laws_toWord_ct e264) ?_
        conv => whnf
        refine Take.all (rfl) ?_
        conv => whnf
        refine Take.all (rfl) ?_
        conv => whnf
        obtain ⟨y265, e266, h⟩ := bind_ex h
        refine CallOk.of (impl_MeetOfWords_ct e266) ?_
        conv => whnf
        refine spl (fun g267 => ?_) (fun g267 => ?_)
        · replace h := iteT h g267
          conv => whnf
          exact CutK.piece (laws_FnExactMeetOfWords_p24_ct  h) [some 384, some 640, some 960, some 1169000, some 1169001, some 6336] [] ⟨⟨rfl, rfl⟩, ⟨rfl, ⟨rfl, ⟨rfl, rfl⟩, trivial⟩, ⟨rfl, ⟨rfl, rfl⟩, trivial⟩, ⟨rfl, ⟨rfl, rfl⟩, trivial⟩, ⟨rfl, rfl, rows_same⟩, ⟨rfl, rfl, rows_same⟩, ⟨rfl, rfl, rows_same⟩, trivial⟩, ⟨rfl, rfl⟩, rfl, ⟨rfl, rfl⟩, rfl, ⟨rfl, rfl⟩, rfl, trivial⟩
        · replace h := iteF h g267
          conv => whnf
          exact CutK.piece (laws_FnExactMeetOfWords_p24_ct  h) [some 384, some 640, some 960, some 1169000, some 1169001, some 6336] [] ⟨⟨rfl, rfl⟩, ⟨rfl, ⟨rfl, ⟨rfl, rfl⟩, trivial⟩, ⟨rfl, ⟨rfl, rfl⟩, trivial⟩, ⟨rfl, ⟨rfl, rfl⟩, trivial⟩, ⟨rfl, rfl, rows_same⟩, ⟨rfl, rfl, rows_same⟩, ⟨rfl, rfl, rows_same⟩, trivial⟩, ⟨rfl, rfl⟩, rfl, ⟨rfl, rfl⟩, rfl, ⟨rfl, rfl⟩, rfl, trivial⟩
def laws_FnExactMeetOfWords_p19 (k : Nat) (a1 : Rw) (a2 : Rw) (o174 : Int) (o175 : Rw) (o176 : Rw) (v180 : Bool) : Option Bool :=
  (cond v180 ((laws_heldWord k o176 1).bind fun y270 => (laws_FnExactMeetOfWords_p21 k a1 a2 o174 y270 o175 o176 true)) ((laws_heldWord k o176 1).bind fun y268 => (laws_FnExactMeetOfWords_p21 k a1 a2 o174 y268 o175 o176 false)))
set_option maxHeartbeats 4000000 in
set_option maxRecDepth 100000 in
theorem laws_FnExactMeetOfWords_p19_ct {k : Nat} {a1 : Rw} {a2 : Rw} {o174 : Int} {o175 : Rw} {o176 : Rw} {v180 : Bool} {r : Bool} (h : laws_FnExactMeetOfWords_p19 k a1 a2 o174 o175 o176 v180 = some r) : X prog 0 (tlF f9 19) (mk 119 [(2, .ptr 128 0), (3, .ptr 192 0), (6, .ptr 384 0), (7, .d (D.bool v180)), (10, .ptr 640 0), (13, .d (D.int .i64 o174))] [(128, .box 46 [.d (D.sl a1)]), (192, .box 46 [.d (D.sl a2)]), (384, .box 56 [.os 1159000 o175.length]), (640, .box 56 [.os 1159001 o176.length]), (1159000, .arr 111 true o175), (1159001, .arr 111 true o176)]) (finK prog f9 0 (.d (D.bool r)) (⟨[], []⟩)) := by
  rw [laws_FnExactMeetOfWords_p19] at h
  cases v180
  · replace h := condF h
    conv => whnf
    refine Choice.old ?_
    conv => whnf
    refine Take.all (rfl) ?_
    conv => whnf
    obtain ⟨y268, e269, h⟩ := bind_ex h
    refine CallOk.of (laws_heldWord_ct e269) ?_
    conv => whnf
    exact CutK.piece (laws_FnExactMeetOfWords_p21_ct  h) [some 128, some 192, some 384, some 640, some 1159000, some 1159001] [] ⟨⟨rfl, rfl⟩, ⟨rfl, ⟨rfl, rfl, trivial⟩, ⟨rfl, rfl, trivial⟩, ⟨rfl, ⟨rfl, rfl⟩, trivial⟩, ⟨rfl, ⟨rfl, rfl⟩, trivial⟩, ⟨rfl, rfl, rows_same⟩, ⟨rfl, rfl, rows_same⟩, trivial⟩, ⟨rfl, rfl⟩, ⟨rfl, rfl⟩, ⟨rfl, rfl⟩, rfl, ⟨rfl, rfl⟩, rfl, rfl, trivial⟩
  · replace h := condT h
    conv => whnf
    refine Choice.old ?_
    conv => whnf
    refine Take.all (rfl) ?_
    conv => whnf
    obtain ⟨y270, e271, h⟩ := bind_ex h
    refine CallOk.of (laws_heldWord_ct e271) ?_
    conv => whnf
    exact CutK.piece (laws_FnExactMeetOfWords_p21_ct  h) [some 128, some 192, some 384, some 640, some 1159000, some 1159001] [] ⟨⟨rfl, rfl⟩, ⟨rfl, ⟨rfl, rfl, trivial⟩, ⟨rfl, rfl, trivial⟩, ⟨rfl, ⟨rfl, rfl⟩, trivial⟩, ⟨rfl, ⟨rfl, rfl⟩, trivial⟩, ⟨rfl, rfl, rows_same⟩, ⟨rfl, rfl, rows_same⟩, trivial⟩, ⟨rfl, rfl⟩, ⟨rfl, rfl⟩, ⟨rfl, rfl⟩, rfl, ⟨rfl, rfl⟩, rfl, rfl, trivial⟩
def laws_FnExactMeetOfWords_p17 (k : Nat) (a1 : Rw) (a2 : Rw) (o156 : Rw) (o157 : Rw) (v170 : Bool) : Option Bool :=
  (cond v170 ((laws_markWord k o157 1).bind fun y275 => (if y275.2.length = o157.length then (laws_FnExactMeetOfWords_p19 k a1 a2 y275.1 o156 y275.2 true) else none)) ((laws_markWord k o157 1).bind fun y272 => (if y272.2.length = o157.length then (laws_FnExactMeetOfWords_p19 k a1 a2 y272.1 o156 y272.2 false) else none)))
set_option maxHeartbeats 4000000 in
set_option maxRecDepth 100000 in
theorem laws_FnExactMeetOfWords_p17_ct {k : Nat} {a1 : Rw} {a2 : Rw} {o156 : Rw} {o157 : Rw} {v170 : Bool} {r : Bool} (h : laws_FnExactMeetOfWords_p17 k a1 a2 o156 o157 v170 = some r) : X prog 0 (tlF f9 17) (mk 119 [(2, .ptr 128 0), (3, .ptr 192 0), (6, .ptr 384 0), (7, .d (D.bool v170)), (10, .ptr 640 0)] [(128, .box 46 [.d (D.sl a1)]), (192, .box 46 [.d (D.sl a2)]), (384, .box 56 [.os 1149000 o156.length]), (640, .box 56 [.os 1149001 o157.length]), (1149000, .arr 111 true o156), (1149001, .arr 111 true o157)]) (finK prog f9 0 (.d (D.bool r)) (⟨[], []⟩)) := by
  rw [laws_FnExactMeetOfWords_p17] at h
  cases v170
  · replace h := condF h
    conv => whnf
    refine Choice.new ?_
    conv => whnf
    refine Req.of (rfl) ?_
    conv => whnf
    obtain ⟨y272, e273, h⟩ := bind_ex h
    refine MarkOk.of (laws_markWord_ct e273) ?_
    conv => whnf
    obtain ⟨g274, h⟩ := req_ex h
    exact CutK.piece (laws_FnExactMeetOfWords_p19_ct  h) [some 128, some 192, some 384, some 640, some 1149000, some 1149001] [] ⟨⟨rfl, rfl⟩, ⟨rfl, ⟨rfl, rfl, trivial⟩, ⟨rfl, rfl, trivial⟩, ⟨rfl, ⟨rfl, rfl⟩, trivial⟩, ⟨rfl, ⟨(by first | rfl | exact List.length_append.symm | (simp; done) | omega), rfl⟩, trivial⟩, ⟨rfl, rfl, rows_same⟩, ⟨rfl, rfl, rows_same⟩, trivial⟩, ⟨rfl, rfl⟩, ⟨rfl, rfl⟩, ⟨rfl, rfl⟩, rfl, ⟨rfl, rfl⟩, rfl, trivial⟩
  · replace h := condT h
    conv => whnf
    refine Choice.new ?_
    conv => whnf
    refine Req.of (rfl) ?_
    conv => whnf
    obtain ⟨y275, e276, h⟩ := bind_ex h
    refine MarkOk.of (laws_markWord_ct e276) ?_
    conv => whnf
    obtain ⟨g277, h⟩ := req_ex h
    exact CutK.piece (laws_FnExactMeetOfWords_p19_ct  h) [some 128, some 192, some 384, some 640, some 1149000, some 1149001] [] ⟨⟨rfl, rfl⟩, ⟨rfl, ⟨rfl, rfl, trivial⟩, ⟨rfl, rfl, trivial⟩, ⟨rfl, ⟨rfl, rfl⟩, trivial⟩, ⟨rfl, ⟨(by first | rfl | exact List.length_append.symm | (simp; done) | omega), rfl⟩, trivial⟩, ⟨rfl, rfl, rows_same⟩, ⟨rfl, rfl, rows_same⟩, trivial⟩, ⟨rfl, rfl⟩, ⟨rfl, rfl⟩, ⟨rfl, rfl⟩, rfl, ⟨rfl, rfl⟩, rfl, trivial⟩
def laws_FnExactMeetOfWords_p16 (k : Nat) (a1 : Rw) (a2 : Rw) (o138 : Int) (o139 : Rw) (o140 : Rw) (v144 : Bool) (v148 : Bool) : Option Bool :=
  (cond v144 (cond v148 (if o138 < (0 : Int) then some false else ((laws_eqWord k o140 o139).bind fun y291 => (if y291 = true then (laws_FnExactMeetOfWords_p17 k a1 a2 o139 o140 true) else some false))) (if o138 < (0 : Int) then some false else ((laws_eqWord k o140 o139).bind fun y287 => (if y287 = true then some false else some false)))) (cond v148 (if o138 < (0 : Int) then some false else ((laws_eqWord k o140 o139).bind fun y283 => (if y283 = true then some false else some false))) (if o138 < (0 : Int) then some false else ((laws_eqWord k o140 o139).bind fun y279 => (if y279 = true then (laws_FnExactMeetOfWords_p17 k a1 a2 o139 o140 false) else some false)))))
set_option maxHeartbeats 4000000 in
set_option maxRecDepth 100000 in
theorem laws_FnExactMeetOfWords_p16_ct {k : Nat} {a1 : Rw} {a2 : Rw} {o138 : Int} {o139 : Rw} {o140 : Rw} {v144 : Bool} {v148 : Bool} {r : Bool} (h : laws_FnExactMeetOfWords_p16 k a1 a2 o138 o139 o140 v144 v148 = some r) : X prog 0 (tlF f9 16) (mk 119 [(2, .ptr 128 0), (3, .ptr 192 0), (6, .ptr 384 0), (7, .d (D.bool v144)), (10, .ptr 640 0), (11, .d (D.bool v148)), (12, .d (D.int .i64 o138))] [(128, .box 46 [.d (D.sl a1)]), (192, .box 46 [.d (D.sl a2)]), (384, .box 56 [.os 1144000 o139.length]), (640, .box 56 [.os 1144001 o140.length]), (1144000, .arr 111 true o139), (1144001, .arr 111 true o140)]) (finK prog f9 0 (.d (D.bool r)) (⟨[], []⟩)) := by
  rw [laws_FnExactMeetOfWords_p16] at h
  cases v144
  · replace h := condF h
    cases v148
    · replace h := condF h
      conv => whnf
      refine splD (fun g278 => ?_) (fun g278 => ?_)
      · replace h := iteP h g278
        conv => whnf
        refine CutK.norm [2, 3, 6, 7, 10, 82] [128, 192, 384, 640, 1144000, 1144001] ?_
        conv => whnf
        cases h
        exact Done.of [] [] rfl rfl ⟨⟨rfl, rfl⟩, ⟨rfl, trivial⟩, rfl, trivial⟩
      · replace h := iteN h g278
        conv => whnf
        refine Take.all (rfl) ?_
        conv => whnf
        refine Take.all (rfl) ?_
        conv => whnf
        obtain ⟨y279, e280, h⟩ := bind_ex h
        refine CallOk.of (laws_eqWord_ct e280) ?_
        conv => whnf
        refine spl (fun g281 => ?_) (fun g281 => ?_)
        · replace h := iteT h g281
          conv => whnf
          refine splF ?_
          conv => whnf
          refine CutK.norm [2, 3, 6, 7, 10, 82] [128, 192, 384, 640, 1144000, 1144001] ?_
          conv => whnf
          exact CutK.piece (laws_FnExactMeetOfWords_p17_ct  h) [some 128, some 192, some 384, some 640, some 1144000, some 1144001] [] ⟨⟨rfl, rfl⟩, ⟨rfl, ⟨rfl, rfl, trivial⟩, ⟨rfl, rfl, trivial⟩, ⟨rfl, ⟨rfl, rfl⟩, trivial⟩, ⟨rfl, ⟨rfl, rfl⟩, trivial⟩, ⟨rfl, rfl, rows_same⟩, ⟨rfl, rfl, rows_same⟩, trivial⟩, ⟨rfl, rfl⟩, ⟨rfl, rfl⟩, ⟨rfl, rfl⟩, rfl, ⟨rfl, rfl⟩, trivial⟩
        · replace h := iteF h g281
          conv => whnf
          refine CutK.norm [2, 3, 6, 7, 10, 82] [128, 192, 384, 640, 1144000, 1144001] ?_
          conv => whnf
          cases h
          exact Done.of [] [] rfl rfl ⟨⟨rfl, rfl⟩, ⟨rfl, trivial⟩, rfl, trivial⟩
    · replace h := condT h
      conv => whnf
      refine splD (fun g282 => ?_) (fun g282 => ?_)
      · replace h := iteP h g282
        conv => whnf
        refine CutK.norm [2, 3, 6, 7, 10, 82] [128, 192, 384, 640, 1144000, 1144001] ?_
        conv => whnf
        cases h
        exact Done.of [] [] rfl rfl ⟨⟨rfl, rfl⟩, ⟨rfl, trivial⟩, rfl, trivial⟩
      · replace h := iteN h g282
        conv => whnf
        refine Take.all (rfl) ?_
        conv => whnf
        refine Take.all (rfl) ?_
        conv => whnf
        obtain ⟨y283, e284, h⟩ := bind_ex h
        refine CallOk.of (laws_eqWord_ct e284) ?_
        conv => whnf
        refine spl (fun g285 => ?_) (fun g285 => ?_)
        · replace h := iteT h g285
          conv => whnf
          refine splT ?_
          conv => whnf
          refine CutK.norm [2, 3, 6, 7, 10, 82] [128, 192, 384, 640, 1144000, 1144001] ?_
          conv => whnf
          cases h
          exact Done.of [] [] rfl rfl ⟨⟨rfl, rfl⟩, ⟨rfl, trivial⟩, rfl, trivial⟩
        · replace h := iteF h g285
          conv => whnf
          refine CutK.norm [2, 3, 6, 7, 10, 82] [128, 192, 384, 640, 1144000, 1144001] ?_
          conv => whnf
          cases h
          exact Done.of [] [] rfl rfl ⟨⟨rfl, rfl⟩, ⟨rfl, trivial⟩, rfl, trivial⟩
  · replace h := condT h
    cases v148
    · replace h := condF h
      conv => whnf
      refine splD (fun g286 => ?_) (fun g286 => ?_)
      · replace h := iteP h g286
        conv => whnf
        refine CutK.norm [2, 3, 6, 7, 10, 82] [128, 192, 384, 640, 1144000, 1144001] ?_
        conv => whnf
        cases h
        exact Done.of [] [] rfl rfl ⟨⟨rfl, rfl⟩, ⟨rfl, trivial⟩, rfl, trivial⟩
      · replace h := iteN h g286
        conv => whnf
        refine Take.all (rfl) ?_
        conv => whnf
        refine Take.all (rfl) ?_
        conv => whnf
        obtain ⟨y287, e288, h⟩ := bind_ex h
        refine CallOk.of (laws_eqWord_ct e288) ?_
        conv => whnf
        refine spl (fun g289 => ?_) (fun g289 => ?_)
        · replace h := iteT h g289
          conv => whnf
          refine splT ?_
          conv => whnf
          refine CutK.norm [2, 3, 6, 7, 10, 82] [128, 192, 384, 640, 1144000, 1144001] ?_
          conv => whnf
          cases h
          exact Done.of [] [] rfl rfl ⟨⟨rfl, rfl⟩, ⟨rfl, trivial⟩, rfl, trivial⟩
        · replace h := iteF h g289
          conv => whnf
          refine CutK.norm [2, 3, 6, 7, 10, 82] [128, 192, 384, 640, 1144000, 1144001] ?_
          conv => whnf
          cases h
          exact Done.of [] [] rfl rfl ⟨⟨rfl, rfl⟩, ⟨rfl, trivial⟩, rfl, trivial⟩
    · replace h := condT h
      conv => whnf
      refine splD (fun g290 => ?_) (fun g290 => ?_)
      · replace h := iteP h g290
        conv => whnf
        refine CutK.norm [2, 3, 6, 7, 10, 82] [128, 192, 384, 640, 1144000, 1144001] ?_
        conv => whnf
        cases h
        exact Done.of [] [] rfl rfl ⟨⟨rfl, rfl⟩, ⟨rfl, trivial⟩, rfl, trivial⟩
      · replace h := iteN h g290
        conv => whnf
        refine Take.all (rfl) ?_
        conv => whnf
        refine Take.all (rfl) ?_
        conv => whnf
        obtain ⟨y291, e292, h⟩ := bind_ex h
        refine CallOk.of (laws_eqWord_ct e292) ?_
        conv => whnf
        refine spl (fun g293 => ?_) (fun g293 => ?_)
        · replace h := iteT h g293
          conv => whnf
          refine splF ?_
          conv => whnf
          refine CutK.norm [2, 3, 6, 7, 10, 82] [128, 192, 384, 640, 1144000, 1144001] ?_
          conv => whnf
          exact CutK.piece (laws_FnExactMeetOfWords_p17_ct  h) [some 128, some 192, some 384, some 640, some 1144000, some 1144001] [] ⟨⟨rfl, rfl⟩, ⟨rfl, ⟨rfl, rfl, trivial⟩, ⟨rfl, rfl, trivial⟩, ⟨rfl, ⟨rfl, rfl⟩, trivial⟩, ⟨rfl, ⟨rfl, rfl⟩, trivial⟩, ⟨rfl, rfl, rows_same⟩, ⟨rfl, rfl, rows_same⟩, trivial⟩, ⟨rfl, rfl⟩, ⟨rfl, rfl⟩, ⟨rfl, rfl⟩, rfl, ⟨rfl, rfl⟩, trivial⟩
        · replace h := iteF h g293
          conv => whnf
          refine CutK.norm [2, 3, 6, 7, 10, 82] [128, 192, 384, 640, 1144000, 1144001] ?_
          conv => whnf
          cases h
          exact Done.of [] [] rfl rfl ⟨⟨rfl, rfl⟩, ⟨rfl, trivial⟩, rfl, trivial⟩
def laws_FnExactMeetOfWords_p15 (k : Nat) (a1 : Rw) (a2 : Rw) (o120 : Int) (o121 : Rw) (o122 : Rw) (o123 : Rw) (v127 : Bool) (v131 : Bool) : Option Bool :=
  (cond v127 (cond v131 ((laws_markWord k o122 o120).bind fun y303 => (if y303.2.length = o122.length then (laws_FnExactMeetOfWords_p16 k a1 a2 y303.1 o121 o123 true true) else none)) ((laws_markWord k o122 o120).bind fun y300 => (if y300.2.length = o122.length then (laws_FnExactMeetOfWords_p16 k a1 a2 y300.1 o121 o123 false true) else none))) (cond v131 ((laws_markWord k o122 o120).bind fun y297 => (if y297.2.length = o122.length then (laws_FnExactMeetOfWords_p16 k a1 a2 y297.1 o121 o123 true false) else none)) ((laws_markWord k o122 o120).bind fun y294 => (if y294.2.length = o122.length then (laws_FnExactMeetOfWords_p16 k a1 a2 y294.1 o121 o123 false false) else none))))
set_option maxHeartbeats 4000000 in
set_option maxRecDepth 100000 in
theorem laws_FnExactMeetOfWords_p15_ct {k : Nat} {a1 : Rw} {a2 : Rw} {o120 : Int} {o121 : Rw} {o122 : Rw} {o123 : Rw} {v127 : Bool} {v131 : Bool} {r : Bool} (h : laws_FnExactMeetOfWords_p15 k a1 a2 o120 o121 o122 o123 v127 v131 = some r) : X prog 0 (tlF f9 15) (mk 119 [(2, .ptr 128 0), (3, .ptr 192 0), (6, .ptr 384 0), (7, .d (D.bool v131)), (9, .ptr 576 0), (10, .ptr 640 0), (11, .d (D.bool v127)), (12, .d (D.int .i64 o120))] [(128, .box 46 [.d (D.sl a1)]), (192, .box 46 [.d (D.sl a2)]), (384, .box 56 [.os 1139000 o121.length]), (576, .box 56 [.os 1139001 o122.length]), (640, .box 56 [.os 1139002 o123.length]), (1139000, .arr 111 true o121), (1139001, .arr 111 true o122), (1139002, .arr 111 true o123)]) (finK prog f9 0 (.d (D.bool r)) (⟨[], []⟩)) := by
  rw [laws_FnExactMeetOfWords_p15] at h
  cases v127
  · replace h := condF h
    cases v131
    · replace h := condF h
      conv => whnf
      refine Choice.new ?_
      conv => whnf
      refine Req.of (rfl) ?_
      conv => whnf
      obtain ⟨y294, e295, h⟩ := bind_ex h
      refine MarkOk.of (laws_markWord_ct e295) ?_
      conv => whnf
      obtain ⟨g296, h⟩ := req_ex h
      exact CutK.piece (laws_FnExactMeetOfWords_p16_ct  h) [some 128, some 192, some 384, some 640, some 1139000, some 1139002] [] ⟨⟨rfl, rfl⟩, ⟨rfl, ⟨rfl, rfl, trivial⟩, ⟨rfl, rfl, trivial⟩, ⟨rfl, ⟨rfl, rfl⟩, trivial⟩, ⟨rfl, ⟨rfl, rfl⟩, trivial⟩, ⟨rfl, rfl, rows_same⟩, ⟨rfl, rfl, rows_same⟩, trivial⟩, ⟨rfl, rfl⟩, ⟨rfl, rfl⟩, ⟨rfl, rfl⟩, rfl, ⟨rfl, rfl⟩, rfl, rfl, trivial⟩
    · replace h := condT h
      conv => whnf
      refine Choice.new ?_
      conv => whnf
      refine Req.of (rfl) ?_
      conv => whnf
      obtain ⟨y297, e298, h⟩ := bind_ex h
      refine MarkOk.of (laws_markWord_ct e298) ?_
      conv => whnf
      obtain ⟨g299, h⟩ := req_ex h
      exact CutK.piece (laws_FnExactMeetOfWords_p16_ct  h) [some 128, some 192, some 384, some 640, some 1139000, some 1139002] [] ⟨⟨rfl, rfl⟩, ⟨rfl, ⟨rfl, rfl, trivial⟩, ⟨rfl, rfl, trivial⟩, ⟨rfl, ⟨rfl, rfl⟩, trivial⟩, ⟨rfl, ⟨rfl, rfl⟩, trivial⟩, ⟨rfl, rfl, rows_same⟩, ⟨rfl, rfl, rows_same⟩, trivial⟩, ⟨rfl, rfl⟩, ⟨rfl, rfl⟩, ⟨rfl, rfl⟩, rfl, ⟨rfl, rfl⟩, rfl, rfl, trivial⟩
  · replace h := condT h
    cases v131
    · replace h := condF h
      conv => whnf
      refine Choice.new ?_
      conv => whnf
      refine Req.of (rfl) ?_
      conv => whnf
      obtain ⟨y300, e301, h⟩ := bind_ex h
      refine MarkOk.of (laws_markWord_ct e301) ?_
      conv => whnf
      obtain ⟨g302, h⟩ := req_ex h
      exact CutK.piece (laws_FnExactMeetOfWords_p16_ct  h) [some 128, some 192, some 384, some 640, some 1139000, some 1139002] [] ⟨⟨rfl, rfl⟩, ⟨rfl, ⟨rfl, rfl, trivial⟩, ⟨rfl, rfl, trivial⟩, ⟨rfl, ⟨rfl, rfl⟩, trivial⟩, ⟨rfl, ⟨rfl, rfl⟩, trivial⟩, ⟨rfl, rfl, rows_same⟩, ⟨rfl, rfl, rows_same⟩, trivial⟩, ⟨rfl, rfl⟩, ⟨rfl, rfl⟩, ⟨rfl, rfl⟩, rfl, ⟨rfl, rfl⟩, rfl, rfl, trivial⟩
    · replace h := condT h
      conv => whnf
      refine Choice.new ?_
      conv => whnf
      refine Req.of (rfl) ?_
      conv => whnf
      obtain ⟨y303, e304, h⟩ := bind_ex h
      refine MarkOk.of (laws_markWord_ct e304) ?_
      conv => whnf
      obtain ⟨g305, h⟩ := req_ex h
      exact CutK.piece (laws_FnExactMeetOfWords_p16_ct  h) [some 128, some 192, some 384, some 640, some 1139000, some 1139002] [] ⟨⟨rfl, rfl⟩, ⟨rfl, ⟨rfl, rfl, trivial⟩, ⟨rfl, rfl, trivial⟩, ⟨rfl, ⟨rfl, rfl⟩, trivial⟩, ⟨rfl, ⟨rfl, rfl⟩, trivial⟩, ⟨rfl, rfl, rows_same⟩, ⟨rfl, rfl, rows_same⟩, trivial⟩, ⟨rfl, rfl⟩, ⟨rfl, rfl⟩, ⟨rfl, rfl⟩, rfl, ⟨rfl, rfl⟩, rfl, rfl, trivial⟩
def laws_FnExactMeetOfWords_p13 (k : Nat) (a1 : Rw) (a2 : Rw) (o96 : Rw) (o97 : Rw) (o98 : Rw) (o99 : Rw) (v105 : Bool) (v111 : Bool) : Option Bool :=
  (cond v105 (cond v111 ((laws_markWord k o97 1).bind fun y315 => (if y315.2.length = o97.length then (laws_FnExactMeetOfWords_p15 k a1 a2 y315.1 o96 o98 o99 true true) else none)) ((laws_markWord k o97 1).bind fun y312 => (if y312.2.length = o97.length then (laws_FnExactMeetOfWords_p15 k a1 a2 y312.1 o96 o98 o99 false true) else none))) (cond v111 ((laws_markWord k o97 1).bind fun y309 => (if y309.2.length = o97.length then (laws_FnExactMeetOfWords_p15 k a1 a2 y309.1 o96 o98 o99 true false) else none)) ((laws_markWord k o97 1).bind fun y306 => (if y306.2.length = o97.length then (laws_FnExactMeetOfWords_p15 k a1 a2 y306.1 o96 o98 o99 false false) else none))))
set_option maxHeartbeats 4000000 in
set_option maxRecDepth 100000 in
theorem laws_FnExactMeetOfWords_p13_ct {k : Nat} {a1 : Rw} {a2 : Rw} {o96 : Rw} {o97 : Rw} {o98 : Rw} {o99 : Rw} {v105 : Bool} {v111 : Bool} {r : Bool} (h : laws_FnExactMeetOfWords_p13 k a1 a2 o96 o97 o98 o99 v105 v111 = some r) : X prog 0 (tlF f9 13) (mk 119 [(2, .ptr 128 0), (3, .ptr 192 0), (6, .ptr 384 0), (7, .d (D.bool v105)), (8, .ptr 512 0), (9, .ptr 576 0), (10, .ptr 640 0), (11, .d (D.bool v111))] [(128, .box 46 [.d (D.sl a1)]), (192, .box 46 [.d (D.sl a2)]), (384, .box 56 [.os 1129000 o96.length]), (512, .box 56 [.os 1129001 o97.length]), (576, .box 56 [.os 1129002 o98.length]), (640, .box 56 [.os 1129003 o99.length]), (1129000, .arr 111 true o96), (1129001, .arr 111 true o97), (1129002, .arr 111 true o98), (1129003, .arr 111 true o99)]) (finK prog f9 0 (.d (D.bool r)) (⟨[], []⟩)) := by
  rw [laws_FnExactMeetOfWords_p13] at h
  cases v105
  · replace h := condF h
    cases v111
    · replace h := condF h
      conv => whnf
      refine Choice.new ?_
      conv => whnf
      refine Req.of (rfl) ?_
      conv => whnf
      obtain ⟨y306, e307, h⟩ := bind_ex h
      refine MarkOk.of (laws_markWord_ct e307) ?_
      conv => whnf
      obtain ⟨g308, h⟩ := req_ex h
      exact CutK.piece (laws_FnExactMeetOfWords_p15_ct  h) [some 128, some 192, some 384, some 576, some 640, some 1129000, some 1129002, some 1129003] [] ⟨⟨rfl, rfl⟩, ⟨rfl, ⟨rfl, rfl, trivial⟩, ⟨rfl, rfl, trivial⟩, ⟨rfl, ⟨rfl, rfl⟩, trivial⟩, ⟨rfl, ⟨rfl, rfl⟩, trivial⟩, ⟨rfl, ⟨rfl, rfl⟩, trivial⟩, ⟨rfl, rfl, rows_same⟩, ⟨rfl, rfl, rows_same⟩, ⟨rfl, rfl, rows_same⟩, trivial⟩, ⟨rfl, rfl⟩, ⟨rfl, rfl⟩, ⟨rfl, rfl⟩, rfl, ⟨rfl, rfl⟩, ⟨rfl, rfl⟩, rfl, rfl, trivial⟩
    · replace h := condT h
      conv => whnf
      refine Choice.new ?_
      conv => whnf
      refine Req.of (rfl) ?_
      conv => whnf
      obtain ⟨y309, e310, h⟩ := bind_ex h
      refine MarkOk.of (laws_markWord_ct e310) ?_
      conv => whnf
      obtain ⟨g311, h⟩ := req_ex h
      exact CutK.piece (laws_FnExactMeetOfWords_p15_ct  h) [some 128, some 192, some 384, some 576, some 640, some 1129000, some 1129002, some 1129003] [] ⟨⟨rfl, rfl⟩, ⟨rfl, ⟨rfl, rfl, trivial⟩, ⟨rfl, rfl, trivial⟩, ⟨rfl, ⟨rfl, rfl⟩, trivial⟩, ⟨rfl, ⟨rfl, rfl⟩, trivial⟩, ⟨rfl, ⟨rfl, rfl⟩, trivial⟩, ⟨rfl, rfl, rows_same⟩, ⟨rfl, rfl, rows_same⟩, ⟨rfl, rfl, rows_same⟩, trivial⟩, ⟨rfl, rfl⟩, ⟨rfl, rfl⟩, ⟨rfl, rfl⟩, rfl, ⟨rfl, rfl⟩, ⟨rfl, rfl⟩, rfl, rfl, trivial⟩
  · replace h := condT h
    cases v111
    · replace h := condF h
      conv => whnf
      refine Choice.new ?_
      conv => whnf
      refine Req.of (rfl) ?_
      conv => whnf
      obtain ⟨y312, e313, h⟩ := bind_ex h
      refine MarkOk.of (laws_markWord_ct e313) ?_
      conv => whnf
      obtain ⟨g314, h⟩ := req_ex h
      exact CutK.piece (laws_FnExactMeetOfWords_p15_ct  h) [some 128, some 192, some 384, some 576, some 640, some 1129000, some 1129002, some 1129003] [] ⟨⟨rfl, rfl⟩, ⟨rfl, ⟨rfl, rfl, trivial⟩, ⟨rfl, rfl, trivial⟩, ⟨rfl, ⟨rfl, rfl⟩, trivial⟩, ⟨rfl, ⟨rfl, rfl⟩, trivial⟩, ⟨rfl, ⟨rfl, rfl⟩, trivial⟩, ⟨rfl, rfl, rows_same⟩, ⟨rfl, rfl, rows_same⟩, ⟨rfl, rfl, rows_same⟩, trivial⟩, ⟨rfl, rfl⟩, ⟨rfl, rfl⟩, ⟨rfl, rfl⟩, rfl, ⟨rfl, rfl⟩, ⟨rfl, rfl⟩, rfl, rfl, trivial⟩
    · replace h := condT h
      conv => whnf
      refine Choice.new ?_
      conv => whnf
      refine Req.of (rfl) ?_
      conv => whnf
      obtain ⟨y315, e316, h⟩ := bind_ex h
      refine MarkOk.of (laws_markWord_ct e316) ?_
      conv => whnf
      obtain ⟨g317, h⟩ := req_ex h
      exact CutK.piece (laws_FnExactMeetOfWords_p15_ct  h) [some 128, some 192, some 384, some 576, some 640, some 1129000, some 1129002, some 1129003] [] ⟨⟨rfl, rfl⟩, ⟨rfl, ⟨rfl, rfl, trivial⟩, ⟨rfl, rfl, trivial⟩, ⟨rfl, ⟨rfl, rfl⟩, trivial⟩, ⟨rfl, ⟨rfl, rfl⟩, trivial⟩, ⟨rfl, ⟨rfl, rfl⟩, trivial⟩, ⟨rfl, rfl, rows_same⟩, ⟨rfl, rfl, rows_same⟩, ⟨rfl, rfl, rows_same⟩, trivial⟩, ⟨rfl, rfl⟩, ⟨rfl, rfl⟩, ⟨rfl, rfl⟩, rfl, ⟨rfl, rfl⟩, ⟨rfl, rfl⟩, rfl, rfl, trivial⟩
def laws_FnExactMeetOfWords_p12 (k : Nat) (a1 : Rw) (a2 : Rw) (o70 : Rw) (o71 : Rw) (o72 : Rw) (o73 : Rw) (v79 : Bool) (v85 : Bool) : Option Bool :=
  (cond v79 (cond v85 ((laws_toWord k a2).bind fun y333 => ((laws_eqWord k o72 y333).bind fun y335 => (if y335 = true then (laws_FnExactMeetOfWords_p13 k a1 a2 o70 o71 o72 o73 true true) else some false))) ((laws_toWord k a2).bind fun y328 => ((laws_eqWord k o72 y328).bind fun y330 => (if y330 = true then (laws_FnExactMeetOfWords_p13 k a1 a2 o70 o71 o72 o73 false true) else some false)))) (cond v85 ((laws_toWord k a2).bind fun y323 => ((laws_eqWord k o72 y323).bind fun y325 => (if y325 = true then (laws_FnExactMeetOfWords_p13 k a1 a2 o70 o71 o72 o73 true false) else some false))) ((laws_toWord k a2).bind fun y318 => ((laws_eqWord k o72 y318).bind fun y320 => (if y320 = true then (laws_FnExactMeetOfWords_p13 k a1 a2 o70 o71 o72 o73 false false) else some false)))))
set_option maxHeartbeats 4000000 in
set_option maxRecDepth 100000 in
theorem laws_FnExactMeetOfWords_p12_ct {k : Nat} {a1 : Rw} {a2 : Rw} {o70 : Rw} {o71 : Rw} {o72 : Rw} {o73 : Rw} {v79 : Bool} {v85 : Bool} {r : Bool} (h : laws_FnExactMeetOfWords_p12 k a1 a2 o70 o71 o72 o73 v79 v85 = some r) : X prog 0 (tlF f9 12) (mk 119 [(2, .ptr 128 0), (3, .ptr 192 0), (6, .ptr 384 0), (7, .d (D.bool v85)), (8, .ptr 512 0), (9, .ptr 576 0), (10, .ptr 640 0), (11, .d (D.bool v79))] [(128, .box 46 [.d (D.sl a1)]), (192, .box 46 [.d (D.sl a2)]), (384, .box 56 [.os 1124000 o70.length]), (512, .box 56 [.os 1124001 o71.length]), (576, .box 56 [.os 1124002 o72.length]), (640, .box 56 [.os 1124003 o73.length]), (1124000, .arr 111 true o70), (1124001, .arr 111 true o71), (1124002, .arr 111 true o72), (1124003, .arr 111 true o73)]) (finK prog f9 0 (.d (D.bool r)) (⟨[], []⟩)) := by
  rw [laws_FnExactMeetOfWords_p12] at h
  cases v79
  · replace h := condF h
    cases v85
    · replace h := condF h
      conv => whnf
      obtain ⟨y318, e319, h⟩ := bind_ex h
      refine CallOk.of (laws_toWord_ct e319) ?_
      conv => whnf
      refine Take.all (rfl) ?_
      conv => whnf
      refine Take.all (rfl) ?_
      conv => whnf
      obtain ⟨y320, e321, h⟩ := bind_ex h
      refine CallOk.of (laws_eqWord_ct e321) ?_
      conv => whnf
      refine spl (fun g322 => ?_) (fun g322 => ?_)
      · replace h := iteT h g322
        conv => whnf
        refine CutK.norm [2, 3, 6, 7, 8, 9, 10, 11, 63] [128, 192, 384, 512, 576, 640, 1124000, 1124001, 1124002, 1124003] ?_
        conv => whnf
        exact CutK.piece (laws_FnExactMeetOfWords_p13_ct  h) [some 128, some 192, some 384, some 512, some 576, some 640, some 1124000, some 1124001, some 1124002, some 1124003] [] ⟨⟨rfl, rfl⟩, ⟨rfl, ⟨rfl, rfl, trivial⟩, ⟨rfl, rfl, trivial⟩, ⟨rfl, ⟨rfl, rfl⟩, trivial⟩, ⟨rfl, ⟨rfl, rfl⟩, trivial⟩, ⟨rfl, ⟨rfl, rfl⟩, trivial⟩, ⟨rfl, ⟨rfl, rfl⟩, trivial⟩, ⟨rfl, rfl, rows_same⟩, ⟨rfl, rfl, rows_same⟩, ⟨rfl, rfl, rows_same⟩, ⟨rfl, rfl, rows_same⟩, trivial⟩, ⟨rfl, rfl⟩, ⟨rfl, rfl⟩, ⟨rfl, rfl⟩, rfl, ⟨rfl, rfl⟩, ⟨rfl, rfl⟩, ⟨rfl, rfl⟩, rfl, trivial⟩
      · replace h := iteF h g322
        conv => whnf
        refine CutK.norm [2, 3, 6, 7, 8, 9, 10, 11, 63] [128, 192, 384, 512, 576, 640, 1124000, 1124001, 1124002, 1124003] ?_
        conv => whnf
        cases h
        exact Done.of [] [] rfl rfl ⟨⟨rfl, rfl⟩, ⟨rfl, trivial⟩, rfl, trivial⟩
    · replace h := condT h
      conv => whnf
      obtain ⟨y323, e324, h⟩ := bind_ex h
      refine CallOk.of (laws_toWord_ct e324) ?_
      conv => whnf
      refine Take.all (rfl) ?_
      conv => whnf
      refine Take.all (rfl) ?_
      conv => whnf
      obtain ⟨y325, e326, h⟩ := bind_ex h
      refine CallOk.of (laws_eqWord_ct e326) ?_
      conv => whnf
      refine spl (fun g327 => ?_) (fun g327 => ?_)
      · replace h := iteT h g327
        conv => whnf
        refine CutK.norm [2, 3, 6, 7, 8, 9, 10, 11, 63] [128, 192, 384, 512, 576, 640, 1124000, 1124001, 1124002, 1124003] ?_
        conv => whnf
        exact CutK.piece (laws_FnExactMeetOfWords_p13_ct  h) [some 128, some 192, some 384, some 512, some 576, some 640, some 1124000, some 1124001, some 1124002, some 1124003] [] ⟨⟨rfl, rfl⟩, ⟨rfl, ⟨rfl, rfl, trivial⟩, ⟨rfl, rfl, trivial⟩, ⟨rfl, ⟨rfl, rfl⟩, trivial⟩, ⟨rfl, ⟨rfl, rfl⟩, trivial⟩, ⟨rfl, ⟨rfl, rfl⟩, trivial⟩, ⟨rfl, ⟨rfl, rfl⟩, trivial⟩, ⟨rfl, rfl, rows_same⟩, ⟨rfl, rfl, rows_same⟩, ⟨rfl, rfl, rows_same⟩, ⟨rfl, rfl, rows_same⟩, trivial⟩, ⟨rfl, rfl⟩, ⟨rfl, rfl⟩, ⟨rfl, rfl⟩, rfl, ⟨rfl, rfl⟩, ⟨rfl, rfl⟩, ⟨rfl, rfl⟩, rfl, trivial⟩
      · replace h := iteF h g327
        conv => whnf
        refine CutK.norm [2, 3, 6, 7, 8, 9, 10, 11, 63] [128, 192, 384, 512, 576, 640, 1124000, 1124001, 1124002, 1124003] ?_
        conv => whnf
        cases h
        exact Done.of [] [] rfl rfl ⟨⟨rfl, rfl⟩, ⟨rfl, trivial⟩, rfl, trivial⟩
  · replace h := condT h
    cases v85
    · replace h := condF h
      conv => whnf
      obtain ⟨y328, e329, h⟩ := bind_ex h
      refine CallOk.of (laws_toWord_ct e329) ?_
      conv => whnf
      refine Take.all (rfl) ?_
      conv => whnf
      refine Take.all (rfl) ?_
      conv => whnf
      obtain ⟨y330, e331, h⟩ := bind_ex h
      refine CallOk.of (laws_eqWord_ct e331) ?_
      conv => whnf
      refine spl (fun g332 => ?_) (fun g332 => ?_)
      · replace h := iteT h g332
        conv => whnf
        refine CutK.norm [2, 3, 6, 7, 8, 9, 10, 11, 63] [128, 192, 384, 512, 576, 640, 1124000, 1124001, 1124002, 1124003] ?_
        conv => whnf
        exact CutK.piece (laws_FnExactMeetOfWords_p13_ct  h) [some 128, some 192, some 384, some 512, some 576, some 640, some 1124000, some 1124001, some 1124002, some 1124003] [] ⟨⟨rfl, rfl⟩, ⟨rfl, ⟨rfl, rfl, trivial⟩, ⟨rfl, rfl, trivial⟩, ⟨rfl, ⟨rfl, rfl⟩, trivial⟩, ⟨rfl, ⟨rfl, rfl⟩, trivial⟩, ⟨rfl, ⟨rfl, rfl⟩, trivial⟩, ⟨rfl, ⟨rfl, rfl⟩, trivial⟩, ⟨rfl, rfl, rows_same⟩, ⟨rfl, rfl, rows_same⟩, ⟨rfl, rfl, rows_same⟩, ⟨rfl, rfl, rows_same⟩, trivial⟩, ⟨rfl, rfl⟩, ⟨rfl, rfl⟩, ⟨rfl, rfl⟩, rfl, ⟨rfl, rfl⟩, ⟨rfl, rfl⟩, ⟨rfl, rfl⟩, rfl, trivial⟩
      · replace h := iteF h g332
        conv => whnf
        refine CutK.norm [2, 3, 6, 7, 8, 9, 10, 11, 63] [128, 192, 384, 512, 576, 640, 1124000, 1124001, 1124002, 1124003] ?_
        conv => whnf
        cases h
        exact Done.of [] [] rfl rfl ⟨⟨rfl, rfl⟩, ⟨rfl, trivial⟩, rfl, trivial⟩
    · replace h := condT h
      conv => whnf
      obtain ⟨y333, e334, h⟩ := bind_ex h
      refine CallOk.of (laws_toWord_ct e334) ?_
      conv => whnf
      refine Take.all (rfl) ?_
      conv => whnf
      refine Take.all (rfl) ?_
      conv => whnf
      obtain ⟨y335, e336, h⟩ := bind_ex h
      refine CallOk.of (laws_eqWord_ct e336) ?_
      conv => whnf
      refine spl (fun g337 => ?_) (fun g337 => ?_)
      · replace h := iteT h g337
        conv => whnf
        refine CutK.norm [2, 3, 6, 7, 8, 9, 10, 11, 63] [128, 192, 384, 512, 576, 640, 1124000, 1124001, 1124002, 1124003] ?_
        conv => whnf
        exact CutK.piece (laws_FnExactMeetOfWords_p13_ct  h) [some 128, some 192, some 384, some 512, some 576, some 640, some 1124000, some 1124001, some 1124002, some 1124003] [] ⟨⟨rfl, rfl⟩, ⟨rfl, ⟨rfl, rfl, trivial⟩, ⟨rfl, rfl, trivial⟩, ⟨rfl, ⟨rfl, rfl⟩, trivial⟩, ⟨rfl, ⟨rfl, rfl⟩, trivial⟩, ⟨rfl, ⟨rfl, rfl⟩, trivial⟩, ⟨rfl, ⟨rfl, rfl⟩, trivial⟩, ⟨rfl, rfl, rows_same⟩, ⟨rfl, rfl, rows_same⟩, ⟨rfl, rfl, rows_same⟩, ⟨rfl, rfl, rows_same⟩, trivial⟩, ⟨rfl, rfl⟩, ⟨rfl, rfl⟩, ⟨rfl, rfl⟩, rfl, ⟨rfl, rfl⟩, ⟨rfl, rfl⟩, ⟨rfl, rfl⟩, rfl, trivial⟩
      · replace h := iteF h g337
        conv => whnf
        refine CutK.norm [2, 3, 6, 7, 8, 9, 10, 11, 63] [128, 192, 384, 512, 576, 640, 1124000, 1124001, 1124002, 1124003] ?_
        conv => whnf
        cases h
        exact Done.of [] [] rfl rfl ⟨⟨rfl, rfl⟩, ⟨rfl, trivial⟩, rfl, trivial⟩
def laws_FnExactMeetOfWords_p11 (k : Nat) (a1 : Rw) (a2 : Rw) (o50 : Rw) (o51 : Rw) (o52 : Rw) (o53 : Rw) (v63 : Bool) (v64 : Bool) : Option Bool :=
  (cond v63 (cond v64 ((laws_toWord k a1).bind fun y353 => ((laws_eqWord k o51 y353).bind fun y355 => (if y355 = true then (laws_FnExactMeetOfWords_p12 k a1 a2 o50 o51 o52 o53 true true) else some false))) ((laws_toWord k a1).bind fun y348 => ((laws_eqWord k o51 y348).bind fun y350 => (if y350 = true then (laws_FnExactMeetOfWords_p12 k a1 a2 o50 o51 o52 o53 false true) else some false)))) (cond v64 ((laws_toWord k a1).bind fun y343 => ((laws_eqWord k o51 y343).bind fun y345 => (if y345 = true then (laws_FnExactMeetOfWords_p12 k a1 a2 o50 o51 o52 o53 true false) else some false))) ((laws_toWord k a1).bind fun y338 => ((laws_eqWord k o51 y338).bind fun y340 => (if y340 = true then (laws_FnExactMeetOfWords_p12 k a1 a2 o50 o51 o52 o53 false false) else some false)))))
set_option maxHeartbeats 4000000 in
set_option maxRecDepth 100000 in
theorem laws_FnExactMeetOfWords_p11_ct {k : Nat} {a1 : Rw} {a2 : Rw} {o50 : Rw} {o51 : Rw} {o52 : Rw} {o53 : Rw} {v63 : Bool} {v64 : Bool} {r : Bool} (h : laws_FnExactMeetOfWords_p11 k a1 a2 o50 o51 o52 o53 v63 v64 = some r) : X prog 0 (tlF f9 11) (mk 119 [(2, .ptr 128 0), (3, .ptr 192 0), (6, .ptr 384 0), (7, .d (D.bool v63)), (8, .ptr 512 0), (9, .ptr 576 0), (10, .ptr 640 0), (11, .d (D.bool v64))] [(128, .box 46 [.d (D.sl a1)]), (192, .box 46 [.d (D.sl a2)]), (384, .box 56 [.os 1119000 o50.length]), (512, .box 56 [.os 1119001 o51.length]), (576, .box 56 [.os 1119002 o52.length]), (640, .box 56 [.os 1119003 o53.length]), (1119000, .arr 111 true o50), (1119001, .arr 111 true o51), (1119002, .arr 111 true o52), (1119003, .arr 111 true o53)]) (finK prog f9 0 (.d (D.bool r)) (⟨[], []⟩)) := by
  rw [laws_FnExactMeetOfWords_p11] at h
  cases v63
  · replace h := condF h
    cases v64
    · replace h := condF h
      conv => whnf
      obtain ⟨y338, e339, h⟩ := bind_ex h
      refine CallOk.of (laws_toWord_ct e339) ?_
      conv => whnf
      refine Take.all (rfl) ?_
      conv => whnf
      refine Take.all (rfl) ?_
      conv => whnf
      obtain ⟨y340, e341, h⟩ := bind_ex h
      refine CallOk.of (laws_eqWord_ct e341) ?_
      conv => whnf
      refine spl (fun g342 => ?_) (fun g342 => ?_)
      · replace h := iteT h g342
        conv => whnf
        refine CutK.norm [2, 3, 6, 7, 8, 9, 10, 11, 58] [128, 192, 384, 512, 576, 640, 1119000, 1119001, 1119002, 1119003] ?_
        conv => whnf
        exact CutK.piece (laws_FnExactMeetOfWords_p12_ct  h) [some 128, some 192, some 384, some 512, some 576, some 640, some 1119000, some 1119001, some 1119002, some 1119003] [] ⟨⟨rfl, rfl⟩, ⟨rfl, ⟨rfl, rfl, trivial⟩, ⟨rfl, rfl, trivial⟩, ⟨rfl, ⟨rfl, rfl⟩, trivial⟩, ⟨rfl, ⟨rfl, rfl⟩, trivial⟩, ⟨rfl, ⟨rfl, rfl⟩, trivial⟩, ⟨rfl, ⟨rfl, rfl⟩, trivial⟩, ⟨rfl, rfl, rows_same⟩, ⟨rfl, rfl, rows_same⟩, ⟨rfl, rfl, rows_same⟩, ⟨rfl, rfl, rows_same⟩, trivial⟩, ⟨rfl, rfl⟩, ⟨rfl, rfl⟩, ⟨rfl, rfl⟩, rfl, ⟨rfl, rfl⟩, ⟨rfl, rfl⟩, ⟨rfl, rfl⟩, rfl, trivial⟩
      · replace h := iteF h g342
        conv => whnf
        refine CutK.norm [2, 3, 6, 7, 8, 9, 10, 11, 58] [128, 192, 384, 512, 576, 640, 1119000, 1119001, 1119002, 1119003] ?_
        conv => whnf
        cases h
        exact Done.of [] [] rfl rfl ⟨⟨rfl, rfl⟩, ⟨rfl, trivial⟩, rfl, trivial⟩
    · replace h := condT h
      conv => whnf
      obtain ⟨y343, e344, h⟩ := bind_ex h
      refine CallOk.of (laws_toWord_ct e344) ?_
      conv => whnf
      refine Take.all (rfl) ?_
      conv => whnf
      refine Take.all (rfl) ?_
      conv => whnf
      obtain ⟨y345, e346, h⟩ := bind_ex h
      refine CallOk.of (laws_eqWord_ct e346) ?_
      conv => whnf
      refine spl (fun g347 => ?_) (fun g347 => ?_)
      · replace h := iteT h g347
        conv => whnf
        refine CutK.norm [2, 3, 6, 7, 8, 9, 10, 11, 58] [128, 192, 384, 512, 576, 640, 1119000, 1119001, 1119002, 1119003] ?_
        conv => whnf
        exact CutK.piece (laws_FnExactMeetOfWords_p12_ct  h) [some 128, some 192, some 384, some 512, some 576, some 640, some 1119000, some 1119001, some 1119002, some 1119003] [] ⟨⟨rfl, rfl⟩, ⟨rfl, ⟨rfl, rfl, trivial⟩, ⟨rfl, rfl, trivial⟩, ⟨rfl, ⟨rfl, rfl⟩, trivial⟩, ⟨rfl, ⟨rfl, rfl⟩, trivial⟩, ⟨rfl, ⟨rfl, rfl⟩, trivial⟩, ⟨rfl, ⟨rfl, rfl⟩, trivial⟩, ⟨rfl, rfl, rows_same⟩, ⟨rfl, rfl, rows_same⟩, ⟨rfl, rfl, rows_same⟩, ⟨rfl, rfl, rows_same⟩, trivial⟩, ⟨rfl, rfl⟩, ⟨rfl, rfl⟩, ⟨rfl, rfl⟩, rfl, ⟨rfl, rfl⟩, ⟨rfl, rfl⟩, ⟨rfl, rfl⟩, rfl, trivial⟩
      · replace h := iteF h g347
        conv => whnf
        refine CutK.norm [2, 3, 6, 7, 8, 9, 10, 11, 58] [128, 192, 384, 512, 576, 640, 1119000, 1119001, 1119002, 1119003] ?_
        conv => whnf
        cases h
        exact Done.of [] [] rfl rfl ⟨⟨rfl, rfl⟩, ⟨rfl, trivial⟩, rfl, trivial⟩
  · replace h := condT h
    cases v64
    · replace h := condF h
      conv => whnf
      obtain ⟨y348, e349, h⟩ := bind_ex h
      refine CallOk.of (laws_toWord_ct e349) ?_
      conv => whnf
      refine Take.all (rfl) ?_
      conv => whnf
      refine Take.all (rfl) ?_
      conv => whnf
      obtain ⟨y350, e351, h⟩ := bind_ex h
      refine CallOk.of (laws_eqWord_ct e351) ?_
      conv => whnf
      refine spl (fun g352 => ?_) (fun g352 => ?_)
      · replace h := iteT h g352
        conv => whnf
        refine CutK.norm [2, 3, 6, 7, 8, 9, 10, 11, 58] [128, 192, 384, 512, 576, 640, 1119000, 1119001, 1119002, 1119003] ?_
        conv => whnf
        exact CutK.piece (laws_FnExactMeetOfWords_p12_ct  h) [some 128, some 192, some 384, some 512, some 576, some 640, some 1119000, some 1119001, some 1119002, some 1119003] [] ⟨⟨rfl, rfl⟩, ⟨rfl, ⟨rfl, rfl, trivial⟩, ⟨rfl, rfl, trivial⟩, ⟨rfl, ⟨rfl, rfl⟩, trivial⟩, ⟨rfl, ⟨rfl, rfl⟩, trivial⟩, ⟨rfl, ⟨rfl, rfl⟩, trivial⟩, ⟨rfl, ⟨rfl, rfl⟩, trivial⟩, ⟨rfl, rfl, rows_same⟩, ⟨rfl, rfl, rows_same⟩, ⟨rfl, rfl, rows_same⟩, ⟨rfl, rfl, rows_same⟩, trivial⟩, ⟨rfl, rfl⟩, ⟨rfl, rfl⟩, ⟨rfl, rfl⟩, rfl, ⟨rfl, rfl⟩, ⟨rfl, rfl⟩, ⟨rfl, rfl⟩, rfl, trivial⟩
      · replace h := iteF h g352
        conv => whnf
        refine CutK.norm [2, 3, 6, 7, 8, 9, 10, 11, 58] [128, 192, 384, 512, 576, 640, 1119000, 1119001, 1119002, 1119003] ?_
        conv => whnf
        cases h
        exact Done.of [] [] rfl rfl ⟨⟨rfl, rfl⟩, ⟨rfl, trivial⟩, rfl, trivial⟩
    · replace h := condT h
      conv => whnf
      obtain ⟨y353, e354, h⟩ := bind_ex h
      refine CallOk.of (laws_toWord_ct e354) ?_
      conv => whnf
      refine Take.all (rfl) ?_
      conv => whnf
      refine Take.all (rfl) ?_
      conv => whnf
      obtain ⟨y355, e356, h⟩ := bind_ex h
      refine CallOk.of (laws_eqWord_ct e356) ?_
      conv => whnf
      refine spl (fun g357 => ?_) (fun g357 => ?_)
      · replace h := iteT h g357
        conv => whnf
        refine CutK.norm [2, 3, 6, 7, 8, 9, 10, 11, 58] [128, 192, 384, 512, 576, 640, 1119000, 1119001, 1119002, 1119003] ?_
        conv => whnf
        exact CutK.piece (laws_FnExactMeetOfWords_p12_ct  h) [some 128, some 192, some 384, some 512, some 576, some 640, some 1119000, some 1119001, some 1119002, some 1119003] [] ⟨⟨rfl, rfl⟩, ⟨rfl, ⟨rfl, rfl, trivial⟩, ⟨rfl, rfl, trivial⟩, ⟨rfl, ⟨rfl, rfl⟩, trivial⟩, ⟨rfl, ⟨rfl, rfl⟩, trivial⟩, ⟨rfl, ⟨rfl, rfl⟩, trivial⟩, ⟨rfl, ⟨rfl, rfl⟩, trivial⟩, ⟨rfl, rfl, rows_same⟩, ⟨rfl, rfl, rows_same⟩, ⟨rfl, rfl, rows_same⟩, ⟨rfl, rfl, rows_same⟩, trivial⟩, ⟨rfl, rfl⟩, ⟨rfl, rfl⟩, ⟨rfl, rfl⟩, rfl, ⟨rfl, rfl⟩, ⟨rfl, rfl⟩, ⟨rfl, rfl⟩, rfl, trivial⟩
      · replace h := iteF h g357
        conv => whnf
        refine CutK.norm [2, 3, 6, 7, 8, 9, 10, 11, 58] [128, 192, 384, 512, 576, 640, 1119000, 1119001, 1119002, 1119003] ?_
        conv => whnf
        cases h
        exact Done.of [] [] rfl rfl ⟨⟨rfl, rfl⟩, ⟨rfl, trivial⟩, rfl, trivial⟩
def laws_FnExactMeetOfWords_p10 (k : Nat) (a1 : Rw) (a2 : Rw) (o38 : Rw) (o39 : Rw) (o40 : Rw) (o41 : Rw) (v42 : Bool) (v46 : Bool) : Option Bool :=
  (cond v42 (cond v46 ((laws_eqWord k o41 o38).bind fun y367 => (if y367 = true then (laws_FnExactMeetOfWords_p11 k a1 a2 o38 o39 o40 o41 true true) else some false)) ((laws_eqWord k o41 o38).bind fun y364 => (if y364 = true then some false else some false))) (cond v46 ((laws_eqWord k o41 o38).bind fun y361 => (if y361 = true then some false else some false)) ((laws_eqWord k o41 o38).bind fun y358 => (if y358 = true then (laws_FnExactMeetOfWords_p11 k a1 a2 o38 o39 o40 o41 false false) else some false))))
set_option maxHeartbeats 4000000 in
set_option maxRecDepth 100000 in
theorem laws_FnExactMeetOfWords_p10_ct {k : Nat} {a1 : Rw} {a2 : Rw} {o38 : Rw} {o39 : Rw} {o40 : Rw} {o41 : Rw} {v42 : Bool} {v46 : Bool} {r : Bool} (h : laws_FnExactMeetOfWords_p10 k a1 a2 o38 o39 o40 o41 v42 v46 = some r) : X prog 0 (tlF f9 10) (mk 119 [(2, .ptr 128 0), (3, .ptr 192 0), (6, .ptr 384 0), (7, .d (D.bool v46)), (8, .ptr 512 0), (9, .ptr 576 0), (10, .ptr 640 0), (11, .d (D.bool v42))] [(128, .box 46 [.d (D.sl a1)]), (192, .box 46 [.d (D.sl a2)]), (384, .box 56 [.os 1114000 o38.length]), (512, .box 56 [.os 1114001 o39.length]), (576, .box 56 [.os 1114002 o40.length]), (640, .box 56 [.os 1114003 o41.length]), (1114000, .arr 111 true o38), (1114001, .arr 111 true o39), (1114002, .arr 111 true o40), (1114003, .arr 111 true o41)]) (finK prog f9 0 (.d (D.bool r)) (⟨[], []⟩)) := by
  rw [laws_FnExactMeetOfWords_p10] at h
  cases v42
  · replace h := condF h
    cases v46
    · replace h := condF h
      conv => whnf
      refine Take.all (rfl) ?_
      conv => whnf
      refine Take.all (rfl) ?_
      conv => whnf
      obtain ⟨y358, e359, h⟩ := bind_ex h
      refine CallOk.of (laws_eqWord_ct e359) ?_
      conv => whnf
      refine spl (fun g360 => ?_) (fun g360 => ?_)
      · replace h := iteT h g360
        conv => whnf
        refine splF ?_
        conv => whnf
        refine CutK.norm [2, 3, 6, 7, 8, 9, 10, 11, 53] [128, 192, 384, 512, 576, 640, 1114000, 1114001, 1114002, 1114003] ?_
        conv => whnf
        exact CutK.piece (laws_FnExactMeetOfWords_p11_ct  h) [some 128, some 192, some 384, some 512, some 576, some 640, some 1114000, some 1114001, some 1114002, some 1114003] [] ⟨⟨rfl, rfl⟩, ⟨rfl, ⟨rfl, rfl, trivial⟩, ⟨rfl, rfl, trivial⟩, ⟨rfl, ⟨rfl, rfl⟩, trivial⟩, ⟨rfl, ⟨rfl, rfl⟩, trivial⟩, ⟨rfl, ⟨rfl, rfl⟩, trivial⟩, ⟨rfl, ⟨rfl, rfl⟩, trivial⟩, ⟨rfl, rfl, rows_same⟩, ⟨rfl, rfl, rows_same⟩, ⟨rfl, rfl, rows_same⟩, ⟨rfl, rfl, rows_same⟩, trivial⟩, ⟨rfl, rfl⟩, ⟨rfl, rfl⟩, ⟨rfl, rfl⟩, rfl, ⟨rfl, rfl⟩, ⟨rfl, rfl⟩, ⟨rfl, rfl⟩, rfl, trivial⟩
      · replace h := iteF h g360
        conv => whnf
        refine CutK.norm [2, 3, 6, 7, 8, 9, 10, 11, 53] [128, 192, 384, 512, 576, 640, 1114000, 1114001, 1114002, 1114003] ?_
        conv => whnf
        cases h
        exact Done.of [] [] rfl rfl ⟨⟨rfl, rfl⟩, ⟨rfl, trivial⟩, rfl, trivial⟩
    · replace h := condT h
      conv => whnf
      refine Take.all (rfl) ?_
      conv => whnf
      refine Take.all (rfl) ?_
      conv => whnf
      obtain ⟨y361, e362, h⟩ := bind_ex h
      refine CallOk.of (laws_eqWord_ct e362) ?_
      conv => whnf
      refine spl (fun g363 => ?_) (fun g363 => ?_)
      · replace h := iteT h g363
        conv => whnf
        refine splT ?_
        conv => whnf
        refine CutK.norm [2, 3, 6, 7, 8, 9, 10, 11, 53] [128, 192, 384, 512, 576, 640, 1114000, 1114001, 1114002, 1114003] ?_
        conv => whnf
        cases h
        exact Done.of [] [] rfl rfl ⟨⟨rfl, rfl⟩, ⟨rfl, trivial⟩, rfl, trivial⟩
      · replace h := iteF h g363
        conv => whnf
        refine CutK.norm [2, 3, 6, 7, 8, 9, 10, 11, 53] [128, 192, 384, 512, 576, 640, 1114000, 1114001, 1114002, 1114003] ?_
        conv => whnf
        cases h
        exact Done.of [] [] rfl rfl ⟨⟨rfl, rfl⟩, ⟨rfl, trivial⟩, rfl, trivial⟩
  · replace h := condT h
    cases v46
    · replace h := condF h
      conv => whnf
      refine Take.all (rfl) ?_
      conv => whnf
      refine Take.all (rfl) ?_
      conv => whnf
      obtain ⟨y364, e365, h⟩ := bind_ex h
      refine CallOk.of (laws_eqWord_ct e365) ?_
      conv => whnf
      refine spl (fun g366 => ?_) (fun g366 => ?_)
      · replace h := iteT h g366
        conv => whnf
        refine splT ?_
        conv => whnf
        refine CutK.norm [2, 3, 6, 7, 8, 9, 10, 11, 53] [128, 192, 384, 512, 576, 640, 1114000, 1114001, 1114002, 1114003] ?_
        conv => whnf
        cases h
        exact Done.of [] [] rfl rfl ⟨⟨rfl, rfl⟩, ⟨rfl, trivial⟩, rfl, trivial⟩
      · replace h := iteF h g366
        conv => whnf
        refine CutK.norm [2, 3, 6, 7, 8, 9, 10, 11, 53] [128, 192, 384, 512, 576, 640, 1114000, 1114001, 1114002, 1114003] ?_
        conv => whnf
        cases h
        exact Done.of [] [] rfl rfl ⟨⟨rfl, rfl⟩, ⟨rfl, trivial⟩, rfl, trivial⟩
    · replace h := condT h
      conv => whnf
      refine Take.all (rfl) ?_
      conv => whnf
      refine Take.all (rfl) ?_
      conv => whnf
      obtain ⟨y367, e368, h⟩ := bind_ex h
      refine CallOk.of (laws_eqWord_ct e368) ?_
      conv => whnf
      refine spl (fun g369 => ?_) (fun g369 => ?_)
      · replace h := iteT h g369
        conv => whnf
        refine splF ?_
        conv => whnf
        refine CutK.norm [2, 3, 6, 7, 8, 9, 10, 11, 53] [128, 192, 384, 512, 576, 640, 1114000, 1114001, 1114002, 1114003] ?_
        conv => whnf
        exact CutK.piece (laws_FnExactMeetOfWords_p11_ct  h) [some 128, some 192, some 384, some 512, some 576, some 640, some 1114000, some 1114001, some 1114002, some 1114003] [] ⟨⟨rfl, rfl⟩, ⟨rfl, ⟨rfl, rfl, trivial⟩, ⟨rfl, rfl, trivial⟩, ⟨rfl, ⟨rfl, rfl⟩, trivial⟩, ⟨rfl, ⟨rfl, rfl⟩, trivial⟩, ⟨rfl, ⟨rfl, rfl⟩, trivial⟩, ⟨rfl, ⟨rfl, rfl⟩, trivial⟩, ⟨rfl, rfl, rows_same⟩, ⟨rfl, rfl, rows_same⟩, ⟨rfl, rfl, rows_same⟩, ⟨rfl, rfl, rows_same⟩, trivial⟩, ⟨rfl, rfl⟩, ⟨rfl, rfl⟩, ⟨rfl, rfl⟩, rfl, ⟨rfl, rfl⟩, ⟨rfl, rfl⟩, ⟨rfl, rfl⟩, rfl, trivial⟩
      · replace h := iteF h g369
        conv => whnf
        refine CutK.norm [2, 3, 6, 7, 8, 9, 10, 11, 53] [128, 192, 384, 512, 576, 640, 1114000, 1114001, 1114002, 1114003] ?_
        conv => whnf
        cases h
        exact Done.of [] [] rfl rfl ⟨⟨rfl, rfl⟩, ⟨rfl, trivial⟩, rfl, trivial⟩
def laws_FnExactMeetOfWords_p9 (k : Nat) (a1 : Rw) (a2 : Rw) (o29 : Rw) (o30 : Rw) (o31 : Rw) (v34 : Bool) : Option Bool :=
  (cond v34 ((impl_MeetOfWords k o30 o31).bind fun y373 => (if y373.2 = true then (laws_FnExactMeetOfWords_p10 k a1 a2 o29 o30 o31 y373.1 true true) else (laws_FnExactMeetOfWords_p10 k a1 a2 o29 o30 o31 y373.1 false true))) ((impl_MeetOfWords k o30 o31).bind fun y370 => (if y370.2 = true then (laws_FnExactMeetOfWords_p10 k a1 a2 o29 o30 o31 y370.1 true false) else (laws_FnExactMeetOfWords_p10 k a1 a2 o29 o30 o31 y370.1 false false))))
set_option maxHeartbeats 4000000 in
set_option maxRecDepth 100000 in
theorem laws_FnExactMeetOfWords_p9_ct {k : Nat} {a1 : Rw} {a2 : Rw} {o29 : Rw} {o30 : Rw} {o31 : Rw} {v34 : Bool} {r : Bool} (h : laws_FnExactMeetOfWords_p9 k a1 a2 o29 o30 o31 v34 = some r) : X prog 0 (tlF f9 9) (mk 119 [(2, .ptr 128 0), (3, .ptr 192 0), (6, .ptr 384 0), (7, .d (D.bool v34)), (8, .ptr 512 0), (9, .ptr 576 0)] [(128, .box 46 [.d (D.sl a1)]), (192, .box 46 [.d (D.sl a2)]), (384, .box 56 [.os 1109000 o29.length]), (512, .box 56 [.os 1109001 o30.length]), (576, .box 56 [.os 1109002 o31.length]), (1109000, .arr 111 true o29), (1109001, .arr 111 true o30), (1109002, .arr 111 true o31)]) (finK prog f9 0 (.d (D.bool r)) (⟨[], []⟩)) := by
  rw [laws_FnExactMeetOfWords_p9] at h
  cases v34
  · replace h := condF h
    conv => whnf
    refine Take.all (rfl) ?_
    conv => whnf
    refine Take.all (rfl) ?_
    conv => whnf
    obtain ⟨y370, e371, h⟩ := bind_ex h
    refine CallOk.of (impl_MeetOfWords_ct e371) ?_
    conv => whnf
    refine spl (fun g372 => ?_) (fun g372 => ?_)
    · replace h := iteT h g372
      conv => whnf
      exact CutK.piece (laws_FnExactMeetOfWords_p10_ct  h) [some 128, some 192, some 384, some 512, some 576, some 640, some 1109000, some 1109001, some 1109002, some 2688] [] ⟨⟨rfl, rfl⟩, ⟨rfl, ⟨rfl, rfl, trivial⟩, ⟨rfl, rfl, trivial⟩, ⟨rfl, ⟨rfl, rfl⟩, trivial⟩, ⟨rfl, ⟨rfl, rfl⟩, trivial⟩, ⟨rfl, ⟨rfl, rfl⟩, trivial⟩, ⟨rfl, ⟨rfl, rfl⟩, trivial⟩, ⟨rfl, rfl, rows_same⟩, ⟨rfl, rfl, rows_same⟩, ⟨rfl, rfl, rows_same⟩, ⟨rfl, rfl, rows_same⟩, trivial⟩, ⟨rfl, rfl⟩, ⟨rfl, rfl⟩, ⟨rfl, rfl⟩, rfl, ⟨rfl, rfl⟩, ⟨rfl, rfl⟩, ⟨rfl, rfl⟩, rfl, trivial⟩
    · replace h := iteF h g372
      conv => whnf
      exact CutK.piece (laws_FnExactMeetOfWords_p10_ct  h) [some 128, some 192, some 384, some 512, some 576, some 640, some 1109000, some 1109001, some 1109002, some 2688] [] ⟨⟨rfl, rfl⟩, ⟨rfl, ⟨rfl, rfl, trivial⟩, ⟨rfl, rfl, trivial⟩, ⟨rfl, ⟨rfl, rfl⟩, trivial⟩, ⟨rfl, ⟨rfl, rfl⟩, trivial⟩, ⟨rfl, ⟨rfl, rfl⟩, trivial⟩, ⟨rfl, ⟨rfl, rfl⟩, trivial⟩, ⟨rfl, rfl, rows_same⟩, ⟨rfl, rfl, rows_same⟩, ⟨rfl, rfl, rows_same⟩, ⟨rfl, rfl, rows_same⟩, trivial⟩, ⟨rfl, rfl⟩, ⟨rfl, rfl⟩, ⟨rfl, rfl⟩, rfl, ⟨rfl, rfl⟩, ⟨rfl, rfl⟩, ⟨rfl, rfl⟩, rfl, trivial⟩
  · replace h := condT h
    conv => whnf
    refine Take.all (rfl) ?_
    conv => whnf
    refine Take.all (rfl) ?_
    conv => whnf
    obtain ⟨y373, e374, h⟩ := bind_ex h
    refine CallOk.of (impl_MeetOfWords_ct e374) ?_
    conv => whnf
    refine spl (fun g375 => ?_) (fun g375 => ?_)
    · replace h := iteT h g375
      conv => whnf
      exact CutK.piece (laws_FnExactMeetOfWords_p10_ct  h) [some 128, some 192, some 384, some 512, some 576, some 640, some 1109000, some 1109001, some 1109002, some 2688] [] ⟨⟨rfl, rfl⟩, ⟨rfl, ⟨rfl, rfl, trivial⟩, ⟨rfl, rfl, trivial⟩, ⟨rfl, ⟨rfl, rfl⟩, trivial⟩, ⟨rfl, ⟨rfl, rfl⟩, trivial⟩, ⟨rfl, ⟨rfl, rfl⟩, trivial⟩, ⟨rfl, ⟨rfl, rfl⟩, trivial⟩, ⟨rfl, rfl, rows_same⟩, ⟨rfl, rfl, rows_same⟩, ⟨rfl, rfl, rows_same⟩, ⟨rfl, rfl, rows_same⟩, trivial⟩, ⟨rfl, rfl⟩, ⟨rfl, rfl⟩, ⟨rfl, rfl⟩, rfl, ⟨rfl, rfl⟩, ⟨rfl, rfl⟩, ⟨rfl, rfl⟩, rfl, trivial⟩
    · replace h := iteF h g375
      conv => whnf
      exact CutK.piece (laws_FnExactMeetOfWords_p10_ct  h) [some 128, some 192, some 384, some 512, some 576, some 640, some 1109000, some 1109001, some 1109002, some 2688] [] ⟨⟨rfl, rfl⟩, ⟨rfl, ⟨rfl, rfl, trivial⟩, ⟨rfl, rfl, trivial⟩, ⟨rfl, ⟨rfl, rfl⟩, trivial⟩, ⟨rfl, ⟨rfl, rfl⟩, trivial⟩, ⟨rfl, ⟨rfl, rfl⟩, trivial⟩, ⟨rfl, ⟨rfl, rfl⟩, trivial⟩, ⟨rfl, rfl, rows_same⟩, ⟨rfl, rfl, rows_same⟩, ⟨rfl, rfl, rows_same⟩, ⟨rfl, rfl, rows_same⟩, trivial⟩, ⟨rfl, rfl⟩, ⟨rfl, rfl⟩, ⟨rfl, rfl⟩, rfl, ⟨rfl, rfl⟩, ⟨rfl, rfl⟩, ⟨rfl, rfl⟩, rfl, trivial⟩
def laws_FnExactMeetOfWords_p8 (k : Nat) (a1 : Rw) (a2 : Rw) (o22 : Rw) (o23 : Rw) (v26 : Bool) : Option Bool :=
  (cond v26 ((laws_toWord k a2).bind fun y378 => (laws_FnExactMeetOfWords_p9 k a1 a2 o22 o23 y378 true)) ((laws_toWord k a2).bind fun y376 => (laws_FnExactMeetOfWords_p9 k a1 a2 o22 o23 y376 false)))
set_option maxHeartbeats 4000000 in
set_option maxRecDepth 100000 in
theorem laws_FnExactMeetOfWords_p8_ct {k : Nat} {a1 : Rw} {a2 : Rw} {o22 : Rw} {o23 : Rw} {v26 : Bool} {r : Bool} (h : laws_FnExactMeetOfWords_p8 k a1 a2 o22 o23 v26 = some r) : X prog 0 (tlF f9 8) (mk 119 [(2, .ptr 128 0), (3, .ptr 192 0), (6, .ptr 384 0), (7, .d (D.bool v26)), (8, .ptr 512 0)] [(128, .box 46 [.d (D.sl a1)]), (192, .box 46 [.d (D.sl a2)]), (384, .box 56 [.os 1104000 o22.length]), (512, .box 56 [.os 1104001 o23.length]), (1104000, .arr 111 true o22), (1104001, .arr 111 true o23)]) (finK prog f9 0 (.d (D.bool r)) (⟨[], []⟩)) := by
  rw [laws_FnExactMeetOfWords_p8] at h
  cases v26
  · replace h := condF h
    conv => whnf
    obtain ⟨y376, e377, h⟩ := bind_ex h
    refine CallOk.of (laws_toWord_ct e377) ?_
    conv => whnf
    exact CutK.piece (laws_FnExactMeetOfWords_p9_ct  h) [some 128, some 192, some 384, some 512, some 576, some 1104000, some 1104001, some 2432] [] ⟨⟨rfl, rfl⟩, ⟨rfl, ⟨rfl, rfl, trivial⟩, ⟨rfl, rfl, trivial⟩, ⟨rfl, ⟨rfl, rfl⟩, trivial⟩, ⟨rfl, ⟨rfl, rfl⟩, trivial⟩, ⟨rfl, ⟨rfl, rfl⟩, trivial⟩, ⟨rfl, rfl, rows_same⟩, ⟨rfl, rfl, rows_same⟩, ⟨rfl, rfl, rows_same⟩, trivial⟩, ⟨rfl, rfl⟩, ⟨rfl, rfl⟩, ⟨rfl, rfl⟩, rfl, ⟨rfl, rfl⟩, ⟨rfl, rfl⟩, trivial⟩
  · replace h := condT h
    conv => whnf
    obtain ⟨y378, e379, h⟩ := bind_ex h
    refine CallOk.of (laws_toWord_ct e379) ?_
    conv => whnf
    exact CutK.piece (laws_FnExactMeetOfWords_p9_ct  h) [some 128, some 192, some 384, some 512, some 576, some 1104000, some 1104001, some 2432] [] ⟨⟨rfl, rfl⟩, ⟨rfl, ⟨rfl, rfl, trivial⟩, ⟨rfl, rfl, trivial⟩, ⟨rfl, ⟨rfl, rfl⟩, trivial⟩, ⟨rfl, ⟨rfl, rfl⟩, trivial⟩, ⟨rfl, ⟨rfl, rfl⟩, trivial⟩, ⟨rfl, rfl, rows_same⟩, ⟨rfl, rfl, rows_same⟩, ⟨rfl, rfl, rows_same⟩, trivial⟩, ⟨rfl, rfl⟩, ⟨rfl, rfl⟩, ⟨rfl, rfl⟩, rfl, ⟨rfl, rfl⟩, ⟨rfl, rfl⟩, trivial⟩
def laws_FnExactMeetOfWords_p7 (k : Nat) (a1 : Rw) (a2 : Rw) (o18 : Rw) (v19 : Bool) : Option Bool :=
  (cond v19 ((laws_toWord k a1).bind fun y382 => (laws_FnExactMeetOfWords_p8 k a1 a2 o18 y382 true)) ((laws_toWord k a1).bind fun y380 => (laws_FnExactMeetOfWords_p8 k a1 a2 o18 y380 false)))
set_option maxHeartbeats 4000000 in
set_option maxRecDepth 100000 in
theorem laws_FnExactMeetOfWords_p7_ct {k : Nat} {a1 : Rw} {a2 : Rw} {o18 : Rw} {v19 : Bool} {r : Bool} (h : laws_FnExactMeetOfWords_p7 k a1 a2 o18 v19 = some r) : X prog 0 (tlF f9 7) (mk 119 [(2, .ptr 128 0), (3, .ptr 192 0), (6, .ptr 384 0), (7, .d (D.bool v19))] [(128, .box 46 [.d (D.sl a1)]), (192, .box 46 [.d (D.sl a2)]), (384, .box 56 [.os 1099000 o18.length]), (1099000, .arr 111 true o18)]) (finK prog f9 0 (.d (D.bool r)) (⟨[], []⟩)) := by
  rw [laws_FnExactMeetOfWords_p7] at h
  cases v19
  · replace h := condF h
    conv => whnf
    obtain ⟨y380, e381, h⟩ := bind_ex h
    refine CallOk.of (laws_toWord_ct e381) ?_
    conv => whnf
    exact CutK.piece (laws_FnExactMeetOfWords_p8_ct  h) [some 128, some 192, some 384, some 512, some 1099000, some 2304] [] ⟨⟨rfl, rfl⟩, ⟨rfl, ⟨rfl, rfl, trivial⟩, ⟨rfl, rfl, trivial⟩, ⟨rfl, ⟨rfl, rfl⟩, trivial⟩, ⟨rfl, ⟨rfl, rfl⟩, trivial⟩, ⟨rfl, rfl, rows_same⟩, ⟨rfl, rfl, rows_same⟩, trivial⟩, ⟨rfl, rfl⟩, ⟨rfl, rfl⟩, ⟨rfl, rfl⟩, rfl, ⟨rfl, rfl⟩, trivial⟩
  · replace h := condT h
    conv => whnf
    obtain ⟨y382, e383, h⟩ := bind_ex h
    refine CallOk.of (laws_toWord_ct e383) ?_
    conv => whnf
    exact CutK.piece (laws_FnExactMeetOfWords_p8_ct  h) [some 128, some 192, some 384, some 512, some 1099000, some 2304] [] ⟨⟨rfl, rfl⟩, ⟨rfl, ⟨rfl, rfl, trivial⟩, ⟨rfl, rfl, trivial⟩, ⟨rfl, ⟨rfl, rfl⟩, trivial⟩, ⟨rfl, ⟨rfl, rfl⟩, trivial⟩, ⟨rfl, rfl, rows_same⟩, ⟨rfl, rfl, rows_same⟩, trivial⟩, ⟨rfl, rfl⟩, ⟨rfl, rfl⟩, ⟨rfl, rfl⟩, rfl, ⟨rfl, rfl⟩, trivial⟩
def laws_FnExactMeetOfWords_p5 (k : Nat) (a1 : Rw) (a2 : Rw) (o9 : Int) : Option Bool :=
  (if o9 < (0 : Int) then some true else ((laws_toWord k a1).bind fun y385 => ((laws_toWord k a2).bind fun y387 => ((spec_MeetOfWords k y385 y387).bind fun y389 => (if y389.2 = true then (laws_FnExactMeetOfWords_p7 k a1 a2 y389.1 true) else (laws_FnExactMeetOfWords_p7 k a1 a2 y389.1 false))))))
set_option maxHeartbeats 4000000 in
set_option maxRecDepth 100000 in
theorem laws_FnExactMeetOfWords_p5_ct {k : Nat} {a1 : Rw} {a2 : Rw} {o9 : Int} {r : Bool} (h : laws_FnExactMeetOfWords_p5 k a1 a2 o9 = some r) : X prog 0 (tlF f9 5) (mk 119 [(2, .ptr 128 0), (3, .ptr 192 0), (5, .d (D.int .i64 o9))] [(128, .box 46 [.d (D.sl a1)]), (192, .box 46 [.d (D.sl a2)])]) (finK prog f9 0 (.d (D.bool r)) (⟨[], []⟩)) := by
  rw [laws_FnExactMeetOfWords_p5] at h
  conv => whnf
  refine splD (fun g384 => ?_) (fun g384 => ?_)
  · replace h := iteP h g384
    conv => whnf
    cases h
    exact Done.of [] [] rfl rfl ⟨⟨rfl, rfl⟩, ⟨rfl, trivial⟩, rfl, trivial⟩
  · replace h := iteN h g384
    conv => whnf
    obtain ⟨y385, e386, h⟩ := bind_ex h
    refine CallOk.of (laws_toWord_ct e386) ?_
    conv => whnf
    obtain ⟨y387, e388, h⟩ := bind_ex h
    refine CallOk.of (laws_toWord_ct e388) ?_
    conv => whnf
    refine Take.all (rfl) ?_
    conv => whnf
    refine Take.all (rfl) ?_
    conv => whnf
    obtain ⟨y389, e390, h⟩ := bind_ex h
    refine CallOk.of (spec_MeetOfWords_ct e390) ?_
    conv => whnf
    refine spl (fun g391 => ?_) (fun g391 => ?_)
    · replace h := iteT h g391
      conv => whnf
      exact CutK.piece (laws_FnExactMeetOfWords_p7_ct  h) [some 128, some 192, some 384, some 2048] [] ⟨⟨rfl, rfl⟩, ⟨rfl, ⟨rfl, rfl, trivial⟩, ⟨rfl, rfl, trivial⟩, ⟨rfl, ⟨rfl, rfl⟩, trivial⟩, ⟨rfl, rfl, rows_same⟩, trivial⟩, ⟨rfl, rfl⟩, ⟨rfl, rfl⟩, ⟨rfl, rfl⟩, rfl, trivial⟩
    · replace h := iteF h g391
      conv => whnf
      exact CutK.piece (laws_FnExactMeetOfWords_p7_ct  h) [some 128, some 192, some 384, some 2048] [] ⟨⟨rfl, rfl⟩, ⟨rfl, ⟨rfl, rfl, trivial⟩, ⟨rfl, rfl, trivial⟩, ⟨rfl, ⟨rfl, rfl⟩, trivial⟩, ⟨rfl, rfl, rows_same⟩, trivial⟩, ⟨rfl, rfl⟩, ⟨rfl, rfl⟩, ⟨rfl, rfl⟩, rfl, trivial⟩
def laws_FnExactMeetOfWords_p3 (k : Nat) (a1 : Rw) (a2 : Rw) (o5 : Int) : Option Bool :=
  (if o5 < (0 : Int) then some true else ((laws_szWord k a2 o5).bind fun y393 => (laws_FnExactMeetOfWords_p5 k a1 a2 y393)))
set_option maxHeartbeats 4000000 in
set_option maxRecDepth 100000 in
theorem laws_FnExactMeetOfWords_p3_ct {k : Nat} {a1 : Rw} {a2 : Rw} {o5 : Int} {r : Bool} (h : laws_FnExactMeetOfWords_p3 k a1 a2 o5 = some r) : X prog 0 (tlF f9 3) (mk 119 [(2, .ptr 128 0), (3, .ptr 192 0), (5, .d (D.int .i64 o5))] [(128, .box 46 [.d (D.sl a1)]), (192, .box 46 [.d (D.sl a2)])]) (finK prog f9 0 (.d (D.bool r)) (⟨[], []⟩)) := by
  rw [laws_FnExactMeetOfWords_p3] at h
  conv => whnf
  refine splD (fun g392 => ?_) (fun g392 => ?_)
  · replace h := iteP h g392
    conv => whnf
    cases h
    exact Done.of [] [] rfl rfl ⟨⟨rfl, rfl⟩, ⟨rfl, trivial⟩, rfl, trivial⟩
  · replace h := iteN h g392
    conv => whnf
    obtain ⟨y393, e394, h⟩ := bind_ex h
    refine CallOk.of (laws_szWord_ct e394) ?_
    conv => whnf
    exact CutK.piece (laws_FnExactMeetOfWords_p5_ct  h) [some 128, some 192] [] ⟨⟨rfl, rfl⟩, ⟨rfl, ⟨rfl, rfl, trivial⟩, ⟨rfl, rfl, trivial⟩, trivial⟩, ⟨rfl, rfl⟩, ⟨rfl, rfl⟩, rfl, trivial⟩
def laws_FnExactMeetOfWords (k : Nat) (a1 : Rw) (a2 : Rw) : Option Bool :=
  ((laws_szWord k a1 1048576).bind fun y395 => (laws_FnExactMeetOfWords_p3 k a1 a2 y395))
set_option maxHeartbeats 4000000 in
set_option maxRecDepth 100000 in
theorem laws_FnExactMeetOfWords_ct {k : Nat} {a1 : Rw} {a2 : Rw} {r : Bool} (h : laws_FnExactMeetOfWords k a1 a2 = some r) : Ct prog 9 [.agg [.d (D.sl a1)], .agg [.d (D.sl a2)]] (⟨[], []⟩) (.d (D.bool r)) (⟨[], []⟩) := by
  rw [laws_FnExactMeetOfWords] at h
  refine Ct.of (c := _) mixed func9 ⟨rfl, rfl, rfl⟩ ?_ rfl
  conv => whnf
  obtain ⟨y395, e396, h⟩ := bind_ex h
  refine CallOk.of (laws_szWord_ct e396) ?_
  conv => whnf
  exact CutK.piece (laws_FnExactMeetOfWords_p3_ct  h) [some 128, some 192] [] ⟨⟨rfl, rfl⟩, ⟨rfl, ⟨rfl, rfl, trivial⟩, ⟨rfl, rfl, trivial⟩, trivial⟩, ⟨rfl, rfl⟩, ⟨rfl, rfl⟩, rfl, trivial⟩

def impl_lengthOf_l0 (k : Nat) (a1 : Rw) (K0 : Rw → Option Rw) : Rw → Rw → Option Rw
  | [], v12 => (K0 v12)
  | cs :: rest, v12 => (cell_bs cs fun x36 x37 => (if x36 = true then ((impl_plus k v12 x37).bind fun y40 => (impl_lengthOf_l0 k a1 K0 rest y40)) else ((impl_plus k v12 x37).bind fun y42 => (impl_lengthOf_l0 k a1 K0 rest y42))))
set_option maxRecDepth 100000 in
theorem impl_lengthOf_l0_ct {k : Nat} {a1 : Rw} {K0 : Rw → Option Rw} {r : Rw} (hx : a1.length ≤ cap) : ∀ (rest : Rw) (v11n : Nat) (v12 : Rw), a1.drop v11n = rest → impl_lengthOf_l0 k a1 K0 rest v12 = some r → LoopOk prog 0 (lp f112 0) (mk 28 [(1, .d (D.bool false)), (4, .ptr 256 0), (5, .ptr 320 0), (10, .d (D.sl a1)), (11, .d (D.int .i64 (a1.length : Int))), (12, .d (D.int .i64 (v11n : Int)))] [(256, .box 28 [.es]), (320, .box 28 [.d (D.sl v12)])]) (LoopEnd prog f112 0 28 (.agg [.d (D.sl r)]) (⟨[], []⟩) (fun i ts os => (i = 0 ∧ ∃ v25 : Rw, K0 v25 = some r ∧ ts = [(4, .ptr 256 0), (5, .ptr 320 0)] ∧ os = [(256, .box 28 [.es]), (320, .box 28 [.d (D.sl v25)])])))
  | [], v11n, v12, hd, h => by
      rw [impl_lengthOf_l0] at h
      have hn := drop_nil hd
      refine LoopOk.step ?_
      conv => whnf
      refine splD (fun g => absurd g hn) (fun _ => ?_)
      conv => whnf
      exact ⟨_, _, [some 256, some 320], [], ⟨rfl, _, h, rfl, rfl⟩, ⟨⟨rfl, rfl⟩, ⟨rfl, ⟨rfl, trivial, trivial⟩, ⟨rfl, rfl, trivial⟩, trivial⟩, ⟨rfl, rfl⟩, ⟨rfl, rfl⟩, trivial⟩⟩
  | cs :: rest, v11n, v12, hd, h => by
      rw [impl_lengthOf_l0] at h
      obtain ⟨hrow, hd1, hlt⟩ := drop_cons hd
      refine LoopOk.step ?_
      conv => whnf
      refine splD (fun _ => ?_) (fun g => absurd hlt g)
      conv => whnf
      obtain ⟨x36, x37, e38, h⟩ := cell_bs_ex h
      rw [e38] at hrow
      refine Req.of (Int.natCast_nonneg _) ?_
      refine Row.of _ hrow ?_
      conv => whnf
      refine spl (fun g39 => ?_) (fun g39 => ?_)
      · replace h := iteT h g39
        conv => whnf
        refine splT ?_
        conv => whnf
        obtain ⟨y40, e41, h⟩ := bind_ex h
        refine CallOk.of (impl_plus_ct e41) ?_
        conv => whnf
        refine CutK.go ?_
        conv => whnf
        exact LoopOk.back (impl_lengthOf_l0_ct hx rest (v11n + 1) _ hd1 h) [some 256, some 320] [] ⟨⟨rfl, rfl⟩, ⟨rfl, ⟨rfl, trivial, trivial⟩, ⟨rfl, rfl, trivial⟩, trivial⟩, rfl, ⟨rfl, rfl⟩, ⟨rfl, rfl⟩, rfl, rfl, i64eq (wrap_up hlt hx), trivial⟩
      · replace h := iteF h g39
        conv => whnf
        refine splF ?_
        conv => whnf
        obtain ⟨y42, e43, h⟩ := bind_ex h
        refine CallOk.of (impl_plus_ct e43) ?_
        conv => whnf
        refine CutK.go ?_
        conv => whnf
        exact LoopOk.back (impl_lengthOf_l0_ct hx rest (v11n + 1) _ hd1 h) [some 256, some 320] [] ⟨⟨rfl, rfl⟩, ⟨rfl, ⟨rfl, trivial, trivial⟩, ⟨rfl, rfl, trivial⟩, trivial⟩, rfl, ⟨rfl, rfl⟩, ⟨rfl, rfl⟩, rfl, rfl, i64eq (wrap_up hlt hx), trivial⟩
def impl_lengthOf_l0_2 (k : Nat) (a1 : Rw) (K0 : Rw → Option Rw) : Rw → Rw → Option Rw
  | [], v54 => (K0 v54)
  | cs :: rest, v54 => (cell_bs cs fun x72 x73 => (if x72 = true then ((impl_plus k v54 x73).bind fun y76 => (impl_lengthOf_l0_2 k a1 K0 rest y76)) else (impl_lengthOf_l0_2 k a1 K0 rest v54)))
set_option maxRecDepth 100000 in
theorem impl_lengthOf_l0_2_ct {k : Nat} {a1 : Rw} {K0 : Rw → Option Rw} {r : Rw} (hx : a1.length ≤ cap) : ∀ (rest : Rw) (v53n : Nat) (v54 : Rw), a1.drop v53n = rest → impl_lengthOf_l0_2 k a1 K0 rest v54 = some r → LoopOk prog 0 (lp f112 0) (mk 28 [(1, .d (D.bool true)), (4, .ptr 256 0), (5, .ptr 320 0), (10, .d (D.sl a1)), (11, .d (D.int .i64 (a1.length : Int))), (12, .d (D.int .i64 (v53n : Int)))] [(256, .box 28 [.es]), (320, .box 28 [.d (D.sl v54)])]) (LoopEnd prog f112 0 28 (.agg [.d (D.sl r)]) (⟨[], []⟩) (fun i ts os => (i = 0 ∧ ∃ v63 : Rw, K0 v63 = some r ∧ ts = [(4, .ptr 256 0), (5, .ptr 320 0)] ∧ os = [(256, .box 28 [.es]), (320, .box 28 [.d (D.sl v63)])])))
  | [], v53n, v54, hd, h => by
      rw [impl_lengthOf_l0_2] at h
      have hn := drop_nil hd
      refine LoopOk.step ?_
      conv => whnf
      refine splD (fun g => absurd g hn) (fun _ => ?_)
      conv => whnf
      exact ⟨_, _, [some 256, some 320], [], ⟨rfl, _, h, rfl, rfl⟩, ⟨⟨rfl, rfl⟩, ⟨rfl, ⟨rfl, trivial, trivial⟩, ⟨rfl, rfl, trivial⟩, trivial⟩, ⟨rfl, rfl⟩, ⟨rfl, rfl⟩, trivial⟩⟩
  | cs :: rest, v53n, v54, hd, h => by
      rw [impl_lengthOf_l0_2] at h
      obtain ⟨hrow, hd1, hlt⟩ := drop_cons hd
      refine LoopOk.step ?_
      conv => whnf
      refine splD (fun _ => ?_) (fun g => absurd hlt g)
      conv => whnf
      obtain ⟨x72, x73, e74, h⟩ := cell_bs_ex h
      rw [e74] at hrow
      refine Req.of (Int.natCast_nonneg _) ?_
      refine Row.of _ hrow ?_
      conv => whnf
      refine spl (fun g75 => ?_) (fun g75 => ?_)
      · replace h := iteT h g75
        conv => whnf
        refine splT ?_
        conv => whnf
        obtain ⟨y76, e77, h⟩ := bind_ex h
        refine CallOk.of (impl_plus_ct e77) ?_
        conv => whnf
        refine CutK.go ?_
        conv => whnf
        exact LoopOk.back (impl_lengthOf_l0_2_ct hx rest (v53n + 1) _ hd1 h) [some 256, some 320] [] ⟨⟨rfl, rfl⟩, ⟨rfl, ⟨rfl, trivial, trivial⟩, ⟨rfl, rfl, trivial⟩, trivial⟩, rfl, ⟨rfl, rfl⟩, ⟨rfl, rfl⟩, rfl, rfl, i64eq (wrap_up hlt hx), trivial⟩
      · replace h := iteF h g75
        conv => whnf
        refine splF ?_
        conv => whnf
        refine CutK.go ?_
        conv => whnf
        exact LoopOk.back (impl_lengthOf_l0_2_ct hx rest (v53n + 1) _ hd1 h) [some 256, some 320] [] ⟨⟨rfl, rfl⟩, ⟨rfl, ⟨rfl, trivial, trivial⟩, ⟨rfl, rfl, trivial⟩, trivial⟩, rfl, ⟨rfl, rfl⟩, ⟨rfl, rfl⟩, rfl, rfl, i64eq (wrap_up hlt hx), trivial⟩
def impl_lengthOf (k : Nat) (a1 : Rw) (a2 : Bool) : Option Rw :=
  (cond a2 (if a1.length ≤ cap then (impl_lengthOf_l0_2 k a1 (fun (v63 : Rw) => some v63) a1 ([] : Rw)) else none) (if a1.length ≤ cap then (impl_lengthOf_l0 k a1 (fun (v25 : Rw) => some v25) a1 ([] : Rw)) else none))
set_option maxHeartbeats 4000000 in
set_option maxRecDepth 100000 in
theorem impl_lengthOf_ct {k : Nat} {a1 : Rw} {a2 : Bool} {r : Rw} (h : impl_lengthOf k a1 a2 = some r) : Ct prog 112 [.agg [.d (D.sl a1)], .d (D.bool a2)] (⟨[], []⟩) (.agg [.d (D.sl r)]) (⟨[], []⟩) := by
  rw [impl_lengthOf] at h
  refine Ct.of (c := _) mixed func112 ⟨rfl, rfl, rfl⟩ ?_ rfl
  cases a2
  · replace h := condF h
    conv => whnf
    obtain ⟨g44, h⟩ := req_ex h
    refine LoopOk.into (impl_lengthOf_l0_ct  g44 _ _ _ rfl h) [some 256, some 320] [] ⟨⟨rfl, rfl⟩, ⟨rfl, ⟨rfl, trivial, trivial⟩, ⟨rfl, rfl, trivial⟩, trivial⟩, rfl, ⟨rfl, rfl⟩, ⟨rfl, rfl⟩, rfl, rfl, rfl, trivial⟩ ?_ (fun _ hs => hs)
    rintro i ts os ⟨rfl, v25, h, rfl, rfl⟩
    conv => whnf
    refine CutK.go ?_
    conv => whnf
    cases h
    exact Done.of [] [] rfl rfl ⟨⟨rfl, rfl⟩, ⟨rfl, trivial⟩, ⟨rfl, trivial⟩, trivial⟩
  · replace h := condT h
    conv => whnf
    obtain ⟨g78, h⟩ := req_ex h
    refine LoopOk.into (impl_lengthOf_l0_2_ct  g78 _ _ _ rfl h) [some 256, some 320] [] ⟨⟨rfl, rfl⟩, ⟨rfl, ⟨rfl, trivial, trivial⟩, ⟨rfl, rfl, trivial⟩, trivial⟩, rfl, ⟨rfl, rfl⟩, ⟨rfl, rfl⟩, rfl, rfl, rfl, trivial⟩ ?_ (fun _ hs => hs)
    rintro i ts os ⟨rfl, v63, h, rfl, rfl⟩
    conv => whnf
    refine CutK.go ?_
    conv => whnf
    cases h
    exact Done.of [] [] rfl rfl ⟨⟨rfl, rfl⟩, ⟨rfl, trivial⟩, ⟨rfl, trivial⟩, trivial⟩

def impl_less_p2 (a1 : Rw) (a2 : Rw) : Option Rw :=
  (if 0 ≤ (a2.length : Int) ∧ (a2.length : Int) ≤ (a1.length : Int) ∧ (∀ cs ∈ a1, cs.length = 2) then some (a1.drop ((a2.length : Int) : Int).toNat) else none)
set_option maxHeartbeats 4000000 in
set_option maxRecDepth 100000 in
theorem impl_less_p2_ct {a1 : Rw} {a2 : Rw} {r : Rw} (h : impl_less_p2 a1 a2 = some r) : X prog 0 (tlF f151 2) (mk 63 [(2, .ptr 128 0), (3, .ptr 192 0), (4, .ptr 256 0)] [(128, .box 28 [.d (D.sl a1)]), (192, .box 28 [.d (D.sl a2)]), (256, .box 28 [.es])]) (finK prog f151 0 (.agg [.d (D.sl r)]) (⟨[], []⟩)) := by
  rw [impl_less_p2] at h
  conv => whnf
  obtain ⟨g37, h⟩ := req_ex h
  refine Req.of g37 ?_
  conv => whnf
  cases h
  exact Done.of [] [] rfl rfl ⟨⟨rfl, rfl⟩, ⟨rfl, trivial⟩, ⟨rfl, trivial⟩, trivial⟩
def impl_less_l0 (k : Nat) (a1 : Rw) (a2 : Rw) (K0 : Option Rw) : Rw → Nat → Option Rw
  | [], v54n => (K0)
  | cs :: rest, v54n => (cell_si cs fun x71 x72 => (row_si a1 (v54n : Int) fun x74 x75 => ((impl_cmp k x74 x71).bind fun y78 => (if y78 = (0 : Int) then (if x75 = x72 then (impl_less_l0 k a1 a2 K0 rest (v54n + 1)) else (if 0 ≤ (IntKind.i64.wrap ((v54n : Int) + 1)) ∧ (IntKind.i64.wrap ((v54n : Int) + 1)) ≤ (a1.length : Int) ∧ (∀ cs ∈ a1, cs.length = 2) then (if ([[D.sl x74, D.int .i64 (IntKind.i64.wrap (x75 - x72))]] : Rw).length + (a1.drop (IntKind.i64.wrap ((v54n : Int) + 1) : Int).toNat).length ≤ cap ∧ (∀ cs ∈ (a1.drop (IntKind.i64.wrap ((v54n : Int) + 1) : Int).toNat), cs.length = 2) then some (([[D.sl x74, D.int .i64 (IntKind.i64.wrap (x75 - x72))]]) ++ (a1.drop (IntKind.i64.wrap ((v54n : Int) + 1) : Int).toNat)) else none) else none)) else (if 0 ≤ (v54n : Int) ∧ (v54n : Int) ≤ (a1.length : Int) ∧ (∀ cs ∈ a1, cs.length = 2) then some (a1.drop ((v54n : Int) : Int).toNat) else none)))))
set_option maxRecDepth 100000 in
theorem impl_less_l0_ct {k : Nat} {a1 : Rw} {a2 : Rw} {K0 : Option Rw} {r : Rw} (hx : a2.length ≤ cap) : ∀ (rest : Rw) (v54n : Nat), a2.drop v54n = rest → impl_less_l0 k a1 a2 K0 rest v54n = some r → LoopOk prog 0 (lp f151 0) (mk 63 [(2, .ptr 128 0), (3, .ptr 192 0), (4, .ptr 256 0), (9, .d (D.sl a2)), (10, .d (D.int .i64 (a2.length : Int))), (11, .d (D.int .i64 (v54n : Int)))] [(128, .box 28 [.d (D.sl a1)]), (192, .box 28 [.d (D.sl a2)]), (256, .box 28 [.es])]) (LoopEnd prog f151 0 63 (.agg [.d (D.sl r)]) (⟨[], []⟩) (fun i ts os => (i = 0 ∧ K0 = some r ∧ ts = [(2, .ptr 128 0), (3, .ptr 192 0), (4, .ptr 256 0)] ∧ os = [(128, .box 28 [.d (D.sl a1)]), (192, .box 28 [.d (D.sl a2)]), (256, .box 28 [.es])])))
  | [], v54n, hd, h => by
      rw [impl_less_l0] at h
      have hn := drop_nil hd
      refine LoopOk.step ?_
      conv => whnf
      refine splD (fun g => absurd g hn) (fun _ => ?_)
      conv => whnf
      exact ⟨_, _, [some 128, some 192, some 256], [], ⟨rfl, h, rfl, rfl⟩, ⟨⟨rfl, rfl⟩, ⟨rfl, ⟨rfl, rfl, trivial⟩, ⟨rfl, rfl, trivial⟩, ⟨rfl, trivial, trivial⟩, trivial⟩, ⟨rfl, rfl⟩, ⟨rfl, rfl⟩, ⟨rfl, rfl⟩, trivial⟩⟩
  | cs :: rest, v54n, hd, h => by
      rw [impl_less_l0] at h
      obtain ⟨hrow, hd1, hlt⟩ := drop_cons hd
      refine LoopOk.step ?_
      conv => whnf
      refine splD (fun _ => ?_) (fun g => absurd hlt g)
      conv => whnf
      obtain ⟨x71, x72, e73, h⟩ := cell_si_ex h
      rw [e73] at hrow
      refine Req.of (Int.natCast_nonneg _) ?_
      refine Row.of _ hrow ?_
      conv => whnf
      obtain ⟨g77, x74, x75, e76, h⟩ := row_si_ex h
      refine Req.of g77 ?_
      refine Row.of _ e76 ?_
      conv => whnf
      obtain ⟨y78, e79, h⟩ := bind_ex h
      refine CallOk.of (impl_cmp_ct e79) ?_
      conv => whnf
      refine splN (fun g80 => ?_) (fun g80 => ?_)
      · replace h := iteN h g80
        conv => whnf
        refine CutK.norm [2, 3, 4, 5, 6, 7, 9, 10, 11, 21] [128, 192, 256, 384, 448] ?_
        conv => whnf
        obtain ⟨g81, h⟩ := req_ex h
        refine Req.of g81 ?_
        conv => whnf
        cases h
        exact Done.of [] [] rfl rfl ⟨⟨rfl, rfl⟩, ⟨rfl, trivial⟩, ⟨rfl, trivial⟩, trivial⟩
      · replace h := iteP h g80
        conv => whnf
        refine CutK.norm [2, 3, 4, 5, 6, 7, 9, 10, 11, 21] [128, 192, 256, 384, 448] ?_
        conv => whnf
        refine splN (fun g82 => ?_) (fun g82 => ?_)
        · replace h := iteN h g82
          conv => whnf
          obtain ⟨g83, h⟩ := req_ex h
          refine Req.of g83 ?_
          conv => whnf
          refine Take.all (by first | rfl | exact List.length_append.symm | (simp; done) | omega) ?_
          conv => whnf
          obtain ⟨g84, h⟩ := req_ex h
          refine Req.of (room (b := 32) (by decide) g84.1 g84.2) ?_
          conv => whnf
          cases h
          exact Done.of [] [3392] rfl rfl ⟨⟨rfl, rfl⟩, ⟨rfl, trivial⟩, ⟨⟨rfl, Nat.le_of_eq (by first | rfl | exact List.length_append.symm | (simp; done) | omega), eq_take (by first | rfl | exact List.length_append.symm | (simp; done) | omega)⟩, trivial⟩, trivial⟩
        · replace h := iteP h g82
          conv => whnf
          refine CutK.norm [2, 3, 4, 9, 10, 11] [128, 192, 256] ?_
          conv => whnf
          exact LoopOk.back (impl_less_l0_ct hx rest (v54n + 1)  hd1 h) [some 128, some 192, some 256] [] ⟨⟨rfl, rfl⟩, ⟨rfl, ⟨rfl, rfl, trivial⟩, ⟨rfl, rfl, trivial⟩, ⟨rfl, trivial, trivial⟩, trivial⟩, ⟨rfl, rfl⟩, ⟨rfl, rfl⟩, ⟨rfl, rfl⟩, rfl, rfl, i64eq (wrap_up hlt hx), trivial⟩
def impl_less (k : Nat) (a1 : Rw) (a2 : Rw) : Option Rw :=
  (if a2.length ≤ cap then (impl_less_l0 k a1 a2 (impl_less_p2 a1 a2) a2 0) else none)
set_option maxHeartbeats 4000000 in
set_option maxRecDepth 100000 in
theorem impl_less_ct {k : Nat} {a1 : Rw} {a2 : Rw} {r : Rw} (h : impl_less k a1 a2 = some r) : Ct prog 151 [.agg [.d (D.sl a1)], .agg [.d (D.sl a2)]] (⟨[], []⟩) (.agg [.d (D.sl r)]) (⟨[], []⟩) := by
  rw [impl_less] at h
  refine Ct.of (c := _) mixed func151 ⟨rfl, rfl, rfl⟩ ?_ rfl
  conv => whnf
  obtain ⟨g85, h⟩ := req_ex h
  refine LoopOk.into (impl_less_l0_ct  g85 _ _  rfl h) [some 128, some 192, some 256] [] ⟨⟨rfl, rfl⟩, ⟨rfl, ⟨rfl, rfl, trivial⟩, ⟨rfl, rfl, trivial⟩, ⟨rfl, trivial, trivial⟩, trivial⟩, ⟨rfl, rfl⟩, ⟨rfl, rfl⟩, ⟨rfl, rfl⟩, rfl, rfl, rfl, trivial⟩ ?_ (fun _ hs => hs)
  rintro i ts os ⟨rfl, h, rfl, rfl⟩
  conv => whnf
  exact CutK.piece (impl_less_p2_ct  h) [some 128, some 192, some 256] [] ⟨⟨rfl, rfl⟩, ⟨rfl, ⟨rfl, rfl, trivial⟩, ⟨rfl, rfl, trivial⟩, ⟨rfl, trivial, trivial⟩, trivial⟩, ⟨rfl, rfl⟩, ⟨rfl, rfl⟩, ⟨rfl, rfl⟩, trivial⟩

def impl_Word_put  (a1 : Bool) (a2 : Rw) : Option Rw :=
  (cond a1 ((impl_isZero a2).bind fun y6 => (if y6 = true then some ([] : Rw) else some ([] ++ ([[D.bool true, D.sl a2]]) : Rw))) ((impl_isZero a2).bind fun y3 => (if y3 = true then some ([] : Rw) else some ([] ++ ([[D.bool false, D.sl a2]]) : Rw))))
set_option maxHeartbeats 4000000 in
set_option maxRecDepth 100000 in
theorem impl_Word_put_ct  {a1 : Bool} {a2 : Rw} {r : Rw} (h : impl_Word_put a1 a2 = some r) : Ct prog 150 [.ptr 0 0, .d (D.bool a1), .agg [.d (D.sl a2)]] (⟨[(56, [.es])], []⟩) (.tup []) (⟨[(56, [.os 8 r.length])], [(111, false, r)]⟩) := by
  rw [impl_Word_put] at h
  refine Ct.of (c := _) mixed func150 ⟨rfl, rfl, rfl⟩ ?_ rfl
  cases a1
  · replace h := condF h
    conv => whnf
    obtain ⟨y3, e4, h⟩ := bind_ex h
    refine CallOk.of (impl_isZero_ct e4) ?_
    conv => whnf
    refine spl (fun g5 => ?_) (fun g5 => ?_)
    · replace h := iteT h g5
      conv => whnf
      refine CutK.norm [0, 1, 5, 6, 25] [0, 320] ?_
      conv => whnf
      cases h
      exact Done.of [some 0, none] [] rfl rfl ⟨⟨rfl, rfl⟩, ⟨rfl, ⟨rfl, ⟨rfl, rfl⟩, trivial⟩, rfl, trivial⟩, trivial, trivial⟩
    · replace h := iteF h g5
      conv => whnf
      refine CutK.norm [0, 1, 5, 6, 25] [0, 320] ?_
      conv => whnf
      refine splD (fun g => absurd g (by decide)) (fun _ => ?_)
      conv => whnf
      refine Take.all (by first | rfl | exact List.length_append.symm | (simp; done) | omega) ?_
      conv => whnf
      refine Req.of (room (b := 32) (by decide) (by decide : 0 + 1 ≤ 1099511627776) (wide1 rfl wide0)) ?_
      conv => whnf
      cases h
      exact Done.of [some 0, some 1408] [] rfl rfl ⟨⟨rfl, rfl⟩, ⟨rfl, ⟨rfl, ⟨(by first | rfl | exact List.length_append.symm | (simp; done) | omega), rfl⟩, trivial⟩, ⟨rfl, rfl, rows_same⟩, trivial⟩, trivial, trivial⟩
  · replace h := condT h
    conv => whnf
    obtain ⟨y6, e7, h⟩ := bind_ex h
    refine CallOk.of (impl_isZero_ct e7) ?_
    conv => whnf
    refine spl (fun g8 => ?_) (fun g8 => ?_)
    · replace h := iteT h g8
      conv => whnf
      refine CutK.norm [0, 1, 5, 6, 25] [0, 320] ?_
      conv => whnf
      cases h
      exact Done.of [some 0, none] [] rfl rfl ⟨⟨rfl, rfl⟩, ⟨rfl, ⟨rfl, ⟨rfl, rfl⟩, trivial⟩, rfl, trivial⟩, trivial, trivial⟩
    · replace h := iteF h g8
      conv => whnf
      refine CutK.norm [0, 1, 5, 6, 25] [0, 320] ?_
      conv => whnf
      refine splD (fun g => absurd g (by decide)) (fun _ => ?_)
      conv => whnf
      refine Take.all (by first | rfl | exact List.length_append.symm | (simp; done) | omega) ?_
      conv => whnf
      refine Req.of (room (b := 32) (by decide) (by decide : 0 + 1 ≤ 1099511627776) (wide1 rfl wide0)) ?_
      conv => whnf
      cases h
      exact Done.of [some 0, some 1408] [] rfl rfl ⟨⟨rfl, rfl⟩, ⟨rfl, ⟨rfl, ⟨(by first | rfl | exact List.length_append.symm | (simp; done) | omega), rfl⟩, trivial⟩, ⟨rfl, rfl, rows_same⟩, trivial⟩, trivial, trivial⟩

def impl_cut_p3 (o115 : Rw) : Option (Rw × Rw) :=
  some (o115, ([] : Rw))
set_option maxHeartbeats 4000000 in
set_option maxRecDepth 100000 in
theorem impl_cut_p3_ct {o115 : Rw} {r : Rw × Rw} (h : impl_cut_p3 o115 = some r) : X prog 0 (tlF f90 3) (mk 59 [(4, .ptr 256 0), (5, .ptr 320 0), (6, .ptr 384 0), (7, .ptr 448 0)] [(256, .box 56 [.es]), (320, .box 56 [.es]), (384, .box 56 [.os 1079000 o115.length]), (448, .box 56 [.es]), (1079000, .arr 111 false o115)]) (finK prog f90 0 (.tup [.agg [.os 8 r.1.length], .agg [.os 9 r.2.length]]) (⟨[], [(111, false, r.1), (111, false, r.2)]⟩)) := by
  rw [impl_cut_p3] at h
  conv => whnf
  cases h
  exact Done.of [some 1079000, none] [] rfl rfl ⟨⟨rfl, rfl⟩, ⟨rfl, ⟨rfl, rfl, rows_same⟩, rfl, trivial⟩, ⟨⟨⟨rfl, rfl⟩, trivial⟩, ⟨⟨rfl, rfl⟩, trivial⟩, trivial⟩, trivial⟩
def impl_cut_l0 (k : Nat) (a1 : Rw) (K0 : Rw → Option (Rw × Rw)) : Rw → Nat → Rw → Rw → Option (Rw × Rw)
  | [], v137n, v138, v139 => (K0 v139)
  | cs :: rest, v137n, v138, v139 => (cell_bs cs fun x228 x229 => (if x228 = true then ((impl_cmp k v138 x229).bind fun y232 => (if y232 < (0 : Int) then ((impl_Word_put_2 k v139 true v138).bind fun y235 => ((impl_less k x229 v138).bind fun y237 => ((impl_Word_put true y237).bind fun y239 => (if 0 ≤ (IntKind.i64.wrap ((v137n : Int) + 1)) ∧ (IntKind.i64.wrap ((v137n : Int) + 1)) ≤ (a1.length : Int) ∧ (∀ cs ∈ a1, cs.length = 2) then (if y239.length + (a1.drop (IntKind.i64.wrap ((v137n : Int) + 1) : Int).toNat).length ≤ cap ∧ (∀ cs ∈ (a1.drop (IntKind.i64.wrap ((v137n : Int) + 1) : Int).toNat), cs.length = 2) then some (y235, y239 ++ (a1.drop (IntKind.i64.wrap ((v137n : Int) + 1) : Int).toNat)) else none) else none)))) else ((impl_Word_put_2 k v139 true x229).bind fun y243 => ((impl_less k v138 x229).bind fun y245 => (impl_cut_l0 k a1 K0 rest (v137n + 1) y245 y243))))) else ((impl_cmp k v138 x229).bind fun y247 => (if y247 < (0 : Int) then ((impl_Word_put_2 k v139 false v138).bind fun y250 => ((impl_less k x229 v138).bind fun y252 => ((impl_Word_put false y252).bind fun y254 => (if 0 ≤ (IntKind.i64.wrap ((v137n : Int) + 1)) ∧ (IntKind.i64.wrap ((v137n : Int) + 1)) ≤ (a1.length : Int) ∧ (∀ cs ∈ a1, cs.length = 2) then (if y254.length + (a1.drop (IntKind.i64.wrap ((v137n : Int) + 1) : Int).toNat).length ≤ cap ∧ (∀ cs ∈ (a1.drop (IntKind.i64.wrap ((v137n : Int) + 1) : Int).toNat), cs.length = 2) then some (y250, y254 ++ (a1.drop (IntKind.i64.wrap ((v137n : Int) + 1) : Int).toNat)) else none) else none)))) else ((impl_Word_put_2 k v139 false x229).bind fun y258 => ((impl_less k v138 x229).bind fun y260 => (impl_cut_l0 k a1 K0 rest (v137n + 1) y260 y258)))))))
set_option maxRecDepth 100000 in
theorem impl_cut_l0_ct {k : Nat} {a1 : Rw} {K0 : Rw → Option (Rw × Rw)} {r : Rw × Rw} (hx : a1.length ≤ cap) : ∀ (rest : Rw) (v137n : Nat) (v138 : Rw) (v139 : Rw), a1.drop v137n = rest → impl_cut_l0 k a1 K0 rest v137n v138 v139 = some r → LoopOk prog 0 (lp f90 0) (mk 59 [(2, .ptr 128 0), (3, .ptr 192 0), (4, .ptr 256 0), (5, .ptr 320 0), (6, .ptr 384 0), (7, .ptr 448 0), (13, .d (D.sl a1)), (14, .d (D.int .i64 (a1.length : Int))), (15, .d (D.int .i64 (v137n : Int)))] [(128, .box 56 [.d (D.sl a1)]), (192, .box 28 [.d (D.sl v138)]), (256, .box 56 [.es]), (320, .box 56 [.es]), (384, .box 56 [.os 64000 v139.length]), (448, .box 56 [.es]), (64000, .arr 111 false v139)]) (LoopEnd prog f90 0 59 (.tup [.agg [.os 8 r.1.length], .agg [.os 9 r.2.length]]) (⟨[], [(111, false, r.1), (111, false, r.2)]⟩) (fun i ts os => (i = 0 ∧ ∃ v191 : Rw, K0 v191 = some r ∧ ts = [(4, .ptr 256 0), (5, .ptr 320 0), (6, .ptr 384 0), (7, .ptr 448 0)] ∧ os = [(256, .box 56 [.es]), (320, .box 56 [.es]), (384, .box 56 [.os 67001 v191.length]), (448, .box 56 [.es]), (67001, .arr 111 false v191)])))
  | [], v137n, v138, v139, hd, h => by
      rw [impl_cut_l0] at h
      have hn := drop_nil hd
      refine LoopOk.step ?_
      conv => whnf
      refine splD (fun g => absurd g hn) (fun _ => ?_)
      conv => whnf
      exact ⟨_, _, [some 256, some 320, some 384, some 448, some 64000], [], ⟨rfl, _, h, rfl, rfl⟩, ⟨⟨rfl, rfl⟩, ⟨rfl, ⟨rfl, trivial, trivial⟩, ⟨rfl, trivial, trivial⟩, ⟨rfl, ⟨rfl, rfl⟩, trivial⟩, ⟨rfl, trivial, trivial⟩, ⟨rfl, rfl, rows_same⟩, trivial⟩, ⟨rfl, rfl⟩, ⟨rfl, rfl⟩, ⟨rfl, rfl⟩, ⟨rfl, rfl⟩, trivial⟩⟩
  | cs :: rest, v137n, v138, v139, hd, h => by
      rw [impl_cut_l0] at h
      obtain ⟨hrow, hd1, hlt⟩ := drop_cons hd
      refine LoopOk.step ?_
      conv => whnf
      refine splD (fun _ => ?_) (fun g => absurd hlt g)
      conv => whnf
      obtain ⟨x228, x229, e230, h⟩ := cell_bs_ex h
      rw [e230] at hrow
      refine Req.of (Int.natCast_nonneg _) ?_
      refine Row.of _ hrow ?_
      conv => whnf
      refine spl (fun g231 => ?_) (fun g231 => ?_)
      · replace h := iteT h g231
        conv => whnf
        obtain ⟨y232, e233, h⟩ := bind_ex h
        refine CallOk.of (impl_cmp_ct e233) ?_
        conv => whnf
        refine splD (fun g234 => ?_) (fun g234 => ?_)
        · replace h := iteP h g234
          conv => whnf
          refine CutK.norm [2, 3, 4, 5, 6, 7, 8, 9, 13, 14, 15, 24] [128, 192, 256, 320, 384, 448, 576, 64000] ?_
          conv => whnf
          refine splT ?_
          conv => whnf
          refine Req.of (Nat.le_refl _) ?_
          conv => whnf
          obtain ⟨y235, e236, h⟩ := bind_ex h
          refine CallOk.of (impl_Word_put_2_ct e236) ?_
          conv => whnf
          refine CutK.norm [2, 3, 4, 5, 6, 7, 8, 9] [128, 192, 256, 320, 384, 448, 576, 1792] ?_
          conv => whnf
          refine splT ?_
          conv => whnf
          obtain ⟨y237, e238, h⟩ := bind_ex h
          refine CallOk.of (impl_less_ct e238) ?_
          conv => whnf
          obtain ⟨y239, e240, h⟩ := bind_ex h
          refine CallOk.of (impl_Word_put_ct e240) ?_
          conv => whnf
          refine CutK.norm [2, 4, 5, 6, 7, 8] [128, 256, 320, 384, 448, 1792, 2240] ?_
          conv => whnf
          obtain ⟨g241, h⟩ := req_ex h
          refine Req.of g241 ?_
          conv => whnf
          refine Take.all (rfl) ?_
          conv => whnf
          obtain ⟨g242, h⟩ := req_ex h
          refine Req.of (room (b := 32) (by decide) g242.1 g242.2) ?_
          conv => whnf
          cases h
          exact Done.of [some 1792, some 2752] [] rfl rfl ⟨⟨rfl, rfl⟩, ⟨rfl, ⟨rfl, rfl, rows_same⟩, ⟨rfl, rfl, rows_same⟩, trivial⟩, ⟨⟨⟨rfl, rfl⟩, trivial⟩, ⟨⟨(by first | rfl | exact List.length_append.symm | (simp; done) | omega), rfl⟩, trivial⟩, trivial⟩, trivial⟩
        · replace h := iteN h g234
          conv => whnf
          refine CutK.norm [2, 3, 4, 5, 6, 7, 8, 9, 13, 14, 15, 24] [128, 192, 256, 320, 384, 448, 576, 64000] ?_
          conv => whnf
          refine CutK.norm [2, 3, 4, 5, 6, 7, 9, 13, 14, 15] [128, 192, 256, 320, 384, 448, 576, 64000] ?_
          conv => whnf
          refine splT ?_
          conv => whnf
          refine Req.of (Nat.le_refl _) ?_
          conv => whnf
          obtain ⟨y243, e244, h⟩ := bind_ex h
          refine CallOk.of (impl_Word_put_2_ct e244) ?_
          conv => whnf
          refine CutK.norm [2, 3, 4, 5, 6, 7, 9, 13, 14, 15] [128, 192, 256, 320, 384, 448, 576, 3264] ?_
          conv => whnf
          obtain ⟨y245, e246, h⟩ := bind_ex h
          refine CallOk.of (impl_less_ct e246) ?_
          conv => whnf
          refine CutK.norm [2, 3, 4, 5, 6, 7, 13, 14, 15] [128, 192, 256, 320, 384, 448, 3264] ?_
          conv => whnf
          exact LoopOk.back (impl_cut_l0_ct hx rest (v137n + 1) _ _ hd1 h) [some 128, some 192, some 256, some 320, some 384, some 448, some 3264] [] ⟨⟨rfl, rfl⟩, ⟨rfl, ⟨rfl, rfl, trivial⟩, ⟨rfl, rfl, trivial⟩, ⟨rfl, trivial, trivial⟩, ⟨rfl, trivial, trivial⟩, ⟨rfl, ⟨rfl, rfl⟩, trivial⟩, ⟨rfl, trivial, trivial⟩, ⟨rfl, rfl, rows_same⟩, trivial⟩, ⟨rfl, rfl⟩, ⟨rfl, rfl⟩, ⟨rfl, rfl⟩, ⟨rfl, rfl⟩, ⟨rfl, rfl⟩, ⟨rfl, rfl⟩, rfl, rfl, i64eq (wrap_up hlt hx), trivial⟩
      · replace h := iteF h g231
        conv => whnf
        obtain ⟨y247, e248, h⟩ := bind_ex h
        refine CallOk.of (impl_cmp_ct e248) ?_
        conv => whnf
        refine splD (fun g249 => ?_) (fun g249 => ?_)
        · replace h := iteP h g249
          conv => whnf
          refine CutK.norm [2, 3, 4, 5, 6, 7, 8, 9, 13, 14, 15, 24] [128, 192, 256, 320, 384, 448, 576, 64000] ?_
          conv => whnf
          refine splF ?_
          conv => whnf
          refine Req.of (Nat.le_refl _) ?_
          conv => whnf
          obtain ⟨y250, e251, h⟩ := bind_ex h
          refine CallOk.of (impl_Word_put_2_ct e251) ?_
          conv => whnf
          refine CutK.norm [2, 3, 4, 5, 6, 7, 8, 9] [128, 192, 256, 320, 384, 448, 576, 1792] ?_
          conv => whnf
          refine splF ?_
          conv => whnf
          obtain ⟨y252, e253, h⟩ := bind_ex h
          refine CallOk.of (impl_less_ct e253) ?_
          conv => whnf
          obtain ⟨y254, e255, h⟩ := bind_ex h
          refine CallOk.of (impl_Word_put_ct e255) ?_
          conv => whnf
          refine CutK.norm [2, 4, 5, 6, 7, 8] [128, 256, 320, 384, 448, 1792, 2240] ?_
          conv => whnf
          obtain ⟨g256, h⟩ := req_ex h
          refine Req.of g256 ?_
          conv => whnf
          refine Take.all (rfl) ?_
          conv => whnf
          obtain ⟨g257, h⟩ := req_ex h
          refine Req.of (room (b := 32) (by decide) g257.1 g257.2) ?_
          conv => whnf
          cases h
          exact Done.of [some 1792, some 2752] [] rfl rfl ⟨⟨rfl, rfl⟩, ⟨rfl, ⟨rfl, rfl, rows_same⟩, ⟨rfl, rfl, rows_same⟩, trivial⟩, ⟨⟨⟨rfl, rfl⟩, trivial⟩, ⟨⟨(by first | rfl | exact List.length_append.symm | (simp; done) | omega), rfl⟩, trivial⟩, trivial⟩, trivial⟩
        · replace h := iteN h g249
          conv => whnf
          refine CutK.norm [2, 3, 4, 5, 6, 7, 8, 9, 13, 14, 15, 24] [128, 192, 256, 320, 384, 448, 576, 64000] ?_
          conv => whnf
          refine CutK.norm [2, 3, 4, 5, 6, 7, 9, 13, 14, 15] [128, 192, 256, 320, 384, 448, 576, 64000] ?_
          conv => whnf
          refine splF ?_
          conv => whnf
          refine Req.of (Nat.le_refl _) ?_
          conv => whnf
          obtain ⟨y258, e259, h⟩ := bind_ex h
          refine CallOk.of (impl_Word_put_2_ct e259) ?_
          conv => whnf
          refine CutK.norm [2, 3, 4, 5, 6, 7, 9, 13, 14, 15] [128, 192, 256, 320, 384, 448, 576, 3264] ?_
          conv => whnf
          obtain ⟨y260, e261, h⟩ := bind_ex h
          refine CallOk.of (impl_less_ct e261) ?_
          conv => whnf
          refine CutK.norm [2, 3, 4, 5, 6, 7, 13, 14, 15] [128, 192, 256, 320, 384, 448, 3264] ?_
          conv => whnf
          exact LoopOk.back (impl_cut_l0_ct hx rest (v137n + 1) _ _ hd1 h) [some 128, some 192, some 256, some 320, some 384, some 448, some 3264] [] ⟨⟨rfl, rfl⟩, ⟨rfl, ⟨rfl, rfl, trivial⟩, ⟨rfl, rfl, trivial⟩, ⟨rfl, trivial, trivial⟩, ⟨rfl, trivial, trivial⟩, ⟨rfl, ⟨rfl, rfl⟩, trivial⟩, ⟨rfl, trivial, trivial⟩, ⟨rfl, rfl, rows_same⟩, trivial⟩, ⟨rfl, rfl⟩, ⟨rfl, rfl⟩, ⟨rfl, rfl⟩, ⟨rfl, rfl⟩, ⟨rfl, rfl⟩, ⟨rfl, rfl⟩, rfl, rfl, i64eq (wrap_up hlt hx), trivial⟩
def impl_cut (k : Nat) (a1 : Rw) (a2 : Rw) : Option (Rw × Rw) :=
  (if a1.length ≤ cap then (impl_cut_l0 k a1 (fun (v191 : Rw) => (impl_cut_p3 v191)) a1 0 a2 ([] : Rw)) else none)
set_option maxHeartbeats 4000000 in
set_option maxRecDepth 100000 in
theorem impl_cut_ct {k : Nat} {a1 : Rw} {a2 : Rw} {r : Rw × Rw} (h : impl_cut k a1 a2 = some r) : Ct prog 90 [.agg [.d (D.sl a1)], .agg [.d (D.sl a2)]] (⟨[], []⟩) (.tup [.agg [.os 8 r.1.length], .agg [.os 9 r.2.length]]) (⟨[], [(111, false, r.1), (111, false, r.2)]⟩) := by
  rw [impl_cut] at h
  refine Ct.of (c := _) mixed func90 ⟨rfl, rfl, rfl⟩ ?_ rfl
  conv => whnf
  obtain ⟨g262, h⟩ := req_ex h
  refine LoopOk.into (impl_cut_l0_ct  g262 _ _ _ _ rfl h) [some 128, some 192, some 256, some 320, some 384, some 448, none] [] ⟨⟨rfl, rfl⟩, ⟨rfl, ⟨rfl, rfl, trivial⟩, ⟨rfl, rfl, trivial⟩, ⟨rfl, trivial, trivial⟩, ⟨rfl, trivial, trivial⟩, ⟨rfl, ⟨rfl, rfl⟩, trivial⟩, ⟨rfl, trivial, trivial⟩, rfl, trivial⟩, ⟨rfl, rfl⟩, ⟨rfl, rfl⟩, ⟨rfl, rfl⟩, ⟨rfl, rfl⟩, ⟨rfl, rfl⟩, ⟨rfl, rfl⟩, rfl, rfl, rfl, trivial⟩ ?_ (fun _ hs => hs)
  rintro i ts os ⟨rfl, v191, h, rfl, rfl⟩
  conv => whnf
  exact CutK.piece (impl_cut_p3_ct  h) [some 256, some 320, some 384, some 448, some 67001] [] ⟨⟨rfl, rfl⟩, ⟨rfl, ⟨rfl, trivial, trivial⟩, ⟨rfl, trivial, trivial⟩, ⟨rfl, ⟨rfl, rfl⟩, trivial⟩, ⟨rfl, trivial, trivial⟩, ⟨rfl, rfl, rows_same⟩, trivial⟩, ⟨rfl, rfl⟩, ⟨rfl, rfl⟩, ⟨rfl, rfl⟩, ⟨rfl, rfl⟩, trivial⟩

def impl_behind (k : Nat) (a1 : Rw) (a2 : Rw) : Option Rw :=
  ((impl_lengthOf k a2 false).bind fun y3 => ((impl_cut k a1 y3).bind fun y5 => some y5.2))
set_option maxHeartbeats 4000000 in
set_option maxRecDepth 100000 in
theorem impl_behind_ct {k : Nat} {a1 : Rw} {a2 : Rw} {r : Rw} (h : impl_behind k a1 a2 = some r) : Ct prog 106 [.agg [.d (D.sl a1)], .agg [.d (D.sl a2)]] (⟨[], []⟩) (.agg [.os 8 r.length]) (⟨[], [(111, false, r)]⟩) := by
  rw [impl_behind] at h
  refine Ct.of (c := _) mixed func106 ⟨rfl, rfl, rfl⟩ ?_ rfl
  conv => whnf
  obtain ⟨y3, e4, h⟩ := bind_ex h
  refine CallOk.of (impl_lengthOf_ct e4) ?_
  conv => whnf
  obtain ⟨y5, e6, h⟩ := bind_ex h
  refine CallOk.of (impl_cut_ct e6) ?_
  conv => whnf
  refine CutK.go ?_
  conv => whnf
  cases h
  exact Done.of [some 705] [] rfl rfl ⟨⟨rfl, rfl⟩, ⟨rfl, ⟨rfl, rfl, rows_same⟩, trivial⟩, ⟨⟨rfl, rfl⟩, trivial⟩, trivial⟩

def impl_IsBeginning (k : Nat) (a1 : Rw) (a2 : Rw) : Option (Bool × Bool) :=
  ((impl_IsWord k a1).bind fun y3 => (if y3 = true then ((impl_IsWord k a2).bind fun y6 => (if y6 = true then ((impl_meet k a1 a2).bind fun y9 => ((impl_behind k a1 y9).bind fun y11 => (if (y11.length : Int) = (0 : Int) then some (true, true) else some (false, true)))) else some (false, false))) else some (false, false)))
set_option maxHeartbeats 4000000 in
set_option maxRecDepth 100000 in
theorem impl_IsBeginning_ct {k : Nat} {a1 : Rw} {a2 : Rw} {r : Bool × Bool} (h : impl_IsBeginning k a1 a2 = some r) : Ct prog 45 [.agg [.d (D.sl a1)], .agg [.d (D.sl a2)]] (⟨[], []⟩) (.tup [.d (D.bool r.1), .d (D.bool r.2)]) (⟨[], []⟩) := by
  rw [impl_IsBeginning] at h
  refine Ct.of (c := _) mixed func45 ⟨rfl, rfl, rfl⟩ ?_ rfl
  conv => whnf
  obtain ⟨y3, e4, h⟩ := bind_ex h
  refine CallOk.of (impl_IsWord_ct e4) ?_
  conv => whnf
  refine spl (fun g5 => ?_) (fun g5 => ?_)
  · replace h := iteT h g5
    conv => whnf
    obtain ⟨y6, e7, h⟩ := bind_ex h
    refine CallOk.of (impl_IsWord_ct e7) ?_
    conv => whnf
    refine spl (fun g8 => ?_) (fun g8 => ?_)
    · replace h := iteT h g8
      conv => whnf
      refine CutK.go ?_
      conv => whnf
      refine CutK.go ?_
      conv => whnf
      obtain ⟨y9, e10, h⟩ := bind_ex h
      refine CallOk.of (impl_meet_ct e10) ?_
      conv => whnf
      refine Take.all (rfl) ?_
      conv => whnf
      obtain ⟨y11, e12, h⟩ := bind_ex h
      refine CallOk.of (impl_behind_ct e12) ?_
      conv => whnf
      refine splD (fun g13 => ?_) (fun g13 => ?_)
      · replace h := iteP h g13
        conv => whnf
        refine CutK.go ?_
        conv => whnf
        cases h
        exact Done.of [] [] rfl rfl ⟨⟨rfl, rfl⟩, ⟨rfl, trivial⟩, ⟨rfl, rfl, trivial⟩, trivial⟩
      · replace h := iteN h g13
        conv => whnf
        refine CutK.go ?_
        conv => whnf
        cases h
        exact Done.of [] [] rfl rfl ⟨⟨rfl, rfl⟩, ⟨rfl, trivial⟩, ⟨rfl, rfl, trivial⟩, trivial⟩
    · replace h := iteF h g8
      conv => whnf
      refine CutK.go ?_
      conv => whnf
      cases h
      exact Done.of [] [] rfl rfl ⟨⟨rfl, rfl⟩, ⟨rfl, trivial⟩, ⟨rfl, rfl, trivial⟩, trivial⟩
  · replace h := iteF h g5
    conv => whnf
    refine CutK.go ?_
    conv => whnf
    cases h
    exact Done.of [] [] rfl rfl ⟨⟨rfl, rfl⟩, ⟨rfl, trivial⟩, ⟨rfl, rfl, trivial⟩, trivial⟩

def spec_woLength_l0 (k : Nat) (a1 : Rw) (K0 : Rw → Option Rw) : Rw → Rw → Option Rw
  | [], v11 => (K0 v11)
  | cs :: rest, v11 => (cell_bs cs fun x35 x36 => (if x35 = true then ((spec_odPlus k v11 x36).bind fun y39 => (spec_woLength_l0 k a1 K0 rest y39)) else ((spec_odPlus k v11 x36).bind fun y41 => (spec_woLength_l0 k a1 K0 rest y41))))
set_option maxRecDepth 100000 in
theorem spec_woLength_l0_ct {k : Nat} {a1 : Rw} {K0 : Rw → Option Rw} {r : Rw} (hx : a1.length ≤ cap) : ∀ (rest : Rw) (v10n : Nat) (v11 : Rw), a1.drop v10n = rest → spec_woLength_l0 k a1 K0 rest v11 = some r → LoopOk prog 0 (lp f160 0) (mk 20 [(2, .ptr 128 0), (3, .ptr 192 0), (8, .d (D.sl a1)), (9, .d (D.int .i64 (a1.length : Int))), (10, .d (D.int .i64 (v10n : Int)))] [(128, .box 28 [.es]), (192, .box 28 [.os 64000 v11.length]), (64000, .arr 119 false v11)]) (LoopEnd prog f160 0 20 (.agg [.os 8 r.length]) (⟨[], [(119, false, r)]⟩) (fun i ts os => (i = 0 ∧ ∃ v24 : Rw, K0 v24 = some r ∧ ts = [(2, .ptr 128 0), (3, .ptr 192 0)] ∧ os = [(128, .box 28 [.es]), (192, .box 28 [.os 67001 v24.length]), (67001, .arr 119 false v24)])))
  | [], v10n, v11, hd, h => by
      rw [spec_woLength_l0] at h
      have hn := drop_nil hd
      refine LoopOk.step ?_
      conv => whnf
      refine splD (fun g => absurd g hn) (fun _ => ?_)
      conv => whnf
      exact ⟨_, _, [some 128, some 192, some 64000], [], ⟨rfl, _, h, rfl, rfl⟩, ⟨⟨rfl, rfl⟩, ⟨rfl, ⟨rfl, trivial, trivial⟩, ⟨rfl, ⟨rfl, rfl⟩, trivial⟩, ⟨rfl, rfl, rows_same⟩, trivial⟩, ⟨rfl, rfl⟩, ⟨rfl, rfl⟩, trivial⟩⟩
  | cs :: rest, v10n, v11, hd, h => by
      rw [spec_woLength_l0] at h
      obtain ⟨hrow, hd1, hlt⟩ := drop_cons hd
      refine LoopOk.step ?_
      conv => whnf
      refine splD (fun _ => ?_) (fun g => absurd hlt g)
      conv => whnf
      obtain ⟨x35, x36, e37, h⟩ := cell_bs_ex h
      rw [e37] at hrow
      refine Req.of (Int.natCast_nonneg _) ?_
      refine Row.of _ hrow ?_
      conv => whnf
      refine spl (fun g38 => ?_) (fun g38 => ?_)
      · replace h := iteT h g38
        conv => whnf
        refine Take.all (rfl) ?_
        conv => whnf
        obtain ⟨y39, e40, h⟩ := bind_ex h
        refine CallOk.of (spec_odPlus_ct e40) ?_
        conv => whnf
        refine CutK.go ?_
        conv => whnf
        exact LoopOk.back (spec_woLength_l0_ct hx rest (v10n + 1) _ hd1 h) [some 128, some 192, some 1088] [] ⟨⟨rfl, rfl⟩, ⟨rfl, ⟨rfl, trivial, trivial⟩, ⟨rfl, ⟨rfl, rfl⟩, trivial⟩, ⟨rfl, rfl, rows_same⟩, trivial⟩, ⟨rfl, rfl⟩, ⟨rfl, rfl⟩, rfl, rfl, i64eq (wrap_up hlt hx), trivial⟩
      · replace h := iteF h g38
        conv => whnf
        refine Take.all (rfl) ?_
        conv => whnf
        obtain ⟨y41, e42, h⟩ := bind_ex h
        refine CallOk.of (spec_odPlus_ct e42) ?_
        conv => whnf
        refine CutK.go ?_
        conv => whnf
        exact LoopOk.back (spec_woLength_l0_ct hx rest (v10n + 1) _ hd1 h) [some 128, some 192, some 1088] [] ⟨⟨rfl, rfl⟩, ⟨rfl, ⟨rfl, trivial, trivial⟩, ⟨rfl, ⟨rfl, rfl⟩, trivial⟩, ⟨rfl, rfl, rows_same⟩, trivial⟩, ⟨rfl, rfl⟩, ⟨rfl, rfl⟩, rfl, rfl, i64eq (wrap_up hlt hx), trivial⟩
def spec_woLength (k : Nat) (a1 : Rw) : Option Rw :=
  (if a1.length ≤ cap then (spec_woLength_l0 k a1 (fun (v24 : Rw) => some v24) a1 ([] : Rw)) else none)
set_option maxHeartbeats 4000000 in
set_option maxRecDepth 100000 in
theorem spec_woLength_ct {k : Nat} {a1 : Rw} {r : Rw} (h : spec_woLength k a1 = some r) : Ct prog 160 [.agg [.d (D.sl a1)]] (⟨[], []⟩) (.agg [.os 8 r.length]) (⟨[], [(119, false, r)]⟩) := by
  rw [spec_woLength] at h
  refine Ct.of (c := _) mixed func160 ⟨rfl, rfl, rfl⟩ ?_ rfl
  conv => whnf
  obtain ⟨g43, h⟩ := req_ex h
  refine LoopOk.into (spec_woLength_l0_ct  g43 _ _ _ rfl h) [some 128, some 192, none] [] ⟨⟨rfl, rfl⟩, ⟨rfl, ⟨rfl, trivial, trivial⟩, ⟨rfl, ⟨rfl, rfl⟩, trivial⟩, rfl, trivial⟩, ⟨rfl, rfl⟩, ⟨rfl, rfl⟩, rfl, rfl, rfl, trivial⟩ ?_ (fun _ hs => hs)
  rintro i ts os ⟨rfl, v24, h, rfl, rfl⟩
  conv => whnf
  refine CutK.go ?_
  conv => whnf
  cases h
  exact Done.of [some 67001] [] rfl rfl ⟨⟨rfl, rfl⟩, ⟨rfl, ⟨rfl, rfl, rows_same⟩, trivial⟩, ⟨⟨rfl, rfl⟩, trivial⟩, trivial⟩

def spec_odLess_p2  : Option Rw :=
  some ([] : Rw)
set_option maxHeartbeats 4000000 in
set_option maxRecDepth 100000 in
theorem spec_odLess_p2_ct  {r : Rw} (h : spec_odLess_p2 = some r) : X prog 0 (tlF f144 2) (mk 67 [(4, .ptr 256 0)] [(256, .box 28 [.es])]) (finK prog f144 0 (.agg [.d (D.sl r)]) (⟨[], []⟩)) := by
  rw [spec_odLess_p2] at h
  conv => whnf
  cases h
  exact Done.of [] [] rfl rfl ⟨⟨rfl, rfl⟩, ⟨rfl, trivial⟩, ⟨rfl, trivial⟩, trivial⟩
def spec_odLess_l0 (k : Nat) (a1 : Rw) (a2 : Rw) (K0 : Option Rw) : Rw → Nat → Option Rw
  | [], v58n => (K0)
  | cs :: rest, v58n => (cell_si cs fun x77 x78 => (if (v58n : Int) = (a2.length : Int) then (if 0 ≤ (v58n : Int) ∧ (v58n : Int) ≤ (a1.length : Int) ∧ (∀ cs ∈ a1, cs.length = 2) then some (a1.drop ((v58n : Int) : Int).toNat) else none) else (row_si a2 (v58n : Int) fun x82 x83 => ((spec_odCmp k x77 x82).bind fun y86 => (if y86 = (0 : Int) then (if x78 = x83 then (spec_odLess_l0 k a1 a2 K0 rest (v58n + 1)) else (if 0 ≤ (IntKind.i64.wrap ((v58n : Int) + 1)) ∧ (IntKind.i64.wrap ((v58n : Int) + 1)) ≤ (a1.length : Int) ∧ (∀ cs ∈ a1, cs.length = 2) then (if ([[D.sl x77, D.int .i64 (IntKind.i64.wrap (x78 - x83))]] : Rw).length + (a1.drop (IntKind.i64.wrap ((v58n : Int) + 1) : Int).toNat).length ≤ cap ∧ (∀ cs ∈ (a1.drop (IntKind.i64.wrap ((v58n : Int) + 1) : Int).toNat), cs.length = 2) then some (([[D.sl x77, D.int .i64 (IntKind.i64.wrap (x78 - x83))]]) ++ (a1.drop (IntKind.i64.wrap ((v58n : Int) + 1) : Int).toNat)) else none) else none)) else (if 0 ≤ (v58n : Int) ∧ (v58n : Int) ≤ (a1.length : Int) ∧ (∀ cs ∈ a1, cs.length = 2) then some (a1.drop ((v58n : Int) : Int).toNat) else none))))))
set_option maxRecDepth 100000 in
theorem spec_odLess_l0_ct {k : Nat} {a1 : Rw} {a2 : Rw} {K0 : Option Rw} {r : Rw} (hx : a1.length ≤ cap) : ∀ (rest : Rw) (v58n : Nat), a1.drop v58n = rest → spec_odLess_l0 k a1 a2 K0 rest v58n = some r → LoopOk prog 0 (lp f144 0) (mk 67 [(2, .ptr 128 0), (3, .ptr 192 0), (4, .ptr 256 0), (10, .d (D.sl a1)), (11, .d (D.int .i64 (a1.length : Int))), (12, .d (D.int .i64 (v58n : Int)))] [(128, .box 28 [.d (D.sl a1)]), (192, .box 28 [.d (D.sl a2)]), (256, .box 28 [.es])]) (LoopEnd prog f144 0 67 (.agg [.d (D.sl r)]) (⟨[], []⟩) (fun i ts os => (i = 0 ∧ K0 = some r ∧ ts = [(4, .ptr 256 0)] ∧ os = [(256, .box 28 [.es])])))
  | [], v58n, hd, h => by
      rw [spec_odLess_l0] at h
      have hn := drop_nil hd
      refine LoopOk.step ?_
      conv => whnf
      refine splD (fun g => absurd g hn) (fun _ => ?_)
      conv => whnf
      exact ⟨_, _, [some 256], [], ⟨rfl, h, rfl, rfl⟩, ⟨⟨rfl, rfl⟩, ⟨rfl, ⟨rfl, trivial, trivial⟩, trivial⟩, ⟨rfl, rfl⟩, trivial⟩⟩
  | cs :: rest, v58n, hd, h => by
      rw [spec_odLess_l0] at h
      obtain ⟨hrow, hd1, hlt⟩ := drop_cons hd
      refine LoopOk.step ?_
      conv => whnf
      refine splD (fun _ => ?_) (fun g => absurd hlt g)
      conv => whnf
      obtain ⟨x77, x78, e79, h⟩ := cell_si_ex h
      rw [e79] at hrow
      refine Req.of (Int.natCast_nonneg _) ?_
      refine Row.of _ hrow ?_
      conv => whnf
      refine splD (fun g80 => ?_) (fun g80 => ?_)
      · replace h := iteP h g80
        conv => whnf
        obtain ⟨g81, h⟩ := req_ex h
        refine Req.of g81 ?_
        conv => whnf
        cases h
        exact Done.of [] [] rfl rfl ⟨⟨rfl, rfl⟩, ⟨rfl, trivial⟩, ⟨rfl, trivial⟩, trivial⟩
      · replace h := iteN h g80
        conv => whnf
        obtain ⟨g85, x82, x83, e84, h⟩ := row_si_ex h
        refine Req.of g85 ?_
        refine Row.of _ e84 ?_
        conv => whnf
        obtain ⟨y86, e87, h⟩ := bind_ex h
        refine CallOk.of (spec_odCmp_ct e87) ?_
        conv => whnf
        refine splN (fun g88 => ?_) (fun g88 => ?_)
        · replace h := iteN h g88
          conv => whnf
          refine CutK.norm [2, 3, 4, 5, 6, 7, 10, 11, 12, 37] [128, 192, 256, 384, 448] ?_
          conv => whnf
          obtain ⟨g89, h⟩ := req_ex h
          refine Req.of g89 ?_
          conv => whnf
          cases h
          exact Done.of [] [] rfl rfl ⟨⟨rfl, rfl⟩, ⟨rfl, trivial⟩, ⟨rfl, trivial⟩, trivial⟩
        · replace h := iteP h g88
          conv => whnf
          refine CutK.norm [2, 3, 4, 5, 6, 7, 10, 11, 12, 37] [128, 192, 256, 384, 448] ?_
          conv => whnf
          refine CutK.norm [2, 3, 4, 5, 6, 7, 10, 11, 12] [128, 192, 256, 384, 448] ?_
          conv => whnf
          refine splN (fun g90 => ?_) (fun g90 => ?_)
          · replace h := iteN h g90
            conv => whnf
            obtain ⟨g91, h⟩ := req_ex h
            refine Req.of g91 ?_
            conv => whnf
            refine Take.all (by first | rfl | exact List.length_append.symm | (simp; done) | omega) ?_
            conv => whnf
            obtain ⟨g92, h⟩ := req_ex h
            refine Req.of (room (b := 32) (by decide) g92.1 g92.2) ?_
            conv => whnf
            cases h
            exact Done.of [] [4032] rfl rfl ⟨⟨rfl, rfl⟩, ⟨rfl, trivial⟩, ⟨⟨rfl, Nat.le_of_eq (by first | rfl | exact List.length_append.symm | (simp; done) | omega), eq_take (by first | rfl | exact List.length_append.symm | (simp; done) | omega)⟩, trivial⟩, trivial⟩
          · replace h := iteP h g90
            conv => whnf
            refine CutK.norm [2, 3, 4, 10, 11, 12] [128, 192, 256] ?_
            conv => whnf
            exact LoopOk.back (spec_odLess_l0_ct hx rest (v58n + 1)  hd1 h) [some 128, some 192, some 256] [] ⟨⟨rfl, rfl⟩, ⟨rfl, ⟨rfl, rfl, trivial⟩, ⟨rfl, rfl, trivial⟩, ⟨rfl, trivial, trivial⟩, trivial⟩, ⟨rfl, rfl⟩, ⟨rfl, rfl⟩, ⟨rfl, rfl⟩, rfl, rfl, i64eq (wrap_up hlt hx), trivial⟩
def spec_odLess (k : Nat) (a1 : Rw) (a2 : Rw) : Option Rw :=
  (if a1.length ≤ cap then (spec_odLess_l0 k a1 a2 (spec_odLess_p2) a1 0) else none)
set_option maxHeartbeats 4000000 in
set_option maxRecDepth 100000 in
theorem spec_odLess_ct {k : Nat} {a1 : Rw} {a2 : Rw} {r : Rw} (h : spec_odLess k a1 a2 = some r) : Ct prog 144 [.agg [.d (D.sl a1)], .agg [.d (D.sl a2)]] (⟨[], []⟩) (.agg [.d (D.sl r)]) (⟨[], []⟩) := by
  rw [spec_odLess] at h
  refine Ct.of (c := _) mixed func144 ⟨rfl, rfl, rfl⟩ ?_ rfl
  conv => whnf
  obtain ⟨g93, h⟩ := req_ex h
  refine LoopOk.into (spec_odLess_l0_ct  g93 _ _  rfl h) [some 128, some 192, some 256] [] ⟨⟨rfl, rfl⟩, ⟨rfl, ⟨rfl, rfl, trivial⟩, ⟨rfl, rfl, trivial⟩, ⟨rfl, trivial, trivial⟩, trivial⟩, ⟨rfl, rfl⟩, ⟨rfl, rfl⟩, ⟨rfl, rfl⟩, rfl, rfl, rfl, trivial⟩ ?_ (fun _ hs => hs)
  rintro i ts os ⟨rfl, h, rfl, rfl⟩
  conv => whnf
  exact CutK.piece (spec_odLess_p2_ct  h) [some 256] [] ⟨⟨rfl, rfl⟩, ⟨rfl, ⟨rfl, trivial, trivial⟩, trivial⟩, ⟨rfl, rfl⟩, trivial⟩

def spec_woJoin_l0 (k : Nat) (a2 : Rw) (K0 : Rw → Option Rw) : Rw → Rw → Option Rw
  | [], v12 => (K0 v12)
  | cs :: rest, v12 => (cell_bs cs fun x36 x37 => (if x36 = true then ((spec_woPut k v12 true x37).bind fun y40 => (spec_woJoin_l0 k a2 K0 rest y40)) else ((spec_woPut k v12 false x37).bind fun y42 => (spec_woJoin_l0 k a2 K0 rest y42))))
set_option maxRecDepth 100000 in
theorem spec_woJoin_l0_ct {k : Nat} {a2 : Rw} {K0 : Rw → Option Rw} {r : Rw} (hx : a2.length ≤ cap) : ∀ (rest : Rw) (v11n : Nat) (v12 : Rw), a2.drop v11n = rest → spec_woJoin_l0 k a2 K0 rest v12 = some r → LoopOk prog 0 (lp f94 0) (mk 22 [(2, .ptr 128 0), (4, .ptr 256 0), (8, .d (D.sl a2)), (9, .d (D.int .i64 (a2.length : Int))), (10, .d (D.int .i64 (v11n : Int)))] [(128, .box 56 [.d (D.sl v12)]), (256, .box 56 [.es])]) (LoopEnd prog f94 0 22 (.agg [.d (D.sl r)]) (⟨[], []⟩) (fun i ts os => (i = 0 ∧ ∃ v25 : Rw, K0 v25 = some r ∧ ts = [(2, .ptr 128 0), (4, .ptr 256 0)] ∧ os = [(128, .box 56 [.d (D.sl v25)]), (256, .box 56 [.es])])))
  | [], v11n, v12, hd, h => by
      rw [spec_woJoin_l0] at h
      have hn := drop_nil hd
      refine LoopOk.step ?_
      conv => whnf
      refine splD (fun g => absurd g hn) (fun _ => ?_)
      conv => whnf
      exact ⟨_, _, [some 128, some 256], [], ⟨rfl, _, h, rfl, rfl⟩, ⟨⟨rfl, rfl⟩, ⟨rfl, ⟨rfl, rfl, trivial⟩, ⟨rfl, trivial, trivial⟩, trivial⟩, ⟨rfl, rfl⟩, ⟨rfl, rfl⟩, trivial⟩⟩
  | cs :: rest, v11n, v12, hd, h => by
      rw [spec_woJoin_l0] at h
      obtain ⟨hrow, hd1, hlt⟩ := drop_cons hd
      refine LoopOk.step ?_
      conv => whnf
      refine splD (fun _ => ?_) (fun g => absurd hlt g)
      conv => whnf
      obtain ⟨x36, x37, e38, h⟩ := cell_bs_ex h
      rw [e38] at hrow
      refine Req.of (Int.natCast_nonneg _) ?_
      refine Row.of _ hrow ?_
      conv => whnf
      refine spl (fun g39 => ?_) (fun g39 => ?_)
      · replace h := iteT h g39
        conv => whnf
        refine splT ?_
        conv => whnf
        obtain ⟨y40, e41, h⟩ := bind_ex h
        refine CallOk.of (spec_woPut_ct e41) ?_
        conv => whnf
        refine CutK.go ?_
        conv => whnf
        exact LoopOk.back (spec_woJoin_l0_ct hx rest (v11n + 1) _ hd1 h) [some 128, some 256] [1216] ⟨⟨rfl, rfl⟩, ⟨rfl, ⟨rfl, ⟨rfl, Nat.le_of_eq rfl, eq_take rfl⟩, trivial⟩, ⟨rfl, trivial, trivial⟩, trivial⟩, ⟨rfl, rfl⟩, ⟨rfl, rfl⟩, rfl, rfl, i64eq (wrap_up hlt hx), trivial⟩
      · replace h := iteF h g39
        conv => whnf
        refine splF ?_
        conv => whnf
        obtain ⟨y42, e43, h⟩ := bind_ex h
        refine CallOk.of (spec_woPut_ct e43) ?_
        conv => whnf
        refine CutK.go ?_
        conv => whnf
        exact LoopOk.back (spec_woJoin_l0_ct hx rest (v11n + 1) _ hd1 h) [some 128, some 256] [1216] ⟨⟨rfl, rfl⟩, ⟨rfl, ⟨rfl, ⟨rfl, Nat.le_of_eq rfl, eq_take rfl⟩, trivial⟩, ⟨rfl, trivial, trivial⟩, trivial⟩, ⟨rfl, rfl⟩, ⟨rfl, rfl⟩, rfl, rfl, i64eq (wrap_up hlt hx), trivial⟩
def spec_woJoin (k : Nat) (a1 : Rw) (a2 : Rw) : Option Rw :=
  (if a2.length ≤ cap then (spec_woJoin_l0 k a2 (fun (v25 : Rw) => some v25) a2 a1) else none)
set_option maxHeartbeats 4000000 in
set_option maxRecDepth 100000 in
theorem spec_woJoin_ct {k : Nat} {a1 : Rw} {a2 : Rw} {r : Rw} (h : spec_woJoin k a1 a2 = some r) : Ct prog 94 [.agg [.d (D.sl a1)], .agg [.d (D.sl a2)]] (⟨[], []⟩) (.agg [.d (D.sl r)]) (⟨[], []⟩) := by
  rw [spec_woJoin] at h
  refine Ct.of (c := _) mixed func94 ⟨rfl, rfl, rfl⟩ ?_ rfl
  conv => whnf
  obtain ⟨g44, h⟩ := req_ex h
  refine LoopOk.into (spec_woJoin_l0_ct  g44 _ _ _ rfl h) [some 128, some 256] [] ⟨⟨rfl, rfl⟩, ⟨rfl, ⟨rfl, rfl, trivial⟩, ⟨rfl, trivial, trivial⟩, trivial⟩, ⟨rfl, rfl⟩, ⟨rfl, rfl⟩, rfl, rfl, rfl, trivial⟩ ?_ (fun _ hs => hs)
  rintro i ts os ⟨rfl, v25, h, rfl, rfl⟩
  conv => whnf
  refine CutK.go ?_
  conv => whnf
  cases h
  exact Done.of [] [] rfl rfl ⟨⟨rfl, rfl⟩, ⟨rfl, trivial⟩, ⟨rfl, trivial⟩, trivial⟩

def spec_woRest_l0 (k : Nat) (a1 : Rw) (K0 : Option Rw) : Rw → Nat → Rw → Option Rw
  | [], v21n, v22 => (K0)
  | cs :: rest, v21n, v22 => (cell_bs cs fun x65 x66 => (if x65 = true then ((spec_odCmp k v22 x66).bind fun y69 => (if y69 < (0 : Int) then ((spec_odLess k x66 v22).bind fun y72 => ((spec_woPut k ([] : Rw) true y72).bind fun y74 => (if 0 ≤ (IntKind.i64.wrap ((v21n : Int) + 1)) ∧ (IntKind.i64.wrap ((v21n : Int) + 1)) ≤ (a1.length : Int) ∧ (∀ cs ∈ a1, cs.length = 2) then ((spec_woJoin k y74 (a1.drop (IntKind.i64.wrap ((v21n : Int) + 1) : Int).toNat)).bind fun y77 => some y77) else none))) else ((spec_odLess k v22 x66).bind fun y79 => (spec_woRest_l0 k a1 K0 rest (v21n + 1) y79)))) else ((spec_odCmp k v22 x66).bind fun y81 => (if y81 < (0 : Int) then ((spec_odLess k x66 v22).bind fun y84 => ((spec_woPut k ([] : Rw) false y84).bind fun y86 => (if 0 ≤ (IntKind.i64.wrap ((v21n : Int) + 1)) ∧ (IntKind.i64.wrap ((v21n : Int) + 1)) ≤ (a1.length : Int) ∧ (∀ cs ∈ a1, cs.length = 2) then ((spec_woJoin k y86 (a1.drop (IntKind.i64.wrap ((v21n : Int) + 1) : Int).toNat)).bind fun y89 => some y89) else none))) else ((spec_odLess k v22 x66).bind fun y91 => (spec_woRest_l0 k a1 K0 rest (v21n + 1) y91))))))
set_option maxRecDepth 100000 in
theorem spec_woRest_l0_ct {k : Nat} {a1 : Rw} {K0 : Option Rw} {r : Rw} (hx : a1.length ≤ cap) : ∀ (rest : Rw) (v21n : Nat) (v22 : Rw), a1.drop v21n = rest → spec_woRest_l0 k a1 K0 rest v21n v22 = some r → LoopOk prog 0 (lp f85 0) (mk 43 [(2, .ptr 128 0), (3, .ptr 192 0), (4, .ptr 256 0), (9, .d (D.sl a1)), (10, .d (D.int .i64 (a1.length : Int))), (11, .d (D.int .i64 (v21n : Int)))] [(128, .box 56 [.d (D.sl a1)]), (192, .box 28 [.d (D.sl v22)]), (256, .box 56 [.es])]) (LoopEnd prog f85 0 43 (.agg [.d (D.sl r)]) (⟨[], []⟩) (fun i ts os => (i = 0 ∧ K0 = some r ∧ ts = [(4, .ptr 256 0)] ∧ os = [(256, .box 56 [.es])])))
  | [], v21n, v22, hd, h => by
      rw [spec_woRest_l0] at h
      have hn := drop_nil hd
      refine LoopOk.step ?_
      conv => whnf
      refine splD (fun g => absurd g hn) (fun _ => ?_)
      conv => whnf
      exact ⟨_, _, [some 256], [], ⟨rfl, h, rfl, rfl⟩, ⟨⟨rfl, rfl⟩, ⟨rfl, ⟨rfl, trivial, trivial⟩, trivial⟩, ⟨rfl, rfl⟩, trivial⟩⟩
  | cs :: rest, v21n, v22, hd, h => by
      rw [spec_woRest_l0] at h
      obtain ⟨hrow, hd1, hlt⟩ := drop_cons hd
      refine LoopOk.step ?_
      conv => whnf
      refine splD (fun _ => ?_) (fun g => absurd hlt g)
      conv => whnf
      obtain ⟨x65, x66, e67, h⟩ := cell_bs_ex h
      rw [e67] at hrow
      refine Req.of (Int.natCast_nonneg _) ?_
      refine Row.of _ hrow ?_
      conv => whnf
      refine spl (fun g68 => ?_) (fun g68 => ?_)
      · replace h := iteT h g68
        conv => whnf
        obtain ⟨y69, e70, h⟩ := bind_ex h
        refine CallOk.of (spec_odCmp_ct e70) ?_
        conv => whnf
        refine splD (fun g71 => ?_) (fun g71 => ?_)
        · replace h := iteP h g71
          conv => whnf
          refine CutK.norm [2, 3, 4, 5, 6, 9, 10, 11, 20] [128, 192, 256, 384] ?_
          conv => whnf
          refine splT ?_
          conv => whnf
          obtain ⟨y72, e73, h⟩ := bind_ex h
          refine CallOk.of (spec_odLess_ct e73) ?_
          conv => whnf
          obtain ⟨y74, e75, h⟩ := bind_ex h
          refine CallOk.of (spec_woPut_ct e75) ?_
          conv => whnf
          refine CutK.norm [2, 4, 5, 7] [128, 256, 448, 1792] ?_
          conv => whnf
          obtain ⟨g76, h⟩ := req_ex h
          refine Req.of g76 ?_
          conv => whnf
          refine Take.all (rfl) ?_
          conv => whnf
          obtain ⟨y77, e78, h⟩ := bind_ex h
          refine CallOk.of (spec_woJoin_ct e78) ?_
          conv => whnf
          refine CutK.norm [4] [256] ?_
          conv => whnf
          cases h
          exact Done.of [] [] rfl rfl ⟨⟨rfl, rfl⟩, ⟨rfl, trivial⟩, ⟨rfl, trivial⟩, trivial⟩
        · replace h := iteN h g71
          conv => whnf
          refine CutK.norm [2, 3, 4, 5, 6, 9, 10, 11, 20] [128, 192, 256, 384] ?_
          conv => whnf
          refine CutK.norm [2, 3, 4, 6, 9, 10, 11] [128, 192, 256, 384] ?_
          conv => whnf
          obtain ⟨y79, e80, h⟩ := bind_ex h
          refine CallOk.of (spec_odLess_ct e80) ?_
          conv => whnf
          refine CutK.norm [2, 3, 4, 9, 10, 11] [128, 192, 256] ?_
          conv => whnf
          exact LoopOk.back (spec_woRest_l0_ct hx rest (v21n + 1) _ hd1 h) [some 128, some 192, some 256] [] ⟨⟨rfl, rfl⟩, ⟨rfl, ⟨rfl, rfl, trivial⟩, ⟨rfl, rfl, trivial⟩, ⟨rfl, trivial, trivial⟩, trivial⟩, ⟨rfl, rfl⟩, ⟨rfl, rfl⟩, ⟨rfl, rfl⟩, rfl, rfl, i64eq (wrap_up hlt hx), trivial⟩
      · replace h := iteF h g68
        conv => whnf
        obtain ⟨y81, e82, h⟩ := bind_ex h
        refine CallOk.of (spec_odCmp_ct e82) ?_
        conv => whnf
        refine splD (fun g83 => ?_) (fun g83 => ?_)
        · replace h := iteP h g83
          conv => whnf
          refine CutK.norm [2, 3, 4, 5, 6, 9, 10, 11, 20] [128, 192, 256, 384] ?_
          conv => whnf
          refine splF ?_
          conv => whnf
          obtain ⟨y84, e85, h⟩ := bind_ex h
          refine CallOk.of (spec_odLess_ct e85) ?_
          conv => whnf
          obtain ⟨y86, e87, h⟩ := bind_ex h
          refine CallOk.of (spec_woPut_ct e87) ?_
          conv => whnf
          refine CutK.norm [2, 4, 5, 7] [128, 256, 448, 1792] ?_
          conv => whnf
          obtain ⟨g88, h⟩ := req_ex h
          refine Req.of g88 ?_
          conv => whnf
          refine Take.all (rfl) ?_
          conv => whnf
          obtain ⟨y89, e90, h⟩ := bind_ex h
          refine CallOk.of (spec_woJoin_ct e90) ?_
          conv => whnf
          refine CutK.norm [4] [256] ?_
          conv => whnf
          cases h
          exact Done.of [] [] rfl rfl ⟨⟨rfl, rfl⟩, ⟨rfl, trivial⟩, ⟨rfl, trivial⟩, trivial⟩
        · replace h := iteN h g83
          conv => whnf
          refine CutK.norm [2, 3, 4, 5, 6, 9, 10, 11, 20] [128, 192, 256, 384] ?_
          conv => whnf
          refine CutK.norm [2, 3, 4, 6, 9, 10, 11] [128, 192, 256, 384] ?_
          conv => whnf
          obtain ⟨y91, e92, h⟩ := bind_ex h
          refine CallOk.of (spec_odLess_ct e92) ?_
          conv => whnf
          refine CutK.norm [2, 3, 4, 9, 10, 11] [128, 192, 256] ?_
          conv => whnf
          exact LoopOk.back (spec_woRest_l0_ct hx rest (v21n + 1) _ hd1 h) [some 128, some 192, some 256] [] ⟨⟨rfl, rfl⟩, ⟨rfl, ⟨rfl, rfl, trivial⟩, ⟨rfl, rfl, trivial⟩, ⟨rfl, trivial, trivial⟩, trivial⟩, ⟨rfl, rfl⟩, ⟨rfl, rfl⟩, ⟨rfl, rfl⟩, rfl, rfl, i64eq (wrap_up hlt hx), trivial⟩
def spec_woRest (k : Nat) (a1 : Rw) (a2 : Rw) : Option Rw :=
  (if a1.length ≤ cap then (spec_woRest_l0 k a1 (some ([] : Rw)) a1 0 a2) else none)
set_option maxHeartbeats 4000000 in
set_option maxRecDepth 100000 in
theorem spec_woRest_ct {k : Nat} {a1 : Rw} {a2 : Rw} {r : Rw} (h : spec_woRest k a1 a2 = some r) : Ct prog 85 [.agg [.d (D.sl a1)], .agg [.d (D.sl a2)]] (⟨[], []⟩) (.agg [.d (D.sl r)]) (⟨[], []⟩) := by
  rw [spec_woRest] at h
  refine Ct.of (c := _) mixed func85 ⟨rfl, rfl, rfl⟩ ?_ rfl
  conv => whnf
  obtain ⟨g93, h⟩ := req_ex h
  refine LoopOk.into (spec_woRest_l0_ct  g93 _ _ _ rfl h) [some 128, some 192, some 256] [] ⟨⟨rfl, rfl⟩, ⟨rfl, ⟨rfl, rfl, trivial⟩, ⟨rfl, rfl, trivial⟩, ⟨rfl, trivial, trivial⟩, trivial⟩, ⟨rfl, rfl⟩, ⟨rfl, rfl⟩, ⟨rfl, rfl⟩, rfl, rfl, rfl, trivial⟩ ?_ (fun _ hs => hs)
  rintro i ts os ⟨rfl, h, rfl, rfl⟩
  conv => whnf
  refine CutK.norm [4] [256] ?_
  conv => whnf
  cases h
  exact Done.of [] [] rfl rfl ⟨⟨rfl, rfl⟩, ⟨rfl, trivial⟩, ⟨rfl, trivial⟩, trivial⟩

def spec_woSign  (a1 : Bool) : Option Int :=
  (cond a1 (some 1) (some (-1)))
set_option maxHeartbeats 4000000 in
set_option maxRecDepth 100000 in
theorem spec_woSign_ct  {a1 : Bool} {r : Int} (h : spec_woSign a1 = some r) : Ct prog 141 [.d (D.bool a1)] (⟨[], []⟩) (.d (D.int .i64 r)) (⟨[], []⟩) := by
  rw [spec_woSign] at h
  refine Ct.of (c := _) mixed func141 ⟨rfl, rfl, rfl⟩ ?_ rfl
  cases a1
  · replace h := condF h
    conv => whnf
    cases h
    exact Done.of [] [] rfl rfl ⟨⟨rfl, rfl⟩, ⟨rfl, trivial⟩, rfl, trivial⟩
  · replace h := condT h
    conv => whnf
    cases h
    exact Done.of [] [] rfl rfl ⟨⟨rfl, rfl⟩, ⟨rfl, trivial⟩, rfl, trivial⟩

def spec_woFirst  (a1 : Rw) : Option Int :=
  (if (a1.length : Int) = (0 : Int) then some 0 else (row_bs a1 0 fun x3 x4 => (if x3 = true then ((spec_woSign true).bind fun y8 => some y8) else ((spec_woSign false).bind fun y10 => some y10))))
set_option maxHeartbeats 4000000 in
set_option maxRecDepth 100000 in
theorem spec_woFirst_ct  {a1 : Rw} {r : Int} (h : spec_woFirst a1 = some r) : Ct prog 84 [.agg [.d (D.sl a1)]] (⟨[], []⟩) (.d (D.int .i64 r)) (⟨[], []⟩) := by
  rw [spec_woFirst] at h
  refine Ct.of (c := _) mixed func84 ⟨rfl, rfl, rfl⟩ ?_ rfl
  conv => whnf
  refine splD (fun g2 => ?_) (fun g2 => ?_)
  · replace h := iteP h g2
    conv => whnf
    cases h
    exact Done.of [] [] rfl rfl ⟨⟨rfl, rfl⟩, ⟨rfl, trivial⟩, rfl, trivial⟩
  · replace h := iteN h g2
    conv => whnf
    obtain ⟨g6, x3, x4, e5, h⟩ := row_bs_ex h
    refine Req.of g6 ?_
    refine Row.of _ e5 ?_
    conv => whnf
    refine spl (fun g7 => ?_) (fun g7 => ?_)
    · replace h := iteT h g7
      conv => whnf
      obtain ⟨y8, e9, h⟩ := bind_ex h
      refine CallOk.of (spec_woSign_ct e9) ?_
      conv => whnf
      refine CutK.go ?_
      conv => whnf
      cases h
      exact Done.of [] [] rfl rfl ⟨⟨rfl, rfl⟩, ⟨rfl, trivial⟩, rfl, trivial⟩
    · replace h := iteF h g7
      conv => whnf
      obtain ⟨y10, e11, h⟩ := bind_ex h
      refine CallOk.of (spec_woSign_ct e11) ?_
      conv => whnf
      refine CutK.go ?_
      conv => whnf
      cases h
      exact Done.of [] [] rfl rfl ⟨⟨rfl, rfl⟩, ⟨rfl, trivial⟩, rfl, trivial⟩

def spec_woCmp (k : Nat) (a1 : Rw) (a2 : Rw) : Option Int :=
  ((spec_woMeet k a1 a2).bind fun y3 => ((spec_woLength k y3).bind fun y5 => ((spec_woRest k a1 y5).bind fun y7 => ((spec_woFirst y7).bind fun y9 => ((spec_woRest k a2 y5).bind fun y11 => ((spec_woFirst y11).bind fun y13 => ((spec_l1Sign (IntKind.i64.wrap (y9 - y13))).bind fun y15 => some y15)))))))
set_option maxHeartbeats 4000000 in
set_option maxRecDepth 100000 in
theorem spec_woCmp_ct {k : Nat} {a1 : Rw} {a2 : Rw} {r : Int} (h : spec_woCmp k a1 a2 = some r) : Ct prog 105 [.agg [.d (D.sl a1)], .agg [.d (D.sl a2)]] (⟨[], []⟩) (.d (D.int .i64 r)) (⟨[], []⟩) := by
  rw [spec_woCmp] at h
  refine Ct.of (c := _) mixed func105 ⟨rfl, rfl, rfl⟩ ?_ rfl
  conv => whnf
  obtain ⟨y3, e4, h⟩ := bind_ex h
  refine CallOk.of (spec_woMeet_ct e4) ?_
  conv => whnf
  refine Take.all (rfl) ?_
  conv => whnf
  obtain ⟨y5, e6, h⟩ := bind_ex h
  refine CallOk.of (spec_woLength_ct e6) ?_
  conv => whnf
  refine CutK.go ?_
  conv => whnf
  refine Take.all (rfl) ?_
  conv => whnf
  obtain ⟨y7, e8, h⟩ := bind_ex h
  refine CallOk.of (spec_woRest_ct e8) ?_
  conv => whnf
  obtain ⟨y9, e10, h⟩ := bind_ex h
  refine CallOk.of (spec_woFirst_ct e10) ?_
  conv => whnf
  refine Take.all (rfl) ?_
  conv => whnf
  obtain ⟨y11, e12, h⟩ := bind_ex h
  refine CallOk.of (spec_woRest_ct e12) ?_
  conv => whnf
  obtain ⟨y13, e14, h⟩ := bind_ex h
  refine CallOk.of (spec_woFirst_ct e14) ?_
  conv => whnf
  obtain ⟨y15, e16, h⟩ := bind_ex h
  refine CallOk.of (spec_l1Sign_ct e16) ?_
  conv => whnf
  refine CutK.go ?_
  conv => whnf
  cases h
  exact Done.of [] [] rfl rfl ⟨⟨rfl, rfl⟩, ⟨rfl, trivial⟩, rfl, trivial⟩

def spec_IsBeginning (k : Nat) (a1 : Rw) (a2 : Rw) : Option (Bool × Bool) :=
  ((spec_woGood k a1).bind fun y3 => (if y3 = true then ((spec_woGood k a2).bind fun y6 => (if y6 = true then ((spec_woMeet k a1 a2).bind fun y9 => ((spec_woCmp k y9 a1).bind fun y11 => (if y11 = (0 : Int) then some (true, true) else some (false, true)))) else some (false, false))) else some (false, false)))
set_option maxHeartbeats 4000000 in
set_option maxRecDepth 100000 in
theorem spec_IsBeginning_ct {k : Nat} {a1 : Rw} {a2 : Rw} {r : Bool × Bool} (h : spec_IsBeginning k a1 a2 = some r) : Ct prog 44 [.agg [.d (D.sl a1)], .agg [.d (D.sl a2)]] (⟨[], []⟩) (.tup [.d (D.bool r.1), .d (D.bool r.2)]) (⟨[], []⟩) := by
  rw [spec_IsBeginning] at h
  refine Ct.of (c := _) mixed func44 ⟨rfl, rfl, rfl⟩ ?_ rfl
  conv => whnf
  obtain ⟨y3, e4, h⟩ := bind_ex h
  refine CallOk.of (spec_woGood_ct e4) ?_
  conv => whnf
  refine spl (fun g5 => ?_) (fun g5 => ?_)
  · replace h := iteT h g5
    conv => whnf
    obtain ⟨y6, e7, h⟩ := bind_ex h
    refine CallOk.of (spec_woGood_ct e7) ?_
    conv => whnf
    refine spl (fun g8 => ?_) (fun g8 => ?_)
    · replace h := iteT h g8
      conv => whnf
      refine CutK.go ?_
      conv => whnf
      refine CutK.go ?_
      conv => whnf
      obtain ⟨y9, e10, h⟩ := bind_ex h
      refine CallOk.of (spec_woMeet_ct e10) ?_
      conv => whnf
      refine Take.all (rfl) ?_
      conv => whnf
      obtain ⟨y11, e12, h⟩ := bind_ex h
      refine CallOk.of (spec_woCmp_ct e12) ?_
      conv => whnf
      refine splD (fun g13 => ?_) (fun g13 => ?_)
      · replace h := iteP h g13
        conv => whnf
        refine CutK.go ?_
        conv => whnf
        cases h
        exact Done.of [] [] rfl rfl ⟨⟨rfl, rfl⟩, ⟨rfl, trivial⟩, ⟨rfl, rfl, trivial⟩, trivial⟩
      · replace h := iteN h g13
        conv => whnf
        refine CutK.go ?_
        conv => whnf
        cases h
        exact Done.of [] [] rfl rfl ⟨⟨rfl, rfl⟩, ⟨rfl, trivial⟩, ⟨rfl, rfl, trivial⟩, trivial⟩
    · replace h := iteF h g8
      conv => whnf
      refine CutK.go ?_
      conv => whnf
      cases h
      exact Done.of [] [] rfl rfl ⟨⟨rfl, rfl⟩, ⟨rfl, trivial⟩, ⟨rfl, rfl, trivial⟩, trivial⟩
  · replace h := iteF h g5
    conv => whnf
    refine CutK.go ?_
    conv => whnf
    cases h
    exact Done.of [] [] rfl rfl ⟨⟨rfl, rfl⟩, ⟨rfl, trivial⟩, ⟨rfl, rfl, trivial⟩, trivial⟩

def laws_FnExactIsBeginning_p13  : Option Bool :=
  some true
set_option maxHeartbeats 4000000 in
set_option maxRecDepth 100000 in
theorem laws_FnExactIsBeginning_p13_ct  {r : Bool} (h : laws_FnExactIsBeginning_p13 = some r) : X prog 0 (tlF f10 13) (mk 58 [] []) (finK prog f10 0 (.d (D.bool r)) (⟨[], []⟩)) := by
  rw [laws_FnExactIsBeginning_p13] at h
  conv => whnf
  cases h
  exact Done.of [] [] rfl rfl ⟨⟨rfl, rfl⟩, ⟨rfl, trivial⟩, rfl, trivial⟩
def laws_FnExactIsBeginning_p12 (k : Nat) (a2 : Rw) (o76 : Rw) : Option Bool :=
  ((laws_toWord k a2).bind fun y97 => ((laws_eqWord k o76 y97).bind fun y99 => (if y99 = true then (laws_FnExactIsBeginning_p13) else some false)))
set_option maxHeartbeats 4000000 in
set_option maxRecDepth 100000 in
theorem laws_FnExactIsBeginning_p12_ct {k : Nat} {a2 : Rw} {o76 : Rw} {r : Bool} (h : laws_FnExactIsBeginning_p12 k a2 o76 = some r) : X prog 0 (tlF f10 12) (mk 58 [(3, .ptr 192 0), (9, .ptr 576 0)] [(192, .box 46 [.d (D.sl a2)]), (576, .box 56 [.os 1124000 o76.length]), (1124000, .arr 111 true o76)]) (finK prog f10 0 (.d (D.bool r)) (⟨[], []⟩)) := by
  rw [laws_FnExactIsBeginning_p12] at h
  conv => whnf
  obtain ⟨y97, e98, h⟩ := bind_ex h
  refine CallOk.of (laws_toWord_ct e98) ?_
  conv => whnf
  refine Take.all (rfl) ?_
  conv => whnf
  refine Take.all (rfl) ?_
  conv => whnf
  obtain ⟨y99, e100, h⟩ := bind_ex h
  refine CallOk.of (laws_eqWord_ct e100) ?_
  conv => whnf
  refine spl (fun g101 => ?_) (fun g101 => ?_)
  · replace h := iteT h g101
    conv => whnf
    refine CutK.norm [57] [] ?_
    conv => whnf
    exact CutK.piece (laws_FnExactIsBeginning_p13_ct  h) [] [] ⟨⟨rfl, rfl⟩, ⟨rfl, trivial⟩, trivial⟩
  · replace h := iteF h g101
    conv => whnf
    refine CutK.norm [57] [] ?_
    conv => whnf
    cases h
    exact Done.of [] [] rfl rfl ⟨⟨rfl, rfl⟩, ⟨rfl, trivial⟩, rfl, trivial⟩
def laws_FnExactIsBeginning_p10 (k : Nat) (a1 : Rw) (a2 : Rw) (o49 : Rw) (o50 : Rw) (v51 : Bool) (v53 : Bool) (v58 : Bool) (v64 : Bool) : Option Bool :=
  (cond v51 (cond v53 (cond v58 (cond v64 ((laws_toWord k a1).bind fun y117 => ((laws_eqWord k o49 y117).bind fun y119 => (if y119 = true then (laws_FnExactIsBeginning_p12 k a2 o50) else some false))) (some false)) (cond v64 (some false) (some false))) (cond v58 (cond v64 (some false) (some false)) (cond v64 ((laws_toWord k a1).bind fun y112 => ((laws_eqWord k o49 y112).bind fun y114 => (if y114 = true then (laws_FnExactIsBeginning_p12 k a2 o50) else some false))) (some false)))) (cond v53 (cond v58 (cond v64 (some false) ((laws_toWord k a1).bind fun y107 => ((laws_eqWord k o49 y107).bind fun y109 => (if y109 = true then (laws_FnExactIsBeginning_p12 k a2 o50) else some false)))) (cond v64 (some false) (some false))) (cond v58 (cond v64 (some false) (some false)) (cond v64 (some false) ((laws_toWord k a1).bind fun y102 => ((laws_eqWord k o49 y102).bind fun y104 => (if y104 = true then (laws_FnExactIsBeginning_p12 k a2 o50) else some false)))))))
set_option maxHeartbeats 4000000 in
set_option maxRecDepth 100000 in
theorem laws_FnExactIsBeginning_p10_ct {k : Nat} {a1 : Rw} {a2 : Rw} {o49 : Rw} {o50 : Rw} {v51 : Bool} {v53 : Bool} {v58 : Bool} {v64 : Bool} {r : Bool} (h : laws_FnExactIsBeginning_p10 k a1 a2 o49 o50 v51 v53 v58 v64 = some r) : X prog 0 (tlF f10 10) (mk 58 [(2, .ptr 128 0), (3, .ptr 192 0), (6, .d (D.bool v58)), (7, .d (D.bool v64)), (8, .ptr 512 0), (9, .ptr 576 0), (10, .d (D.bool v53)), (11, .d (D.bool v51))] [(128, .box 46 [.d (D.sl a1)]), (192, .box 46 [.d (D.sl a2)]), (512, .box 56 [.os 1114000 o49.length]), (576, .box 56 [.os 1114001 o50.length]), (1114000, .arr 111 true o49), (1114001, .arr 111 true o50)]) (finK prog f10 0 (.d (D.bool r)) (⟨[], []⟩)) := by
  rw [laws_FnExactIsBeginning_p10] at h
  cases v51
  · replace h := condF h
    cases v53
    · replace h := condF h
      cases v58
      · replace h := condF h
        cases v64
        · replace h := condF h
          conv => whnf
          refine splF ?_
          conv => whnf
          refine splF ?_
          conv => whnf
          obtain ⟨y102, e103, h⟩ := bind_ex h
          refine CallOk.of (laws_toWord_ct e103) ?_
          conv => whnf
          refine Take.all (rfl) ?_
          conv => whnf
          refine Take.all (rfl) ?_
          conv => whnf
          obtain ⟨y104, e105, h⟩ := bind_ex h
          refine CallOk.of (laws_eqWord_ct e105) ?_
          conv => whnf
          refine spl (fun g106 => ?_) (fun g106 => ?_)
          · replace h := iteT h g106
            conv => whnf
            refine CutK.norm [3, 9, 52] [192, 576, 1114001] ?_
            conv => whnf
            exact CutK.piece (laws_FnExactIsBeginning_p12_ct  h) [some 192, some 576, some 1114001] [] ⟨⟨rfl, rfl⟩, ⟨rfl, ⟨rfl, rfl, trivial⟩, ⟨rfl, ⟨rfl, rfl⟩, trivial⟩, ⟨rfl, rfl, rows_same⟩, trivial⟩, ⟨rfl, rfl⟩, ⟨rfl, rfl⟩, trivial⟩
          · replace h := iteF h g106
            conv => whnf
            refine CutK.norm [3, 9, 52] [192, 576, 1114001] ?_
            conv => whnf
            cases h
            exact Done.of [] [] rfl rfl ⟨⟨rfl, rfl⟩, ⟨rfl, trivial⟩, rfl, trivial⟩
        · replace h := condT h
          conv => whnf
          refine splF ?_
          conv => whnf
          refine splT ?_
          conv => whnf
          cases h
          exact Done.of [] [] rfl rfl ⟨⟨rfl, rfl⟩, ⟨rfl, trivial⟩, rfl, trivial⟩
      · replace h := condT h
        cases v64
        · replace h := condF h
          conv => whnf
          refine splT ?_
          conv => whnf
          cases h
          exact Done.of [] [] rfl rfl ⟨⟨rfl, rfl⟩, ⟨rfl, trivial⟩, rfl, trivial⟩
        · replace h := condT h
          conv => whnf
          refine splT ?_
          conv => whnf
          cases h
          exact Done.of [] [] rfl rfl ⟨⟨rfl, rfl⟩, ⟨rfl, trivial⟩, rfl, trivial⟩
    · replace h := condT h
      cases v58
      · replace h := condF h
        cases v64
        · replace h := condF h
          conv => whnf
          refine splT ?_
          conv => whnf
          cases h
          exact Done.of [] [] rfl rfl ⟨⟨rfl, rfl⟩, ⟨rfl, trivial⟩, rfl, trivial⟩
        · replace h := condT h
          conv => whnf
          refine splT ?_
          conv => whnf
          cases h
          exact Done.of [] [] rfl rfl ⟨⟨rfl, rfl⟩, ⟨rfl, trivial⟩, rfl, trivial⟩
      · replace h := condT h
        cases v64
        · replace h := condF h
          conv => whnf
          refine splF ?_
          conv => whnf
          refine splF ?_
          conv => whnf
          obtain ⟨y107, e108, h⟩ := bind_ex h
          refine CallOk.of (laws_toWord_ct e108) ?_
          conv => whnf
          refine Take.all (rfl) ?_
          conv => whnf
          refine Take.all (rfl) ?_
          conv => whnf
          obtain ⟨y109, e110, h⟩ := bind_ex h
          refine CallOk.of (laws_eqWord_ct e110) ?_
          conv => whnf
          refine spl (fun g111 => ?_) (fun g111 => ?_)
          · replace h := iteT h g111
            conv => whnf
            refine CutK.norm [3, 9, 52] [192, 576, 1114001] ?_
            conv => whnf
            exact CutK.piece (laws_FnExactIsBeginning_p12_ct  h) [some 192, some 576, some 1114001] [] ⟨⟨rfl, rfl⟩, ⟨rfl, ⟨rfl, rfl, trivial⟩, ⟨rfl, ⟨rfl, rfl⟩, trivial⟩, ⟨rfl, rfl, rows_same⟩, trivial⟩, ⟨rfl, rfl⟩, ⟨rfl, rfl⟩, trivial⟩
          · replace h := iteF h g111
            conv => whnf
            refine CutK.norm [3, 9, 52] [192, 576, 1114001] ?_
            conv => whnf
            cases h
            exact Done.of [] [] rfl rfl ⟨⟨rfl, rfl⟩, ⟨rfl, trivial⟩, rfl, trivial⟩
        · replace h := condT h
          conv => whnf
          refine splF ?_
          conv => whnf
          refine splT ?_
          conv => whnf
          cases h
          exact Done.of [] [] rfl rfl ⟨⟨rfl, rfl⟩, ⟨rfl, trivial⟩, rfl, trivial⟩
  · replace h := condT h
    cases v53
    · replace h := condF h
      cases v58
      · replace h := condF h
        cases v64
        · replace h := condF h
          conv => whnf
          refine splF ?_
          conv => whnf
          refine splT ?_
          conv => whnf
          cases h
          exact Done.of [] [] rfl rfl ⟨⟨rfl, rfl⟩, ⟨rfl, trivial⟩, rfl, trivial⟩
        · replace h := condT h
          conv => whnf
          refine splF ?_
          conv => whnf
          refine splF ?_
          conv => whnf
          obtain ⟨y112, e113, h⟩ := bind_ex h
          refine CallOk.of (laws_toWord_ct e113) ?_
          conv => whnf
          refine Take.all (rfl) ?_
          conv => whnf
          refine Take.all (rfl) ?_
          conv => whnf
          obtain ⟨y114, e115, h⟩ := bind_ex h
          refine CallOk.of (laws_eqWord_ct e115) ?_
          conv => whnf
          refine spl (fun g116 => ?_) (fun g116 => ?_)
          · replace h := iteT h g116
            conv => whnf
            refine CutK.norm [3, 9, 52] [192, 576, 1114001] ?_
            conv => whnf
            exact CutK.piece (laws_FnExactIsBeginning_p12_ct  h) [some 192, some 576, some 1114001] [] ⟨⟨rfl, rfl⟩, ⟨rfl, ⟨rfl, rfl, trivial⟩, ⟨rfl, ⟨rfl, rfl⟩, trivial⟩, ⟨rfl, rfl, rows_same⟩, trivial⟩, ⟨rfl, rfl⟩, ⟨rfl, rfl⟩, trivial⟩
          · replace h := iteF h g116
            conv => whnf
            refine CutK.norm [3, 9, 52] [192, 576, 1114001] ?_
            conv => whnf
            cases h
            exact Done.of [] [] rfl rfl ⟨⟨rfl, rfl⟩, ⟨rfl, trivial⟩, rfl, trivial⟩
      · replace h := condT h
        cases v64
        · replace h := condF h
          conv => whnf
          refine splT ?_
          conv => whnf
          cases h
          exact Done.of [] [] rfl rfl ⟨⟨rfl, rfl⟩, ⟨rfl, trivial⟩, rfl, trivial⟩
        · replace h := condT h
          conv => whnf
          refine splT ?_
          conv => whnf
          cases h
          exact Done.of [] [] rfl rfl ⟨⟨rfl, rfl⟩, ⟨rfl, trivial⟩, rfl, trivial⟩
    · replace h := condT h
      cases v58
      · replace h := condF h
        cases v64
        · replace h := condF h
          conv => whnf
          refine splT ?_
          conv => whnf
          cases h
          exact Done.of [] [] rfl rfl ⟨⟨rfl, rfl⟩, ⟨rfl, trivial⟩, rfl, trivial⟩
        · replace h := condT h
          conv => whnf
          refine splT ?_
          conv => whnf
          cases h
          exact Done.of [] [] rfl rfl ⟨⟨rfl, rfl⟩, ⟨rfl, trivial⟩, rfl, trivial⟩
      · replace h := condT h
        cases v64
        · replace h := condF h
          conv => whnf
          refine splF ?_
          conv => whnf
          refine splT ?_
          conv => whnf
          cases h
          exact Done.of [] [] rfl rfl ⟨⟨rfl, rfl⟩, ⟨rfl, trivial⟩, rfl, trivial⟩
        · replace h := condT h
          conv => whnf
          refine splF ?_
          conv => whnf
          refine splF ?_
          conv => whnf
          obtain ⟨y117, e118, h⟩ := bind_ex h
          refine CallOk.of (laws_toWord_ct e118) ?_
          conv => whnf
          refine Take.all (rfl) ?_
          conv => whnf
          refine Take.all (rfl) ?_
          conv => whnf
          obtain ⟨y119, e120, h⟩ := bind_ex h
          refine CallOk.of (laws_eqWord_ct e120) ?_
          conv => whnf
          refine spl (fun g121 => ?_) (fun g121 => ?_)
          · replace h := iteT h g121
            conv => whnf
            refine CutK.norm [3, 9, 52] [192, 576, 1114001] ?_
            conv => whnf
            exact CutK.piece (laws_FnExactIsBeginning_p12_ct  h) [some 192, some 576, some 1114001] [] ⟨⟨rfl, rfl⟩, ⟨rfl, ⟨rfl, rfl, trivial⟩, ⟨rfl, ⟨rfl, rfl⟩, trivial⟩, ⟨rfl, rfl, rows_same⟩, trivial⟩, ⟨rfl, rfl⟩, ⟨rfl, rfl⟩, trivial⟩
          · replace h := iteF h g121
            conv => whnf
            refine CutK.norm [3, 9, 52] [192, 576, 1114001] ?_
            conv => whnf
            cases h
            exact Done.of [] [] rfl rfl ⟨⟨rfl, rfl⟩, ⟨rfl, trivial⟩, rfl, trivial⟩
def laws_FnExactIsBeginning_p9 (k : Nat) (a1 : Rw) (a2 : Rw) (o35 : Rw) (o36 : Rw) (v39 : Bool) (v42 : Bool) : Option Bool :=
  (cond v39 (cond v42 ((impl_IsBeginning k o35 o36).bind fun y137 => (if y137.1 = true then (if y137.2 = true then (laws_FnExactIsBeginning_p10 k a1 a2 o35 o36 true true true true) else (laws_FnExactIsBeginning_p10 k a1 a2 o35 o36 false true true true)) else (if y137.2 = true then (laws_FnExactIsBeginning_p10 k a1 a2 o35 o36 true false true true) else (laws_FnExactIsBeginning_p10 k a1 a2 o35 o36 false false true true)))) ((impl_IsBeginning k o35 o36).bind fun y132 => (if y132.1 = true then (if y132.2 = true then (laws_FnExactIsBeginning_p10 k a1 a2 o35 o36 true true false true) else (laws_FnExactIsBeginning_p10 k a1 a2 o35 o36 false true false true)) else (if y132.2 = true then (laws_FnExactIsBeginning_p10 k a1 a2 o35 o36 true false false true) else (laws_FnExactIsBeginning_p10 k a1 a2 o35 o36 false false false true))))) (cond v42 ((impl_IsBeginning k o35 o36).bind fun y127 => (if y127.1 = true then (if y127.2 = true then (laws_FnExactIsBeginning_p10 k a1 a2 o35 o36 true true true false) else (laws_FnExactIsBeginning_p10 k a1 a2 o35 o36 false true true false)) else (if y127.2 = true then (laws_FnExactIsBeginning_p10 k a1 a2 o35 o36 true false true false) else (laws_FnExactIsBeginning_p10 k a1 a2 o35 o36 false false true false)))) ((impl_IsBeginning k o35 o36).bind fun y122 => (if y122.1 = true then (if y122.2 = true then (laws_FnExactIsBeginning_p10 k a1 a2 o35 o36 true true false false) else (laws_FnExactIsBeginning_p10 k a1 a2 o35 o36 false true false false)) else (if y122.2 = true then (laws_FnExactIsBeginning_p10 k a1 a2 o35 o36 true false false false) else (laws_FnExactIsBeginning_p10 k a1 a2 o35 o36 false false false false))))))
set_option maxHeartbeats 4000000 in
set_option maxRecDepth 100000 in
theorem laws_FnExactIsBeginning_p9_ct {k : Nat} {a1 : Rw} {a2 : Rw} {o35 : Rw} {o36 : Rw} {v39 : Bool} {v42 : Bool} {r : Bool} (h : laws_FnExactIsBeginning_p9 k a1 a2 o35 o36 v39 v42 = some r) : X prog 0 (tlF f10 9) (mk 58 [(2, .ptr 128 0), (3, .ptr 192 0), (6, .d (D.bool v42)), (7, .d (D.bool v39)), (8, .ptr 512 0), (9, .ptr 576 0)] [(128, .box 46 [.d (D.sl a1)]), (192, .box 46 [.d (D.sl a2)]), (512, .box 56 [.os 1109000 o35.length]), (576, .box 56 [.os 1109001 o36.length]), (1109000, .arr 111 true o35), (1109001, .arr 111 true o36)]) (finK prog f10 0 (.d (D.bool r)) (⟨[], []⟩)) := by
  rw [laws_FnExactIsBeginning_p9] at h
  cases v39
  · replace h := condF h
    cases v42
    · replace h := condF h
      conv => whnf
      refine Take.all (rfl) ?_
      conv => whnf
      refine Take.all (rfl) ?_
      conv => whnf
      obtain ⟨y122, e123, h⟩ := bind_ex h
      refine CallOk.of (impl_IsBeginning_ct e123) ?_
      conv => whnf
      refine spl (fun g124 => ?_) (fun g124 => ?_)
      · replace h := iteT h g124
        conv => whnf
        refine spl (fun g125 => ?_) (fun g125 => ?_)
        · replace h := iteT h g125
          conv => whnf
          exact CutK.piece (laws_FnExactIsBeginning_p10_ct  h) [some 128, some 192, some 512, some 576, some 1109000, some 1109001] [] ⟨⟨rfl, rfl⟩, ⟨rfl, ⟨rfl, rfl, trivial⟩, ⟨rfl, rfl, trivial⟩, ⟨rfl, ⟨rfl, rfl⟩, trivial⟩, ⟨rfl, ⟨rfl, rfl⟩, trivial⟩, ⟨rfl, rfl, rows_same⟩, ⟨rfl, rfl, rows_same⟩, trivial⟩, ⟨rfl, rfl⟩, ⟨rfl, rfl⟩, rfl, rfl, ⟨rfl, rfl⟩, ⟨rfl, rfl⟩, rfl, rfl, trivial⟩
        · replace h := iteF h g125
          conv => whnf
          exact CutK.piece (laws_FnExactIsBeginning_p10_ct  h) [some 128, some 192, some 512, some 576, some 1109000, some 1109001] [] ⟨⟨rfl, rfl⟩, ⟨rfl, ⟨rfl, rfl, trivial⟩, ⟨rfl, rfl, trivial⟩, ⟨rfl, ⟨rfl, rfl⟩, trivial⟩, ⟨rfl, ⟨rfl, rfl⟩, trivial⟩, ⟨rfl, rfl, rows_same⟩, ⟨rfl, rfl, rows_same⟩, trivial⟩, ⟨rfl, rfl⟩, ⟨rfl, rfl⟩, rfl, rfl, ⟨rfl, rfl⟩, ⟨rfl, rfl⟩, rfl, rfl, trivial⟩
      · replace h := iteF h g124
        conv => whnf
        refine spl (fun g126 => ?_) (fun g126 => ?_)
        · replace h := iteT h g126
          conv => whnf
          exact CutK.piece (laws_FnExactIsBeginning_p10_ct  h) [some 128, some 192, some 512, some 576, some 1109000, some 1109001] [] ⟨⟨rfl, rfl⟩, ⟨rfl, ⟨rfl, rfl, trivial⟩, ⟨rfl, rfl, trivial⟩, ⟨rfl, ⟨rfl, rfl⟩, trivial⟩, ⟨rfl, ⟨rfl, rfl⟩, trivial⟩, ⟨rfl, rfl, rows_same⟩, ⟨rfl, rfl, rows_same⟩, trivial⟩, ⟨rfl, rfl⟩, ⟨rfl, rfl⟩, rfl, rfl, ⟨rfl, rfl⟩, ⟨rfl, rfl⟩, rfl, rfl, trivial⟩
        · replace h := iteF h g126
          conv => whnf
          exact CutK.piece (laws_FnExactIsBeginning_p10_ct  h) [some 128, some 192, some 512, some 576, some 1109000, some 1109001] [] ⟨⟨rfl, rfl⟩, ⟨rfl, ⟨rfl, rfl, trivial⟩, ⟨rfl, rfl, trivial⟩, ⟨rfl, ⟨rfl, rfl⟩, trivial⟩, ⟨rfl, ⟨rfl, rfl⟩, trivial⟩, ⟨rfl, rfl, rows_same⟩, ⟨rfl, rfl, rows_same⟩, trivial⟩, ⟨rfl, rfl⟩, ⟨rfl, rfl⟩, rfl, rfl, ⟨rfl, rfl⟩, ⟨rfl, rfl⟩, rfl, rfl, trivial⟩
    · replace h := condT h
      conv => whnf
      refine Take.all (rfl) ?_
      conv => whnf
      refine Take.all (rfl) ?_
      conv => whnf
      obtain ⟨y127, e128, h⟩ := bind_ex h
      refine CallOk.of (impl_IsBeginning_ct e128) ?_
      conv => whnf
      refine spl (fun g129 => ?_) (fun g129 => ?_)
      · replace h := iteT h g129
        conv => whnf
        refine spl (fun g130 => ?_) (fun g130 => ?_)
        · replace h := iteT h g130
          conv => whnf
          exact CutK.piece (laws_FnExactIsBeginning_p10_ct  h) [some 128, some 192, some 512, some 576, some 1109000, some 1109001] [] ⟨⟨rfl, rfl⟩, ⟨rfl, ⟨rfl, rfl, trivial⟩, ⟨rfl, rfl, trivial⟩, ⟨rfl, ⟨rfl, rfl⟩, trivial⟩, ⟨rfl, ⟨rfl, rfl⟩, trivial⟩, ⟨rfl, rfl, rows_same⟩, ⟨rfl, rfl, rows_same⟩, trivial⟩, ⟨rfl, rfl⟩, ⟨rfl, rfl⟩, rfl, rfl, ⟨rfl, rfl⟩, ⟨rfl, rfl⟩, rfl, rfl, trivial⟩
        · replace h := iteF h g130
          conv => whnf
          exact CutK.piece (laws_FnExactIsBeginning_p10_ct  h) [some 128, some 192, some 512, some 576, some 1109000, some 1109001] [] ⟨⟨rfl, rfl⟩, ⟨rfl, ⟨rfl, rfl, trivial⟩, ⟨rfl, rfl, trivial⟩, ⟨rfl, ⟨rfl, rfl⟩, trivial⟩, ⟨rfl, ⟨rfl, rfl⟩, trivial⟩, ⟨rfl, rfl, rows_same⟩, ⟨rfl, rfl, rows_same⟩, trivial⟩, ⟨rfl, rfl⟩, ⟨rfl, rfl⟩, rfl, rfl, ⟨rfl, rfl⟩, ⟨rfl, rfl⟩, rfl, rfl, trivial⟩
      · replace h := iteF h g129
        conv => whnf
        refine spl (fun g131 => ?_) (fun g131 => ?_)
        · replace h := iteT h g131
          conv => whnf
          exact CutK.piece (laws_FnExactIsBeginning_p10_ct  h) [some 128, some 192, some 512, some 576, some 1109000, some 1109001] [] ⟨⟨rfl, rfl⟩, ⟨rfl, ⟨rfl, rfl, trivial⟩, ⟨rfl, rfl, trivial⟩, ⟨rfl, ⟨rfl, rfl⟩, trivial⟩, ⟨rfl, ⟨rfl, rfl⟩, trivial⟩, ⟨rfl, rfl, rows_same⟩, ⟨rfl, rfl, rows_same⟩, trivial⟩, ⟨rfl, rfl⟩, ⟨rfl, rfl⟩, rfl, rfl, ⟨rfl, rfl⟩, ⟨rfl, rfl⟩, rfl, rfl, trivial⟩
        · replace h := iteF h g131
          conv => whnf
          exact CutK.piece (laws_FnExactIsBeginning_p10_ct  h) [some 128, some 192, some 512, some 576, some 1109000, some 1109001] [] ⟨⟨rfl, rfl⟩, ⟨rfl, ⟨rfl, rfl, trivial⟩, ⟨rfl, rfl, trivial⟩, ⟨rfl, ⟨rfl, rfl⟩, trivial⟩, ⟨rfl, ⟨rfl, rfl⟩, trivial⟩, ⟨rfl, rfl, rows_same⟩, ⟨rfl, rfl, rows_same⟩, trivial⟩, ⟨rfl, rfl⟩, ⟨rfl, rfl⟩, rfl, rfl, ⟨rfl, rfl⟩, ⟨rfl, rfl⟩, rfl, rfl, trivial⟩
  · replace h := condT h
    cases v42
    · replace h := condF h
      conv => whnf
      refine Take.all (rfl) ?_
      conv => whnf
      refine Take.all (rfl) ?_
      conv => whnf
      obtain ⟨y132, e133, h⟩ := bind_ex h
      refine CallOk.of (impl_IsBeginning_ct e133) ?_
      conv => whnf
      refine spl (fun g134 => ?_) (fun g134 => ?_)
      · replace h := iteT h g134
        conv => whnf
        refine spl (fun g135 => ?_) (fun g135 => ?_)
        · replace h := iteT h g135
          conv => whnf
          exact CutK.piece (laws_FnExactIsBeginning_p10_ct  h) [some 128, some 192, some 512, some 576, some 1109000, some 1109001] [] ⟨⟨rfl, rfl⟩, ⟨rfl, ⟨rfl, rfl, trivial⟩, ⟨rfl, rfl, trivial⟩, ⟨rfl, ⟨rfl, rfl⟩, trivial⟩, ⟨rfl, ⟨rfl, rfl⟩, trivial⟩, ⟨rfl, rfl, rows_same⟩, ⟨rfl, rfl, rows_same⟩, trivial⟩, ⟨rfl, rfl⟩, ⟨rfl, rfl⟩, rfl, rfl, ⟨rfl, rfl⟩, ⟨rfl, rfl⟩, rfl, rfl, trivial⟩
        · replace h := iteF h g135
          conv => whnf
          exact CutK.piece (laws_FnExactIsBeginning_p10_ct  h) [some 128, some 192, some 512, some 576, some 1109000, some 1109001] [] ⟨⟨rfl, rfl⟩, ⟨rfl, ⟨rfl, rfl, trivial⟩, ⟨rfl, rfl, trivial⟩, ⟨rfl, ⟨rfl, rfl⟩, trivial⟩, ⟨rfl, ⟨rfl, rfl⟩, trivial⟩, ⟨rfl, rfl, rows_same⟩, ⟨rfl, rfl, rows_same⟩, trivial⟩, ⟨rfl, rfl⟩, ⟨rfl, rfl⟩, rfl, rfl, ⟨rfl, rfl⟩, ⟨rfl, rfl⟩, rfl, rfl, trivial⟩
      · replace h := iteF h g134
        conv => whnf
        refine spl (fun g136 => ?_) (fun g136 => ?_)
        · replace h := iteT h g136
          conv => whnf
          exact CutK.piece (laws_FnExactIsBeginning_p10_ct  h) [some 128, some 192, some 512, some 576, some 1109000, some 1109001] [] ⟨⟨rfl, rfl⟩, ⟨rfl, ⟨rfl, rfl, trivial⟩, ⟨rfl, rfl, trivial⟩, ⟨rfl, ⟨rfl, rfl⟩, trivial⟩, ⟨rfl, ⟨rfl, rfl⟩, trivial⟩, ⟨rfl, rfl, rows_same⟩, ⟨rfl, rfl, rows_same⟩, trivial⟩, ⟨rfl, rfl⟩, ⟨rfl, rfl⟩, rfl, rfl, ⟨rfl, rfl⟩, ⟨rfl, rfl⟩, rfl, rfl, trivial⟩
        · replace h := iteF h g136
          conv => whnf
          exact CutK.piece (laws_FnExactIsBeginning_p10_ct  h) [some 128, some 192, some 512, some 576, some 1109000, some 1109001] [] ⟨⟨rfl, rfl⟩, ⟨rfl, ⟨rfl, rfl, trivial⟩, ⟨rfl, rfl, trivial⟩, ⟨rfl, ⟨rfl, rfl⟩, trivial⟩, ⟨rfl, ⟨rfl, rfl⟩, trivial⟩, ⟨rfl, rfl, rows_same⟩, ⟨rfl, rfl, rows_same⟩, trivial⟩, ⟨rfl, rfl⟩, ⟨rfl, rfl⟩, rfl, rfl, ⟨rfl, rfl⟩, ⟨rfl, rfl⟩, rfl, rfl, trivial⟩
    · replace h := condT h
      conv => whnf
      refine Take.all (rfl) ?_
      conv => whnf
      refine Take.all (rfl) ?_
      conv => whnf
      obtain ⟨y137, e138, h⟩ := bind_ex h
      refine CallOk.of (impl_IsBeginning_ct e138) ?_
      conv => whnf
      refine spl (fun g139 => ?_) (fun g139 => ?_)
      · replace h := iteT h g139
        conv => whnf
        refine spl (fun g140 => ?_) (fun g140 => ?_)
        · replace h := iteT h g140
          conv => whnf
          exact CutK.piece (laws_FnExactIsBeginning_p10_ct  h) [some 128, some 192, some 512, some 576, some 1109000, some 1109001] [] ⟨⟨rfl, rfl⟩, ⟨rfl, ⟨rfl, rfl, trivial⟩, ⟨rfl, rfl, trivial⟩, ⟨rfl, ⟨rfl, rfl⟩, trivial⟩, ⟨rfl, ⟨rfl, rfl⟩, trivial⟩, ⟨rfl, rfl, rows_same⟩, ⟨rfl, rfl, rows_same⟩, trivial⟩, ⟨rfl, rfl⟩, ⟨rfl, rfl⟩, rfl, rfl, ⟨rfl, rfl⟩, ⟨rfl, rfl⟩, rfl, rfl, trivial⟩
        · replace h := iteF h g140
          conv => whnf
          exact CutK.piece (laws_FnExactIsBeginning_p10_ct  h) [some 128, some 192, some 512, some 576, some 1109000, some 1109001] [] ⟨⟨rfl, rfl⟩, ⟨rfl, ⟨rfl, rfl, trivial⟩, ⟨rfl, rfl, trivial⟩, ⟨rfl, ⟨rfl, rfl⟩, trivial⟩, ⟨rfl, ⟨rfl, rfl⟩, trivial⟩, ⟨rfl, rfl, rows_same⟩, ⟨rfl, rfl, rows_same⟩, trivial⟩, ⟨rfl, rfl⟩, ⟨rfl, rfl⟩, rfl, rfl, ⟨rfl, rfl⟩, ⟨rfl, rfl⟩, rfl, rfl, trivial⟩
      · replace h := iteF h g139
        conv => whnf
        refine spl (fun g141 => ?_) (fun g141 => ?_)
        · replace h := iteT h g141
          conv => whnf
          exact CutK.piece (laws_FnExactIsBeginning_p10_ct  h) [some 128, some 192, some 512, some 576, some 1109000, some 1109001] [] ⟨⟨rfl, rfl⟩, ⟨rfl, ⟨rfl, rfl, trivial⟩, ⟨rfl, rfl, trivial⟩, ⟨rfl, ⟨rfl, rfl⟩, trivial⟩, ⟨rfl, ⟨rfl, rfl⟩, trivial⟩, ⟨rfl, rfl, rows_same⟩, ⟨rfl, rfl, rows_same⟩, trivial⟩, ⟨rfl, rfl⟩, ⟨rfl, rfl⟩, rfl, rfl, ⟨rfl, rfl⟩, ⟨rfl, rfl⟩, rfl, rfl, trivial⟩
        · replace h := iteF h g141
          conv => whnf
          exact CutK.piece (laws_FnExactIsBeginning_p10_ct  h) [some 128, some 192, some 512, some 576, some 1109000, some 1109001] [] ⟨⟨rfl, rfl⟩, ⟨rfl, ⟨rfl, rfl, trivial⟩, ⟨rfl, rfl, trivial⟩, ⟨rfl, ⟨rfl, rfl⟩, trivial⟩, ⟨rfl, ⟨rfl, rfl⟩, trivial⟩, ⟨rfl, rfl, rows_same⟩, ⟨rfl, rfl, rows_same⟩, trivial⟩, ⟨rfl, rfl⟩, ⟨rfl, rfl⟩, rfl, rfl, ⟨rfl, rfl⟩, ⟨rfl, rfl⟩, rfl, rfl, trivial⟩
def laws_FnExactIsBeginning_p8 (k : Nat) (a1 : Rw) (a2 : Rw) (o24 : Rw) (v27 : Bool) (v30 : Bool) : Option Bool :=
  (cond v27 (cond v30 ((laws_toWord k a2).bind fun y148 => (laws_FnExactIsBeginning_p9 k a1 a2 o24 y148 true true)) ((laws_toWord k a2).bind fun y146 => (laws_FnExactIsBeginning_p9 k a1 a2 o24 y146 false true))) (cond v30 ((laws_toWord k a2).bind fun y144 => (laws_FnExactIsBeginning_p9 k a1 a2 o24 y144 true false)) ((laws_toWord k a2).bind fun y142 => (laws_FnExactIsBeginning_p9 k a1 a2 o24 y142 false false))))
set_option maxHeartbeats 4000000 in
set_option maxRecDepth 100000 in
theorem laws_FnExactIsBeginning_p8_ct {k : Nat} {a1 : Rw} {a2 : Rw} {o24 : Rw} {v27 : Bool} {v30 : Bool} {r : Bool} (h : laws_FnExactIsBeginning_p8 k a1 a2 o24 v27 v30 = some r) : X prog 0 (tlF f10 8) (mk 58 [(2, .ptr 128 0), (3, .ptr 192 0), (6, .d (D.bool v27)), (7, .d (D.bool v30)), (8, .ptr 512 0)] [(128, .box 46 [.d (D.sl a1)]), (192, .box 46 [.d (D.sl a2)]), (512, .box 56 [.os 1104000 o24.length]), (1104000, .arr 111 true o24)]) (finK prog f10 0 (.d (D.bool r)) (⟨[], []⟩)) := by
  rw [laws_FnExactIsBeginning_p8] at h
  cases v27
  · replace h := condF h
    cases v30
    · replace h := condF h
      conv => whnf
      obtain ⟨y142, e143, h⟩ := bind_ex h
      refine CallOk.of (laws_toWord_ct e143) ?_
      conv => whnf
      exact CutK.piece (laws_FnExactIsBeginning_p9_ct  h) [some 128, some 192, some 512, some 576, some 1104000, some 2112] [] ⟨⟨rfl, rfl⟩, ⟨rfl, ⟨rfl, rfl, trivial⟩, ⟨rfl, rfl, trivial⟩, ⟨rfl, ⟨rfl, rfl⟩, trivial⟩, ⟨rfl, ⟨rfl, rfl⟩, trivial⟩, ⟨rfl, rfl, rows_same⟩, ⟨rfl, rfl, rows_same⟩, trivial⟩, ⟨rfl, rfl⟩, ⟨rfl, rfl⟩, rfl, rfl, ⟨rfl, rfl⟩, ⟨rfl, rfl⟩, trivial⟩
    · replace h := condT h
      conv => whnf
      obtain ⟨y144, e145, h⟩ := bind_ex h
      refine CallOk.of (laws_toWord_ct e145) ?_
      conv => whnf
      exact CutK.piece (laws_FnExactIsBeginning_p9_ct  h) [some 128, some 192, some 512, some 576, some 1104000, some 2112] [] ⟨⟨rfl, rfl⟩, ⟨rfl, ⟨rfl, rfl, trivial⟩, ⟨rfl, rfl, trivial⟩, ⟨rfl, ⟨rfl, rfl⟩, trivial⟩, ⟨rfl, ⟨rfl, rfl⟩, trivial⟩, ⟨rfl, rfl, rows_same⟩, ⟨rfl, rfl, rows_same⟩, trivial⟩, ⟨rfl, rfl⟩, ⟨rfl, rfl⟩, rfl, rfl, ⟨rfl, rfl⟩, ⟨rfl, rfl⟩, trivial⟩
  · replace h := condT h
    cases v30
    · replace h := condF h
      conv => whnf
      obtain ⟨y146, e147, h⟩ := bind_ex h
      refine CallOk.of (laws_toWord_ct e147) ?_
      conv => whnf
      exact CutK.piece (laws_FnExactIsBeginning_p9_ct  h) [some 128, some 192, some 512, some 576, some 1104000, some 2112] [] ⟨⟨rfl, rfl⟩, ⟨rfl, ⟨rfl, rfl, trivial⟩, ⟨rfl, rfl, trivial⟩, ⟨rfl, ⟨rfl, rfl⟩, trivial⟩, ⟨rfl, ⟨rfl, rfl⟩, trivial⟩, ⟨rfl, rfl, rows_same⟩, ⟨rfl, rfl, rows_same⟩, trivial⟩, ⟨rfl, rfl⟩, ⟨rfl, rfl⟩, rfl, rfl, ⟨rfl, rfl⟩, ⟨rfl, rfl⟩, trivial⟩
    · replace h := condT h
      conv => whnf
      obtain ⟨y148, e149, h⟩ := bind_ex h
      refine CallOk.of (laws_toWord_ct e149) ?_
      conv => whnf
      exact CutK.piece (laws_FnExactIsBeginning_p9_ct  h) [some 128, some 192, some 512, some 576, some 1104000, some 2112] [] ⟨⟨rfl, rfl⟩, ⟨rfl, ⟨rfl, rfl, trivial⟩, ⟨rfl, rfl, trivial⟩, ⟨rfl, ⟨rfl, rfl⟩, trivial⟩, ⟨rfl, ⟨rfl, rfl⟩, trivial⟩, ⟨rfl, rfl, rows_same⟩, ⟨rfl, rfl, rows_same⟩, trivial⟩, ⟨rfl, rfl⟩, ⟨rfl, rfl⟩, rfl, rfl, ⟨rfl, rfl⟩, ⟨rfl, rfl⟩, trivial⟩
def laws_FnExactIsBeginning_p7 (k : Nat) (a1 : Rw) (a2 : Rw) (v19 : Bool) (v21 : Bool) : Option Bool :=
  (cond v19 (cond v21 ((laws_toWord k a1).bind fun y156 => (laws_FnExactIsBeginning_p8 k a1 a2 y156 true true)) ((laws_toWord k a1).bind fun y154 => (laws_FnExactIsBeginning_p8 k a1 a2 y154 false true))) (cond v21 ((laws_toWord k a1).bind fun y152 => (laws_FnExactIsBeginning_p8 k a1 a2 y152 true false)) ((laws_toWord k a1).bind fun y150 => (laws_FnExactIsBeginning_p8 k a1 a2 y150 false false))))
set_option maxHeartbeats 4000000 in
set_option maxRecDepth 100000 in
theorem laws_FnExactIsBeginning_p7_ct {k : Nat} {a1 : Rw} {a2 : Rw} {v19 : Bool} {v21 : Bool} {r : Bool} (h : laws_FnExactIsBeginning_p7 k a1 a2 v19 v21 = some r) : X prog 0 (tlF f10 7) (mk 58 [(2, .ptr 128 0), (3, .ptr 192 0), (6, .d (D.bool v21)), (7, .d (D.bool v19))] [(128, .box 46 [.d (D.sl a1)]), (192, .box 46 [.d (D.sl a2)])]) (finK prog f10 0 (.d (D.bool r)) (⟨[], []⟩)) := by
  rw [laws_FnExactIsBeginning_p7] at h
  cases v19
  · replace h := condF h
    cases v21
    · replace h := condF h
      conv => whnf
      obtain ⟨y150, e151, h⟩ := bind_ex h
      refine CallOk.of (laws_toWord_ct e151) ?_
      conv => whnf
      exact CutK.piece (laws_FnExactIsBeginning_p8_ct  h) [some 128, some 192, some 512, some 1984] [] ⟨⟨rfl, rfl⟩, ⟨rfl, ⟨rfl, rfl, trivial⟩, ⟨rfl, rfl, trivial⟩, ⟨rfl, ⟨rfl, rfl⟩, trivial⟩, ⟨rfl, rfl, rows_same⟩, trivial⟩, ⟨rfl, rfl⟩, ⟨rfl, rfl⟩, rfl, rfl, ⟨rfl, rfl⟩, trivial⟩
    · replace h := condT h
      conv => whnf
      obtain ⟨y152, e153, h⟩ := bind_ex h
      refine CallOk.of (laws_toWord_ct e153) ?_
      conv => whnf
      exact CutK.piece (laws_FnExactIsBeginning_p8_ct  h) [some 128, some 192, some 512, some 1984] [] ⟨⟨rfl, rfl⟩, ⟨rfl, ⟨rfl, rfl, trivial⟩, ⟨rfl, rfl, trivial⟩, ⟨rfl, ⟨rfl, rfl⟩, trivial⟩, ⟨rfl, rfl, rows_same⟩, trivial⟩, ⟨rfl, rfl⟩, ⟨rfl, rfl⟩, rfl, rfl, ⟨rfl, rfl⟩, trivial⟩
  · replace h := condT h
    cases v21
    · replace h := condF h
      conv => whnf
      obtain ⟨y154, e155, h⟩ := bind_ex h
      refine CallOk.of (laws_toWord_ct e155) ?_
      conv => whnf
      exact CutK.piece (laws_FnExactIsBeginning_p8_ct  h) [some 128, some 192, some 512, some 1984] [] ⟨⟨rfl, rfl⟩, ⟨rfl, ⟨rfl, rfl, trivial⟩, ⟨rfl, rfl, trivial⟩, ⟨rfl, ⟨rfl, rfl⟩, trivial⟩, ⟨rfl, rfl, rows_same⟩, trivial⟩, ⟨rfl, rfl⟩, ⟨rfl, rfl⟩, rfl, rfl, ⟨rfl, rfl⟩, trivial⟩
    · replace h := condT h
      conv => whnf
      obtain ⟨y156, e157, h⟩ := bind_ex h
      refine CallOk.of (laws_toWord_ct e157) ?_
      conv => whnf
      exact CutK.piece (laws_FnExactIsBeginning_p8_ct  h) [some 128, some 192, some 512, some 1984] [] ⟨⟨rfl, rfl⟩, ⟨rfl, ⟨rfl, rfl, trivial⟩, ⟨rfl, rfl, trivial⟩, ⟨rfl, ⟨rfl, rfl⟩, trivial⟩, ⟨rfl, rfl, rows_same⟩, trivial⟩, ⟨rfl, rfl⟩, ⟨rfl, rfl⟩, rfl, rfl, ⟨rfl, rfl⟩, trivial⟩
def laws_FnExactIsBeginning_p5 (k : Nat) (a1 : Rw) (a2 : Rw) (o9 : Int) : Option Bool :=
  (if o9 < (0 : Int) then some true else ((laws_toWord k a1).bind fun y159 => ((laws_toWord k a2).bind fun y161 => ((spec_IsBeginning k y159 y161).bind fun y163 => (if y163.1 = true then (if y163.2 = true then (laws_FnExactIsBeginning_p7 k a1 a2 true true) else (laws_FnExactIsBeginning_p7 k a1 a2 false true)) else (if y163.2 = true then (laws_FnExactIsBeginning_p7 k a1 a2 true false) else (laws_FnExactIsBeginning_p7 k a1 a2 false false)))))))
set_option maxHeartbeats 4000000 in
set_option maxRecDepth 100000 in
theorem laws_FnExactIsBeginning_p5_ct {k : Nat} {a1 : Rw} {a2 : Rw} {o9 : Int} {r : Bool} (h : laws_FnExactIsBeginning_p5 k a1 a2 o9 = some r) : X prog 0 (tlF f10 5) (mk 58 [(2, .ptr 128 0), (3, .ptr 192 0), (5, .d (D.int .i64 o9))] [(128, .box 46 [.d (D.sl a1)]), (192, .box 46 [.d (D.sl a2)])]) (finK prog f10 0 (.d (D.bool r)) (⟨[], []⟩)) := by
  rw [laws_FnExactIsBeginning_p5] at h
  conv => whnf
  refine splD (fun g158 => ?_) (fun g158 => ?_)
  · replace h := iteP h g158
    conv => whnf
    cases h
    exact Done.of [] [] rfl rfl ⟨⟨rfl, rfl⟩, ⟨rfl, trivial⟩, rfl, trivial⟩
  · replace h := iteN h g158
    conv => whnf
    obtain ⟨y159, e160, h⟩ := bind_ex h
    refine CallOk.of (laws_toWord_ct e160) ?_
    conv => whnf
    obtain ⟨y161, e162, h⟩ := bind_ex h
    refine CallOk.of (laws_toWord_ct e162) ?_
    conv => whnf
    refine Take.all (rfl) ?_
    conv => whnf
    refine Take.all (rfl) ?_
    conv => whnf
    obtain ⟨y163, e164, h⟩ := bind_ex h
    refine CallOk.of (spec_IsBeginning_ct e164) ?_
    conv => whnf
    refine spl (fun g165 => ?_) (fun g165 => ?_)
    · replace h := iteT h g165
      conv => whnf
      refine spl (fun g166 => ?_) (fun g166 => ?_)
      · replace h := iteT h g166
        conv => whnf
        exact CutK.piece (laws_FnExactIsBeginning_p7_ct  h) [some 128, some 192] [] ⟨⟨rfl, rfl⟩, ⟨rfl, ⟨rfl, rfl, trivial⟩, ⟨rfl, rfl, trivial⟩, trivial⟩, ⟨rfl, rfl⟩, ⟨rfl, rfl⟩, rfl, rfl, trivial⟩
      · replace h := iteF h g166
        conv => whnf
        exact CutK.piece (laws_FnExactIsBeginning_p7_ct  h) [some 128, some 192] [] ⟨⟨rfl, rfl⟩, ⟨rfl, ⟨rfl, rfl, trivial⟩, ⟨rfl, rfl, trivial⟩, trivial⟩, ⟨rfl, rfl⟩, ⟨rfl, rfl⟩, rfl, rfl, trivial⟩
    · replace h := iteF h g165
      conv => whnf
      refine spl (fun g167 => ?_) (fun g167 => ?_)
      · replace h := iteT h g167
        conv => whnf
        exact CutK.piece (laws_FnExactIsBeginning_p7_ct  h) [some 128, some 192] [] ⟨⟨rfl, rfl⟩, ⟨rfl, ⟨rfl, rfl, trivial⟩, ⟨rfl, rfl, trivial⟩, trivial⟩, ⟨rfl, rfl⟩, ⟨rfl, rfl⟩, rfl, rfl, trivial⟩
      · replace h := iteF h g167
        conv => whnf
        exact CutK.piece (laws_FnExactIsBeginning_p7_ct  h) [some 128, some 192] [] ⟨⟨rfl, rfl⟩, ⟨rfl, ⟨rfl, rfl, trivial⟩, ⟨rfl, rfl, trivial⟩, trivial⟩, ⟨rfl, rfl⟩, ⟨rfl, rfl⟩, rfl, rfl, trivial⟩
def laws_FnExactIsBeginning_p3 (k : Nat) (a1 : Rw) (a2 : Rw) (o5 : Int) : Option Bool :=
  (if o5 < (0 : Int) then some true else ((laws_szWord k a2 o5).bind fun y169 => (laws_FnExactIsBeginning_p5 k a1 a2 y169)))
set_option maxHeartbeats 4000000 in
set_option maxRecDepth 100000 in
theorem laws_FnExactIsBeginning_p3_ct {k : Nat} {a1 : Rw} {a2 : Rw} {o5 : Int} {r : Bool} (h : laws_FnExactIsBeginning_p3 k a1 a2 o5 = some r) : X prog 0 (tlF f10 3) (mk 58 [(2, .ptr 128 0), (3, .ptr 192 0), (5, .d (D.int .i64 o5))] [(128, .box 46 [.d (D.sl a1)]), (192, .box 46 [.d (D.sl a2)])]) (finK prog f10 0 (.d (D.bool r)) (⟨[], []⟩)) := by
  rw [laws_FnExactIsBeginning_p3] at h
  conv => whnf
  refine splD (fun g168 => ?_) (fun g168 => ?_)
  · replace h := iteP h g168
    conv => whnf
    cases h
    exact Done.of [] [] rfl rfl ⟨⟨rfl, rfl⟩, ⟨rfl, trivial⟩, rfl, trivial⟩
  · replace h := iteN h g168
    conv => whnf
    obtain ⟨y169, e170, h⟩ := bind_ex h
    refine CallOk.of (laws_szWord_ct e170) ?_
    conv => whnf
    exact CutK.piece (laws_FnExactIsBeginning_p5_ct  h) [some 128, some 192] [] ⟨⟨rfl, rfl⟩, ⟨rfl, ⟨rfl, rfl, trivial⟩, ⟨rfl, rfl, trivial⟩, trivial⟩, ⟨rfl, rfl⟩, ⟨rfl, rfl⟩, rfl, trivial⟩
def laws_FnExactIsBeginning (k : Nat) (a1 : Rw) (a2 : Rw) : Option Bool :=
  ((laws_szWord k a1 1048576).bind fun y171 => (laws_FnExactIsBeginning_p3 k a1 a2 y171))
set_option maxHeartbeats 4000000 in
set_option maxRecDepth 100000 in
theorem laws_FnExactIsBeginning_ct {k : Nat} {a1 : Rw} {a2 : Rw} {r : Bool} (h : laws_FnExactIsBeginning k a1 a2 = some r) : Ct prog 10 [.agg [.d (D.sl a1)], .agg [.d (D.sl a2)]] (⟨[], []⟩) (.d (D.bool r)) (⟨[], []⟩) := by
  rw [laws_FnExactIsBeginning] at h
  refine Ct.of (c := _) mixed func10 ⟨rfl, rfl, rfl⟩ ?_ rfl
  conv => whnf
  obtain ⟨y171, e172, h⟩ := bind_ex h
  refine CallOk.of (laws_szWord_ct e172) ?_
  conv => whnf
  exact CutK.piece (laws_FnExactIsBeginning_p3_ct  h) [some 128, some 192] [] ⟨⟨rfl, rfl⟩, ⟨rfl, ⟨rfl, rfl, trivial⟩, ⟨rfl, rfl, trivial⟩, trivial⟩, ⟨rfl, rfl⟩, ⟨rfl, rfl⟩, rfl, trivial⟩

def impl_sign  (a1 : Bool) : Option Int :=
  (cond a1 (some 1) (some (-1)))
set_option maxHeartbeats 4000000 in
set_option maxRecDepth 100000 in
theorem impl_sign_ct  {a1 : Bool} {r : Int} (h : impl_sign a1 = some r) : Ct prog 152 [.d (D.bool a1)] (⟨[], []⟩) (.d (D.int .i64 r)) (⟨[], []⟩) := by
  rw [impl_sign] at h
  refine Ct.of (c := _) mixed func152 ⟨rfl, rfl, rfl⟩ ?_ rfl
  cases a1
  · replace h := condF h
    conv => whnf
    cases h
    exact Done.of [] [] rfl rfl ⟨⟨rfl, rfl⟩, ⟨rfl, trivial⟩, rfl, trivial⟩
  · replace h := condT h
    conv => whnf
    cases h
    exact Done.of [] [] rfl rfl ⟨⟨rfl, rfl⟩, ⟨rfl, trivial⟩, rfl, trivial⟩

def impl_firstLetter  (a1 : Rw) : Option Int :=
  (if (a1.length : Int) = (0 : Int) then some 0 else (row_bs a1 0 fun x3 x4 => (if x3 = true then ((impl_sign true).bind fun y8 => some y8) else ((impl_sign false).bind fun y10 => some y10))))
set_option maxHeartbeats 4000000 in
set_option maxRecDepth 100000 in
theorem impl_firstLetter_ct  {a1 : Rw} {r : Int} (h : impl_firstLetter a1 = some r) : Ct prog 91 [.agg [.d (D.sl a1)]] (⟨[], []⟩) (.d (D.int .i64 r)) (⟨[], []⟩) := by
  rw [impl_firstLetter] at h
  refine Ct.of (c := _) mixed func91 ⟨rfl, rfl, rfl⟩ ?_ rfl
  conv => whnf
  refine splD (fun g2 => ?_) (fun g2 => ?_)
  · replace h := iteP h g2
    conv => whnf
    cases h
    exact Done.of [] [] rfl rfl ⟨⟨rfl, rfl⟩, ⟨rfl, trivial⟩, rfl, trivial⟩
  · replace h := iteN h g2
    conv => whnf
    obtain ⟨g6, x3, x4, e5, h⟩ := row_bs_ex h
    refine Req.of g6 ?_
    refine Row.of _ e5 ?_
    conv => whnf
    refine spl (fun g7 => ?_) (fun g7 => ?_)
    · replace h := iteT h g7
      conv => whnf
      obtain ⟨y8, e9, h⟩ := bind_ex h
      refine CallOk.of (impl_sign_ct e9) ?_
      conv => whnf
      refine CutK.go ?_
      conv => whnf
      cases h
      exact Done.of [] [] rfl rfl ⟨⟨rfl, rfl⟩, ⟨rfl, trivial⟩, rfl, trivial⟩
    · replace h := iteF h g7
      conv => whnf
      obtain ⟨y10, e11, h⟩ := bind_ex h
      refine CallOk.of (impl_sign_ct e11) ?_
      conv => whnf
      refine CutK.go ?_
      conv => whnf
      cases h
      exact Done.of [] [] rfl rfl ⟨⟨rfl, rfl⟩, ⟨rfl, trivial⟩, rfl, trivial⟩

def impl_wordOrder (k : Nat) (a1 : Rw) (a2 : Rw) : Option Int :=
  ((impl_meet k a1 a2).bind fun y3 => ((impl_behind k a1 y3).bind fun y5 => ((impl_firstLetter y5).bind fun y7 => ((impl_behind k a2 y3).bind fun y9 => ((impl_firstLetter y9).bind fun y11 => ((impl_compare y7 y11).bind fun y13 => some y13))))))
set_option maxHeartbeats 4000000 in
set_option maxRecDepth 100000 in
theorem impl_wordOrder_ct {k : Nat} {a1 : Rw} {a2 : Rw} {r : Int} (h : impl_wordOrder k a1 a2 = some r) : Ct prog 107 [.agg [.d (D.sl a1)], .agg [.d (D.sl a2)]] (⟨[], []⟩) (.d (D.int .i64 r)) (⟨[], []⟩) := by
  rw [impl_wordOrder] at h
  refine Ct.of (c := _) mixed func107 ⟨rfl, rfl, rfl⟩ ?_ rfl
  conv => whnf
  obtain ⟨y3, e4, h⟩ := bind_ex h
  refine CallOk.of (impl_meet_ct e4) ?_
  conv => whnf
  refine CutK.go ?_
  conv => whnf
  refine Take.all (rfl) ?_
  conv => whnf
  obtain ⟨y5, e6, h⟩ := bind_ex h
  refine CallOk.of (impl_behind_ct e6) ?_
  conv => whnf
  refine Take.all (rfl) ?_
  conv => whnf
  obtain ⟨y7, e8, h⟩ := bind_ex h
  refine CallOk.of (impl_firstLetter_ct e8) ?_
  conv => whnf
  refine Take.all (rfl) ?_
  conv => whnf
  obtain ⟨y9, e10, h⟩ := bind_ex h
  refine CallOk.of (impl_behind_ct e10) ?_
  conv => whnf
  refine Take.all (rfl) ?_
  conv => whnf
  obtain ⟨y11, e12, h⟩ := bind_ex h
  refine CallOk.of (impl_firstLetter_ct e12) ?_
  conv => whnf
  obtain ⟨y13, e14, h⟩ := bind_ex h
  refine CallOk.of (impl_compare_ct e14) ?_
  conv => whnf
  refine CutK.go ?_
  conv => whnf
  cases h
  exact Done.of [] [] rfl rfl ⟨⟨rfl, rfl⟩, ⟨rfl, trivial⟩, rfl, trivial⟩

def impl_CompareWords (k : Nat) (a1 : Rw) (a2 : Rw) : Option (Int × Bool) :=
  ((impl_IsWord k a1).bind fun y3 => (if y3 = true then ((impl_IsWord k a2).bind fun y6 => (if y6 = true then ((impl_wordOrder k a1 a2).bind fun y9 => some (y9, true)) else some (0, false))) else some (0, false)))
set_option maxHeartbeats 4000000 in
set_option maxRecDepth 100000 in
theorem impl_CompareWords_ct {k : Nat} {a1 : Rw} {a2 : Rw} {r : Int × Bool} (h : impl_CompareWords k a1 a2 = some r) : Ct prog 47 [.agg [.d (D.sl a1)], .agg [.d (D.sl a2)]] (⟨[], []⟩) (.tup [.d (D.int .i64 r.1), .d (D.bool r.2)]) (⟨[], []⟩) := by
  rw [impl_CompareWords] at h
  refine Ct.of (c := _) mixed func47 ⟨rfl, rfl, rfl⟩ ?_ rfl
  conv => whnf
  obtain ⟨y3, e4, h⟩ := bind_ex h
  refine CallOk.of (impl_IsWord_ct e4) ?_
  conv => whnf
  refine spl (fun g5 => ?_) (fun g5 => ?_)
  · replace h := iteT h g5
    conv => whnf
    obtain ⟨y6, e7, h⟩ := bind_ex h
    refine CallOk.of (impl_IsWord_ct e7) ?_
    conv => whnf
    refine spl (fun g8 => ?_) (fun g8 => ?_)
    · replace h := iteT h g8
      conv => whnf
      refine CutK.go ?_
      conv => whnf
      refine CutK.go ?_
      conv => whnf
      obtain ⟨y9, e10, h⟩ := bind_ex h
      refine CallOk.of (impl_wordOrder_ct e10) ?_
      conv => whnf
      refine CutK.go ?_
      conv => whnf
      cases h
      exact Done.of [] [] rfl rfl ⟨⟨rfl, rfl⟩, ⟨rfl, trivial⟩, ⟨rfl, rfl, trivial⟩, trivial⟩
    · replace h := iteF h g8
      conv => whnf
      refine CutK.go ?_
      conv => whnf
      cases h
      exact Done.of [] [] rfl rfl ⟨⟨rfl, rfl⟩, ⟨rfl, trivial⟩, ⟨rfl, rfl, trivial⟩, trivial⟩
  · replace h := iteF h g5
    conv => whnf
    refine CutK.go ?_
    conv => whnf
    cases h
    exact Done.of [] [] rfl rfl ⟨⟨rfl, rfl⟩, ⟨rfl, trivial⟩, ⟨rfl, rfl, trivial⟩, trivial⟩

def spec_CompareWords (k : Nat) (a1 : Rw) (a2 : Rw) : Option (Int × Bool) :=
  ((spec_woGood k a1).bind fun y3 => (if y3 = true then ((spec_woGood k a2).bind fun y6 => (if y6 = true then ((spec_woCmp k a1 a2).bind fun y9 => some (y9, true)) else some (0, false))) else some (0, false)))
set_option maxHeartbeats 4000000 in
set_option maxRecDepth 100000 in
theorem spec_CompareWords_ct {k : Nat} {a1 : Rw} {a2 : Rw} {r : Int × Bool} (h : spec_CompareWords k a1 a2 = some r) : Ct prog 46 [.agg [.d (D.sl a1)], .agg [.d (D.sl a2)]] (⟨[], []⟩) (.tup [.d (D.int .i64 r.1), .d (D.bool r.2)]) (⟨[], []⟩) := by
  rw [spec_CompareWords] at h
  refine Ct.of (c := _) mixed func46 ⟨rfl, rfl, rfl⟩ ?_ rfl
  conv => whnf
  obtain ⟨y3, e4, h⟩ := bind_ex h
  refine CallOk.of (spec_woGood_ct e4) ?_
  conv => whnf
  refine spl (fun g5 => ?_) (fun g5 => ?_)
  · replace h := iteT h g5
    conv => whnf
    obtain ⟨y6, e7, h⟩ := bind_ex h
    refine CallOk.of (spec_woGood_ct e7) ?_
    conv => whnf
    refine spl (fun g8 => ?_) (fun g8 => ?_)
    · replace h := iteT h g8
      conv => whnf
      refine CutK.go ?_
      conv => whnf
      refine CutK.go ?_
      conv => whnf
      obtain ⟨y9, e10, h⟩ := bind_ex h
      refine CallOk.of (spec_woCmp_ct e10) ?_
      conv => whnf
      refine CutK.go ?_
      conv => whnf
      cases h
      exact Done.of [] [] rfl rfl ⟨⟨rfl, rfl⟩, ⟨rfl, trivial⟩, ⟨rfl, rfl, trivial⟩, trivial⟩
    · replace h := iteF h g8
      conv => whnf
      refine CutK.go ?_
      conv => whnf
      cases h
      exact Done.of [] [] rfl rfl ⟨⟨rfl, rfl⟩, ⟨rfl, trivial⟩, ⟨rfl, rfl, trivial⟩, trivial⟩
  · replace h := iteF h g5
    conv => whnf
    refine CutK.go ?_
    conv => whnf
    cases h
    exact Done.of [] [] rfl rfl ⟨⟨rfl, rfl⟩, ⟨rfl, trivial⟩, ⟨rfl, rfl, trivial⟩, trivial⟩

def laws_FnExactCompareWords_p13  : Option Bool :=
  some true
set_option maxHeartbeats 4000000 in
set_option maxRecDepth 100000 in
theorem laws_FnExactCompareWords_p13_ct  {r : Bool} (h : laws_FnExactCompareWords_p13 = some r) : X prog 0 (tlF f11 13) (mk 58 [] []) (finK prog f11 0 (.d (D.bool r)) (⟨[], []⟩)) := by
  rw [laws_FnExactCompareWords_p13] at h
  conv => whnf
  cases h
  exact Done.of [] [] rfl rfl ⟨⟨rfl, rfl⟩, ⟨rfl, trivial⟩, rfl, trivial⟩
def laws_FnExactCompareWords_p12 (k : Nat) (a2 : Rw) (o53 : Rw) : Option Bool :=
  ((laws_toWord k a2).bind fun y67 => ((laws_eqWord k o53 y67).bind fun y69 => (if y69 = true then (laws_FnExactCompareWords_p13) else some false)))
set_option maxHeartbeats 4000000 in
set_option maxRecDepth 100000 in
theorem laws_FnExactCompareWords_p12_ct {k : Nat} {a2 : Rw} {o53 : Rw} {r : Bool} (h : laws_FnExactCompareWords_p12 k a2 o53 = some r) : X prog 0 (tlF f11 12) (mk 58 [(3, .ptr 192 0), (9, .ptr 576 0)] [(192, .box 46 [.d (D.sl a2)]), (576, .box 56 [.os 1124000 o53.length]), (1124000, .arr 111 true o53)]) (finK prog f11 0 (.d (D.bool r)) (⟨[], []⟩)) := by
  rw [laws_FnExactCompareWords_p12] at h
  conv => whnf
  obtain ⟨y67, e68, h⟩ := bind_ex h
  refine CallOk.of (laws_toWord_ct e68) ?_
  conv => whnf
  refine Take.all (rfl) ?_
  conv => whnf
  refine Take.all (rfl) ?_
  conv => whnf
  obtain ⟨y69, e70, h⟩ := bind_ex h
  refine CallOk.of (laws_eqWord_ct e70) ?_
  conv => whnf
  refine spl (fun g71 => ?_) (fun g71 => ?_)
  · replace h := iteT h g71
    conv => whnf
    refine CutK.norm [57] [] ?_
    conv => whnf
    exact CutK.piece (laws_FnExactCompareWords_p13_ct  h) [] [] ⟨⟨rfl, rfl⟩, ⟨rfl, trivial⟩, trivial⟩
  · replace h := iteF h g71
    conv => whnf
    refine CutK.norm [57] [] ?_
    conv => whnf
    cases h
    exact Done.of [] [] rfl rfl ⟨⟨rfl, rfl⟩, ⟨rfl, trivial⟩, rfl, trivial⟩
def laws_FnExactCompareWords_p10 (k : Nat) (a1 : Rw) (a2 : Rw) (o38 : Int) (o39 : Int) (o40 : Rw) (o41 : Rw) (v42 : Bool) (v46 : Bool) : Option Bool :=
  (cond v42 (cond v46 (if o39 = o38 then ((laws_toWord k a1).bind fun y81 => ((laws_eqWord k o40 y81).bind fun y83 => (if y83 = true then (laws_FnExactCompareWords_p12 k a2 o41) else some false))) else some false) (if o39 = o38 then some false else some false)) (cond v46 (if o39 = o38 then some false else some false) (if o39 = o38 then ((laws_toWord k a1).bind fun y73 => ((laws_eqWord k o40 y73).bind fun y75 => (if y75 = true then (laws_FnExactCompareWords_p12 k a2 o41) else some false))) else some false)))
set_option maxHeartbeats 4000000 in
set_option maxRecDepth 100000 in
theorem laws_FnExactCompareWords_p10_ct {k : Nat} {a1 : Rw} {a2 : Rw} {o38 : Int} {o39 : Int} {o40 : Rw} {o41 : Rw} {v42 : Bool} {v46 : Bool} {r : Bool} (h : laws_FnExactCompareWords_p10 k a1 a2 o38 o39 o40 o41 v42 v46 = some r) : X prog 0 (tlF f11 10) (mk 58 [(2, .ptr 128 0), (3, .ptr 192 0), (6, .d (D.int .i64 o38)), (7, .d (D.bool v46)), (8, .ptr 512 0), (9, .ptr 576 0), (10, .d (D.int .i64 o39)), (11, .d (D.bool v42))] [(128, .box 46 [.d (D.sl a1)]), (192, .box 46 [.d (D.sl a2)]), (512, .box 56 [.os 1114000 o40.length]), (576, .box 56 [.os 1114001 o41.length]), (1114000, .arr 111 true o40), (1114001, .arr 111 true o41)]) (finK prog f11 0 (.d (D.bool r)) (⟨[], []⟩)) := by
  rw [laws_FnExactCompareWords_p10] at h
  cases v42
  · replace h := condF h
    cases v46
    · replace h := condF h
      conv => whnf
      refine splN (fun g72 => ?_) (fun g72 => ?_)
      · replace h := iteN h g72
        conv => whnf
        cases h
        exact Done.of [] [] rfl rfl ⟨⟨rfl, rfl⟩, ⟨rfl, trivial⟩, rfl, trivial⟩
      · replace h := iteP h g72
        conv => whnf
        refine splF ?_
        conv => whnf
        obtain ⟨y73, e74, h⟩ := bind_ex h
        refine CallOk.of (laws_toWord_ct e74) ?_
        conv => whnf
        refine Take.all (rfl) ?_
        conv => whnf
        refine Take.all (rfl) ?_
        conv => whnf
        obtain ⟨y75, e76, h⟩ := bind_ex h
        refine CallOk.of (laws_eqWord_ct e76) ?_
        conv => whnf
        refine spl (fun g77 => ?_) (fun g77 => ?_)
        · replace h := iteT h g77
          conv => whnf
          refine CutK.norm [3, 9, 52] [192, 576, 1114001] ?_
          conv => whnf
          exact CutK.piece (laws_FnExactCompareWords_p12_ct  h) [some 192, some 576, some 1114001] [] ⟨⟨rfl, rfl⟩, ⟨rfl, ⟨rfl, rfl, trivial⟩, ⟨rfl, ⟨rfl, rfl⟩, trivial⟩, ⟨rfl, rfl, rows_same⟩, trivial⟩, ⟨rfl, rfl⟩, ⟨rfl, rfl⟩, trivial⟩
        · replace h := iteF h g77
          conv => whnf
          refine CutK.norm [3, 9, 52] [192, 576, 1114001] ?_
          conv => whnf
          cases h
          exact Done.of [] [] rfl rfl ⟨⟨rfl, rfl⟩, ⟨rfl, trivial⟩, rfl, trivial⟩
    · replace h := condT h
      conv => whnf
      refine splN (fun g78 => ?_) (fun g78 => ?_)
      · replace h := iteN h g78
        conv => whnf
        cases h
        exact Done.of [] [] rfl rfl ⟨⟨rfl, rfl⟩, ⟨rfl, trivial⟩, rfl, trivial⟩
      · replace h := iteP h g78
        conv => whnf
        refine splT ?_
        conv => whnf
        cases h
        exact Done.of [] [] rfl rfl ⟨⟨rfl, rfl⟩, ⟨rfl, trivial⟩, rfl, trivial⟩
  · replace h := condT h
    cases v46
    · replace h := condF h
      conv => whnf
      refine splN (fun g79 => ?_) (fun g79 => ?_)
      · replace h := iteN h g79
        conv => whnf
        cases h
        exact Done.of [] [] rfl rfl ⟨⟨rfl, rfl⟩, ⟨rfl, trivial⟩, rfl, trivial⟩
      · replace h := iteP h g79
        conv => whnf
        refine splT ?_
        conv => whnf
        cases h
        exact Done.of [] [] rfl rfl ⟨⟨rfl, rfl⟩, ⟨rfl, trivial⟩, rfl, trivial⟩
    · replace h := condT h
      conv => whnf
      refine splN (fun g80 => ?_) (fun g80 => ?_)
      · replace h := iteN h g80
        conv => whnf
        cases h
        exact Done.of [] [] rfl rfl ⟨⟨rfl, rfl⟩, ⟨rfl, trivial⟩, rfl, trivial⟩
      · replace h := iteP h g80
        conv => whnf
        refine splF ?_
        conv => whnf
        obtain ⟨y81, e82, h⟩ := bind_ex h
        refine CallOk.of (laws_toWord_ct e82) ?_
        conv => whnf
        refine Take.all (rfl) ?_
        conv => whnf
        refine Take.all (rfl) ?_
        conv => whnf
        obtain ⟨y83, e84, h⟩ := bind_ex h
        refine CallOk.of (laws_eqWord_ct e84) ?_
        conv => whnf
        refine spl (fun g85 => ?_) (fun g85 => ?_)
        · replace h := iteT h g85
          conv => whnf
          refine CutK.norm [3, 9, 52] [192, 576, 1114001] ?_
          conv => whnf
          exact CutK.piece (laws_FnExactCompareWords_p12_ct  h) [some 192, some 576, some 1114001] [] ⟨⟨rfl, rfl⟩, ⟨rfl, ⟨rfl, rfl, trivial⟩, ⟨rfl, ⟨rfl, rfl⟩, trivial⟩, ⟨rfl, rfl, rows_same⟩, trivial⟩, ⟨rfl, rfl⟩, ⟨rfl, rfl⟩, trivial⟩
        · replace h := iteF h g85
          conv => whnf
          refine CutK.norm [3, 9, 52] [192, 576, 1114001] ?_
          conv => whnf
          cases h
          exact Done.of [] [] rfl rfl ⟨⟨rfl, rfl⟩, ⟨rfl, trivial⟩, rfl, trivial⟩
def laws_FnExactCompareWords_p9 (k : Nat) (a1 : Rw) (a2 : Rw) (o29 : Int) (o30 : Rw) (o31 : Rw) (v34 : Bool) : Option Bool :=
  (cond v34 ((impl_CompareWords k o30 o31).bind fun y89 => (if y89.2 = true then (laws_FnExactCompareWords_p10 k a1 a2 o29 y89.1 o30 o31 true true) else (laws_FnExactCompareWords_p10 k a1 a2 o29 y89.1 o30 o31 false true))) ((impl_CompareWords k o30 o31).bind fun y86 => (if y86.2 = true then (laws_FnExactCompareWords_p10 k a1 a2 o29 y86.1 o30 o31 true false) else (laws_FnExactCompareWords_p10 k a1 a2 o29 y86.1 o30 o31 false false))))
set_option maxHeartbeats 4000000 in
set_option maxRecDepth 100000 in
theorem laws_FnExactCompareWords_p9_ct {k : Nat} {a1 : Rw} {a2 : Rw} {o29 : Int} {o30 : Rw} {o31 : Rw} {v34 : Bool} {r : Bool} (h : laws_FnExactCompareWords_p9 k a1 a2 o29 o30 o31 v34 = some r) : X prog 0 (tlF f11 9) (mk 58 [(2, .ptr 128 0), (3, .ptr 192 0), (6, .d (D.int .i64 o29)), (7, .d (D.bool v34)), (8, .ptr 512 0), (9, .ptr 576 0)] [(128, .box 46 [.d (D.sl a1)]), (192, .box 46 [.d (D.sl a2)]), (512, .box 56 [.os 1109000 o30.length]), (576, .box 56 [.os 1109001 o31.length]), (1109000, .arr 111 true o30), (1109001, .arr 111 true o31)]) (finK prog f11 0 (.d (D.bool r)) (⟨[], []⟩)) := by
  rw [laws_FnExactCompareWords_p9] at h
  cases v34
  · replace h := condF h
    conv => whnf
    refine Take.all (rfl) ?_
    conv => whnf
    refine Take.all (rfl) ?_
    conv => whnf
    obtain ⟨y86, e87, h⟩ := bind_ex h
    refine CallOk.of (impl_CompareWords_ct e87) ?_
    conv => whnf
    refine spl (fun g88 => ?_) (fun g88 => ?_)
    · replace h := iteT h g88
      conv => whnf
      exact CutK.piece (laws_FnExactCompareWords_p10_ct  h) [some 128, some 192, some 512, some 576, some 1109000, some 1109001] [] ⟨⟨rfl, rfl⟩, ⟨rfl, ⟨rfl, rfl, trivial⟩, ⟨rfl, rfl, trivial⟩, ⟨rfl, ⟨rfl, rfl⟩, trivial⟩, ⟨rfl, ⟨rfl, rfl⟩, trivial⟩, ⟨rfl, rfl, rows_same⟩, ⟨rfl, rfl, rows_same⟩, trivial⟩, ⟨rfl, rfl⟩, ⟨rfl, rfl⟩, rfl, rfl, ⟨rfl, rfl⟩, ⟨rfl, rfl⟩, rfl, rfl, trivial⟩
    · replace h := iteF h g88
      conv => whnf
      exact CutK.piece (laws_FnExactCompareWords_p10_ct  h) [some 128, some 192, some 512, some 576, some 1109000, some 1109001] [] ⟨⟨rfl, rfl⟩, ⟨rfl, ⟨rfl, rfl, trivial⟩, ⟨rfl, rfl, trivial⟩, ⟨rfl, ⟨rfl, rfl⟩, trivial⟩, ⟨rfl, ⟨rfl, rfl⟩, trivial⟩, ⟨rfl, rfl, rows_same⟩, ⟨rfl, rfl, rows_same⟩, trivial⟩, ⟨rfl, rfl⟩, ⟨rfl, rfl⟩, rfl, rfl, ⟨rfl, rfl⟩, ⟨rfl, rfl⟩, rfl, rfl, trivial⟩
  · replace h := condT h
    conv => whnf
    refine Take.all (rfl) ?_
    conv => whnf
    refine Take.all (rfl) ?_
    conv => whnf
    obtain ⟨y89, e90, h⟩ := bind_ex h
    refine CallOk.of (impl_CompareWords_ct e90) ?_
    conv => whnf
    refine spl (fun g91 => ?_) (fun g91 => ?_)
    · replace h := iteT h g91
      conv => whnf
      exact CutK.piece (laws_FnExactCompareWords_p10_ct  h) [some 128, some 192, some 512, some 576, some 1109000, some 1109001] [] ⟨⟨rfl, rfl⟩, ⟨rfl, ⟨rfl, rfl, trivial⟩, ⟨rfl, rfl, trivial⟩, ⟨rfl, ⟨rfl, rfl⟩, trivial⟩, ⟨rfl, ⟨rfl, rfl⟩, trivial⟩, ⟨rfl, rfl, rows_same⟩, ⟨rfl, rfl, rows_same⟩, trivial⟩, ⟨rfl, rfl⟩, ⟨rfl, rfl⟩, rfl, rfl, ⟨rfl, rfl⟩, ⟨rfl, rfl⟩, rfl, rfl, trivial⟩
    · replace h := iteF h g91
      conv => whnf
      exact CutK.piece (laws_FnExactCompareWords_p10_ct  h) [some 128, some 192, some 512, some 576, some 1109000, some 1109001] [] ⟨⟨rfl, rfl⟩, ⟨rfl, ⟨rfl, rfl, trivial⟩, ⟨rfl, rfl, trivial⟩, ⟨rfl, ⟨rfl, rfl⟩, trivial⟩, ⟨rfl, ⟨rfl, rfl⟩, trivial⟩, ⟨rfl, rfl, rows_same⟩, ⟨rfl, rfl, rows_same⟩, trivial⟩, ⟨rfl, rfl⟩, ⟨rfl, rfl⟩, rfl, rfl, ⟨rfl, rfl⟩, ⟨rfl, rfl⟩, rfl, rfl, trivial⟩
def laws_FnExactCompareWords_p8 (k : Nat) (a1 : Rw) (a2 : Rw) (o22 : Int) (o23 : Rw) (v26 : Bool) : Option Bool :=
  (cond v26 ((laws_toWord k a2).bind fun y94 => (laws_FnExactCompareWords_p9 k a1 a2 o22 o23 y94 true)) ((laws_toWord k a2).bind fun y92 => (laws_FnExactCompareWords_p9 k a1 a2 o22 o23 y92 false)))
set_option maxHeartbeats 4000000 in
set_option maxRecDepth 100000 in
theorem laws_FnExactCompareWords_p8_ct {k : Nat} {a1 : Rw} {a2 : Rw} {o22 : Int} {o23 : Rw} {v26 : Bool} {r : Bool} (h : laws_FnExactCompareWords_p8 k a1 a2 o22 o23 v26 = some r) : X prog 0 (tlF f11 8) (mk 58 [(2, .ptr 128 0), (3, .ptr 192 0), (6, .d (D.int .i64 o22)), (7, .d (D.bool v26)), (8, .ptr 512 0)] [(128, .box 46 [.d (D.sl a1)]), (192, .box 46 [.d (D.sl a2)]), (512, .box 56 [.os 1104000 o23.length]), (1104000, .arr 111 true o23)]) (finK prog f11 0 (.d (D.bool r)) (⟨[], []⟩)) := by
  rw [laws_FnExactCompareWords_p8] at h
  cases v26
  · replace h := condF h
    conv => whnf
    obtain ⟨y92, e93, h⟩ := bind_ex h
    refine CallOk.of (laws_toWord_ct e93) ?_
    conv => whnf
    exact CutK.piece (laws_FnExactCompareWords_p9_ct  h) [some 128, some 192, some 512, some 576, some 1104000, some 2112] [] ⟨⟨rfl, rfl⟩, ⟨rfl, ⟨rfl, rfl, trivial⟩, ⟨rfl, rfl, trivial⟩, ⟨rfl, ⟨rfl, rfl⟩, trivial⟩, ⟨rfl, ⟨rfl, rfl⟩, trivial⟩, ⟨rfl, rfl, rows_same⟩, ⟨rfl, rfl, rows_same⟩, trivial⟩, ⟨rfl, rfl⟩, ⟨rfl, rfl⟩, rfl, rfl, ⟨rfl, rfl⟩, ⟨rfl, rfl⟩, trivial⟩
  · replace h := condT h
    conv => whnf
    obtain ⟨y94, e95, h⟩ := bind_ex h
    refine CallOk.of (laws_toWord_ct e95) ?_
    conv => whnf
    exact CutK.piece (laws_FnExactCompareWords_p9_ct  h) [some 128, some 192, some 512, some 576, some 1104000, some 2112] [] ⟨⟨rfl, rfl⟩, ⟨rfl, ⟨rfl, rfl, trivial⟩, ⟨rfl, rfl, trivial⟩, ⟨rfl, ⟨rfl, rfl⟩, trivial⟩, ⟨rfl, ⟨rfl, rfl⟩, trivial⟩, ⟨rfl, rfl, rows_same⟩, ⟨rfl, rfl, rows_same⟩, trivial⟩, ⟨rfl, rfl⟩, ⟨rfl, rfl⟩, rfl, rfl, ⟨rfl, rfl⟩, ⟨rfl, rfl⟩, trivial⟩
def laws_FnExactCompareWords_p7 (k : Nat) (a1 : Rw) (a2 : Rw) (o18 : Int) (v19 : Bool) : Option Bool :=
  (cond v19 ((laws_toWord k a1).bind fun y98 => (laws_FnExactCompareWords_p8 k a1 a2 o18 y98 true)) ((laws_toWord k a1).bind fun y96 => (laws_FnExactCompareWords_p8 k a1 a2 o18 y96 false)))
set_option maxHeartbeats 4000000 in
set_option maxRecDepth 100000 in
theorem laws_FnExactCompareWords_p7_ct {k : Nat} {a1 : Rw} {a2 : Rw} {o18 : Int} {v19 : Bool} {r : Bool} (h : laws_FnExactCompareWords_p7 k a1 a2 o18 v19 = some r) : X prog 0 (tlF f11 7) (mk 58 [(2, .ptr 128 0), (3, .ptr 192 0), (6, .d (D.int .i64 o18)), (7, .d (D.bool v19))] [(128, .box 46 [.d (D.sl a1)]), (192, .box 46 [.d (D.sl a2)])]) (finK prog f11 0 (.d (D.bool r)) (⟨[], []⟩)) := by
  rw [laws_FnExactCompareWords_p7] at h
  cases v19
  · replace h := condF h
    conv => whnf
    obtain ⟨y96, e97, h⟩ := bind_ex h
    refine CallOk.of (laws_toWord_ct e97) ?_
    conv => whnf
    exact CutK.piece (laws_FnExactCompareWords_p8_ct  h) [some 128, some 192, some 512, some 1984] [] ⟨⟨rfl, rfl⟩, ⟨rfl, ⟨rfl, rfl, trivial⟩, ⟨rfl, rfl, trivial⟩, ⟨rfl, ⟨rfl, rfl⟩, trivial⟩, ⟨rfl, rfl, rows_same⟩, trivial⟩, ⟨rfl, rfl⟩, ⟨rfl, rfl⟩, rfl, rfl, ⟨rfl, rfl⟩, trivial⟩
  · replace h := condT h
    conv => whnf
    obtain ⟨y98, e99, h⟩ := bind_ex h
    refine CallOk.of (laws_toWord_ct e99) ?_
    conv => whnf
    exact CutK.piece (laws_FnExactCompareWords_p8_ct  h) [some 128, some 192, some 512, some 1984] [] ⟨⟨rfl, rfl⟩, ⟨rfl, ⟨rfl, rfl, trivial⟩, ⟨rfl, rfl, trivial⟩, ⟨rfl, ⟨rfl, rfl⟩, trivial⟩, ⟨rfl, rfl, rows_same⟩, trivial⟩, ⟨rfl, rfl⟩, ⟨rfl, rfl⟩, rfl, rfl, ⟨rfl, rfl⟩, trivial⟩
def laws_FnExactCompareWords_p5 (k : Nat) (a1 : Rw) (a2 : Rw) (o9 : Int) : Option Bool :=
  (if o9 < (0 : Int) then some true else ((laws_toWord k a1).bind fun y101 => ((laws_toWord k a2).bind fun y103 => ((spec_CompareWords k y101 y103).bind fun y105 => (if y105.2 = true then (laws_FnExactCompareWords_p7 k a1 a2 y105.1 true) else (laws_FnExactCompareWords_p7 k a1 a2 y105.1 false))))))
set_option maxHeartbeats 4000000 in
set_option maxRecDepth 100000 in
theorem laws_FnExactCompareWords_p5_ct {k : Nat} {a1 : Rw} {a2 : Rw} {o9 : Int} {r : Bool} (h : laws_FnExactCompareWords_p5 k a1 a2 o9 = some r) : X prog 0 (tlF f11 5) (mk 58 [(2, .ptr 128 0), (3, .ptr 192 0), (5, .d (D.int .i64 o9))] [(128, .box 46 [.d (D.sl a1)]), (192, .box 46 [.d (D.sl a2)])]) (finK prog f11 0 (.d (D.bool r)) (⟨[], []⟩)) := by
  rw [laws_FnExactCompareWords_p5] at h
  conv => whnf
  refine splD (fun g100 => ?_) (fun g100 => ?_)
  · replace h := iteP h g100
    conv => whnf
    cases h
    exact Done.of [] [] rfl rfl ⟨⟨rfl, rfl⟩, ⟨rfl, trivial⟩, rfl, trivial⟩
  · replace h := iteN h g100
    conv => whnf
    obtain ⟨y101, e102, h⟩ := bind_ex h
    refine CallOk.of (laws_toWord_ct e102) ?_
    conv => whnf
    obtain ⟨y103, e104, h⟩ := bind_ex h
    refine CallOk.of (laws_toWord_ct e104) ?_
    conv => whnf
    refine Take.all (rfl) ?_
    conv => whnf
    refine Take.all (rfl) ?_
    conv => whnf
    obtain ⟨y105, e106, h⟩ := bind_ex h
    refine CallOk.of (spec_CompareWords_ct e106) ?_
    conv => whnf
    refine spl (fun g107 => ?_) (fun g107 => ?_)
    · replace h := iteT h g107
      conv => whnf
      exact CutK.piece (laws_FnExactCompareWords_p7_ct  h) [some 128, some 192] [] ⟨⟨rfl, rfl⟩, ⟨rfl, ⟨rfl, rfl, trivial⟩, ⟨rfl, rfl, trivial⟩, trivial⟩, ⟨rfl, rfl⟩, ⟨rfl, rfl⟩, rfl, rfl, trivial⟩
    · replace h := iteF h g107
      conv => whnf
      exact CutK.piece (laws_FnExactCompareWords_p7_ct  h) [some 128, some 192] [] ⟨⟨rfl, rfl⟩, ⟨rfl, ⟨rfl, rfl, trivial⟩, ⟨rfl, rfl, trivial⟩, trivial⟩, ⟨rfl, rfl⟩, ⟨rfl, rfl⟩, rfl, rfl, trivial⟩
def laws_FnExactCompareWords_p3 (k : Nat) (a1 : Rw) (a2 : Rw) (o5 : Int) : Option Bool :=
  (if o5 < (0 : Int) then some true else ((laws_szWord k a2 o5).bind fun y109 => (laws_FnExactCompareWords_p5 k a1 a2 y109)))
set_option maxHeartbeats 4000000 in
set_option maxRecDepth 100000 in
theorem laws_FnExactCompareWords_p3_ct {k : Nat} {a1 : Rw} {a2 : Rw} {o5 : Int} {r : Bool} (h : laws_FnExactCompareWords_p3 k a1 a2 o5 = some r) : X prog 0 (tlF f11 3) (mk 58 [(2, .ptr 128 0), (3, .ptr 192 0), (5, .d (D.int .i64 o5))] [(128, .box 46 [.d (D.sl a1)]), (192, .box 46 [.d (D.sl a2)])]) (finK prog f11 0 (.d (D.bool r)) (⟨[], []⟩)) := by
  rw [laws_FnExactCompareWords_p3] at h
  conv => whnf
  refine splD (fun g108 => ?_) (fun g108 => ?_)
  · replace h := iteP h g108
    conv => whnf
    cases h
    exact Done.of [] [] rfl rfl ⟨⟨rfl, rfl⟩, ⟨rfl, trivial⟩, rfl, trivial⟩
  · replace h := iteN h g108
    conv => whnf
    obtain ⟨y109, e110, h⟩ := bind_ex h
    refine CallOk.of (laws_szWord_ct e110) ?_
    conv => whnf
    exact CutK.piece (laws_FnExactCompareWords_p5_ct  h) [some 128, some 192] [] ⟨⟨rfl, rfl⟩, ⟨rfl, ⟨rfl, rfl, trivial⟩, ⟨rfl, rfl, trivial⟩, trivial⟩, ⟨rfl, rfl⟩, ⟨rfl, rfl⟩, rfl, trivial⟩
def laws_FnExactCompareWords (k : Nat) (a1 : Rw) (a2 : Rw) : Option Bool :=
  ((laws_szWord k a1 1048576).bind fun y111 => (laws_FnExactCompareWords_p3 k a1 a2 y111))
set_option maxHeartbeats 4000000 in
set_option maxRecDepth 100000 in
theorem laws_FnExactCompareWords_ct {k : Nat} {a1 : Rw} {a2 : Rw} {r : Bool} (h : laws_FnExactCompareWords k a1 a2 = some r) : Ct prog 11 [.agg [.d (D.sl a1)], .agg [.d (D.sl a2)]] (⟨[], []⟩) (.d (D.bool r)) (⟨[], []⟩) := by
  rw [laws_FnExactCompareWords] at h
  refine Ct.of (c := _) mixed func11 ⟨rfl, rfl, rfl⟩ ?_ rfl
  conv => whnf
  obtain ⟨y111, e112, h⟩ := bind_ex h
  refine CallOk.of (laws_szWord_ct e112) ?_
  conv => whnf
  exact CutK.piece (laws_FnExactCompareWords_p3_ct  h) [some 128, some 192] [] ⟨⟨rfl, rfl⟩, ⟨rfl, ⟨rfl, rfl, trivial⟩, ⟨rfl, rfl, trivial⟩, trivial⟩, ⟨rfl, rfl⟩, ⟨rfl, rfl⟩, rfl, trivial⟩
end
end Go.Proofs.Try
