/- Printed by program (axgen): pure functions, and that the Go functions compute them. -/
import Derived.Test.YtnphoocghfgjcaaWtoG0
set_option linter.unusedVariables false
set_option linter.unusedSimpArgs false
namespace Go.Proofs.Try
open Go Go.AX
noncomputable section
def spec_odTimes_p4 (o69 : Rw) : Option Rw :=
  some o69
set_option maxHeartbeats 4000000 in
set_option maxRecDepth 100000 in
theorem spec_odTimes_p4_ct {o69 : Rw} {r : Rw} (h : spec_odTimes_p4 o69 = some r) : X prog 0 (tlF f174 4) (mk 59 [(4, .ptr 256 0), (5, .ptr 320 0)] [(256, .box 28 [.es]), (320, .box 28 [.os 1084000 o69.length]), (1084000, .arr 119 false o69)]) (finK prog f174 0 (.agg [.os 8 r.length]) (⟨[], [(119, false, r)]⟩)) := by
  rw [spec_odTimes_p4] at h
  conv => whnf
  cases h
  exact Done.of [some 1084000] [] rfl rfl ⟨⟨rfl, rfl⟩, ⟨rfl, ⟨rfl, rfl, rows_same⟩, trivial⟩, ⟨⟨rfl, rfl⟩, trivial⟩, trivial⟩
def spec_odTimes_l0 (k : Nat) (a1 : Rw) (a2 : Rw) (K0 : Rw → Option Rw) : Rw → Rw → Option Rw
  | [], v89 => (K0 v89)
  | cs :: rest, v89 => (cell_si cs fun x133 x134 => (row_si a1 0 fun x136 x137 => ((spec_odPlus k x136 x133).bind fun y140 => ((spec_odZero x133).bind fun y142 => (if y142 = true then (if 0 ≤ (1 : Int) ∧ (1 : Int) ≤ (a1.length : Int) ∧ (∀ cs ∈ a1, cs.length = 2) then (if ([[D.sl y140, D.int .i64 (IntKind.i64.wrap (x137 * x134))]] : Rw).length + (a1.drop (1 : Int).toNat).length ≤ cap ∧ (∀ cs ∈ (a1.drop (1 : Int).toNat), cs.length = 2) then ((spec_odPlus k v89 (([[D.sl y140, D.int .i64 (IntKind.i64.wrap (x137 * x134))]]) ++ (a1.drop (1 : Int).toNat))).bind fun y147 => (spec_odTimes_l0 k a1 a2 K0 rest y147)) else none) else none) else ((spec_odPlus k v89 ([[D.sl y140, D.int .i64 x134]] : Rw)).bind fun y149 => (spec_odTimes_l0 k a1 a2 K0 rest y149)))))))
set_option maxRecDepth 100000 in
theorem spec_odTimes_l0_ct {k : Nat} {a1 : Rw} {a2 : Rw} {K0 : Rw → Option Rw} {r : Rw} (hx : a2.length ≤ cap) : ∀ (rest : Rw) (v88n : Nat) (v89 : Rw), a2.drop v88n = rest → spec_odTimes_l0 k a1 a2 K0 rest v89 = some r → LoopOk prog 0 (lp f174 0) (mk 59 [(2, .ptr 128 0), (4, .ptr 256 0), (5, .ptr 320 0), (14, .d (D.sl a2)), (15, .d (D.int .i64 (a2.length : Int))), (16, .d (D.int .i64 (v88n : Int)))] [(128, .box 28 [.d (D.sl a1)]), (256, .box 28 [.es]), (320, .box 28 [.os 64000 v89.length]), (64000, .arr 119 false v89)]) (LoopEnd prog f174 0 59 (.agg [.os 8 r.length]) (⟨[], [(119, false, r)]⟩) (fun i ts os => (i = 0 ∧ ∃ v112 : Rw, K0 v112 = some r ∧ ts = [(4, .ptr 256 0), (5, .ptr 320 0)] ∧ os = [(256, .box 28 [.es]), (320, .box 28 [.os 67001 v112.length]), (67001, .arr 119 false v112)])))
  | [], v88n, v89, hd, h => by
      rw [spec_odTimes_l0] at h
      have hn := drop_nil hd
      refine LoopOk.step ?_
      conv => whnf
      refine splD (fun g => absurd g hn) (fun _ => ?_)
      conv => whnf
      exact ⟨_, _, [some 256, some 320, some 64000], [], ⟨rfl, _, h, rfl, rfl⟩, ⟨⟨rfl, rfl⟩, ⟨rfl, ⟨rfl, trivial, trivial⟩, ⟨rfl, ⟨rfl, rfl⟩, trivial⟩, ⟨rfl, rfl, rows_same⟩, trivial⟩, ⟨rfl, rfl⟩, ⟨rfl, rfl⟩, trivial⟩⟩
  | cs :: rest, v88n, v89, hd, h => by
      rw [spec_odTimes_l0] at h
      obtain ⟨hrow, hd1, hlt⟩ := drop_cons hd
      refine LoopOk.step ?_
      conv => whnf
      refine splD (fun _ => ?_) (fun g => absurd hlt g)
      conv => whnf
      obtain ⟨x133, x134, e135, h⟩ := cell_si_ex h
      rw [e135] at hrow
      refine Req.of (Int.natCast_nonneg _) ?_
      refine Row.of _ hrow ?_
      conv => whnf
      obtain ⟨g139, x136, x137, e138, h⟩ := row_si_ex h
      refine Req.of g139 ?_
      refine Row.of _ e138 ?_
      conv => whnf
      obtain ⟨y140, e141, h⟩ := bind_ex h
      refine CallOk.of (spec_odPlus_ct e141) ?_
      conv => whnf
      refine CutK.norm [2, 4, 5, 7, 8, 14, 15, 16] [128, 256, 320, 448, 512, 1728, 64000] ?_
      conv => whnf
      obtain ⟨y142, e143, h⟩ := bind_ex h
      refine CallOk.of (spec_odZero_ct e143) ?_
      conv => whnf
      refine spl (fun g144 => ?_) (fun g144 => ?_)
      · replace h := iteT h g144
        conv => whnf
        refine CutK.norm [2, 4, 5, 7, 8, 14, 15, 16, 33] [128, 256, 320, 448, 512, 1728, 64000] ?_
        conv => whnf
        refine Req.of g139 ?_
        refine Row.of _ e138 ?_
        conv => whnf
        refine Take.all (rfl) ?_
        conv => whnf
        obtain ⟨g145, h⟩ := req_ex h
        refine Req.of g145 ?_
        conv => whnf
        refine Take.all (by first | rfl | exact List.length_append.symm | (simp; done) | omega) ?_
        conv => whnf
        obtain ⟨g146, h⟩ := req_ex h
        refine Req.of (room (b := 32) (by decide) g146.1 g146.2) ?_
        conv => whnf
        refine Take.all (rfl) ?_
        conv => whnf
        refine Take.all (by first | rfl | exact List.length_append.symm | (simp; done) | omega) ?_
        conv => whnf
        obtain ⟨y147, e148, h⟩ := bind_ex h
        refine CallOk.of (spec_odPlus_ct e148) ?_
        conv => whnf
        refine CutK.norm [2, 4, 5, 14, 15, 16] [128, 256, 320, 3264] ?_
        conv => whnf
        exact LoopOk.back (spec_odTimes_l0_ct hx rest (v88n + 1) _ hd1 h) [some 128, some 256, some 320, some 3264] [] ⟨⟨rfl, rfl⟩, ⟨rfl, ⟨rfl, rfl, trivial⟩, ⟨rfl, trivial, trivial⟩, ⟨rfl, ⟨rfl, rfl⟩, trivial⟩, ⟨rfl, rfl, rows_same⟩, trivial⟩, ⟨rfl, rfl⟩, ⟨rfl, rfl⟩, ⟨rfl, rfl⟩, rfl, rfl, i64eq (wrap_up hlt hx), trivial⟩
      · replace h := iteF h g144
        conv => whnf
        refine CutK.norm [2, 4, 5, 7, 8, 14, 15, 16, 33] [128, 256, 320, 448, 512, 1728, 64000] ?_
        conv => whnf
        refine Take.all (rfl) ?_
        conv => whnf
        refine Take.all (rfl) ?_
        conv => whnf
        refine Take.all (by first | rfl | exact List.length_append.symm | (simp; done) | omega) ?_
        conv => whnf
        obtain ⟨y149, e150, h⟩ := bind_ex h
        refine CallOk.of (spec_odPlus_ct e150) ?_
        conv => whnf
        refine CutK.norm [2, 4, 5, 14, 15, 16] [128, 256, 320, 3584] ?_
        conv => whnf
        exact LoopOk.back (spec_odTimes_l0_ct hx rest (v88n + 1) _ hd1 h) [some 128, some 256, some 320, some 3584] [] ⟨⟨rfl, rfl⟩, ⟨rfl, ⟨rfl, rfl, trivial⟩, ⟨rfl, trivial, trivial⟩, ⟨rfl, ⟨rfl, rfl⟩, trivial⟩, ⟨rfl, rfl, rows_same⟩, trivial⟩, ⟨rfl, rfl⟩, ⟨rfl, rfl⟩, ⟨rfl, rfl⟩, rfl, rfl, i64eq (wrap_up hlt hx), trivial⟩
def spec_odTimes_p3 (k : Nat) (a1 : Rw) (a2 : Rw) : Option Rw :=
  (if a2.length ≤ cap then (spec_odTimes_l0 k a1 a2 (fun (v112 : Rw) => (spec_odTimes_p4 v112)) a2 ([] : Rw)) else none)
set_option maxHeartbeats 4000000 in
set_option maxRecDepth 100000 in
theorem spec_odTimes_p3_ct {k : Nat} {a1 : Rw} {a2 : Rw} {r : Rw} (h : spec_odTimes_p3 k a1 a2 = some r) : X prog 0 (tlF f174 3) (mk 59 [(2, .ptr 128 0), (3, .ptr 192 0), (4, .ptr 256 0), (5, .ptr 320 0)] [(128, .box 28 [.d (D.sl a1)]), (192, .box 28 [.d (D.sl a2)]), (256, .box 28 [.es]), (320, .box 28 [.es])]) (finK prog f174 0 (.agg [.os 8 r.length]) (⟨[], [(119, false, r)]⟩)) := by
  rw [spec_odTimes_p3] at h
  conv => whnf
  obtain ⟨g151, h⟩ := req_ex h
  refine LoopOk.into (spec_odTimes_l0_ct  g151 _ _ _ rfl h) [some 128, some 256, some 320, none] [] ⟨⟨rfl, rfl⟩, ⟨rfl, ⟨rfl, rfl, trivial⟩, ⟨rfl, trivial, trivial⟩, ⟨rfl, ⟨rfl, rfl⟩, trivial⟩, rfl, trivial⟩, ⟨rfl, rfl⟩, ⟨rfl, rfl⟩, ⟨rfl, rfl⟩, rfl, rfl, rfl, trivial⟩ ?_ (fun _ hs => hs)
  rintro i ts os ⟨rfl, v112, h, rfl, rfl⟩
  conv => whnf
  exact CutK.piece (spec_odTimes_p4_ct  h) [some 256, some 320, some 67001] [] ⟨⟨rfl, rfl⟩, ⟨rfl, ⟨rfl, trivial, trivial⟩, ⟨rfl, ⟨rfl, rfl⟩, trivial⟩, ⟨rfl, rfl, rows_same⟩, trivial⟩, ⟨rfl, rfl⟩, ⟨rfl, rfl⟩, trivial⟩
def spec_odTimes (k : Nat) (a1 : Rw) (a2 : Rw) : Option Rw :=
  ((spec_odZero a1).bind fun y152 => (if y152 = true then some ([] : Rw) else (spec_odTimes_p3 k a1 a2)))
set_option maxHeartbeats 4000000 in
set_option maxRecDepth 100000 in
theorem spec_odTimes_ct {k : Nat} {a1 : Rw} {a2 : Rw} {r : Rw} (h : spec_odTimes k a1 a2 = some r) : Ct prog 174 [.agg [.d (D.sl a1)], .agg [.d (D.sl a2)]] (⟨[], []⟩) (.agg [.os 8 r.length]) (⟨[], [(119, false, r)]⟩) := by
  rw [spec_odTimes] at h
  refine Ct.of (c := _) mixed func174 ⟨rfl, rfl, rfl⟩ ?_ rfl
  conv => whnf
  obtain ⟨y152, e153, h⟩ := bind_ex h
  refine CallOk.of (spec_odZero_ct e153) ?_
  conv => whnf
  refine spl (fun g154 => ?_) (fun g154 => ?_)
  · replace h := iteT h g154
    conv => whnf
    refine CutK.norm [2, 3, 4, 5, 11] [128, 192, 256, 320] ?_
    conv => whnf
    cases h
    exact Done.of [none] [] rfl rfl ⟨⟨rfl, rfl⟩, ⟨rfl, rfl, trivial⟩, ⟨⟨rfl, rfl⟩, trivial⟩, trivial⟩
  · replace h := iteF h g154
    conv => whnf
    refine CutK.norm [2, 3, 4, 5, 11] [128, 192, 256, 320] ?_
    conv => whnf
    exact CutK.piece (spec_odTimes_p3_ct  h) [some 128, some 192, some 256, some 320] [] ⟨⟨rfl, rfl⟩, ⟨rfl, ⟨rfl, rfl, trivial⟩, ⟨rfl, rfl, trivial⟩, ⟨rfl, trivial, trivial⟩, ⟨rfl, trivial, trivial⟩, trivial⟩, ⟨rfl, rfl⟩, ⟨rfl, rfl⟩, ⟨rfl, rfl⟩, ⟨rfl, rfl⟩, trivial⟩

def spec_woOmega_l0 (k : Nat) (a1 : Rw) (y2 : Rw) (K0 : Rw → Option Rw) : Rw → Rw → Rw → Option Rw
  | [], v19, v20 => (K0 v19)
  | cs :: rest, v19, v20 => (cell_bs cs fun x70 x71 => (if x70 = true then ((spec_odPlus k v20 x71).bind fun y74 => ((spec_odTerm y74 1).bind fun y76 => ((spec_woPut k v19 true y76).bind fun y78 => (spec_woOmega_l0 k a1 y2 K0 rest y78 y74)))) else ((spec_odPlus k v20 y2).bind fun y80 => ((spec_odTerm y80 1).bind fun y82 => ((spec_odTimes k y82 x71).bind fun y84 => ((spec_woPut k v19 false y84).bind fun y86 => (spec_woOmega_l0 k a1 y2 K0 rest y86 v20)))))))
set_option maxRecDepth 100000 in
theorem spec_woOmega_l0_ct {k : Nat} {a1 : Rw} {y2 : Rw} {K0 : Rw → Option Rw} {r : Rw} (hx : a1.length ≤ cap) : ∀ (rest : Rw) (v18n : Nat) (v19 : Rw) (v20 : Rw), a1.drop v18n = rest → spec_woOmega_l0 k a1 y2 K0 rest v19 v20 = some r → LoopOk prog 0 (lp f115 0) (mk 41 [(2, .ptr 128 0), (3, .ptr 192 0), (4, .ptr 256 0), (5, .ptr 320 0), (14, .d (D.sl a1)), (15, .d (D.int .i64 (a1.length : Int))), (16, .d (D.int .i64 (v18n : Int)))] [(128, .box 56 [.es]), (192, .box 28 [.os 64000 y2.length]), (256, .box 56 [.os 64001 v19.length]), (320, .box 28 [.d (D.sl v20)]), (64000, .frz y2), (64001, .arr 111 false v19)]) (LoopEnd prog f115 0 41 (.agg [.os 8 r.length]) (⟨[], [(111, false, r)]⟩) (fun i ts os => (i = 0 ∧ ∃ v49 : Rw, K0 v49 = some r ∧ ts = [(2, .ptr 128 0), (4, .ptr 256 0)] ∧ os = [(128, .box 56 [.es]), (256, .box 56 [.os 67002 v49.length]), (67002, .arr 111 false v49)])))
  | [], v18n, v19, v20, hd, h => by
      rw [spec_woOmega_l0] at h
      have hn := drop_nil hd
      refine LoopOk.step ?_
      conv => whnf
      refine splD (fun g => absurd g hn) (fun _ => ?_)
      conv => whnf
      exact ⟨_, _, [some 128, some 256, some 64001], [], ⟨rfl, _, h, rfl, rfl⟩, ⟨⟨rfl, rfl⟩, ⟨rfl, ⟨rfl, trivial, trivial⟩, ⟨rfl, ⟨rfl, rfl⟩, trivial⟩, ⟨rfl, rfl, rows_same⟩, trivial⟩, ⟨rfl, rfl⟩, ⟨rfl, rfl⟩, trivial⟩⟩
  | cs :: rest, v18n, v19, v20, hd, h => by
      rw [spec_woOmega_l0] at h
      obtain ⟨hrow, hd1, hlt⟩ := drop_cons hd
      refine LoopOk.step ?_
      conv => whnf
      refine splD (fun _ => ?_) (fun g => absurd hlt g)
      conv => whnf
      obtain ⟨x70, x71, e72, h⟩ := cell_bs_ex h
      rw [e72] at hrow
      refine Req.of (Int.natCast_nonneg _) ?_
      refine Row.of _ hrow ?_
      conv => whnf
      refine spl (fun g73 => ?_) (fun g73 => ?_)
      · replace h := iteT h g73
        conv => whnf
        refine splT ?_
        conv => whnf
        obtain ⟨y74, e75, h⟩ := bind_ex h
        refine CallOk.of (spec_odPlus_ct e75) ?_
        conv => whnf
        refine CutK.norm [2, 3, 4, 5, 14, 15, 16] [128, 192, 256, 320, 1600, 64000, 64001] ?_
        conv => whnf
        refine Take.all (rfl) ?_
        conv => whnf
        obtain ⟨y76, e77, h⟩ := bind_ex h
        refine CallOk.of (spec_odTerm_ct e77) ?_
        conv => whnf
        refine Take.all (rfl) ?_
        conv => whnf
        refine Take.all (rfl) ?_
        conv => whnf
        obtain ⟨y78, e79, h⟩ := bind_ex h
        refine CallOk.of (spec_woPut_ct e79) ?_
        conv => whnf
        refine CutK.norm [2, 3, 4, 5, 14, 15, 16] [128, 192, 256, 320, 1600, 1856, 64000] ?_
        conv => whnf
        exact LoopOk.back (spec_woOmega_l0_ct hx rest (v18n + 1) _ _ hd1 h) [some 128, some 192, some 256, some 320, some 64000, some 1856] [] ⟨⟨rfl, rfl⟩, ⟨rfl, ⟨rfl, trivial, trivial⟩, ⟨rfl, ⟨rfl, rfl⟩, trivial⟩, ⟨rfl, ⟨rfl, rfl⟩, trivial⟩, ⟨rfl, ⟨Nat.le_of_eq rfl, eq_take rfl⟩, trivial⟩, rfl, ⟨rfl, rfl, rows_same⟩, trivial⟩, ⟨rfl, rfl⟩, ⟨rfl, rfl⟩, ⟨rfl, rfl⟩, ⟨rfl, rfl⟩, rfl, rfl, i64eq (wrap_up hlt hx), trivial⟩
      · replace h := iteF h g73
        conv => whnf
        refine splF ?_
        conv => whnf
        refine Take.all (rfl) ?_
        conv => whnf
        obtain ⟨y80, e81, h⟩ := bind_ex h
        refine CallOk.of (spec_odPlus_ct e81) ?_
        conv => whnf
        refine Take.all (rfl) ?_
        conv => whnf
        obtain ⟨y82, e83, h⟩ := bind_ex h
        refine CallOk.of (spec_odTerm_ct e83) ?_
        conv => whnf
        refine Take.all (rfl) ?_
        conv => whnf
        obtain ⟨y84, e85, h⟩ := bind_ex h
        refine CallOk.of (spec_odTimes_ct e85) ?_
        conv => whnf
        refine Take.all (rfl) ?_
        conv => whnf
        refine Take.all (rfl) ?_
        conv => whnf
        obtain ⟨y86, e87, h⟩ := bind_ex h
        refine CallOk.of (spec_woPut_ct e87) ?_
        conv => whnf
        refine CutK.norm [2, 3, 4, 5, 14, 15, 16] [128, 192, 256, 320, 2432, 64000] ?_
        conv => whnf
        exact LoopOk.back (spec_woOmega_l0_ct hx rest (v18n + 1) _ _ hd1 h) [some 128, some 192, some 256, some 320, some 64000, some 2432] [] ⟨⟨rfl, rfl⟩, ⟨rfl, ⟨rfl, trivial, trivial⟩, ⟨rfl, ⟨rfl, rfl⟩, trivial⟩, ⟨rfl, ⟨rfl, rfl⟩, trivial⟩, ⟨rfl, rfl, trivial⟩, rfl, ⟨rfl, rfl, rows_same⟩, trivial⟩, ⟨rfl, rfl⟩, ⟨rfl, rfl⟩, ⟨rfl, rfl⟩, ⟨rfl, rfl⟩, rfl, rfl, i64eq (wrap_up hlt hx), trivial⟩
def spec_woOmega (k : Nat) (a1 : Rw) : Option Rw :=
  ((spec_odInt 1).bind fun y2 => ((spec_woPut k ([] : Rw) true y2).bind fun y4 => (if a1.length ≤ cap then (spec_woOmega_l0 k a1 y2 (fun (v49 : Rw) => some v49) a1 y4 ([] : Rw)) else none)))
set_option maxHeartbeats 4000000 in
set_option maxRecDepth 100000 in
theorem spec_woOmega_ct {k : Nat} {a1 : Rw} {r : Rw} (h : spec_woOmega k a1 = some r) : Ct prog 115 [.agg [.d (D.sl a1)]] (⟨[], []⟩) (.agg [.os 8 r.length]) (⟨[], [(111, false, r)]⟩) := by
  rw [spec_woOmega] at h
  refine Ct.of (c := _) mixed func115 ⟨rfl, rfl, rfl⟩ ?_ rfl
  conv => whnf
  obtain ⟨y2, e3, h⟩ := bind_ex h
  refine CallOk.of (spec_odInt_ct e3) ?_
  conv => whnf
  refine CutK.norm [1, 2, 3] [64, 128, 192, 512] ?_
  conv => whnf
  refine Take.all (rfl) ?_
  conv => whnf
  obtain ⟨y4, e5, h⟩ := bind_ex h
  refine CallOk.of (spec_woPut_ct e5) ?_
  conv => whnf
  refine CutK.norm [1, 2, 3, 4] [64, 128, 192, 256, 512, 704] ?_
  conv => whnf
  obtain ⟨g88, h⟩ := req_ex h
  refine LoopOk.into (spec_woOmega_l0_ct  g88 _ _ _ _ rfl h) [some 128, some 192, some 256, some 320, some 512, some 704] [] ⟨⟨rfl, rfl⟩, ⟨rfl, ⟨rfl, trivial, trivial⟩, ⟨rfl, ⟨rfl, rfl⟩, trivial⟩, ⟨rfl, ⟨rfl, rfl⟩, trivial⟩, ⟨rfl, rfl, trivial⟩, rfl, ⟨rfl, rfl, rows_same⟩, trivial⟩, ⟨rfl, rfl⟩, ⟨rfl, rfl⟩, ⟨rfl, rfl⟩, ⟨rfl, rfl⟩, rfl, rfl, rfl, trivial⟩ ?_ (fun _ hs => hs)
  rintro i ts os ⟨rfl, v49, h, rfl, rfl⟩
  conv => whnf
  refine CutK.norm [2, 4] [128, 256, 67002] ?_
  conv => whnf
  cases h
  exact Done.of [some 67002] [] rfl rfl ⟨⟨rfl, rfl⟩, ⟨rfl, ⟨rfl, rfl, rows_same⟩, trivial⟩, ⟨⟨rfl, rfl⟩, trivial⟩, trivial⟩

def spec_odOwn_l0 (rec_spec_odOwn : Rw → Option Rw) (a1 : Rw) (K0 : Rw → Option Rw) : Rw → Rw → Option Rw
  | [], v10 => (K0 v10)
  | cs :: rest, v10 => (cell_si cs fun x28 x29 => ((rec_spec_odOwn x28).bind fun y31 => (if v10.length + 1 ≤ cap then (spec_odOwn_l0 rec_spec_odOwn a1 K0 rest (v10 ++ ([[D.sl y31, D.int .i64 x29]]))) else none)))
set_option maxRecDepth 100000 in
theorem spec_odOwn_l0_ct {rec_spec_odOwn : Rw → Option Rw} {a1 : Rw} {K0 : Rw → Option Rw} (hrec_spec_odOwn : ∀ (a1 : Rw) (r : Rw), rec_spec_odOwn a1 = some r → Ct prog 154 [.agg [.d (D.sl a1)]] (⟨[], []⟩) (.agg [.os 8 r.length]) (⟨[], [(119, true, r)]⟩)) {r : Rw} (hx : a1.length ≤ cap) : ∀ (rest : Rw) (v9n : Nat) (v10 : Rw), a1.drop v9n = rest → spec_odOwn_l0 rec_spec_odOwn a1 K0 rest v10 = some r → LoopOk prog 0 (lp f154 0) (mk 27 [(2, .ptr 128 0), (3, .ptr 192 0), (8, .d (D.sl a1)), (9, .d (D.int .i64 (a1.length : Int))), (10, .d (D.int .i64 (v9n : Int)))] [(128, .box 28 [.es]), (192, .box 28 [.os 64000 v10.length]), (64000, .arr 119 true v10)]) (LoopEnd prog f154 0 27 (.agg [.os 8 r.length]) (⟨[], [(119, true, r)]⟩) (fun i ts os => (i = 0 ∧ ∃ v19 : Rw, K0 v19 = some r ∧ ts = [(2, .ptr 128 0), (3, .ptr 192 0)] ∧ os = [(128, .box 28 [.es]), (192, .box 28 [.os 67001 v19.length]), (67001, .arr 119 true v19)])))
  | [], v9n, v10, hd, h => by
      rw [spec_odOwn_l0] at h
      have hn := drop_nil hd
      refine LoopOk.step ?_
      conv => whnf
      refine splD (fun g => absurd g hn) (fun _ => ?_)
      conv => whnf
      exact ⟨_, _, [some 128, some 192, some 64000], [], ⟨rfl, _, h, rfl, rfl⟩, ⟨⟨rfl, rfl⟩, ⟨rfl, ⟨rfl, trivial, trivial⟩, ⟨rfl, ⟨rfl, rfl⟩, trivial⟩, ⟨rfl, rfl, rows_same⟩, trivial⟩, ⟨rfl, rfl⟩, ⟨rfl, rfl⟩, trivial⟩⟩
  | cs :: rest, v9n, v10, hd, h => by
      rw [spec_odOwn_l0] at h
      obtain ⟨hrow, hd1, hlt⟩ := drop_cons hd
      refine LoopOk.step ?_
      conv => whnf
      refine splD (fun _ => ?_) (fun g => absurd hlt g)
      conv => whnf
      obtain ⟨x28, x29, e30, h⟩ := cell_si_ex h
      rw [e30] at hrow
      refine Req.of (Int.natCast_nonneg _) ?_
      refine Row.of _ hrow ?_
      conv => whnf
      obtain ⟨y31, e32, h⟩ := bind_ex h
      refine CallOk.of (hrec_spec_odOwn _ _ e32) ?_
      conv => whnf
      refine Take.all (rfl) ?_
      conv => whnf
      refine Take.all (rfl) ?_
      conv => whnf
      refine Take.all (by first | rfl | exact List.length_append.symm | (simp; done) | omega) ?_
      conv => whnf
      obtain ⟨g33, h⟩ := req_ex h
      refine Req.of (room (b := 32) (by decide) g33 (wide1 rfl wide0)) ?_
      conv => whnf
      refine CutK.go ?_
      conv => whnf
      exact LoopOk.back (spec_odOwn_l0_ct hrec_spec_odOwn hx rest (v9n + 1) _ hd1 h) [some 128, some 192, some 1472] [] ⟨⟨rfl, rfl⟩, ⟨rfl, ⟨rfl, trivial, trivial⟩, ⟨rfl, ⟨(by first | rfl | exact List.length_append.symm | (simp; done) | omega), rfl⟩, trivial⟩, ⟨rfl, rfl, rows_same⟩, trivial⟩, ⟨rfl, rfl⟩, ⟨rfl, rfl⟩, rfl, rfl, i64eq (wrap_up hlt hx), trivial⟩
def spec_odOwn_b (rec_spec_odOwn : Rw → Option Rw) (a1 : Rw) : Option Rw :=
  (if a1.length ≤ cap then (spec_odOwn_l0 rec_spec_odOwn a1 (fun (v19 : Rw) => some v19) a1 ([] : Rw)) else none)
set_option maxHeartbeats 4000000 in
set_option maxRecDepth 100000 in
theorem spec_odOwn_b_ct {rec_spec_odOwn : Rw → Option Rw} (hrec_spec_odOwn : ∀ (a1 : Rw) (r : Rw), rec_spec_odOwn a1 = some r → Ct prog 154 [.agg [.d (D.sl a1)]] (⟨[], []⟩) (.agg [.os 8 r.length]) (⟨[], [(119, true, r)]⟩)) {a1 : Rw} {r : Rw} (h : spec_odOwn_b rec_spec_odOwn a1 = some r) : Ct prog 154 [.agg [.d (D.sl a1)]] (⟨[], []⟩) (.agg [.os 8 r.length]) (⟨[], [(119, true, r)]⟩) := by
  rw [spec_odOwn_b] at h
  refine Ct.of (c := _) mixed func154 ⟨rfl, rfl, rfl⟩ ?_ rfl
  conv => whnf
  obtain ⟨g34, h⟩ := req_ex h
  refine LoopOk.into (spec_odOwn_l0_ct hrec_spec_odOwn g34 _ _ _ rfl h) [some 128, some 192, none] [] ⟨⟨rfl, rfl⟩, ⟨rfl, ⟨rfl, trivial, trivial⟩, ⟨rfl, ⟨rfl, rfl⟩, trivial⟩, rfl, trivial⟩, ⟨rfl, rfl⟩, ⟨rfl, rfl⟩, rfl, rfl, rfl, trivial⟩ ?_ (fun _ hs => hs)
  rintro i ts os ⟨rfl, v19, h, rfl, rfl⟩
  conv => whnf
  refine CutK.go ?_
  conv => whnf
  cases h
  exact Done.of [some 67001] [] rfl rfl ⟨⟨rfl, rfl⟩, ⟨rfl, ⟨rfl, rfl, rows_same⟩, trivial⟩, ⟨⟨rfl, rfl⟩, trivial⟩, trivial⟩
def spec_odOwn : Nat → Rw → Option Rw
  | 0, _ => none
  | k + 1, a1 => spec_odOwn_b (spec_odOwn k) a1
theorem spec_odOwn_ct' : ∀ (k : Nat) (a1 : Rw) (r : Rw), spec_odOwn k a1 = some r → Ct prog 154 [.agg [.d (D.sl a1)]] (⟨[], []⟩) (.agg [.os 8 r.length]) (⟨[], [(119, true, r)]⟩)
  | 0, _, _, h => by rw [spec_odOwn] at h; cases h
  | k + 1, _, _, h => by rw [spec_odOwn] at h; exact spec_odOwn_b_ct (spec_odOwn_ct' k) h
theorem spec_odOwn_ct {k : Nat} {a1 : Rw} {r : Rw} (h : spec_odOwn k a1 = some r) : Ct prog 154 [.agg [.d (D.sl a1)]] (⟨[], []⟩) (.agg [.os 8 r.length]) (⟨[], [(119, true, r)]⟩) := spec_odOwn_ct' k _ _ h

def spec_woIf_l0 (k : Nat) (a1 : Rw) (K0 : Rw → Option (Rw × Bool)) : Rw → Rw → Option (Rw × Bool)
  | [], v14 => (K0 v14)
  | cs :: rest, v14 => (cell_bs cs fun x42 x43 => (if x42 = true then ((spec_odOwn k x43).bind fun y46 => (if v14.length + 1 ≤ cap then (spec_woIf_l0 k a1 K0 rest (v14 ++ ([[D.bool true, D.sl y46]]))) else none)) else ((spec_odOwn k x43).bind fun y49 => (if v14.length + 1 ≤ cap then (spec_woIf_l0 k a1 K0 rest (v14 ++ ([[D.bool false, D.sl y49]]))) else none))))
set_option maxRecDepth 100000 in
theorem spec_woIf_l0_ct {k : Nat} {a1 : Rw} {K0 : Rw → Option (Rw × Bool)} {r : Rw × Bool} (hx : a1.length ≤ cap) : ∀ (rest : Rw) (v13n : Nat) (v14 : Rw), a1.drop v13n = rest → spec_woIf_l0 k a1 K0 rest v14 = some r → LoopOk prog 0 (lp f93 0) (mk 32 [(2, .ptr 128 0), (4, .ptr 256 0), (13, .d (D.sl a1)), (14, .d (D.int .i64 (a1.length : Int))), (15, .d (D.int .i64 (v13n : Int)))] [(128, .box 56 [.es]), (256, .box 56 [.os 64000 v14.length]), (64000, .arr 111 true v14)]) (LoopEnd prog f93 0 32 (.tup [.agg [.os 8 r.1.length], .d (D.bool r.2)]) (⟨[], [(111, true, r.1)]⟩) (fun i ts os => (i = 0 ∧ ∃ v29 : Rw, K0 v29 = some r ∧ ts = [(2, .ptr 128 0), (4, .ptr 256 0)] ∧ os = [(128, .box 56 [.es]), (256, .box 56 [.os 67001 v29.length]), (67001, .arr 111 true v29)])))
  | [], v13n, v14, hd, h => by
      rw [spec_woIf_l0] at h
      have hn := drop_nil hd
      refine LoopOk.step ?_
      conv => whnf
      refine splD (fun g => absurd g hn) (fun _ => ?_)
      conv => whnf
      exact ⟨_, _, [some 128, some 256, some 64000], [], ⟨rfl, _, h, rfl, rfl⟩, ⟨⟨rfl, rfl⟩, ⟨rfl, ⟨rfl, trivial, trivial⟩, ⟨rfl, ⟨rfl, rfl⟩, trivial⟩, ⟨rfl, rfl, rows_same⟩, trivial⟩, ⟨rfl, rfl⟩, ⟨rfl, rfl⟩, trivial⟩⟩
  | cs :: rest, v13n, v14, hd, h => by
      rw [spec_woIf_l0] at h
      obtain ⟨hrow, hd1, hlt⟩ := drop_cons hd
      refine LoopOk.step ?_
      conv => whnf
      refine splD (fun _ => ?_) (fun g => absurd hlt g)
      conv => whnf
      obtain ⟨x42, x43, e44, h⟩ := cell_bs_ex h
      rw [e44] at hrow
      refine Req.of (Int.natCast_nonneg _) ?_
      refine Row.of _ hrow ?_
      conv => whnf
      refine spl (fun g45 => ?_) (fun g45 => ?_)
      · replace h := iteT h g45
        conv => whnf
        refine splT ?_
        conv => whnf
        obtain ⟨y46, e47, h⟩ := bind_ex h
        refine CallOk.of (spec_odOwn_ct e47) ?_
        conv => whnf
        refine Take.all (rfl) ?_
        conv => whnf
        refine Take.all (rfl) ?_
        conv => whnf
        refine Take.all (by first | rfl | exact List.length_append.symm | (simp; done) | omega) ?_
        conv => whnf
        obtain ⟨g48, h⟩ := req_ex h
        refine Req.of (room (b := 32) (by decide) g48 (wide1 rfl wide0)) ?_
        conv => whnf
        refine CutK.norm [2, 4, 13, 14, 15] [128, 256, 1792] ?_
        conv => whnf
        exact LoopOk.back (spec_woIf_l0_ct hx rest (v13n + 1) _ hd1 h) [some 128, some 256, some 1792] [] ⟨⟨rfl, rfl⟩, ⟨rfl, ⟨rfl, trivial, trivial⟩, ⟨rfl, ⟨(by first | rfl | exact List.length_append.symm | (simp; done) | omega), rfl⟩, trivial⟩, ⟨rfl, rfl, rows_same⟩, trivial⟩, ⟨rfl, rfl⟩, ⟨rfl, rfl⟩, rfl, rfl, i64eq (wrap_up hlt hx), trivial⟩
      · replace h := iteF h g45
        conv => whnf
        refine splF ?_
        conv => whnf
        obtain ⟨y49, e50, h⟩ := bind_ex h
        refine CallOk.of (spec_odOwn_ct e50) ?_
        conv => whnf
        refine Take.all (rfl) ?_
        conv => whnf
        refine Take.all (rfl) ?_
        conv => whnf
        refine Take.all (by first | rfl | exact List.length_append.symm | (simp; done) | omega) ?_
        conv => whnf
        obtain ⟨g51, h⟩ := req_ex h
        refine Req.of (room (b := 32) (by decide) g51 (wide1 rfl wide0)) ?_
        conv => whnf
        refine CutK.norm [2, 4, 13, 14, 15] [128, 256, 1792] ?_
        conv => whnf
        exact LoopOk.back (spec_woIf_l0_ct hx rest (v13n + 1) _ hd1 h) [some 128, some 256, some 1792] [] ⟨⟨rfl, rfl⟩, ⟨rfl, ⟨rfl, trivial, trivial⟩, ⟨rfl, ⟨(by first | rfl | exact List.length_append.symm | (simp; done) | omega), rfl⟩, trivial⟩, ⟨rfl, rfl, rows_same⟩, trivial⟩, ⟨rfl, rfl⟩, ⟨rfl, rfl⟩, rfl, rfl, i64eq (wrap_up hlt hx), trivial⟩
def spec_woIf (k : Nat) (a1 : Rw) : Option (Rw × Bool) :=
  ((spec_woGood k a1).bind fun y2 => (if y2 = true then (if a1.length ≤ cap then (spec_woIf_l0 k a1 (fun (v29 : Rw) => some (v29, true)) a1 ([] : Rw)) else none) else some (([] : Rw), false)))
set_option maxHeartbeats 4000000 in
set_option maxRecDepth 100000 in
theorem spec_woIf_ct {k : Nat} {a1 : Rw} {r : Rw × Bool} (h : spec_woIf k a1 = some r) : Ct prog 93 [.agg [.d (D.sl a1)]] (⟨[], []⟩) (.tup [.agg [.os 8 r.1.length], .d (D.bool r.2)]) (⟨[], [(111, true, r.1)]⟩) := by
  rw [spec_woIf] at h
  refine Ct.of (c := _) mixed func93 ⟨rfl, rfl, rfl⟩ ?_ rfl
  conv => whnf
  obtain ⟨y2, e3, h⟩ := bind_ex h
  refine CallOk.of (spec_woGood_ct e3) ?_
  conv => whnf
  refine spl (fun g4 => ?_) (fun g4 => ?_)
  · replace h := iteT h g4
    conv => whnf
    refine CutK.norm [1, 2, 9] [64, 128] ?_
    conv => whnf
    refine CutK.norm [1, 2] [64, 128] ?_
    conv => whnf
    obtain ⟨g52, h⟩ := req_ex h
    refine LoopOk.into (spec_woIf_l0_ct  g52 _ _ _ rfl h) [some 128, some 256, none] [] ⟨⟨rfl, rfl⟩, ⟨rfl, ⟨rfl, trivial, trivial⟩, ⟨rfl, ⟨rfl, rfl⟩, trivial⟩, rfl, trivial⟩, ⟨rfl, rfl⟩, ⟨rfl, rfl⟩, rfl, rfl, rfl, trivial⟩ ?_ (fun _ hs => hs)
    rintro i ts os ⟨rfl, v29, h, rfl, rfl⟩
    conv => whnf
    refine CutK.norm [2, 4] [128, 256, 67001] ?_
    conv => whnf
    cases h
    exact Done.of [some 67001] [] rfl rfl ⟨⟨rfl, rfl⟩, ⟨rfl, ⟨rfl, rfl, rows_same⟩, trivial⟩, ⟨⟨⟨rfl, rfl⟩, trivial⟩, rfl, trivial⟩, trivial⟩
  · replace h := iteF h g4
    conv => whnf
    refine CutK.norm [1, 2, 9] [64, 128] ?_
    conv => whnf
    cases h
    exact Done.of [none] [] rfl rfl ⟨⟨rfl, rfl⟩, ⟨rfl, rfl, trivial⟩, ⟨⟨⟨rfl, rfl⟩, trivial⟩, rfl, trivial⟩, trivial⟩

def spec_WordOfOmega (k : Nat) (a1 : Rw) : Option (Rw × Bool) :=
  ((spec_woGood k a1).bind fun y2 => (if y2 = true then ((spec_woOmega k a1).bind fun y5 => ((spec_woIf k y5).bind fun y7 => (if y7.2 = true then some (y7.1, true) else some (y7.1, false)))) else some (([] : Rw), false)))
set_option maxHeartbeats 4000000 in
set_option maxRecDepth 100000 in
theorem spec_WordOfOmega_ct {k : Nat} {a1 : Rw} {r : Rw × Bool} (h : spec_WordOfOmega k a1 = some r) : Ct prog 52 [.agg [.d (D.sl a1)]] (⟨[], []⟩) (.tup [.agg [.os 8 r.1.length], .d (D.bool r.2)]) (⟨[], [(111, true, r.1)]⟩) := by
  rw [spec_WordOfOmega] at h
  refine Ct.of (c := _) mixed func52 ⟨rfl, rfl, rfl⟩ ?_ rfl
  conv => whnf
  obtain ⟨y2, e3, h⟩ := bind_ex h
  refine CallOk.of (spec_woGood_ct e3) ?_
  conv => whnf
  refine spl (fun g4 => ?_) (fun g4 => ?_)
  · replace h := iteT h g4
    conv => whnf
    refine CutK.go ?_
    conv => whnf
    refine CutK.go ?_
    conv => whnf
    obtain ⟨y5, e6, h⟩ := bind_ex h
    refine CallOk.of (spec_woOmega_ct e6) ?_
    conv => whnf
    refine Take.all (rfl) ?_
    conv => whnf
    obtain ⟨y7, e8, h⟩ := bind_ex h
    refine CallOk.of (spec_woIf_ct e8) ?_
    conv => whnf
    refine spl (fun g9 => ?_) (fun g9 => ?_)
    · replace h := iteT h g9
      conv => whnf
      refine CutK.go ?_
      conv => whnf
      cases h
      exact Done.of [some 640] [] rfl rfl ⟨⟨rfl, rfl⟩, ⟨rfl, ⟨rfl, rfl, rows_same⟩, trivial⟩, ⟨⟨⟨rfl, rfl⟩, trivial⟩, rfl, trivial⟩, trivial⟩
    · replace h := iteF h g9
      conv => whnf
      refine CutK.go ?_
      conv => whnf
      cases h
      exact Done.of [some 640] [] rfl rfl ⟨⟨rfl, rfl⟩, ⟨rfl, ⟨rfl, rfl, rows_same⟩, trivial⟩, ⟨⟨⟨rfl, rfl⟩, trivial⟩, rfl, trivial⟩, trivial⟩
  · replace h := iteF h g4
    conv => whnf
    refine CutK.go ?_
    conv => whnf
    cases h
    exact Done.of [none] [] rfl rfl ⟨⟨rfl, rfl⟩, ⟨rfl, rfl, trivial⟩, ⟨⟨⟨rfl, rfl⟩, trivial⟩, rfl, trivial⟩, trivial⟩

def laws_szOrdinalTerm (rec_laws_szOrdinal : Rw → Int → Option Int) (a1 : Rw) (a2 : Int) (a3 : Int) : Option Int :=
  ((rec_laws_szOrdinal a1 a3).bind fun y4 => (if y4 < (0 : Int) then some (-1) else some y4))
set_option maxHeartbeats 4000000 in
set_option maxRecDepth 100000 in
theorem laws_szOrdinalTerm_ct {rec_laws_szOrdinal : Rw → Int → Option Int} (hrec_laws_szOrdinal : ∀ (a1 : Rw) (a2 : Int) (r : Int), rec_laws_szOrdinal a1 a2 = some r → Ct prog 30 [.agg [.d (D.sl a1)], .d (D.int .i64 a2)] (⟨[], []⟩) (.d (D.int .i64 r)) (⟨[], []⟩)) {a1 : Rw} {a2 : Int} {a3 : Int} {r : Int} (h : laws_szOrdinalTerm rec_laws_szOrdinal a1 a2 a3 = some r) : Ct prog 137 [.agg [.d (D.sl a1), .d (D.int .i64 a2)], .d (D.int .i64 a3)] (⟨[], []⟩) (.d (D.int .i64 r)) (⟨[], []⟩) := by
  rw [laws_szOrdinalTerm] at h
  refine Ct.of (c := _) mixed func137 ⟨rfl, rfl, rfl⟩ ?_ rfl
  conv => whnf
  obtain ⟨y4, e5, h⟩ := bind_ex h
  refine CallOk.of (hrec_laws_szOrdinal _ _ _ e5) ?_
  conv => whnf
  refine CutK.go ?_
  conv => whnf
  refine splD (fun g6 => ?_) (fun g6 => ?_)
  · replace h := iteP h g6
    conv => whnf
    cases h
    exact Done.of [] [] rfl rfl ⟨⟨rfl, rfl⟩, ⟨rfl, trivial⟩, rfl, trivial⟩
  · replace h := iteN h g6
    conv => whnf
    cases h
    exact Done.of [] [] rfl rfl ⟨⟨rfl, rfl⟩, ⟨rfl, trivial⟩, rfl, trivial⟩

def laws_szOrdinalTermS_l0 (rec_laws_szOrdinal : Rw → Int → Option Int) (a1 : Rw) (K0 : Int → Option Int) : Rw → Int → Option Int
  | [], v12 => (K0 v12)
  | cs :: rest, v12 => (cell_si cs fun x31 x32 => ((laws_szOrdinalTerm rec_laws_szOrdinal x31 x32 v12).bind fun y34 => (if y34 < (0 : Int) then some (-1) else (laws_szOrdinalTermS_l0 rec_laws_szOrdinal a1 K0 rest y34))))
set_option maxRecDepth 100000 in
theorem laws_szOrdinalTermS_l0_ct {rec_laws_szOrdinal : Rw → Int → Option Int} {a1 : Rw} {K0 : Int → Option Int} (hrec_laws_szOrdinal : ∀ (a1 : Rw) (a2 : Int) (r : Int), rec_laws_szOrdinal a1 a2 = some r → Ct prog 30 [.agg [.d (D.sl a1)], .d (D.int .i64 a2)] (⟨[], []⟩) (.d (D.int .i64 r)) (⟨[], []⟩)) {r : Int} (hx : a1.length ≤ cap) : ∀ (rest : Rw) (v13n : Nat) (v12 : Int), a1.drop v13n = rest → laws_szOrdinalTermS_l0 rec_laws_szOrdinal a1 K0 rest v12 = some r → LoopOk prog 0 (lp f81 0) (mk 27 [(0, .d (D.sl a1)), (1, .d (D.int .i64 v12)), (5, .d (D.int .i64 (v13n : Int)))] []) (LoopEnd prog f81 0 27 (.d (D.int .i64 r)) (⟨[], []⟩) (fun i ts os => (i = 0 ∧ ∃ v22 : Int, K0 v22 = some r ∧ ts = [(1, .d (D.int .i64 v22))] ∧ os = [])))
  | [], v13n, v12, hd, h => by
      rw [laws_szOrdinalTermS_l0] at h
      have hn := drop_nil hd
      refine LoopOk.step ?_
      conv => whnf
      refine splD (fun g => absurd g hn) (fun _ => ?_)
      conv => whnf
      exact ⟨_, _, [], [], ⟨rfl, _, h, rfl, rfl⟩, ⟨⟨rfl, rfl⟩, ⟨rfl, trivial⟩, rfl, trivial⟩⟩
  | cs :: rest, v13n, v12, hd, h => by
      rw [laws_szOrdinalTermS_l0] at h
      obtain ⟨hrow, hd1, hlt⟩ := drop_cons hd
      refine LoopOk.step ?_
      conv => whnf
      refine splD (fun _ => ?_) (fun g => absurd hlt g)
      conv => whnf
      obtain ⟨x31, x32, e33, h⟩ := cell_si_ex h
      rw [e33] at hrow
      refine Req.of (Int.natCast_nonneg _) ?_
      refine Row.of _ hrow ?_
      conv => whnf
      obtain ⟨y34, e35, h⟩ := bind_ex h
      refine CallOk.of (laws_szOrdinalTerm_ct hrec_laws_szOrdinal e35) ?_
      conv => whnf
      refine CutK.go ?_
      conv => whnf
      refine splD (fun g36 => ?_) (fun g36 => ?_)
      · replace h := iteP h g36
        conv => whnf
        cases h
        exact Done.of [] [] rfl rfl ⟨⟨rfl, rfl⟩, ⟨rfl, trivial⟩, rfl, trivial⟩
      · replace h := iteN h g36
        conv => whnf
        refine CutK.go ?_
        conv => whnf
        exact LoopOk.back (laws_szOrdinalTermS_l0_ct hrec_laws_szOrdinal hx rest (v13n + 1) _ hd1 h) [] [] ⟨⟨rfl, rfl⟩, ⟨rfl, trivial⟩, rfl, rfl, i64eq (wrap_up hlt hx), trivial⟩
def laws_szOrdinalTermS (rec_laws_szOrdinal : Rw → Int → Option Int) (a1 : Rw) (a2 : Int) : Option Int :=
  (if (IntKind.i64.wrap (a2 - (a1.length : Int))) < (0 : Int) then some (-1) else (if a1.length ≤ cap then (laws_szOrdinalTermS_l0 rec_laws_szOrdinal a1 (fun (v22 : Int) => some v22) a1 (IntKind.i64.wrap (a2 - (a1.length : Int)))) else none))
set_option maxHeartbeats 4000000 in
set_option maxRecDepth 100000 in
theorem laws_szOrdinalTermS_ct {rec_laws_szOrdinal : Rw → Int → Option Int} (hrec_laws_szOrdinal : ∀ (a1 : Rw) (a2 : Int) (r : Int), rec_laws_szOrdinal a1 a2 = some r → Ct prog 30 [.agg [.d (D.sl a1)], .d (D.int .i64 a2)] (⟨[], []⟩) (.d (D.int .i64 r)) (⟨[], []⟩)) {a1 : Rw} {a2 : Int} {r : Int} (h : laws_szOrdinalTermS rec_laws_szOrdinal a1 a2 = some r) : Ct prog 81 [.d (D.sl a1), .d (D.int .i64 a2)] (⟨[], []⟩) (.d (D.int .i64 r)) (⟨[], []⟩) := by
  rw [laws_szOrdinalTermS] at h
  refine Ct.of (c := _) mixed func81 ⟨rfl, rfl, rfl⟩ ?_ rfl
  conv => whnf
  refine splD (fun g3 => ?_) (fun g3 => ?_)
  · replace h := iteP h g3
    conv => whnf
    cases h
    exact Done.of [] [] rfl rfl ⟨⟨rfl, rfl⟩, ⟨rfl, trivial⟩, rfl, trivial⟩
  · replace h := iteN h g3
    conv => whnf
    obtain ⟨g37, h⟩ := req_ex h
    refine LoopOk.into (laws_szOrdinalTermS_l0_ct hrec_laws_szOrdinal g37 _ _ _ rfl h) [] [] ⟨⟨rfl, rfl⟩, ⟨rfl, trivial⟩, rfl, rfl, rfl, trivial⟩ ?_ (fun _ hs => hs)
    rintro i ts os ⟨rfl, v22, h, rfl, rfl⟩
    conv => whnf
    refine CutK.go ?_
    conv => whnf
    cases h
    exact Done.of [] [] rfl rfl ⟨⟨rfl, rfl⟩, ⟨rfl, trivial⟩, rfl, trivial⟩

def laws_szOrdinal_b (rec_laws_szOrdinal : Rw → Int → Option Int) (a1 : Rw) (a2 : Int) : Option Int :=
  ((laws_szOrdinalTermS rec_laws_szOrdinal a1 a2).bind fun y3 => (if y3 < (0 : Int) then some (-1) else some y3))
set_option maxHeartbeats 4000000 in
set_option maxRecDepth 100000 in
theorem laws_szOrdinal_b_ct {rec_laws_szOrdinal : Rw → Int → Option Int} (hrec_laws_szOrdinal : ∀ (a1 : Rw) (a2 : Int) (r : Int), rec_laws_szOrdinal a1 a2 = some r → Ct prog 30 [.agg [.d (D.sl a1)], .d (D.int .i64 a2)] (⟨[], []⟩) (.d (D.int .i64 r)) (⟨[], []⟩)) {a1 : Rw} {a2 : Int} {r : Int} (h : laws_szOrdinal_b rec_laws_szOrdinal a1 a2 = some r) : Ct prog 30 [.agg [.d (D.sl a1)], .d (D.int .i64 a2)] (⟨[], []⟩) (.d (D.int .i64 r)) (⟨[], []⟩) := by
  rw [laws_szOrdinal_b] at h
  refine Ct.of (c := _) mixed func30 ⟨rfl, rfl, rfl⟩ ?_ rfl
  conv => whnf
  obtain ⟨y3, e4, h⟩ := bind_ex h
  refine CallOk.of (laws_szOrdinalTermS_ct hrec_laws_szOrdinal e4) ?_
  conv => whnf
  refine CutK.go ?_
  conv => whnf
  refine splD (fun g5 => ?_) (fun g5 => ?_)
  · replace h := iteP h g5
    conv => whnf
    cases h
    exact Done.of [] [] rfl rfl ⟨⟨rfl, rfl⟩, ⟨rfl, trivial⟩, rfl, trivial⟩
  · replace h := iteN h g5
    conv => whnf
    cases h
    exact Done.of [] [] rfl rfl ⟨⟨rfl, rfl⟩, ⟨rfl, trivial⟩, rfl, trivial⟩
def laws_szOrdinal : Nat → Rw → Int → Option Int
  | 0, _, _ => none
  | k + 1, a1, a2 => laws_szOrdinal_b (laws_szOrdinal k) a1 a2
theorem laws_szOrdinal_ct' : ∀ (k : Nat) (a1 : Rw) (a2 : Int) (r : Int), laws_szOrdinal k a1 a2 = some r → Ct prog 30 [.agg [.d (D.sl a1)], .d (D.int .i64 a2)] (⟨[], []⟩) (.d (D.int .i64 r)) (⟨[], []⟩)
  | 0, _, _, _, h => by rw [laws_szOrdinal] at h; cases h
  | k + 1, _, _, _, h => by rw [laws_szOrdinal] at h; exact laws_szOrdinal_b_ct (laws_szOrdinal_ct' k) h
theorem laws_szOrdinal_ct {k : Nat} {a1 : Rw} {a2 : Int} {r : Int} (h : laws_szOrdinal k a1 a2 = some r) : Ct prog 30 [.agg [.d (D.sl a1)], .d (D.int .i64 a2)] (⟨[], []⟩) (.d (D.int .i64 r)) (⟨[], []⟩) := laws_szOrdinal_ct' k _ _ _ h

def laws_szRun (k : Nat) (a1 : Bool) (a2 : Rw) (a3 : Int) : Option Int :=
  (cond a1 ((laws_szOrdinal k a2 a3).bind fun y7 => (if y7 < (0 : Int) then some (-1) else some y7)) ((laws_szOrdinal k a2 a3).bind fun y4 => (if y4 < (0 : Int) then some (-1) else some y4)))
set_option maxHeartbeats 4000000 in
set_option maxRecDepth 100000 in
theorem laws_szRun_ct {k : Nat} {a1 : Bool} {a2 : Rw} {a3 : Int} {r : Int} (h : laws_szRun k a1 a2 a3 = some r) : Ct prog 136 [.agg [.d (D.bool a1), .d (D.sl a2)], .d (D.int .i64 a3)] (⟨[], []⟩) (.d (D.int .i64 r)) (⟨[], []⟩) := by
  rw [laws_szRun] at h
  refine Ct.of (c := _) mixed func136 ⟨rfl, rfl, rfl⟩ ?_ rfl
  cases a1
  · replace h := condF h
    conv => whnf
    obtain ⟨y4, e5, h⟩ := bind_ex h
    refine CallOk.of (laws_szOrdinal_ct e5) ?_
    conv => whnf
    refine CutK.go ?_
    conv => whnf
    refine splD (fun g6 => ?_) (fun g6 => ?_)
    · replace h := iteP h g6
      conv => whnf
      cases h
      exact Done.of [] [] rfl rfl ⟨⟨rfl, rfl⟩, ⟨rfl, trivial⟩, rfl, trivial⟩
    · replace h := iteN h g6
      conv => whnf
      cases h
      exact Done.of [] [] rfl rfl ⟨⟨rfl, rfl⟩, ⟨rfl, trivial⟩, rfl, trivial⟩
  · replace h := condT h
    conv => whnf
    obtain ⟨y7, e8, h⟩ := bind_ex h
    refine CallOk.of (laws_szOrdinal_ct e8) ?_
    conv => whnf
    refine CutK.go ?_
    conv => whnf
    refine splD (fun g9 => ?_) (fun g9 => ?_)
    · replace h := iteP h g9
      conv => whnf
      cases h
      exact Done.of [] [] rfl rfl ⟨⟨rfl, rfl⟩, ⟨rfl, trivial⟩, rfl, trivial⟩
    · replace h := iteN h g9
      conv => whnf
      cases h
      exact Done.of [] [] rfl rfl ⟨⟨rfl, rfl⟩, ⟨rfl, trivial⟩, rfl, trivial⟩

def laws_szRunS_l0 (k : Nat) (a1 : Rw) (K0 : Int → Option Int) : Rw → Int → Option Int
  | [], v13 => (K0 v13)
  | cs :: rest, v13 => (cell_bs cs fun x43 x44 => (if x43 = true then ((laws_szRun k true x44 v13).bind fun y47 => (if y47 < (0 : Int) then some (-1) else (laws_szRunS_l0 k a1 K0 rest y47))) else ((laws_szRun k false x44 v13).bind fun y50 => (if y50 < (0 : Int) then some (-1) else (laws_szRunS_l0 k a1 K0 rest y50)))))
set_option maxRecDepth 100000 in
theorem laws_szRunS_l0_ct {k : Nat} {a1 : Rw} {K0 : Int → Option Int} {r : Int} (hx : a1.length ≤ cap) : ∀ (rest : Rw) (v14n : Nat) (v13 : Int), a1.drop v14n = rest → laws_szRunS_l0 k a1 K0 rest v13 = some r → LoopOk prog 0 (lp f80 0) (mk 27 [(0, .d (D.sl a1)), (1, .d (D.int .i64 v13)), (5, .d (D.int .i64 (v14n : Int)))] []) (LoopEnd prog f80 0 27 (.d (D.int .i64 r)) (⟨[], []⟩) (fun i ts os => (i = 0 ∧ ∃ v30 : Int, K0 v30 = some r ∧ ts = [(1, .d (D.int .i64 v30))] ∧ os = [])))
  | [], v14n, v13, hd, h => by
      rw [laws_szRunS_l0] at h
      have hn := drop_nil hd
      refine LoopOk.step ?_
      conv => whnf
      refine splD (fun g => absurd g hn) (fun _ => ?_)
      conv => whnf
      exact ⟨_, _, [], [], ⟨rfl, _, h, rfl, rfl⟩, ⟨⟨rfl, rfl⟩, ⟨rfl, trivial⟩, rfl, trivial⟩⟩
  | cs :: rest, v14n, v13, hd, h => by
      rw [laws_szRunS_l0] at h
      obtain ⟨hrow, hd1, hlt⟩ := drop_cons hd
      refine LoopOk.step ?_
      conv => whnf
      refine splD (fun _ => ?_) (fun g => absurd hlt g)
      conv => whnf
      obtain ⟨x43, x44, e45, h⟩ := cell_bs_ex h
      rw [e45] at hrow
      refine Req.of (Int.natCast_nonneg _) ?_
      refine Row.of _ hrow ?_
      conv => whnf
      refine spl (fun g46 => ?_) (fun g46 => ?_)
      · replace h := iteT h g46
        conv => whnf
        obtain ⟨y47, e48, h⟩ := bind_ex h
        refine CallOk.of (laws_szRun_ct e48) ?_
        conv => whnf
        refine CutK.go ?_
        conv => whnf
        refine splD (fun g49 => ?_) (fun g49 => ?_)
        · replace h := iteP h g49
          conv => whnf
          cases h
          exact Done.of [] [] rfl rfl ⟨⟨rfl, rfl⟩, ⟨rfl, trivial⟩, rfl, trivial⟩
        · replace h := iteN h g49
          conv => whnf
          refine CutK.go ?_
          conv => whnf
          exact LoopOk.back (laws_szRunS_l0_ct hx rest (v14n + 1) _ hd1 h) [] [] ⟨⟨rfl, rfl⟩, ⟨rfl, trivial⟩, rfl, rfl, i64eq (wrap_up hlt hx), trivial⟩
      · replace h := iteF h g46
        conv => whnf
        obtain ⟨y50, e51, h⟩ := bind_ex h
        refine CallOk.of (laws_szRun_ct e51) ?_
        conv => whnf
        refine CutK.go ?_
        conv => whnf
        refine splD (fun g52 => ?_) (fun g52 => ?_)
        · replace h := iteP h g52
          conv => whnf
          cases h
          exact Done.of [] [] rfl rfl ⟨⟨rfl, rfl⟩, ⟨rfl, trivial⟩, rfl, trivial⟩
        · replace h := iteN h g52
          conv => whnf
          refine CutK.go ?_
          conv => whnf
          exact LoopOk.back (laws_szRunS_l0_ct hx rest (v14n + 1) _ hd1 h) [] [] ⟨⟨rfl, rfl⟩, ⟨rfl, trivial⟩, rfl, rfl, i64eq (wrap_up hlt hx), trivial⟩
def laws_szRunS (k : Nat) (a1 : Rw) (a2 : Int) : Option Int :=
  (if (IntKind.i64.wrap (a2 - (a1.length : Int))) < (0 : Int) then some (-1) else (if a1.length ≤ cap then (laws_szRunS_l0 k a1 (fun (v30 : Int) => some v30) a1 (IntKind.i64.wrap (a2 - (a1.length : Int)))) else none))
set_option maxHeartbeats 4000000 in
set_option maxRecDepth 100000 in
theorem laws_szRunS_ct {k : Nat} {a1 : Rw} {a2 : Int} {r : Int} (h : laws_szRunS k a1 a2 = some r) : Ct prog 80 [.d (D.sl a1), .d (D.int .i64 a2)] (⟨[], []⟩) (.d (D.int .i64 r)) (⟨[], []⟩) := by
  rw [laws_szRunS] at h
  refine Ct.of (c := _) mixed func80 ⟨rfl, rfl, rfl⟩ ?_ rfl
  conv => whnf
  refine splD (fun g3 => ?_) (fun g3 => ?_)
  · replace h := iteP h g3
    conv => whnf
    cases h
    exact Done.of [] [] rfl rfl ⟨⟨rfl, rfl⟩, ⟨rfl, trivial⟩, rfl, trivial⟩
  · replace h := iteN h g3
    conv => whnf
    obtain ⟨g53, h⟩ := req_ex h
    refine LoopOk.into (laws_szRunS_l0_ct  g53 _ _ _ rfl h) [] [] ⟨⟨rfl, rfl⟩, ⟨rfl, trivial⟩, rfl, rfl, rfl, trivial⟩ ?_ (fun _ hs => hs)
    rintro i ts os ⟨rfl, v30, h, rfl, rfl⟩
    conv => whnf
    refine CutK.go ?_
    conv => whnf
    cases h
    exact Done.of [] [] rfl rfl ⟨⟨rfl, rfl⟩, ⟨rfl, trivial⟩, rfl, trivial⟩

def laws_szWord (k : Nat) (a1 : Rw) (a2 : Int) : Option Int :=
  ((laws_szRunS k a1 a2).bind fun y3 => (if y3 < (0 : Int) then some (-1) else some y3))
set_option maxHeartbeats 4000000 in
set_option maxRecDepth 100000 in
theorem laws_szWord_ct {k : Nat} {a1 : Rw} {a2 : Int} {r : Int} (h : laws_szWord k a1 a2 = some r) : Ct prog 29 [.agg [.d (D.sl a1)], .d (D.int .i64 a2)] (⟨[], []⟩) (.d (D.int .i64 r)) (⟨[], []⟩) := by
  rw [laws_szWord] at h
  refine Ct.of (c := _) mixed func29 ⟨rfl, rfl, rfl⟩ ?_ rfl
  conv => whnf
  obtain ⟨y3, e4, h⟩ := bind_ex h
  refine CallOk.of (laws_szRunS_ct e4) ?_
  conv => whnf
  refine CutK.go ?_
  conv => whnf
  refine splD (fun g5 => ?_) (fun g5 => ?_)
  · replace h := iteP h g5
    conv => whnf
    cases h
    exact Done.of [] [] rfl rfl ⟨⟨rfl, rfl⟩, ⟨rfl, trivial⟩, rfl, trivial⟩
  · replace h := iteN h g5
    conv => whnf
    cases h
    exact Done.of [] [] rfl rfl ⟨⟨rfl, rfl⟩, ⟨rfl, trivial⟩, rfl, trivial⟩

def laws_FnExactWordOfOmega_p22 (o164 : Int) (o165 : Int) : Option Bool :=
  (if o165 < (0 : Int) then some false else (if o165 = o164 then some true else some false))
set_option maxHeartbeats 4000000 in
set_option maxRecDepth 100000 in
theorem laws_FnExactWordOfOmega_p22_ct {o164 : Int} {o165 : Int} {r : Bool} (h : laws_FnExactWordOfOmega_p22 o164 o165 = some r) : X prog 0 (tlF f14 22) (mk 96 [(10, .d (D.int .i64 o164)), (11, .d (D.int .i64 o165))] []) (finK prog f14 0 (.d (D.bool r)) (⟨[], []⟩)) := by
  rw [laws_FnExactWordOfOmega_p22] at h
  conv => whnf
  refine splD (fun g168 => ?_) (fun g168 => ?_)
  · replace h := iteP h g168
    conv => whnf
    cases h
    exact Done.of [] [] rfl rfl ⟨⟨rfl, rfl⟩, ⟨rfl, trivial⟩, rfl, trivial⟩
  · replace h := iteN h g168
    conv => whnf
    refine splN (fun g169 => ?_) (fun g169 => ?_)
    · replace h := iteN h g169
      conv => whnf
      cases h
      exact Done.of [] [] rfl rfl ⟨⟨rfl, rfl⟩, ⟨rfl, trivial⟩, rfl, trivial⟩
    · replace h := iteP h g169
      conv => whnf
      cases h
      exact Done.of [] [] rfl rfl ⟨⟨rfl, rfl⟩, ⟨rfl, trivial⟩, rfl, trivial⟩
def laws_FnExactWordOfOmega_p20 (k : Nat) (o151 : Int) (o152 : Rw) : Option Bool :=
  ((laws_heldWord k o152 1).bind fun y170 => (laws_FnExactWordOfOmega_p22 o151 y170))
set_option maxHeartbeats 4000000 in
set_option maxRecDepth 100000 in
theorem laws_FnExactWordOfOmega_p20_ct {k : Nat} {o151 : Int} {o152 : Rw} {r : Bool} (h : laws_FnExactWordOfOmega_p20 k o151 o152 = some r) : X prog 0 (tlF f14 20) (mk 96 [(7, .ptr 448 0), (10, .d (D.int .i64 o151))] [(448, .box 56 [.os 1164000 o152.length]), (1164000, .arr 111 true o152)]) (finK prog f14 0 (.d (D.bool r)) (⟨[], []⟩)) := by
  rw [laws_FnExactWordOfOmega_p20] at h
  conv => whnf
  refine Choice.old ?_
  conv => whnf
  refine Take.all (rfl) ?_
  conv => whnf
  obtain ⟨y170, e171, h⟩ := bind_ex h
  refine CallOk.of (laws_heldWord_ct e171) ?_
  conv => whnf
  exact CutK.piece (laws_FnExactWordOfOmega_p22_ct  h) [] [] ⟨⟨rfl, rfl⟩, ⟨rfl, trivial⟩, rfl, rfl, trivial⟩
def laws_FnExactWordOfOmega_p19 (k : Nat) (o135 : Int) (o136 : Rw) (o137 : Rw) (o138 : Rw) (v139 : Bool) (v147 : Bool) : Option Bool :=
  (cond v139 (cond v147 ((laws_eqWord k o138 o136).bind fun y181 => (if y181 = true then (laws_FnExactWordOfOmega_p20 k o135 o137) else some false)) ((laws_eqWord k o138 o136).bind fun y178 => (if y178 = true then some false else some false))) (cond v147 ((laws_eqWord k o138 o136).bind fun y175 => (if y175 = true then some false else some false)) ((laws_eqWord k o138 o136).bind fun y172 => (if y172 = true then (laws_FnExactWordOfOmega_p20 k o135 o137) else some false))))
set_option maxHeartbeats 4000000 in
set_option maxRecDepth 100000 in
theorem laws_FnExactWordOfOmega_p19_ct {k : Nat} {o135 : Int} {o136 : Rw} {o137 : Rw} {o138 : Rw} {v139 : Bool} {v147 : Bool} {r : Bool} (h : laws_FnExactWordOfOmega_p19 k o135 o136 o137 o138 v139 v147 = some r) : X prog 0 (tlF f14 19) (mk 96 [(4, .ptr 256 0), (5, .d (D.bool v147)), (7, .ptr 448 0), (10, .d (D.int .i64 o135)), (12, .ptr 768 0), (13, .d (D.bool v139))] [(256, .box 56 [.os 1159000 o136.length]), (448, .box 56 [.os 1159001 o137.length]), (768, .box 56 [.os 1159002 o138.length]), (1159000, .arr 111 true o136), (1159001, .arr 111 true o137), (1159002, .arr 111 true o138)]) (finK prog f14 0 (.d (D.bool r)) (⟨[], []⟩)) := by
  rw [laws_FnExactWordOfOmega_p19] at h
  cases v139
  · replace h := condF h
    cases v147
    · replace h := condF h
      conv => whnf
      refine Take.all (rfl) ?_
      conv => whnf
      refine Take.all (rfl) ?_
      conv => whnf
      obtain ⟨y172, e173, h⟩ := bind_ex h
      refine CallOk.of (laws_eqWord_ct e173) ?_
      conv => whnf
      refine spl (fun g174 => ?_) (fun g174 => ?_)
      · replace h := iteT h g174
        conv => whnf
        refine splF ?_
        conv => whnf
        refine CutK.norm [7, 10, 87] [448, 1159001] ?_
        conv => whnf
        exact CutK.piece (laws_FnExactWordOfOmega_p20_ct  h) [some 448, some 1159001] [] ⟨⟨rfl, rfl⟩, ⟨rfl, ⟨rfl, ⟨rfl, rfl⟩, trivial⟩, ⟨rfl, rfl, rows_same⟩, trivial⟩, ⟨rfl, rfl⟩, rfl, trivial⟩
      · replace h := iteF h g174
        conv => whnf
        refine CutK.norm [7, 10, 87] [448, 1159001] ?_
        conv => whnf
        cases h
        exact Done.of [] [] rfl rfl ⟨⟨rfl, rfl⟩, ⟨rfl, trivial⟩, rfl, trivial⟩
    · replace h := condT h
      conv => whnf
      refine Take.all (rfl) ?_
      conv => whnf
      refine Take.all (rfl) ?_
      conv => whnf
      obtain ⟨y175, e176, h⟩ := bind_ex h
      refine CallOk.of (laws_eqWord_ct e176) ?_
      conv => whnf
      refine spl (fun g177 => ?_) (fun g177 => ?_)
      · replace h := iteT h g177
        conv => whnf
        refine splT ?_
        conv => whnf
        refine CutK.norm [7, 10, 87] [448, 1159001] ?_
        conv => whnf
        cases h
        exact Done.of [] [] rfl rfl ⟨⟨rfl, rfl⟩, ⟨rfl, trivial⟩, rfl, trivial⟩
      · replace h := iteF h g177
        conv => whnf
        refine CutK.norm [7, 10, 87] [448, 1159001] ?_
        conv => whnf
        cases h
        exact Done.of [] [] rfl rfl ⟨⟨rfl, rfl⟩, ⟨rfl, trivial⟩, rfl, trivial⟩
  · replace h := condT h
    cases v147
    · replace h := condF h
      conv => whnf
      refine Take.all (rfl) ?_
      conv => whnf
      refine Take.all (rfl) ?_
      conv => whnf
      obtain ⟨y178, e179, h⟩ := bind_ex h
      refine CallOk.of (laws_eqWord_ct e179) ?_
      conv => whnf
      refine spl (fun g180 => ?_) (fun g180 => ?_)
      · replace h := iteT h g180
        conv => whnf
        refine splT ?_
        conv => whnf
        refine CutK.norm [7, 10, 87] [448, 1159001] ?_
        conv => whnf
        cases h
        exact Done.of [] [] rfl rfl ⟨⟨rfl, rfl⟩, ⟨rfl, trivial⟩, rfl, trivial⟩
      · replace h := iteF h g180
        conv => whnf
        refine CutK.norm [7, 10, 87] [448, 1159001] ?_
        conv => whnf
        cases h
        exact Done.of [] [] rfl rfl ⟨⟨rfl, rfl⟩, ⟨rfl, trivial⟩, rfl, trivial⟩
    · replace h := condT h
      conv => whnf
      refine Take.all (rfl) ?_
      conv => whnf
      refine Take.all (rfl) ?_
      conv => whnf
      obtain ⟨y181, e182, h⟩ := bind_ex h
      refine CallOk.of (laws_eqWord_ct e182) ?_
      conv => whnf
      refine spl (fun g183 => ?_) (fun g183 => ?_)
      · replace h := iteT h g183
        conv => whnf
        refine splF ?_
        conv => whnf
        refine CutK.norm [7, 10, 87] [448, 1159001] ?_
        conv => whnf
        exact CutK.piece (laws_FnExactWordOfOmega_p20_ct  h) [some 448, some 1159001] [] ⟨⟨rfl, rfl⟩, ⟨rfl, ⟨rfl, ⟨rfl, rfl⟩, trivial⟩, ⟨rfl, rfl, rows_same⟩, trivial⟩, ⟨rfl, rfl⟩, rfl, trivial⟩
      · replace h := iteF h g183
        conv => whnf
        refine CutK.norm [7, 10, 87] [448, 1159001] ?_
        conv => whnf
        cases h
        exact Done.of [] [] rfl rfl ⟨⟨rfl, rfl⟩, ⟨rfl, trivial⟩, rfl, trivial⟩
def laws_FnExactWordOfOmega_p16 (k : Nat) (a1 : Rw) (o121 : Int) (o122 : Int) (o123 : Rw) (o124 : Rw) (v127 : Bool) : Option Bool :=
  (cond v127 (if o122 < (0 : Int) then some false else (if o122 = o121 then ((laws_toWord k a1).bind fun y193 => ((impl_WordOfOmega k y193).bind fun y195 => (if y195.2 = true then (laws_FnExactWordOfOmega_p19 k o121 o123 o124 y195.1 true true) else (laws_FnExactWordOfOmega_p19 k o121 o123 o124 y195.1 false true)))) else some false)) (if o122 < (0 : Int) then some false else (if o122 = o121 then ((laws_toWord k a1).bind fun y186 => ((impl_WordOfOmega k y186).bind fun y188 => (if y188.2 = true then (laws_FnExactWordOfOmega_p19 k o121 o123 o124 y188.1 true false) else (laws_FnExactWordOfOmega_p19 k o121 o123 o124 y188.1 false false)))) else some false)))
set_option maxHeartbeats 4000000 in
set_option maxRecDepth 100000 in
theorem laws_FnExactWordOfOmega_p16_ct {k : Nat} {a1 : Rw} {o121 : Int} {o122 : Int} {o123 : Rw} {o124 : Rw} {v127 : Bool} {r : Bool} (h : laws_FnExactWordOfOmega_p16 k a1 o121 o122 o123 o124 v127 = some r) : X prog 0 (tlF f14 16) (mk 96 [(1, .ptr 64 0), (4, .ptr 256 0), (5, .d (D.bool v127)), (7, .ptr 448 0), (10, .d (D.int .i64 o121)), (11, .d (D.int .i64 o122))] [(64, .box 46 [.d (D.sl a1)]), (256, .box 56 [.os 1144000 o123.length]), (448, .box 56 [.os 1144001 o124.length]), (1144000, .arr 111 true o123), (1144001, .arr 111 true o124)]) (finK prog f14 0 (.d (D.bool r)) (⟨[], []⟩)) := by
  rw [laws_FnExactWordOfOmega_p16] at h
  cases v127
  · replace h := condF h
    conv => whnf
    refine splD (fun g184 => ?_) (fun g184 => ?_)
    · replace h := iteP h g184
      conv => whnf
      cases h
      exact Done.of [] [] rfl rfl ⟨⟨rfl, rfl⟩, ⟨rfl, trivial⟩, rfl, trivial⟩
    · replace h := iteN h g184
      conv => whnf
      refine splN (fun g185 => ?_) (fun g185 => ?_)
      · replace h := iteN h g185
        conv => whnf
        cases h
        exact Done.of [] [] rfl rfl ⟨⟨rfl, rfl⟩, ⟨rfl, trivial⟩, rfl, trivial⟩
      · replace h := iteP h g185
        conv => whnf
        obtain ⟨y186, e187, h⟩ := bind_ex h
        refine CallOk.of (laws_toWord_ct e187) ?_
        conv => whnf
        refine Take.all (rfl) ?_
        conv => whnf
        obtain ⟨y188, e189, h⟩ := bind_ex h
        refine CallOk.of (impl_WordOfOmega_ct e189) ?_
        conv => whnf
        refine spl (fun g190 => ?_) (fun g190 => ?_)
        · replace h := iteT h g190
          conv => whnf
          exact CutK.piece (laws_FnExactWordOfOmega_p19_ct  h) [some 256, some 448, some 768, some 1144000, some 1144001, some 4864] [] ⟨⟨rfl, rfl⟩, ⟨rfl, ⟨rfl, ⟨rfl, rfl⟩, trivial⟩, ⟨rfl, ⟨rfl, rfl⟩, trivial⟩, ⟨rfl, ⟨rfl, rfl⟩, trivial⟩, ⟨rfl, rfl, rows_same⟩, ⟨rfl, rfl, rows_same⟩, ⟨rfl, rfl, rows_same⟩, trivial⟩, ⟨rfl, rfl⟩, rfl, ⟨rfl, rfl⟩, rfl, ⟨rfl, rfl⟩, rfl, trivial⟩
        · replace h := iteF h g190
          conv => whnf
          exact CutK.piece (laws_FnExactWordOfOmega_p19_ct  h) [some 256, some 448, some 768, some 1144000, some 1144001, some 4864] [] ⟨⟨rfl, rfl⟩, ⟨rfl, ⟨rfl, ⟨rfl, rfl⟩, trivial⟩, ⟨rfl, ⟨rfl, rfl⟩, trivial⟩, ⟨rfl, ⟨rfl, rfl⟩, trivial⟩, ⟨rfl, rfl, rows_same⟩, ⟨rfl, rfl, rows_same⟩, ⟨rfl, rfl, rows_same⟩, trivial⟩, ⟨rfl, rfl⟩, rfl, ⟨rfl, rfl⟩, rfl, ⟨rfl, rfl⟩, rfl, trivial⟩
  · replace h := condT h
    conv => whnf
    refine splD (fun g191 => ?_) (fun g191 => ?_)
    · replace h := iteP h g191
      conv => whnf
      cases h
      exact Done.of [] [] rfl rfl ⟨⟨rfl, rfl⟩, ⟨rfl, trivial⟩, rfl, trivial⟩
    · replace h := iteN h g191
      conv => whnf
      refine splN (fun g192 => ?_) (fun g192 => ?_)
      · replace h := iteN h g192
        conv => whnf
        cases h
        exact Done.of [] [] rfl rfl ⟨⟨rfl, rfl⟩, ⟨rfl, trivial⟩, rfl, trivial⟩
      · replace h := iteP h g192
        conv => whnf
        obtain ⟨y193, e194, h⟩ := bind_ex h
        refine CallOk.of (laws_toWord_ct e194) ?_
        conv => whnf
        refine Take.all (rfl) ?_
        conv => whnf
        obtain ⟨y195, e196, h⟩ := bind_ex h
        refine CallOk.of (impl_WordOfOmega_ct e196) ?_
        conv => whnf
        refine spl (fun g197 => ?_) (fun g197 => ?_)
        · replace h := iteT h g197
          conv => whnf
          exact CutK.piece (laws_FnExactWordOfOmega_p19_ct  h) [some 256, some 448, some 768, some 1144000, some 1144001, some 4864] [] ⟨⟨rfl, rfl⟩, ⟨rfl, ⟨rfl, ⟨rfl, rfl⟩, trivial⟩, ⟨rfl, ⟨rfl, rfl⟩, trivial⟩, ⟨rfl, ⟨rfl, rfl⟩, trivial⟩, ⟨rfl, rfl, rows_same⟩, ⟨rfl, rfl, rows_same⟩, ⟨rfl, rfl, rows_same⟩, trivial⟩, ⟨rfl, rfl⟩, rfl, ⟨rfl, rfl⟩, rfl, ⟨rfl, rfl⟩, rfl, trivial⟩
        · replace h := iteF h g197
          conv => whnf
          exact CutK.piece (laws_FnExactWordOfOmega_p19_ct  h) [some 256, some 448, some 768, some 1144000, some 1144001, some 4864] [] ⟨⟨rfl, rfl⟩, ⟨rfl, ⟨rfl, ⟨rfl, rfl⟩, trivial⟩, ⟨rfl, ⟨rfl, rfl⟩, trivial⟩, ⟨rfl, ⟨rfl, rfl⟩, trivial⟩, ⟨rfl, rfl, rows_same⟩, ⟨rfl, rfl, rows_same⟩, ⟨rfl, rfl, rows_same⟩, trivial⟩, ⟨rfl, rfl⟩, rfl, ⟨rfl, rfl⟩, rfl, ⟨rfl, rfl⟩, rfl, trivial⟩
def laws_FnExactWordOfOmega_p14 (k : Nat) (a1 : Rw) (o112 : Int) (o113 : Rw) (o114 : Rw) (v118 : Bool) : Option Bool :=
  (cond v118 ((laws_heldWord k o114 1).bind fun y200 => (laws_FnExactWordOfOmega_p16 k a1 o112 y200 o113 o114 true)) ((laws_heldWord k o114 1).bind fun y198 => (laws_FnExactWordOfOmega_p16 k a1 o112 y198 o113 o114 false)))
set_option maxHeartbeats 4000000 in
set_option maxRecDepth 100000 in
theorem laws_FnExactWordOfOmega_p14_ct {k : Nat} {a1 : Rw} {o112 : Int} {o113 : Rw} {o114 : Rw} {v118 : Bool} {r : Bool} (h : laws_FnExactWordOfOmega_p14 k a1 o112 o113 o114 v118 = some r) : X prog 0 (tlF f14 14) (mk 96 [(1, .ptr 64 0), (4, .ptr 256 0), (5, .d (D.bool v118)), (7, .ptr 448 0), (10, .d (D.int .i64 o112))] [(64, .box 46 [.d (D.sl a1)]), (256, .box 56 [.os 1134000 o113.length]), (448, .box 56 [.os 1134001 o114.length]), (1134000, .arr 111 true o113), (1134001, .arr 111 true o114)]) (finK prog f14 0 (.d (D.bool r)) (⟨[], []⟩)) := by
  rw [laws_FnExactWordOfOmega_p14] at h
  cases v118
  · replace h := condF h
    conv => whnf
    refine Choice.old ?_
    conv => whnf
    refine Take.all (rfl) ?_
    conv => whnf
    obtain ⟨y198, e199, h⟩ := bind_ex h
    refine CallOk.of (laws_heldWord_ct e199) ?_
    conv => whnf
    exact CutK.piece (laws_FnExactWordOfOmega_p16_ct  h) [some 64, some 256, some 448, some 1134000, some 1134001] [] ⟨⟨rfl, rfl⟩, ⟨rfl, ⟨rfl, rfl, trivial⟩, ⟨rfl, ⟨rfl, rfl⟩, trivial⟩, ⟨rfl, ⟨rfl, rfl⟩, trivial⟩, ⟨rfl, rfl, rows_same⟩, ⟨rfl, rfl, rows_same⟩, trivial⟩, ⟨rfl, rfl⟩, ⟨rfl, rfl⟩, rfl, ⟨rfl, rfl⟩, rfl, rfl, trivial⟩
  · replace h := condT h
    conv => whnf
    refine Choice.old ?_
    conv => whnf
    refine Take.all (rfl) ?_
    conv => whnf
    obtain ⟨y200, e201, h⟩ := bind_ex h
    refine CallOk.of (laws_heldWord_ct e201) ?_
    conv => whnf
    exact CutK.piece (laws_FnExactWordOfOmega_p16_ct  h) [some 64, some 256, some 448, some 1134000, some 1134001] [] ⟨⟨rfl, rfl⟩, ⟨rfl, ⟨rfl, rfl, trivial⟩, ⟨rfl, ⟨rfl, rfl⟩, trivial⟩, ⟨rfl, ⟨rfl, rfl⟩, trivial⟩, ⟨rfl, rfl, rows_same⟩, ⟨rfl, rfl, rows_same⟩, trivial⟩, ⟨rfl, rfl⟩, ⟨rfl, rfl⟩, rfl, ⟨rfl, rfl⟩, rfl, rfl, trivial⟩
def laws_FnExactWordOfOmega_p12 (k : Nat) (a1 : Rw) (o94 : Rw) (o95 : Rw) (v108 : Bool) : Option Bool :=
  (cond v108 ((laws_markWord k o95 1).bind fun y205 => (if y205.2.length = o95.length then (laws_FnExactWordOfOmega_p14 k a1 y205.1 o94 y205.2 true) else none)) ((laws_markWord k o95 1).bind fun y202 => (if y202.2.length = o95.length then (laws_FnExactWordOfOmega_p14 k a1 y202.1 o94 y202.2 false) else none)))
set_option maxHeartbeats 4000000 in
set_option maxRecDepth 100000 in
theorem laws_FnExactWordOfOmega_p12_ct {k : Nat} {a1 : Rw} {o94 : Rw} {o95 : Rw} {v108 : Bool} {r : Bool} (h : laws_FnExactWordOfOmega_p12 k a1 o94 o95 v108 = some r) : X prog 0 (tlF f14 12) (mk 96 [(1, .ptr 64 0), (4, .ptr 256 0), (5, .d (D.bool v108)), (7, .ptr 448 0)] [(64, .box 46 [.d (D.sl a1)]), (256, .box 56 [.os 1124000 o94.length]), (448, .box 56 [.os 1124001 o95.length]), (1124000, .arr 111 true o94), (1124001, .arr 111 true o95)]) (finK prog f14 0 (.d (D.bool r)) (⟨[], []⟩)) := by
  rw [laws_FnExactWordOfOmega_p12] at h
  cases v108
  · replace h := condF h
    conv => whnf
    refine Choice.new ?_
    conv => whnf
    refine Req.of (rfl) ?_
    conv => whnf
    obtain ⟨y202, e203, h⟩ := bind_ex h
    refine MarkOk.of (laws_markWord_ct e203) ?_
    conv => whnf
    obtain ⟨g204, h⟩ := req_ex h
    exact CutK.piece (laws_FnExactWordOfOmega_p14_ct  h) [some 64, some 256, some 448, some 1124000, some 1124001] [] ⟨⟨rfl, rfl⟩, ⟨rfl, ⟨rfl, rfl, trivial⟩, ⟨rfl, ⟨rfl, rfl⟩, trivial⟩, ⟨rfl, ⟨(by first | rfl | exact List.length_append.symm | (simp; done) | omega), rfl⟩, trivial⟩, ⟨rfl, rfl, rows_same⟩, ⟨rfl, rfl, rows_same⟩, trivial⟩, ⟨rfl, rfl⟩, ⟨rfl, rfl⟩, rfl, ⟨rfl, rfl⟩, rfl, trivial⟩
  · replace h := condT h
    conv => whnf
    refine Choice.new ?_
    conv => whnf
    refine Req.of (rfl) ?_
    conv => whnf
    obtain ⟨y205, e206, h⟩ := bind_ex h
    refine MarkOk.of (laws_markWord_ct e206) ?_
    conv => whnf
    obtain ⟨g207, h⟩ := req_ex h
    exact CutK.piece (laws_FnExactWordOfOmega_p14_ct  h) [some 64, some 256, some 448, some 1124000, some 1124001] [] ⟨⟨rfl, rfl⟩, ⟨rfl, ⟨rfl, rfl, trivial⟩, ⟨rfl, ⟨rfl, rfl⟩, trivial⟩, ⟨rfl, ⟨(by first | rfl | exact List.length_append.symm | (simp; done) | omega), rfl⟩, trivial⟩, ⟨rfl, rfl, rows_same⟩, ⟨rfl, rfl, rows_same⟩, trivial⟩, ⟨rfl, rfl⟩, ⟨rfl, rfl⟩, rfl, ⟨rfl, rfl⟩, rfl, trivial⟩
def laws_FnExactWordOfOmega_p11 (k : Nat) (a1 : Rw) (o76 : Int) (o77 : Rw) (o78 : Rw) (v82 : Bool) (v86 : Bool) : Option Bool :=
  (cond v82 (cond v86 (if o76 < (0 : Int) then some false else ((laws_eqWord k o78 o77).bind fun y221 => (if y221 = true then (laws_FnExactWordOfOmega_p12 k a1 o77 o78 true) else some false))) (if o76 < (0 : Int) then some false else ((laws_eqWord k o78 o77).bind fun y217 => (if y217 = true then some false else some false)))) (cond v86 (if o76 < (0 : Int) then some false else ((laws_eqWord k o78 o77).bind fun y213 => (if y213 = true then some false else some false))) (if o76 < (0 : Int) then some false else ((laws_eqWord k o78 o77).bind fun y209 => (if y209 = true then (laws_FnExactWordOfOmega_p12 k a1 o77 o78 false) else some false)))))
set_option maxHeartbeats 4000000 in
set_option maxRecDepth 100000 in
theorem laws_FnExactWordOfOmega_p11_ct {k : Nat} {a1 : Rw} {o76 : Int} {o77 : Rw} {o78 : Rw} {v82 : Bool} {v86 : Bool} {r : Bool} (h : laws_FnExactWordOfOmega_p11 k a1 o76 o77 o78 v82 v86 = some r) : X prog 0 (tlF f14 11) (mk 96 [(1, .ptr 64 0), (4, .ptr 256 0), (5, .d (D.bool v82)), (7, .ptr 448 0), (8, .d (D.bool v86)), (9, .d (D.int .i64 o76))] [(64, .box 46 [.d (D.sl a1)]), (256, .box 56 [.os 1119000 o77.length]), (448, .box 56 [.os 1119001 o78.length]), (1119000, .arr 111 true o77), (1119001, .arr 111 true o78)]) (finK prog f14 0 (.d (D.bool r)) (⟨[], []⟩)) := by
  rw [laws_FnExactWordOfOmega_p11] at h
  cases v82
  · replace h := condF h
    cases v86
    · replace h := condF h
      conv => whnf
      refine splD (fun g208 => ?_) (fun g208 => ?_)
      · replace h := iteP h g208
        conv => whnf
        refine CutK.norm [1, 4, 5, 7, 61] [64, 256, 448, 1119000, 1119001] ?_
        conv => whnf
        cases h
        exact Done.of [] [] rfl rfl ⟨⟨rfl, rfl⟩, ⟨rfl, trivial⟩, rfl, trivial⟩
      · replace h := iteN h g208
        conv => whnf
        refine Take.all (rfl) ?_
        conv => whnf
        refine Take.all (rfl) ?_
        conv => whnf
        obtain ⟨y209, e210, h⟩ := bind_ex h
        refine CallOk.of (laws_eqWord_ct e210) ?_
        conv => whnf
        refine spl (fun g211 => ?_) (fun g211 => ?_)
        · replace h := iteT h g211
          conv => whnf
          refine splF ?_
          conv => whnf
          refine CutK.norm [1, 4, 5, 7, 61] [64, 256, 448, 1119000, 1119001] ?_
          conv => whnf
          exact CutK.piece (laws_FnExactWordOfOmega_p12_ct  h) [some 64, some 256, some 448, some 1119000, some 1119001] [] ⟨⟨rfl, rfl⟩, ⟨rfl, ⟨rfl, rfl, trivial⟩, ⟨rfl, ⟨rfl, rfl⟩, trivial⟩, ⟨rfl, ⟨rfl, rfl⟩, trivial⟩, ⟨rfl, rfl, rows_same⟩, ⟨rfl, rfl, rows_same⟩, trivial⟩, ⟨rfl, rfl⟩, ⟨rfl, rfl⟩, rfl, ⟨rfl, rfl⟩, trivial⟩
        · replace h := iteF h g211
          conv => whnf
          refine CutK.norm [1, 4, 5, 7, 61] [64, 256, 448, 1119000, 1119001] ?_
          conv => whnf
          cases h
          exact Done.of [] [] rfl rfl ⟨⟨rfl, rfl⟩, ⟨rfl, trivial⟩, rfl, trivial⟩
    · replace h := condT h
      conv => whnf
      refine splD (fun g212 => ?_) (fun g212 => ?_)
      · replace h := iteP h g212
        conv => whnf
        refine CutK.norm [1, 4, 5, 7, 61] [64, 256, 448, 1119000, 1119001] ?_
        conv => whnf
        cases h
        exact Done.of [] [] rfl rfl ⟨⟨rfl, rfl⟩, ⟨rfl, trivial⟩, rfl, trivial⟩
      · replace h := iteN h g212
        conv => whnf
        refine Take.all (rfl) ?_
        conv => whnf
        refine Take.all (rfl) ?_
        conv => whnf
        obtain ⟨y213, e214, h⟩ := bind_ex h
        refine CallOk.of (laws_eqWord_ct e214) ?_
        conv => whnf
        refine spl (fun g215 => ?_) (fun g215 => ?_)
        · replace h := iteT h g215
          conv => whnf
          refine splT ?_
          conv => whnf
          refine CutK.norm [1, 4, 5, 7, 61] [64, 256, 448, 1119000, 1119001] ?_
          conv => whnf
          cases h
          exact Done.of [] [] rfl rfl ⟨⟨rfl, rfl⟩, ⟨rfl, trivial⟩, rfl, trivial⟩
        · replace h := iteF h g215
          conv => whnf
          refine CutK.norm [1, 4, 5, 7, 61] [64, 256, 448, 1119000, 1119001] ?_
          conv => whnf
          cases h
          exact Done.of [] [] rfl rfl ⟨⟨rfl, rfl⟩, ⟨rfl, trivial⟩, rfl, trivial⟩
  · replace h := condT h
    cases v86
    · replace h := condF h
      conv => whnf
      refine splD (fun g216 => ?_) (fun g216 => ?_)
      · replace h := iteP h g216
        conv => whnf
        refine CutK.norm [1, 4, 5, 7, 61] [64, 256, 448, 1119000, 1119001] ?_
        conv => whnf
        cases h
        exact Done.of [] [] rfl rfl ⟨⟨rfl, rfl⟩, ⟨rfl, trivial⟩, rfl, trivial⟩
      · replace h := iteN h g216
        conv => whnf
        refine Take.all (rfl) ?_
        conv => whnf
        refine Take.all (rfl) ?_
        conv => whnf
        obtain ⟨y217, e218, h⟩ := bind_ex h
        refine CallOk.of (laws_eqWord_ct e218) ?_
        conv => whnf
        refine spl (fun g219 => ?_) (fun g219 => ?_)
        · replace h := iteT h g219
          conv => whnf
          refine splT ?_
          conv => whnf
          refine CutK.norm [1, 4, 5, 7, 61] [64, 256, 448, 1119000, 1119001] ?_
          conv => whnf
          cases h
          exact Done.of [] [] rfl rfl ⟨⟨rfl, rfl⟩, ⟨rfl, trivial⟩, rfl, trivial⟩
        · replace h := iteF h g219
          conv => whnf
          refine CutK.norm [1, 4, 5, 7, 61] [64, 256, 448, 1119000, 1119001] ?_
          conv => whnf
          cases h
          exact Done.of [] [] rfl rfl ⟨⟨rfl, rfl⟩, ⟨rfl, trivial⟩, rfl, trivial⟩
    · replace h := condT h
      conv => whnf
      refine splD (fun g220 => ?_) (fun g220 => ?_)
      · replace h := iteP h g220
        conv => whnf
        refine CutK.norm [1, 4, 5, 7, 61] [64, 256, 448, 1119000, 1119001] ?_
        conv => whnf
        cases h
        exact Done.of [] [] rfl rfl ⟨⟨rfl, rfl⟩, ⟨rfl, trivial⟩, rfl, trivial⟩
      · replace h := iteN h g220
        conv => whnf
        refine Take.all (rfl) ?_
        conv => whnf
        refine Take.all (rfl) ?_
        conv => whnf
        obtain ⟨y221, e222, h⟩ := bind_ex h
        refine CallOk.of (laws_eqWord_ct e222) ?_
        conv => whnf
        refine spl (fun g223 => ?_) (fun g223 => ?_)
        · replace h := iteT h g223
          conv => whnf
          refine splF ?_
          conv => whnf
          refine CutK.norm [1, 4, 5, 7, 61] [64, 256, 448, 1119000, 1119001] ?_
          conv => whnf
          exact CutK.piece (laws_FnExactWordOfOmega_p12_ct  h) [some 64, some 256, some 448, some 1119000, some 1119001] [] ⟨⟨rfl, rfl⟩, ⟨rfl, ⟨rfl, rfl, trivial⟩, ⟨rfl, ⟨rfl, rfl⟩, trivial⟩, ⟨rfl, ⟨rfl, rfl⟩, trivial⟩, ⟨rfl, rfl, rows_same⟩, ⟨rfl, rfl, rows_same⟩, trivial⟩, ⟨rfl, rfl⟩, ⟨rfl, rfl⟩, rfl, ⟨rfl, rfl⟩, trivial⟩
        · replace h := iteF h g223
          conv => whnf
          refine CutK.norm [1, 4, 5, 7, 61] [64, 256, 448, 1119000, 1119001] ?_
          conv => whnf
          cases h
          exact Done.of [] [] rfl rfl ⟨⟨rfl, rfl⟩, ⟨rfl, trivial⟩, rfl, trivial⟩
def laws_FnExactWordOfOmega_p9 (k : Nat) (a1 : Rw) (o53 : Rw) (o54 : Rw) (o55 : Rw) (v61 : Bool) (v67 : Bool) : Option Bool :=
  (cond v61 (cond v67 ((laws_markWord k o54 1).bind fun y233 => (if y233.2.length = o54.length then (laws_FnExactWordOfOmega_p11 k a1 y233.1 o53 o55 true true) else none)) ((laws_markWord k o54 1).bind fun y230 => (if y230.2.length = o54.length then (laws_FnExactWordOfOmega_p11 k a1 y230.1 o53 o55 false true) else none))) (cond v67 ((laws_markWord k o54 1).bind fun y227 => (if y227.2.length = o54.length then (laws_FnExactWordOfOmega_p11 k a1 y227.1 o53 o55 true false) else none)) ((laws_markWord k o54 1).bind fun y224 => (if y224.2.length = o54.length then (laws_FnExactWordOfOmega_p11 k a1 y224.1 o53 o55 false false) else none))))
set_option maxHeartbeats 4000000 in
set_option maxRecDepth 100000 in
theorem laws_FnExactWordOfOmega_p9_ct {k : Nat} {a1 : Rw} {o53 : Rw} {o54 : Rw} {o55 : Rw} {v61 : Bool} {v67 : Bool} {r : Bool} (h : laws_FnExactWordOfOmega_p9 k a1 o53 o54 o55 v61 v67 = some r) : X prog 0 (tlF f14 9) (mk 96 [(1, .ptr 64 0), (4, .ptr 256 0), (5, .d (D.bool v67)), (6, .ptr 384 0), (7, .ptr 448 0), (8, .d (D.bool v61))] [(64, .box 46 [.d (D.sl a1)]), (256, .box 56 [.os 1109000 o53.length]), (384, .box 56 [.os 1109001 o54.length]), (448, .box 56 [.os 1109002 o55.length]), (1109000, .arr 111 true o53), (1109001, .arr 111 true o54), (1109002, .arr 111 true o55)]) (finK prog f14 0 (.d (D.bool r)) (⟨[], []⟩)) := by
  rw [laws_FnExactWordOfOmega_p9] at h
  cases v61
  · replace h := condF h
    cases v67
    · replace h := condF h
      conv => whnf
      refine Choice.new ?_
      conv => whnf
      refine Req.of (rfl) ?_
      conv => whnf
      obtain ⟨y224, e225, h⟩ := bind_ex h
      refine MarkOk.of (laws_markWord_ct e225) ?_
      conv => whnf
      obtain ⟨g226, h⟩ := req_ex h
      exact CutK.piece (laws_FnExactWordOfOmega_p11_ct  h) [some 64, some 256, some 448, some 1109000, some 1109002] [] ⟨⟨rfl, rfl⟩, ⟨rfl, ⟨rfl, rfl, trivial⟩, ⟨rfl, ⟨rfl, rfl⟩, trivial⟩, ⟨rfl, ⟨rfl, rfl⟩, trivial⟩, ⟨rfl, rfl, rows_same⟩, ⟨rfl, rfl, rows_same⟩, trivial⟩, ⟨rfl, rfl⟩, ⟨rfl, rfl⟩, rfl, ⟨rfl, rfl⟩, rfl, rfl, trivial⟩
    · replace h := condT h
      conv => whnf
      refine Choice.new ?_
      conv => whnf
      refine Req.of (rfl) ?_
      conv => whnf
      obtain ⟨y227, e228, h⟩ := bind_ex h
      refine MarkOk.of (laws_markWord_ct e228) ?_
      conv => whnf
      obtain ⟨g229, h⟩ := req_ex h
      exact CutK.piece (laws_FnExactWordOfOmega_p11_ct  h) [some 64, some 256, some 448, some 1109000, some 1109002] [] ⟨⟨rfl, rfl⟩, ⟨rfl, ⟨rfl, rfl, trivial⟩, ⟨rfl, ⟨rfl, rfl⟩, trivial⟩, ⟨rfl, ⟨rfl, rfl⟩, trivial⟩, ⟨rfl, rfl, rows_same⟩, ⟨rfl, rfl, rows_same⟩, trivial⟩, ⟨rfl, rfl⟩, ⟨rfl, rfl⟩, rfl, ⟨rfl, rfl⟩, rfl, rfl, trivial⟩
  · replace h := condT h
    cases v67
    · replace h := condF h
      conv => whnf
      refine Choice.new ?_
      conv => whnf
      refine Req.of (rfl) ?_
      conv => whnf
      obtain ⟨y230, e231, h⟩ := bind_ex h
      refine MarkOk.of (laws_markWord_ct e231) ?_
      conv => whnf
      obtain ⟨g232, h⟩ := req_ex h
      exact CutK.piece (laws_FnExactWordOfOmega_p11_ct  h) [some 64, some 256, some 448, some 1109000, some 1109002] [] ⟨⟨rfl, rfl⟩, ⟨rfl, ⟨rfl, rfl, trivial⟩, ⟨rfl, ⟨rfl, rfl⟩, trivial⟩, ⟨rfl, ⟨rfl, rfl⟩, trivial⟩, ⟨rfl, rfl, rows_same⟩, ⟨rfl, rfl, rows_same⟩, trivial⟩, ⟨rfl, rfl⟩, ⟨rfl, rfl⟩, rfl, ⟨rfl, rfl⟩, rfl, rfl, trivial⟩
    · replace h := condT h
      conv => whnf
      refine Choice.new ?_
      conv => whnf
      refine Req.of (rfl) ?_
      conv => whnf
      obtain ⟨y233, e234, h⟩ := bind_ex h
      refine MarkOk.of (laws_markWord_ct e234) ?_
      conv => whnf
      obtain ⟨g235, h⟩ := req_ex h
      exact CutK.piece (laws_FnExactWordOfOmega_p11_ct  h) [some 64, some 256, some 448, some 1109000, some 1109002] [] ⟨⟨rfl, rfl⟩, ⟨rfl, ⟨rfl, rfl, trivial⟩, ⟨rfl, ⟨rfl, rfl⟩, trivial⟩, ⟨rfl, ⟨rfl, rfl⟩, trivial⟩, ⟨rfl, rfl, rows_same⟩, ⟨rfl, rfl, rows_same⟩, trivial⟩, ⟨rfl, rfl⟩, ⟨rfl, rfl⟩, rfl, ⟨rfl, rfl⟩, rfl, rfl, trivial⟩
def laws_FnExactWordOfOmega_p8 (k : Nat) (a1 : Rw) (o34 : Rw) (o35 : Rw) (o36 : Rw) (v46 : Bool) (v47 : Bool) : Option Bool :=
  (cond v46 (cond v47 ((laws_toWord k a1).bind fun y251 => ((laws_eqWord k o35 y251).bind fun y253 => (if y253 = true then (laws_FnExactWordOfOmega_p9 k a1 o34 o35 o36 true true) else some false))) ((laws_toWord k a1).bind fun y246 => ((laws_eqWord k o35 y246).bind fun y248 => (if y248 = true then (laws_FnExactWordOfOmega_p9 k a1 o34 o35 o36 false true) else some false)))) (cond v47 ((laws_toWord k a1).bind fun y241 => ((laws_eqWord k o35 y241).bind fun y243 => (if y243 = true then (laws_FnExactWordOfOmega_p9 k a1 o34 o35 o36 true false) else some false))) ((laws_toWord k a1).bind fun y236 => ((laws_eqWord k o35 y236).bind fun y238 => (if y238 = true then (laws_FnExactWordOfOmega_p9 k a1 o34 o35 o36 false false) else some false)))))
set_option maxHeartbeats 4000000 in
set_option maxRecDepth 100000 in
theorem laws_FnExactWordOfOmega_p8_ct {k : Nat} {a1 : Rw} {o34 : Rw} {o35 : Rw} {o36 : Rw} {v46 : Bool} {v47 : Bool} {r : Bool} (h : laws_FnExactWordOfOmega_p8 k a1 o34 o35 o36 v46 v47 = some r) : X prog 0 (tlF f14 8) (mk 96 [(1, .ptr 64 0), (4, .ptr 256 0), (5, .d (D.bool v46)), (6, .ptr 384 0), (7, .ptr 448 0), (8, .d (D.bool v47))] [(64, .box 46 [.d (D.sl a1)]), (256, .box 56 [.os 1104000 o34.length]), (384, .box 56 [.os 1104001 o35.length]), (448, .box 56 [.os 1104002 o36.length]), (1104000, .arr 111 true o34), (1104001, .arr 111 true o35), (1104002, .arr 111 true o36)]) (finK prog f14 0 (.d (D.bool r)) (⟨[], []⟩)) := by
  rw [laws_FnExactWordOfOmega_p8] at h
  cases v46
  · replace h := condF h
    cases v47
    · replace h := condF h
      conv => whnf
      obtain ⟨y236, e237, h⟩ := bind_ex h
      refine CallOk.of (laws_toWord_ct e237) ?_
      conv => whnf
      refine Take.all (rfl) ?_
      conv => whnf
      refine Take.all (rfl) ?_
      conv => whnf
      obtain ⟨y238, e239, h⟩ := bind_ex h
      refine CallOk.of (laws_eqWord_ct e239) ?_
      conv => whnf
      refine spl (fun g240 => ?_) (fun g240 => ?_)
      · replace h := iteT h g240
        conv => whnf
        refine CutK.norm [1, 4, 5, 6, 7, 8, 45] [64, 256, 384, 448, 1104000, 1104001, 1104002] ?_
        conv => whnf
        exact CutK.piece (laws_FnExactWordOfOmega_p9_ct  h) [some 64, some 256, some 384, some 448, some 1104000, some 1104001, some 1104002] [] ⟨⟨rfl, rfl⟩, ⟨rfl, ⟨rfl, rfl, trivial⟩, ⟨rfl, ⟨rfl, rfl⟩, trivial⟩, ⟨rfl, ⟨rfl, rfl⟩, trivial⟩, ⟨rfl, ⟨rfl, rfl⟩, trivial⟩, ⟨rfl, rfl, rows_same⟩, ⟨rfl, rfl, rows_same⟩, ⟨rfl, rfl, rows_same⟩, trivial⟩, ⟨rfl, rfl⟩, ⟨rfl, rfl⟩, rfl, ⟨rfl, rfl⟩, ⟨rfl, rfl⟩, rfl, trivial⟩
      · replace h := iteF h g240
        conv => whnf
        refine CutK.norm [1, 4, 5, 6, 7, 8, 45] [64, 256, 384, 448, 1104000, 1104001, 1104002] ?_
        conv => whnf
        cases h
        exact Done.of [] [] rfl rfl ⟨⟨rfl, rfl⟩, ⟨rfl, trivial⟩, rfl, trivial⟩
    · replace h := condT h
      conv => whnf
      obtain ⟨y241, e242, h⟩ := bind_ex h
      refine CallOk.of (laws_toWord_ct e242) ?_
      conv => whnf
      refine Take.all (rfl) ?_
      conv => whnf
      refine Take.all (rfl) ?_
      conv => whnf
      obtain ⟨y243, e244, h⟩ := bind_ex h
      refine CallOk.of (laws_eqWord_ct e244) ?_
      conv => whnf
      refine spl (fun g245 => ?_) (fun g245 => ?_)
      · replace h := iteT h g245
        conv => whnf
        refine CutK.norm [1, 4, 5, 6, 7, 8, 45] [64, 256, 384, 448, 1104000, 1104001, 1104002] ?_
        conv => whnf
        exact CutK.piece (laws_FnExactWordOfOmega_p9_ct  h) [some 64, some 256, some 384, some 448, some 1104000, some 1104001, some 1104002] [] ⟨⟨rfl, rfl⟩, ⟨rfl, ⟨rfl, rfl, trivial⟩, ⟨rfl, ⟨rfl, rfl⟩, trivial⟩, ⟨rfl, ⟨rfl, rfl⟩, trivial⟩, ⟨rfl, ⟨rfl, rfl⟩, trivial⟩, ⟨rfl, rfl, rows_same⟩, ⟨rfl, rfl, rows_same⟩, ⟨rfl, rfl, rows_same⟩, trivial⟩, ⟨rfl, rfl⟩, ⟨rfl, rfl⟩, rfl, ⟨rfl, rfl⟩, ⟨rfl, rfl⟩, rfl, trivial⟩
      · replace h := iteF h g245
        conv => whnf
        refine CutK.norm [1, 4, 5, 6, 7, 8, 45] [64, 256, 384, 448, 1104000, 1104001, 1104002] ?_
        conv => whnf
        cases h
        exact Done.of [] [] rfl rfl ⟨⟨rfl, rfl⟩, ⟨rfl, trivial⟩, rfl, trivial⟩
  · replace h := condT h
    cases v47
    · replace h := condF h
      conv => whnf
      obtain ⟨y246, e247, h⟩ := bind_ex h
      refine CallOk.of (laws_toWord_ct e247) ?_
      conv => whnf
      refine Take.all (rfl) ?_
      conv => whnf
      refine Take.all (rfl) ?_
      conv => whnf
      obtain ⟨y248, e249, h⟩ := bind_ex h
      refine CallOk.of (laws_eqWord_ct e249) ?_
      conv => whnf
      refine spl (fun g250 => ?_) (fun g250 => ?_)
      · replace h := iteT h g250
        conv => whnf
        refine CutK.norm [1, 4, 5, 6, 7, 8, 45] [64, 256, 384, 448, 1104000, 1104001, 1104002] ?_
        conv => whnf
        exact CutK.piece (laws_FnExactWordOfOmega_p9_ct  h) [some 64, some 256, some 384, some 448, some 1104000, some 1104001, some 1104002] [] ⟨⟨rfl, rfl⟩, ⟨rfl, ⟨rfl, rfl, trivial⟩, ⟨rfl, ⟨rfl, rfl⟩, trivial⟩, ⟨rfl, ⟨rfl, rfl⟩, trivial⟩, ⟨rfl, ⟨rfl, rfl⟩, trivial⟩, ⟨rfl, rfl, rows_same⟩, ⟨rfl, rfl, rows_same⟩, ⟨rfl, rfl, rows_same⟩, trivial⟩, ⟨rfl, rfl⟩, ⟨rfl, rfl⟩, rfl, ⟨rfl, rfl⟩, ⟨rfl, rfl⟩, rfl, trivial⟩
      · replace h := iteF h g250
        conv => whnf
        refine CutK.norm [1, 4, 5, 6, 7, 8, 45] [64, 256, 384, 448, 1104000, 1104001, 1104002] ?_
        conv => whnf
        cases h
        exact Done.of [] [] rfl rfl ⟨⟨rfl, rfl⟩, ⟨rfl, trivial⟩, rfl, trivial⟩
    · replace h := condT h
      conv => whnf
      obtain ⟨y251, e252, h⟩ := bind_ex h
      refine CallOk.of (laws_toWord_ct e252) ?_
      conv => whnf
      refine Take.all (rfl) ?_
      conv => whnf
      refine Take.all (rfl) ?_
      conv => whnf
      obtain ⟨y253, e254, h⟩ := bind_ex h
      refine CallOk.of (laws_eqWord_ct e254) ?_
      conv => whnf
      refine spl (fun g255 => ?_) (fun g255 => ?_)
      · replace h := iteT h g255
        conv => whnf
        refine CutK.norm [1, 4, 5, 6, 7, 8, 45] [64, 256, 384, 448, 1104000, 1104001, 1104002] ?_
        conv => whnf
        exact CutK.piece (laws_FnExactWordOfOmega_p9_ct  h) [some 64, some 256, some 384, some 448, some 1104000, some 1104001, some 1104002] [] ⟨⟨rfl, rfl⟩, ⟨rfl, ⟨rfl, rfl, trivial⟩, ⟨rfl, ⟨rfl, rfl⟩, trivial⟩, ⟨rfl, ⟨rfl, rfl⟩, trivial⟩, ⟨rfl, ⟨rfl, rfl⟩, trivial⟩, ⟨rfl, rfl, rows_same⟩, ⟨rfl, rfl, rows_same⟩, ⟨rfl, rfl, rows_same⟩, trivial⟩, ⟨rfl, rfl⟩, ⟨rfl, rfl⟩, rfl, ⟨rfl, rfl⟩, ⟨rfl, rfl⟩, rfl, trivial⟩
      · replace h := iteF h g255
        conv => whnf
        refine CutK.norm [1, 4, 5, 6, 7, 8, 45] [64, 256, 384, 448, 1104000, 1104001, 1104002] ?_
        conv => whnf
        cases h
        exact Done.of [] [] rfl rfl ⟨⟨rfl, rfl⟩, ⟨rfl, trivial⟩, rfl, trivial⟩
def laws_FnExactWordOfOmega_p7 (k : Nat) (a1 : Rw) (o23 : Rw) (o24 : Rw) (o25 : Rw) (v26 : Bool) (v30 : Bool) : Option Bool :=
  (cond v26 (cond v30 ((laws_eqWord k o25 o23).bind fun y265 => (if y265 = true then (laws_FnExactWordOfOmega_p8 k a1 o23 o24 o25 true true) else some false)) ((laws_eqWord k o25 o23).bind fun y262 => (if y262 = true then some false else some false))) (cond v30 ((laws_eqWord k o25 o23).bind fun y259 => (if y259 = true then some false else some false)) ((laws_eqWord k o25 o23).bind fun y256 => (if y256 = true then (laws_FnExactWordOfOmega_p8 k a1 o23 o24 o25 false false) else some false))))
set_option maxHeartbeats 4000000 in
set_option maxRecDepth 100000 in
theorem laws_FnExactWordOfOmega_p7_ct {k : Nat} {a1 : Rw} {o23 : Rw} {o24 : Rw} {o25 : Rw} {v26 : Bool} {v30 : Bool} {r : Bool} (h : laws_FnExactWordOfOmega_p7 k a1 o23 o24 o25 v26 v30 = some r) : X prog 0 (tlF f14 7) (mk 96 [(1, .ptr 64 0), (4, .ptr 256 0), (5, .d (D.bool v30)), (6, .ptr 384 0), (7, .ptr 448 0), (8, .d (D.bool v26))] [(64, .box 46 [.d (D.sl a1)]), (256, .box 56 [.os 1099000 o23.length]), (384, .box 56 [.os 1099001 o24.length]), (448, .box 56 [.os 1099002 o25.length]), (1099000, .arr 111 true o23), (1099001, .arr 111 true o24), (1099002, .arr 111 true o25)]) (finK prog f14 0 (.d (D.bool r)) (⟨[], []⟩)) := by
  rw [laws_FnExactWordOfOmega_p7] at h
  cases v26
  · replace h := condF h
    cases v30
    · replace h := condF h
      conv => whnf
      refine Take.all (rfl) ?_
      conv => whnf
      refine Take.all (rfl) ?_
      conv => whnf
      obtain ⟨y256, e257, h⟩ := bind_ex h
      refine CallOk.of (laws_eqWord_ct e257) ?_
      conv => whnf
      refine spl (fun g258 => ?_) (fun g258 => ?_)
      · replace h := iteT h g258
        conv => whnf
        refine splF ?_
        conv => whnf
        refine CutK.norm [1, 4, 5, 6, 7, 8, 40] [64, 256, 384, 448, 1099000, 1099001, 1099002] ?_
        conv => whnf
        exact CutK.piece (laws_FnExactWordOfOmega_p8_ct  h) [some 64, some 256, some 384, some 448, some 1099000, some 1099001, some 1099002] [] ⟨⟨rfl, rfl⟩, ⟨rfl, ⟨rfl, rfl, trivial⟩, ⟨rfl, ⟨rfl, rfl⟩, trivial⟩, ⟨rfl, ⟨rfl, rfl⟩, trivial⟩, ⟨rfl, ⟨rfl, rfl⟩, trivial⟩, ⟨rfl, rfl, rows_same⟩, ⟨rfl, rfl, rows_same⟩, ⟨rfl, rfl, rows_same⟩, trivial⟩, ⟨rfl, rfl⟩, ⟨rfl, rfl⟩, rfl, ⟨rfl, rfl⟩, ⟨rfl, rfl⟩, rfl, trivial⟩
      · replace h := iteF h g258
        conv => whnf
        refine CutK.norm [1, 4, 5, 6, 7, 8, 40] [64, 256, 384, 448, 1099000, 1099001, 1099002] ?_
        conv => whnf
        cases h
        exact Done.of [] [] rfl rfl ⟨⟨rfl, rfl⟩, ⟨rfl, trivial⟩, rfl, trivial⟩
    · replace h := condT h
      conv => whnf
      refine Take.all (rfl) ?_
      conv => whnf
      refine Take.all (rfl) ?_
      conv => whnf
      obtain ⟨y259, e260, h⟩ := bind_ex h
      refine CallOk.of (laws_eqWord_ct e260) ?_
      conv => whnf
      refine spl (fun g261 => ?_) (fun g261 => ?_)
      · replace h := iteT h g261
        conv => whnf
        refine splT ?_
        conv => whnf
        refine CutK.norm [1, 4, 5, 6, 7, 8, 40] [64, 256, 384, 448, 1099000, 1099001, 1099002] ?_
        conv => whnf
        cases h
        exact Done.of [] [] rfl rfl ⟨⟨rfl, rfl⟩, ⟨rfl, trivial⟩, rfl, trivial⟩
      · replace h := iteF h g261
        conv => whnf
        refine CutK.norm [1, 4, 5, 6, 7, 8, 40] [64, 256, 384, 448, 1099000, 1099001, 1099002] ?_
        conv => whnf
        cases h
        exact Done.of [] [] rfl rfl ⟨⟨rfl, rfl⟩, ⟨rfl, trivial⟩, rfl, trivial⟩
  · replace h := condT h
    cases v30
    · replace h := condF h
      conv => whnf
      refine Take.all (rfl) ?_
      conv => whnf
      refine Take.all (rfl) ?_
      conv => whnf
      obtain ⟨y262, e263, h⟩ := bind_ex h
      refine CallOk.of (laws_eqWord_ct e263) ?_
      conv => whnf
      refine spl (fun g264 => ?_) (fun g264 => ?_)
      · replace h := iteT h g264
        conv => whnf
        refine splT ?_
        conv => whnf
        refine CutK.norm [1, 4, 5, 6, 7, 8, 40] [64, 256, 384, 448, 1099000, 1099001, 1099002] ?_
        conv => whnf
        cases h
        exact Done.of [] [] rfl rfl ⟨⟨rfl, rfl⟩, ⟨rfl, trivial⟩, rfl, trivial⟩
      · replace h := iteF h g264
        conv => whnf
        refine CutK.norm [1, 4, 5, 6, 7, 8, 40] [64, 256, 384, 448, 1099000, 1099001, 1099002] ?_
        conv => whnf
        cases h
        exact Done.of [] [] rfl rfl ⟨⟨rfl, rfl⟩, ⟨rfl, trivial⟩, rfl, trivial⟩
    · replace h := condT h
      conv => whnf
      refine Take.all (rfl) ?_
      conv => whnf
      refine Take.all (rfl) ?_
      conv => whnf
      obtain ⟨y265, e266, h⟩ := bind_ex h
      refine CallOk.of (laws_eqWord_ct e266) ?_
      conv => whnf
      refine spl (fun g267 => ?_) (fun g267 => ?_)
      · replace h := iteT h g267
        conv => whnf
        refine splF ?_
        conv => whnf
        refine CutK.norm [1, 4, 5, 6, 7, 8, 40] [64, 256, 384, 448, 1099000, 1099001, 1099002] ?_
        conv => whnf
        exact CutK.piece (laws_FnExactWordOfOmega_p8_ct  h) [some 64, some 256, some 384, some 448, some 1099000, some 1099001, some 1099002] [] ⟨⟨rfl, rfl⟩, ⟨rfl, ⟨rfl, rfl, trivial⟩, ⟨rfl, ⟨rfl, rfl⟩, trivial⟩, ⟨rfl, ⟨rfl, rfl⟩, trivial⟩, ⟨rfl, ⟨rfl, rfl⟩, trivial⟩, ⟨rfl, rfl, rows_same⟩, ⟨rfl, rfl, rows_same⟩, ⟨rfl, rfl, rows_same⟩, trivial⟩, ⟨rfl, rfl⟩, ⟨rfl, rfl⟩, rfl, ⟨rfl, rfl⟩, ⟨rfl, rfl⟩, rfl, trivial⟩
      · replace h := iteF h g267
        conv => whnf
        refine CutK.norm [1, 4, 5, 6, 7, 8, 40] [64, 256, 384, 448, 1099000, 1099001, 1099002] ?_
        conv => whnf
        cases h
        exact Done.of [] [] rfl rfl ⟨⟨rfl, rfl⟩, ⟨rfl, trivial⟩, rfl, trivial⟩
def laws_FnExactWordOfOmega_p6 (k : Nat) (a1 : Rw) (o15 : Rw) (o16 : Rw) (v19 : Bool) : Option Bool :=
  (cond v19 ((impl_WordOfOmega k o16).bind fun y271 => (if y271.2 = true then (laws_FnExactWordOfOmega_p7 k a1 o15 o16 y271.1 true true) else (laws_FnExactWordOfOmega_p7 k a1 o15 o16 y271.1 false true))) ((impl_WordOfOmega k o16).bind fun y268 => (if y268.2 = true then (laws_FnExactWordOfOmega_p7 k a1 o15 o16 y268.1 true false) else (laws_FnExactWordOfOmega_p7 k a1 o15 o16 y268.1 false false))))
set_option maxHeartbeats 4000000 in
set_option maxRecDepth 100000 in
theorem laws_FnExactWordOfOmega_p6_ct {k : Nat} {a1 : Rw} {o15 : Rw} {o16 : Rw} {v19 : Bool} {r : Bool} (h : laws_FnExactWordOfOmega_p6 k a1 o15 o16 v19 = some r) : X prog 0 (tlF f14 6) (mk 96 [(1, .ptr 64 0), (4, .ptr 256 0), (5, .d (D.bool v19)), (6, .ptr 384 0)] [(64, .box 46 [.d (D.sl a1)]), (256, .box 56 [.os 1094000 o15.length]), (384, .box 56 [.os 1094001 o16.length]), (1094000, .arr 111 true o15), (1094001, .arr 111 true o16)]) (finK prog f14 0 (.d (D.bool r)) (⟨[], []⟩)) := by
  rw [laws_FnExactWordOfOmega_p6] at h
  cases v19
  · replace h := condF h
    conv => whnf
    refine Take.all (rfl) ?_
    conv => whnf
    obtain ⟨y268, e269, h⟩ := bind_ex h
    refine CallOk.of (impl_WordOfOmega_ct e269) ?_
    conv => whnf
    refine spl (fun g270 => ?_) (fun g270 => ?_)
    · replace h := iteT h g270
      conv => whnf
      exact CutK.piece (laws_FnExactWordOfOmega_p7_ct  h) [some 64, some 256, some 384, some 448, some 1094000, some 1094001, some 1856] [] ⟨⟨rfl, rfl⟩, ⟨rfl, ⟨rfl, rfl, trivial⟩, ⟨rfl, ⟨rfl, rfl⟩, trivial⟩, ⟨rfl, ⟨rfl, rfl⟩, trivial⟩, ⟨rfl, ⟨rfl, rfl⟩, trivial⟩, ⟨rfl, rfl, rows_same⟩, ⟨rfl, rfl, rows_same⟩, ⟨rfl, rfl, rows_same⟩, trivial⟩, ⟨rfl, rfl⟩, ⟨rfl, rfl⟩, rfl, ⟨rfl, rfl⟩, ⟨rfl, rfl⟩, rfl, trivial⟩
    · replace h := iteF h g270
      conv => whnf
      exact CutK.piece (laws_FnExactWordOfOmega_p7_ct  h) [some 64, some 256, some 384, some 448, some 1094000, some 1094001, some 1856] [] ⟨⟨rfl, rfl⟩, ⟨rfl, ⟨rfl, rfl, trivial⟩, ⟨rfl, ⟨rfl, rfl⟩, trivial⟩, ⟨rfl, ⟨rfl, rfl⟩, trivial⟩, ⟨rfl, ⟨rfl, rfl⟩, trivial⟩, ⟨rfl, rfl, rows_same⟩, ⟨rfl, rfl, rows_same⟩, ⟨rfl, rfl, rows_same⟩, trivial⟩, ⟨rfl, rfl⟩, ⟨rfl, rfl⟩, rfl, ⟨rfl, rfl⟩, ⟨rfl, rfl⟩, rfl, trivial⟩
  · replace h := condT h
    conv => whnf
    refine Take.all (rfl) ?_
    conv => whnf
    obtain ⟨y271, e272, h⟩ := bind_ex h
    refine CallOk.of (impl_WordOfOmega_ct e272) ?_
    conv => whnf
    refine spl (fun g273 => ?_) (fun g273 => ?_)
    · replace h := iteT h g273
      conv => whnf
      exact CutK.piece (laws_FnExactWordOfOmega_p7_ct  h) [some 64, some 256, some 384, some 448, some 1094000, some 1094001, some 1856] [] ⟨⟨rfl, rfl⟩, ⟨rfl, ⟨rfl, rfl, trivial⟩, ⟨rfl, ⟨rfl, rfl⟩, trivial⟩, ⟨rfl, ⟨rfl, rfl⟩, trivial⟩, ⟨rfl, ⟨rfl, rfl⟩, trivial⟩, ⟨rfl, rfl, rows_same⟩, ⟨rfl, rfl, rows_same⟩, ⟨rfl, rfl, rows_same⟩, trivial⟩, ⟨rfl, rfl⟩, ⟨rfl, rfl⟩, rfl, ⟨rfl, rfl⟩, ⟨rfl, rfl⟩, rfl, trivial⟩
    · replace h := iteF h g273
      conv => whnf
      exact CutK.piece (laws_FnExactWordOfOmega_p7_ct  h) [some 64, some 256, some 384, some 448, some 1094000, some 1094001, some 1856] [] ⟨⟨rfl, rfl⟩, ⟨rfl, ⟨rfl, rfl, trivial⟩, ⟨rfl, ⟨rfl, rfl⟩, trivial⟩, ⟨rfl, ⟨rfl, rfl⟩, trivial⟩, ⟨rfl, ⟨rfl, rfl⟩, trivial⟩, ⟨rfl, rfl, rows_same⟩, ⟨rfl, rfl, rows_same⟩, ⟨rfl, rfl, rows_same⟩, trivial⟩, ⟨rfl, rfl⟩, ⟨rfl, rfl⟩, rfl, ⟨rfl, rfl⟩, ⟨rfl, rfl⟩, rfl, trivial⟩
def laws_FnExactWordOfOmega_p5 (k : Nat) (a1 : Rw) (o11 : Rw) (v12 : Bool) : Option Bool :=
  (cond v12 ((laws_toWord k a1).bind fun y276 => (laws_FnExactWordOfOmega_p6 k a1 o11 y276 true)) ((laws_toWord k a1).bind fun y274 => (laws_FnExactWordOfOmega_p6 k a1 o11 y274 false)))
set_option maxHeartbeats 4000000 in
set_option maxRecDepth 100000 in
theorem laws_FnExactWordOfOmega_p5_ct {k : Nat} {a1 : Rw} {o11 : Rw} {v12 : Bool} {r : Bool} (h : laws_FnExactWordOfOmega_p5 k a1 o11 v12 = some r) : X prog 0 (tlF f14 5) (mk 96 [(1, .ptr 64 0), (4, .ptr 256 0), (5, .d (D.bool v12))] [(64, .box 46 [.d (D.sl a1)]), (256, .box 56 [.os 1089000 o11.length]), (1089000, .arr 111 true o11)]) (finK prog f14 0 (.d (D.bool r)) (⟨[], []⟩)) := by
  rw [laws_FnExactWordOfOmega_p5] at h
  cases v12
  · replace h := condF h
    conv => whnf
    obtain ⟨y274, e275, h⟩ := bind_ex h
    refine CallOk.of (laws_toWord_ct e275) ?_
    conv => whnf
    exact CutK.piece (laws_FnExactWordOfOmega_p6_ct  h) [some 64, some 256, some 384, some 1089000, some 1664] [] ⟨⟨rfl, rfl⟩, ⟨rfl, ⟨rfl, rfl, trivial⟩, ⟨rfl, ⟨rfl, rfl⟩, trivial⟩, ⟨rfl, ⟨rfl, rfl⟩, trivial⟩, ⟨rfl, rfl, rows_same⟩, ⟨rfl, rfl, rows_same⟩, trivial⟩, ⟨rfl, rfl⟩, ⟨rfl, rfl⟩, rfl, ⟨rfl, rfl⟩, trivial⟩
  · replace h := condT h
    conv => whnf
    obtain ⟨y276, e277, h⟩ := bind_ex h
    refine CallOk.of (laws_toWord_ct e277) ?_
    conv => whnf
    exact CutK.piece (laws_FnExactWordOfOmega_p6_ct  h) [some 64, some 256, some 384, some 1089000, some 1664] [] ⟨⟨rfl, rfl⟩, ⟨rfl, ⟨rfl, rfl, trivial⟩, ⟨rfl, ⟨rfl, rfl⟩, trivial⟩, ⟨rfl, ⟨rfl, rfl⟩, trivial⟩, ⟨rfl, rfl, rows_same⟩, ⟨rfl, rfl, rows_same⟩, trivial⟩, ⟨rfl, rfl⟩, ⟨rfl, rfl⟩, rfl, ⟨rfl, rfl⟩, trivial⟩
def laws_FnExactWordOfOmega_p3 (k : Nat) (a1 : Rw) (o4 : Int) : Option Bool :=
  (if o4 < (0 : Int) then some true else ((laws_toWord k a1).bind fun y279 => ((spec_WordOfOmega k y279).bind fun y281 => (if y281.2 = true then (laws_FnExactWordOfOmega_p5 k a1 y281.1 true) else (laws_FnExactWordOfOmega_p5 k a1 y281.1 false)))))
set_option maxHeartbeats 4000000 in
set_option maxRecDepth 100000 in
theorem laws_FnExactWordOfOmega_p3_ct {k : Nat} {a1 : Rw} {o4 : Int} {r : Bool} (h : laws_FnExactWordOfOmega_p3 k a1 o4 = some r) : X prog 0 (tlF f14 3) (mk 96 [(1, .ptr 64 0), (3, .d (D.int .i64 o4))] [(64, .box 46 [.d (D.sl a1)])]) (finK prog f14 0 (.d (D.bool r)) (⟨[], []⟩)) := by
  rw [laws_FnExactWordOfOmega_p3] at h
  conv => whnf
  refine splD (fun g278 => ?_) (fun g278 => ?_)
  · replace h := iteP h g278
    conv => whnf
    cases h
    exact Done.of [] [] rfl rfl ⟨⟨rfl, rfl⟩, ⟨rfl, trivial⟩, rfl, trivial⟩
  · replace h := iteN h g278
    conv => whnf
    obtain ⟨y279, e280, h⟩ := bind_ex h
    refine CallOk.of (laws_toWord_ct e280) ?_
    conv => whnf
    refine Take.all (rfl) ?_
    conv => whnf
    obtain ⟨y281, e282, h⟩ := bind_ex h
    refine CallOk.of (spec_WordOfOmega_ct e282) ?_
    conv => whnf
    refine spl (fun g283 => ?_) (fun g283 => ?_)
    · replace h := iteT h g283
      conv => whnf
      exact CutK.piece (laws_FnExactWordOfOmega_p5_ct  h) [some 64, some 256, some 1408] [] ⟨⟨rfl, rfl⟩, ⟨rfl, ⟨rfl, rfl, trivial⟩, ⟨rfl, ⟨rfl, rfl⟩, trivial⟩, ⟨rfl, rfl, rows_same⟩, trivial⟩, ⟨rfl, rfl⟩, ⟨rfl, rfl⟩, rfl, trivial⟩
    · replace h := iteF h g283
      conv => whnf
      exact CutK.piece (laws_FnExactWordOfOmega_p5_ct  h) [some 64, some 256, some 1408] [] ⟨⟨rfl, rfl⟩, ⟨rfl, ⟨rfl, rfl, trivial⟩, ⟨rfl, ⟨rfl, rfl⟩, trivial⟩, ⟨rfl, rfl, rows_same⟩, trivial⟩, ⟨rfl, rfl⟩, ⟨rfl, rfl⟩, rfl, trivial⟩
def laws_FnExactWordOfOmega (k : Nat) (a1 : Rw) : Option Bool :=
  ((laws_szWord k a1 1048576).bind fun y284 => (laws_FnExactWordOfOmega_p3 k a1 y284))
set_option maxHeartbeats 4000000 in
set_option maxRecDepth 100000 in
theorem laws_FnExactWordOfOmega_ct {k : Nat} {a1 : Rw} {r : Bool} (h : laws_FnExactWordOfOmega k a1 = some r) : Ct prog 14 [.agg [.d (D.sl a1)]] (⟨[], []⟩) (.d (D.bool r)) (⟨[], []⟩) := by
  rw [laws_FnExactWordOfOmega] at h
  refine Ct.of (c := _) mixed func14 ⟨rfl, rfl, rfl⟩ ?_ rfl
  conv => whnf
  obtain ⟨y284, e285, h⟩ := bind_ex h
  refine CallOk.of (laws_szWord_ct e285) ?_
  conv => whnf
  exact CutK.piece (laws_FnExactWordOfOmega_p3_ct  h) [some 64] [] ⟨⟨rfl, rfl⟩, ⟨rfl, ⟨rfl, rfl, trivial⟩, trivial⟩, ⟨rfl, rfl⟩, rfl, trivial⟩
end
end Go.Proofs.Try
