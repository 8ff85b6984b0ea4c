/- Printed by program (axgen): pure functions, and that the Go functions compute them. -/
import Derived.Test.YtehbibbcplggkaaCqG0
set_option linter.unusedVariables false
set_option linter.unusedSimpArgs false
namespace Go.Proofs.Try
open Go Go.AX
noncomputable section
def spec_suProduct_p4 (o145 : Rw) (v146 : Bool) : Option (Rw × Bool) :=
  (cond v146 (some (o145, true)) (some (o145, false)))
set_option maxHeartbeats 4000000 in
set_option maxRecDepth 100000 in
theorem spec_suProduct_p4_ct {o145 : Rw} {v146 : Bool} {r : Rw × Bool} (h : spec_suProduct_p4 o145 v146 = some r) : X prog 0 (tlF f72 4) (mk 55 [(4, .ptr 256 0), (5, .d (D.bool v146))] [(256, .box 28 [.os 1084000 o145.length]), (1084000, .arr 80 true o145)]) (finK prog f72 0 (.tup [.agg [.os 8 r.1.length], .d (D.bool r.2)]) (⟨[], [(80, true, r.1)]⟩)) := by
  rw [spec_suProduct_p4] at h
  cases v146
  · replace h := condF h
    conv => whnf
    cases h
    exact Done.of [some 1084000] [] rfl rfl ⟨⟨rfl, rfl⟩, ⟨rfl, ⟨rfl, rfl, rows_same⟩, trivial⟩, ⟨⟨⟨rfl, rfl⟩, trivial⟩, rfl, trivial⟩, trivial⟩
  · replace h := condT h
    conv => whnf
    cases h
    exact Done.of [some 1084000] [] rfl rfl ⟨⟨rfl, rfl⟩, ⟨rfl, ⟨rfl, rfl, rows_same⟩, trivial⟩, ⟨⟨⟨rfl, rfl⟩, trivial⟩, rfl, trivial⟩, trivial⟩
def spec_suProduct_p3 (k : Nat) (o141 : Rw) : Option (Rw × Bool) :=
  ((spec_suIf k o141).bind fun y147 => (if y147.2 = true then (spec_suProduct_p4 y147.1 true) else (spec_suProduct_p4 y147.1 false)))
set_option maxHeartbeats 4000000 in
set_option maxRecDepth 100000 in
theorem spec_suProduct_p3_ct {k : Nat} {o141 : Rw} {r : Rw × Bool} (h : spec_suProduct_p3 k o141 = some r) : X prog 0 (tlF f72 3) (mk 55 [(4, .ptr 256 0), (6, .ptr 384 0)] [(256, .box 28 [.es]), (384, .box 28 [.os 1079000 o141.length]), (1079000, .arr 80 false o141)]) (finK prog f72 0 (.tup [.agg [.os 8 r.1.length], .d (D.bool r.2)]) (⟨[], [(80, true, r.1)]⟩)) := by
  rw [spec_suProduct_p3] at h
  conv => whnf
  refine Take.all (rfl) ?_
  conv => whnf
  obtain ⟨y147, e148, h⟩ := bind_ex h
  refine CallOk.of (spec_suIf_ct e148) ?_
  conv => whnf
  refine spl (fun g149 => ?_) (fun g149 => ?_)
  · replace h := iteT h g149
    conv => whnf
    exact CutK.piece (spec_suProduct_p4_ct  h) [some 256, some 3328] [] ⟨⟨rfl, rfl⟩, ⟨rfl, ⟨rfl, ⟨rfl, rfl⟩, trivial⟩, ⟨rfl, rfl, rows_same⟩, trivial⟩, ⟨rfl, rfl⟩, rfl, trivial⟩
  · replace h := iteF h g149
    conv => whnf
    exact CutK.piece (spec_suProduct_p4_ct  h) [some 256, some 3328] [] ⟨⟨rfl, rfl⟩, ⟨rfl, ⟨rfl, ⟨rfl, rfl⟩, trivial⟩, ⟨rfl, rfl, rows_same⟩, trivial⟩, ⟨rfl, rfl⟩, rfl, trivial⟩
def spec_suProduct_l1 (k : Nat) (a1 : Rw) (a2 : Rw) (v195n : Nat) (x288 : Rw) (x289 : Int) (x290 : Int) (K2 : Rw → Option (Rw × Bool)) : Rw → Rw → Option (Rw × Bool)
  | [], v305 => (K2 v305)
  | cs :: rest, v305 => (cell_sii cs fun x331 x332 x333 => ((spec_suTimesTerm k x288 x289 x290 x331 x332 x333).bind fun y335 => (if y335.2.2.2 = true then ((spec_suPut k v305 y335.1 y335.2.1 y335.2.2.1).bind fun y338 => (if y338.2 = true then (spec_suProduct_l1 k a1 a2 v195n x288 x289 x290 K2 rest y338.1) else some (([] : Rw), false))) else some (([] : Rw), false))))
set_option maxRecDepth 100000 in
theorem spec_suProduct_l1_ct {k : Nat} {a1 : Rw} {a2 : Rw} {v195n : Nat} {x288 : Rw} {x289 : Int} {x290 : Int} {K2 : Rw → Option (Rw × Bool)} {r : Rw × Bool} (hx : a2.length ≤ cap) : ∀ (rest : Rw) (v304n : Nat) (v305 : Rw), a2.drop v304n = rest → spec_suProduct_l1 k a1 a2 v195n x288 x289 x290 K2 rest v305 = some r → LoopOk prog 0 (lp f72 1) (mk 55 [(3, .ptr 192 0), (4, .ptr 256 0), (6, .ptr 384 0), (8, .ptr 512 0), (17, .d (D.sl a1)), (18, .d (D.int .i64 (a1.length : Int))), (19, .d (D.int .i64 (v195n : Int))), (24, .d (D.sl a2)), (25, .d (D.int .i64 (a2.length : Int))), (26, .d (D.int .i64 (v304n : Int)))] [(192, .box 28 [.d (D.sl a2)]), (256, .box 28 [.es]), (384, .box 28 [.os 76800 v305.length]), (512, .box 80 [.d (D.sl x288), .d (D.int .i64 x289), .d (D.int .i64 x290)]), (76800, .arr 80 false v305)]) (LoopEnd prog f72 0 55 (.tup [.agg [.os 8 r.1.length], .d (D.bool r.2)]) (⟨[], [(80, true, r.1)]⟩) (fun i ts os => (i = 2 ∧ ∃ v318 : Rw, K2 v318 = some r ∧ ts = [(3, .ptr 192 0), (4, .ptr 256 0), (6, .ptr 384 0), (17, .d (D.sl a1)), (18, .d (D.int .i64 (a1.length : Int))), (19, .d (D.int .i64 (v195n : Int)))] ∧ os = [(192, .box 28 [.d (D.sl a2)]), (256, .box 28 [.es]), (384, .box 28 [.os 79801 v318.length]), (79801, .arr 80 false v318)])))
  | [], v304n, v305, hd, h => by
      rw [spec_suProduct_l1] at h
      have hn := drop_nil hd
      refine LoopOk.step ?_
      conv => whnf
      refine splD (fun g => absurd g hn) (fun _ => ?_)
      conv => whnf
      exact ⟨_, _, [some 192, some 256, some 384, some 76800], [], ⟨rfl, _, h, rfl, rfl⟩, ⟨⟨rfl, rfl⟩, ⟨rfl, ⟨rfl, rfl, trivial⟩, ⟨rfl, trivial, trivial⟩, ⟨rfl, ⟨rfl, rfl⟩, trivial⟩, ⟨rfl, rfl, rows_same⟩, trivial⟩, ⟨rfl, rfl⟩, ⟨rfl, rfl⟩, ⟨rfl, rfl⟩, rfl, rfl, rfl, trivial⟩⟩
  | cs :: rest, v304n, v305, hd, h => by
      rw [spec_suProduct_l1] at h
      obtain ⟨hrow, hd1, hlt⟩ := drop_cons hd
      refine LoopOk.step ?_
      conv => whnf
      refine splD (fun _ => ?_) (fun g => absurd hlt g)
      conv => whnf
      obtain ⟨x331, x332, x333, e334, h⟩ := cell_sii_ex h
      rw [e334] at hrow
      refine Req.of (Int.natCast_nonneg _) ?_
      refine Row.of _ hrow ?_
      conv => whnf
      obtain ⟨y335, e336, h⟩ := bind_ex h
      refine CallOk.of (spec_suTimesTerm_ct e336) ?_
      conv => whnf
      refine spl (fun g337 => ?_) (fun g337 => ?_)
      · replace h := iteT h g337
        conv => whnf
        refine CutK.norm [3, 4, 6, 8, 11, 12, 17, 18, 19, 24, 25, 26] [192, 256, 384, 512, 704, 2112, 76800] ?_
        conv => whnf
        refine Take.all (rfl) ?_
        conv => whnf
        refine Take.all (rfl) ?_
        conv => whnf
        obtain ⟨y338, e339, h⟩ := bind_ex h
        refine CallOk.of (spec_suPut_ct e339) ?_
        conv => whnf
        refine spl (fun g340 => ?_) (fun g340 => ?_)
        · replace h := iteT h g340
          conv => whnf
          refine CutK.norm [3, 4, 6, 8, 13, 14, 17, 18, 19, 24, 25, 26] [192, 256, 384, 512, 832, 2688, 76800] ?_
          conv => whnf
          refine CutK.norm [3, 4, 6, 8, 17, 18, 19, 24, 25, 26] [192, 256, 384, 512, 2688] ?_
          conv => whnf
          exact LoopOk.back (spec_suProduct_l1_ct hx rest (v304n + 1) _ hd1 h) [some 192, some 256, some 384, some 512, some 2688] [] ⟨⟨rfl, rfl⟩, ⟨rfl, ⟨rfl, rfl, trivial⟩, ⟨rfl, trivial, trivial⟩, ⟨rfl, ⟨rfl, rfl⟩, trivial⟩, ⟨rfl, rfl, rfl, rfl, trivial⟩, ⟨rfl, rfl, rows_same⟩, trivial⟩, ⟨rfl, rfl⟩, ⟨rfl, rfl⟩, ⟨rfl, rfl⟩, ⟨rfl, rfl⟩, rfl, rfl, rfl, rfl, rfl, i64eq (wrap_up hlt hx), trivial⟩
        · replace h := iteF h g340
          conv => whnf
          refine CutK.norm [3, 4, 6, 8, 13, 14, 17, 18, 19, 24, 25, 26] [192, 256, 384, 512, 832, 2688, 76800] ?_
          conv => whnf
          cases h
          exact Done.of [none] [] rfl rfl ⟨⟨rfl, rfl⟩, ⟨rfl, rfl, trivial⟩, ⟨⟨⟨rfl, rfl⟩, trivial⟩, rfl, trivial⟩, trivial⟩
      · replace h := iteF h g337
        conv => whnf
        refine CutK.norm [3, 4, 6, 8, 11, 12, 17, 18, 19, 24, 25, 26] [192, 256, 384, 512, 704, 2112, 76800] ?_
        conv => whnf
        cases h
        exact Done.of [none] [] rfl rfl ⟨⟨rfl, rfl⟩, ⟨rfl, rfl, trivial⟩, ⟨⟨⟨rfl, rfl⟩, trivial⟩, rfl, trivial⟩, trivial⟩
def spec_suProduct_l0 (k : Nat) (a1 : Rw) (a2 : Rw) (K0 : Rw → Option (Rw × Bool)) : Rw → Nat → Rw → Option (Rw × Bool)
  | [], v195n, v196 => (K0 v196)
  | cs :: rest, v195n, v196 => (cell_sii cs fun x288 x289 x290 => (if a2.length ≤ cap then (spec_suProduct_l1 k a1 a2 v195n x288 x289 x290 (fun (v318 : Rw) => (spec_suProduct_l0 k a1 a2 K0 rest (v195n + 1) v318)) a2 v196) else none))
set_option maxRecDepth 100000 in
theorem spec_suProduct_l0_ct {k : Nat} {a1 : Rw} {a2 : Rw} {K0 : Rw → Option (Rw × Bool)} {r : Rw × Bool} (hx : a1.length ≤ cap) : ∀ (rest : Rw) (v195n : Nat) (v196 : Rw), a1.drop v195n = rest → spec_suProduct_l0 k a1 a2 K0 rest v195n v196 = some r → LoopOk prog 0 (lp f72 0) (mk 55 [(3, .ptr 192 0), (4, .ptr 256 0), (6, .ptr 384 0), (17, .d (D.sl a1)), (18, .d (D.int .i64 (a1.length : Int))), (19, .d (D.int .i64 (v195n : Int)))] [(192, .box 28 [.d (D.sl a2)]), (256, .box 28 [.es]), (384, .box 28 [.os 64000 v196.length]), (64000, .arr 80 false v196)]) (LoopEnd prog f72 0 55 (.tup [.agg [.os 8 r.1.length], .d (D.bool r.2)]) (⟨[], [(80, true, r.1)]⟩) (fun i ts os => (i = 0 ∧ ∃ v242 : Rw, K0 v242 = some r ∧ ts = [(4, .ptr 256 0), (6, .ptr 384 0)] ∧ os = [(256, .box 28 [.es]), (384, .box 28 [.os 67001 v242.length]), (67001, .arr 80 false v242)])))
  | [], v195n, v196, hd, h => by
      rw [spec_suProduct_l0] at h
      have hn := drop_nil hd
      refine LoopOk.step ?_
      conv => whnf
      refine splD (fun g => absurd g hn) (fun _ => ?_)
      conv => whnf
      exact ⟨_, _, [some 256, some 384, some 64000], [], ⟨rfl, _, h, rfl, rfl⟩, ⟨⟨rfl, rfl⟩, ⟨rfl, ⟨rfl, trivial, trivial⟩, ⟨rfl, ⟨rfl, rfl⟩, trivial⟩, ⟨rfl, rfl, rows_same⟩, trivial⟩, ⟨rfl, rfl⟩, ⟨rfl, rfl⟩, trivial⟩⟩
  | cs :: rest, v195n, v196, hd, h => by
      rw [spec_suProduct_l0] at h
      obtain ⟨hrow, hd1, hlt⟩ := drop_cons hd
      refine LoopOk.step ?_
      conv => whnf
      refine splD (fun _ => ?_) (fun g => absurd hlt g)
      conv => whnf
      obtain ⟨x288, x289, x290, e291, h⟩ := cell_sii_ex h
      rw [e291] at hrow
      refine Req.of (Int.natCast_nonneg _) ?_
      refine Row.of _ hrow ?_
      conv => whnf
      obtain ⟨g341, h⟩ := req_ex h
      refine LoopOk.into (spec_suProduct_l1_ct  g341 _ _ _ rfl h) [some 192, some 256, some 384, some 512, some 64000] [] ⟨⟨rfl, rfl⟩, ⟨rfl, ⟨rfl, rfl, trivial⟩, ⟨rfl, trivial, trivial⟩, ⟨rfl, ⟨rfl, rfl⟩, trivial⟩, ⟨rfl, rfl, rfl, rfl, trivial⟩, ⟨rfl, rfl, rows_same⟩, trivial⟩, ⟨rfl, rfl⟩, ⟨rfl, rfl⟩, ⟨rfl, rfl⟩, ⟨rfl, rfl⟩, rfl, rfl, rfl, rfl, rfl, rfl, trivial⟩ ?_ (fun _ hs => hs)
      rintro i ts os ⟨rfl, v318, h, rfl, rfl⟩
      conv => whnf
      refine CutK.norm [3, 4, 6, 17, 18, 19] [192, 256, 384, 79801] ?_
      conv => whnf
      exact LoopOk.back (spec_suProduct_l0_ct hx rest (v195n + 1) _ hd1 h) [some 192, some 256, some 384, some 79801] [] ⟨⟨rfl, rfl⟩, ⟨rfl, ⟨rfl, rfl, trivial⟩, ⟨rfl, trivial, trivial⟩, ⟨rfl, ⟨rfl, rfl⟩, trivial⟩, ⟨rfl, rfl, rows_same⟩, trivial⟩, ⟨rfl, rfl⟩, ⟨rfl, rfl⟩, ⟨rfl, rfl⟩, rfl, rfl, i64eq (wrap_up hlt hx), trivial⟩
def spec_suProduct (k : Nat) (a1 : Rw) (a2 : Rw) : Option (Rw × Bool) :=
  (if a1.length ≤ cap then (spec_suProduct_l0 k a1 a2 (fun (v242 : Rw) => (spec_suProduct_p3 k v242)) a1 0 ([] : Rw)) else none)
set_option maxHeartbeats 4000000 in
set_option maxRecDepth 100000 in
theorem spec_suProduct_ct {k : Nat} {a1 : Rw} {a2 : Rw} {r : Rw × Bool} (h : spec_suProduct k a1 a2 = some r) : Ct prog 72 [.agg [.d (D.sl a1)], .agg [.d (D.sl a2)]] (⟨[], []⟩) (.tup [.agg [.os 8 r.1.length], .d (D.bool r.2)]) (⟨[], [(80, true, r.1)]⟩) := by
  rw [spec_suProduct] at h
  refine Ct.of (c := _) mixed func72 ⟨rfl, rfl, rfl⟩ ?_ rfl
  conv => whnf
  obtain ⟨g342, h⟩ := req_ex h
  refine LoopOk.into (spec_suProduct_l0_ct  g342 _ _ _ rfl h) [some 192, some 256, some 384, none] [] ⟨⟨rfl, rfl⟩, ⟨rfl, ⟨rfl, rfl, trivial⟩, ⟨rfl, trivial, trivial⟩, ⟨rfl, ⟨rfl, rfl⟩, trivial⟩, rfl, trivial⟩, ⟨rfl, rfl⟩, ⟨rfl, rfl⟩, ⟨rfl, rfl⟩, rfl, rfl, rfl, trivial⟩ ?_ (fun _ hs => hs)
  rintro i ts os ⟨rfl, v242, h, rfl, rfl⟩
  conv => whnf
  exact CutK.piece (spec_suProduct_p3_ct  h) [some 256, some 384, some 67001] [] ⟨⟨rfl, rfl⟩, ⟨rfl, ⟨rfl, trivial, trivial⟩, ⟨rfl, ⟨rfl, rfl⟩, trivial⟩, ⟨rfl, rfl, rows_same⟩, trivial⟩, ⟨rfl, rfl⟩, ⟨rfl, rfl⟩, trivial⟩

def spec_seChecked_keep  (a1 : Bool) (a2 : Rw) (a3 : Bool) : Option (Rw × Bool) :=
  (cond a1 (cond a3 (some (([] : Rw), true)) (some (([] : Rw), true))) (cond a3 (some (a2, false)) (some (([] : Rw), true))))
set_option maxHeartbeats 4000000 in
set_option maxRecDepth 100000 in
theorem spec_seChecked_keep_ct  {a1 : Bool} {a2 : Rw} {a3 : Bool} {r : Rw × Bool} (h : spec_seChecked_keep a1 a2 a3 = some r) : Ct prog 70 [.ptr 0 0, .agg [.d (D.sl a2)], .d (D.bool a3)] (⟨[(53, [.d (D.bool a1)])], []⟩) (.agg [.d (D.sl r.1)]) (⟨[(53, [.d (D.bool r.2)])], []⟩) := by
  rw [spec_seChecked_keep] at h
  refine Ct.of (c := _) mixed func70 ⟨rfl, rfl, rfl⟩ ?_ rfl
  cases a1
  · replace h := condF h
    cases a3
    · replace h := condF h
      conv => whnf
      refine splF ?_
      conv => whnf
      refine splT ?_
      conv => whnf
      cases h
      exact Done.of [some 0] [] rfl rfl ⟨⟨rfl, rfl⟩, ⟨rfl, ⟨rfl, rfl, trivial⟩, trivial⟩, ⟨rfl, trivial⟩, trivial⟩
    · replace h := condT h
      conv => whnf
      refine splF ?_
      conv => whnf
      refine splF ?_
      conv => whnf
      cases h
      exact Done.of [some 0] [] rfl rfl ⟨⟨rfl, rfl⟩, ⟨rfl, ⟨rfl, rfl, trivial⟩, trivial⟩, ⟨rfl, trivial⟩, trivial⟩
  · replace h := condT h
    cases a3
    · replace h := condF h
      conv => whnf
      refine splT ?_
      conv => whnf
      refine splT ?_
      conv => whnf
      cases h
      exact Done.of [some 0] [] rfl rfl ⟨⟨rfl, rfl⟩, ⟨rfl, ⟨rfl, rfl, trivial⟩, trivial⟩, ⟨rfl, trivial⟩, trivial⟩
    · replace h := condT h
      conv => whnf
      refine splT ?_
      conv => whnf
      refine splT ?_
      conv => whnf
      cases h
      exact Done.of [some 0] [] rfl rfl ⟨⟨rfl, rfl⟩, ⟨rfl, ⟨rfl, rfl, trivial⟩, trivial⟩, ⟨rfl, trivial⟩, trivial⟩

def spec_seChecked_mul (k : Nat) (a1 : Bool) (a2 : Rw) (a3 : Rw) : Option (Rw × Bool) :=
  (cond a1 ((spec_suProduct k a2 a3).bind fun y11 => (if y11.2 = true then ((spec_seChecked_keep true y11.1 true).bind fun y14 => some (y14.1, y14.2)) else ((spec_seChecked_keep true y11.1 false).bind fun y16 => some (y16.1, y16.2)))) ((spec_suProduct k a2 a3).bind fun y4 => (if y4.2 = true then ((spec_seChecked_keep false y4.1 true).bind fun y7 => some (y7.1, y7.2)) else ((spec_seChecked_keep false y4.1 false).bind fun y9 => some (y9.1, y9.2)))))
set_option maxHeartbeats 4000000 in
set_option maxRecDepth 100000 in
theorem spec_seChecked_mul_ct {k : Nat} {a1 : Bool} {a2 : Rw} {a3 : Rw} {r : Rw × Bool} (h : spec_seChecked_mul k a1 a2 a3 = some r) : Ct prog 39 [.ptr 0 0, .agg [.d (D.sl a2)], .agg [.d (D.sl a3)]] (⟨[(53, [.d (D.bool a1)])], []⟩) (.agg [.d (D.sl r.1)]) (⟨[(53, [.d (D.bool r.2)])], []⟩) := by
  rw [spec_seChecked_mul] at h
  refine Ct.of (c := _) mixed func39 ⟨rfl, rfl, rfl⟩ ?_ rfl
  cases a1
  · replace h := condF h
    conv => whnf
    obtain ⟨y4, e5, h⟩ := bind_ex h
    refine CallOk.of (spec_suProduct_ct e5) ?_
    conv => whnf
    refine spl (fun g6 => ?_) (fun g6 => ?_)
    · replace h := iteT h g6
      conv => whnf
      refine Take.all (rfl) ?_
      conv => whnf
      obtain ⟨y7, e8, h⟩ := bind_ex h
      refine CallOk.of (spec_seChecked_keep_ct e8) ?_
      conv => whnf
      refine CutK.go ?_
      conv => whnf
      cases h
      exact Done.of [some 0] [] rfl rfl ⟨⟨rfl, rfl⟩, ⟨rfl, ⟨rfl, rfl, trivial⟩, trivial⟩, ⟨rfl, trivial⟩, trivial⟩
    · replace h := iteF h g6
      conv => whnf
      refine Take.all (rfl) ?_
      conv => whnf
      obtain ⟨y9, e10, h⟩ := bind_ex h
      refine CallOk.of (spec_seChecked_keep_ct e10) ?_
      conv => whnf
      refine CutK.go ?_
      conv => whnf
      cases h
      exact Done.of [some 0] [] rfl rfl ⟨⟨rfl, rfl⟩, ⟨rfl, ⟨rfl, rfl, trivial⟩, trivial⟩, ⟨rfl, trivial⟩, trivial⟩
  · replace h := condT h
    conv => whnf
    obtain ⟨y11, e12, h⟩ := bind_ex h
    refine CallOk.of (spec_suProduct_ct e12) ?_
    conv => whnf
    refine spl (fun g13 => ?_) (fun g13 => ?_)
    · replace h := iteT h g13
      conv => whnf
      refine Take.all (rfl) ?_
      conv => whnf
      obtain ⟨y14, e15, h⟩ := bind_ex h
      refine CallOk.of (spec_seChecked_keep_ct e15) ?_
      conv => whnf
      refine CutK.go ?_
      conv => whnf
      cases h
      exact Done.of [some 0] [] rfl rfl ⟨⟨rfl, rfl⟩, ⟨rfl, ⟨rfl, rfl, trivial⟩, trivial⟩, ⟨rfl, trivial⟩, trivial⟩
    · replace h := iteF h g13
      conv => whnf
      refine Take.all (rfl) ?_
      conv => whnf
      obtain ⟨y16, e17, h⟩ := bind_ex h
      refine CallOk.of (spec_seChecked_keep_ct e17) ?_
      conv => whnf
      refine CutK.go ?_
      conv => whnf
      cases h
      exact Done.of [some 0] [] rfl rfl ⟨⟨rfl, rfl⟩, ⟨rfl, ⟨rfl, rfl, trivial⟩, trivial⟩, ⟨rfl, trivial⟩, trivial⟩

def spec_suZero  (a1 : Rw) : Option Bool :=
  (if (a1.length : Int) = (0 : Int) then some true else some false)
set_option maxHeartbeats 4000000 in
set_option maxRecDepth 100000 in
theorem spec_suZero_ct  {a1 : Rw} {r : Bool} (h : spec_suZero a1 = some r) : Ct prog 36 [.agg [.d (D.sl a1)]] (⟨[], []⟩) (.d (D.bool r)) (⟨[], []⟩) := by
  rw [spec_suZero] at h
  refine Ct.of (c := _) mixed func36 ⟨rfl, rfl, rfl⟩ ?_ rfl
  conv => whnf
  refine splD (fun g2 => ?_) (fun g2 => ?_)
  · replace h := iteP h g2
    conv => whnf
    cases h
    exact Done.of [] [] rfl rfl ⟨⟨rfl, rfl⟩, ⟨rfl, trivial⟩, rfl, trivial⟩
  · replace h := iteN h g2
    conv => whnf
    cases h
    exact Done.of [] [] rfl rfl ⟨⟨rfl, rfl⟩, ⟨rfl, trivial⟩, rfl, trivial⟩

def spec_suSmall (k : Nat) (a1 : Rw) (a2 : Rw) : Option Bool :=
  ((spec_suZero a1).bind fun y3 => (if y3 = true then ((spec_suZero a2).bind fun y6 => (if y6 = true then some false else some true)) else ((spec_suZero a2).bind fun y9 => (if y9 = true then ((spec_suZero a2).bind fun y12 => (if y12 = true then some false else some true)) else (row_sii a1 0 fun x15 x16 x17 => (row_sii a2 0 fun x20 x21 x22 => ((spec_suCmp k x15 x20).bind fun y25 => (if y25 < (0 : Int) then some true else some false))))))))
set_option maxHeartbeats 4000000 in
set_option maxRecDepth 100000 in
theorem spec_suSmall_ct {k : Nat} {a1 : Rw} {a2 : Rw} {r : Bool} (h : spec_suSmall k a1 a2 = some r) : Ct prog 40 [.agg [.d (D.sl a1)], .agg [.d (D.sl a2)]] (⟨[], []⟩) (.d (D.bool r)) (⟨[], []⟩) := by
  rw [spec_suSmall] at h
  refine Ct.of (c := _) mixed func40 ⟨rfl, rfl, rfl⟩ ?_ rfl
  conv => whnf
  obtain ⟨y3, e4, h⟩ := bind_ex h
  refine CallOk.of (spec_suZero_ct e4) ?_
  conv => whnf
  refine spl (fun g5 => ?_) (fun g5 => ?_)
  · replace h := iteT h g5
    conv => whnf
    refine CutK.go ?_
    conv => whnf
    obtain ⟨y6, e7, h⟩ := bind_ex h
    refine CallOk.of (spec_suZero_ct e7) ?_
    conv => whnf
    refine spl (fun g8 => ?_) (fun g8 => ?_)
    · replace h := iteT h g8
      conv => whnf
      refine CutK.go ?_
      conv => whnf
      cases h
      exact Done.of [] [] rfl rfl ⟨⟨rfl, rfl⟩, ⟨rfl, trivial⟩, rfl, trivial⟩
    · replace h := iteF h g8
      conv => whnf
      refine CutK.go ?_
      conv => whnf
      cases h
      exact Done.of [] [] rfl rfl ⟨⟨rfl, rfl⟩, ⟨rfl, trivial⟩, rfl, trivial⟩
  · replace h := iteF h g5
    conv => whnf
    obtain ⟨y9, e10, h⟩ := bind_ex h
    refine CallOk.of (spec_suZero_ct e10) ?_
    conv => whnf
    refine spl (fun g11 => ?_) (fun g11 => ?_)
    · replace h := iteT h g11
      conv => whnf
      refine CutK.go ?_
      conv => whnf
      obtain ⟨y12, e13, h⟩ := bind_ex h
      refine CallOk.of (spec_suZero_ct e13) ?_
      conv => whnf
      refine spl (fun g14 => ?_) (fun g14 => ?_)
      · replace h := iteT h g14
        conv => whnf
        refine CutK.go ?_
        conv => whnf
        cases h
        exact Done.of [] [] rfl rfl ⟨⟨rfl, rfl⟩, ⟨rfl, trivial⟩, rfl, trivial⟩
      · replace h := iteF h g14
        conv => whnf
        refine CutK.go ?_
        conv => whnf
        cases h
        exact Done.of [] [] rfl rfl ⟨⟨rfl, rfl⟩, ⟨rfl, trivial⟩, rfl, trivial⟩
    · replace h := iteF h g11
      conv => whnf
      refine CutK.go ?_
      conv => whnf
      refine CutK.go ?_
      conv => whnf
      obtain ⟨g19, x15, x16, x17, e18, h⟩ := row_sii_ex h
      refine Req.of g19 ?_
      refine Row.of _ e18 ?_
      conv => whnf
      obtain ⟨g24, x20, x21, x22, e23, h⟩ := row_sii_ex h
      refine Req.of g24 ?_
      refine Row.of _ e23 ?_
      conv => whnf
      obtain ⟨y25, e26, h⟩ := bind_ex h
      refine CallOk.of (spec_suCmp_ct e26) ?_
      conv => whnf
      refine splD (fun g27 => ?_) (fun g27 => ?_)
      · replace h := iteP h g27
        conv => whnf
        refine CutK.go ?_
        conv => whnf
        cases h
        exact Done.of [] [] rfl rfl ⟨⟨rfl, rfl⟩, ⟨rfl, trivial⟩, rfl, trivial⟩
      · replace h := iteN h g27
        conv => whnf
        refine CutK.go ?_
        conv => whnf
        cases h
        exact Done.of [] [] rfl rfl ⟨⟨rfl, rfl⟩, ⟨rfl, trivial⟩, rfl, trivial⟩

def spec_seChecked_add (k : Nat) (a1 : Bool) (a2 : Rw) (a3 : Rw) : Option (Rw × Bool) :=
  (cond a1 ((spec_suSum k a2 a3).bind fun y11 => (if y11.2 = true then ((spec_seChecked_keep true y11.1 true).bind fun y14 => some (y14.1, y14.2)) else ((spec_seChecked_keep true y11.1 false).bind fun y16 => some (y16.1, y16.2)))) ((spec_suSum k a2 a3).bind fun y4 => (if y4.2 = true then ((spec_seChecked_keep false y4.1 true).bind fun y7 => some (y7.1, y7.2)) else ((spec_seChecked_keep false y4.1 false).bind fun y9 => some (y9.1, y9.2)))))
set_option maxHeartbeats 4000000 in
set_option maxRecDepth 100000 in
theorem spec_seChecked_add_ct {k : Nat} {a1 : Bool} {a2 : Rw} {a3 : Rw} {r : Rw × Bool} (h : spec_seChecked_add k a1 a2 a3 = some r) : Ct prog 38 [.ptr 0 0, .agg [.d (D.sl a2)], .agg [.d (D.sl a3)]] (⟨[(53, [.d (D.bool a1)])], []⟩) (.agg [.d (D.sl r.1)]) (⟨[(53, [.d (D.bool r.2)])], []⟩) := by
  rw [spec_seChecked_add] at h
  refine Ct.of (c := _) mixed func38 ⟨rfl, rfl, rfl⟩ ?_ rfl
  cases a1
  · replace h := condF h
    conv => whnf
    obtain ⟨y4, e5, h⟩ := bind_ex h
    refine CallOk.of (spec_suSum_ct e5) ?_
    conv => whnf
    refine spl (fun g6 => ?_) (fun g6 => ?_)
    · replace h := iteT h g6
      conv => whnf
      refine Take.all (rfl) ?_
      conv => whnf
      obtain ⟨y7, e8, h⟩ := bind_ex h
      refine CallOk.of (spec_seChecked_keep_ct e8) ?_
      conv => whnf
      refine CutK.go ?_
      conv => whnf
      cases h
      exact Done.of [some 0] [] rfl rfl ⟨⟨rfl, rfl⟩, ⟨rfl, ⟨rfl, rfl, trivial⟩, trivial⟩, ⟨rfl, trivial⟩, trivial⟩
    · replace h := iteF h g6
      conv => whnf
      refine Take.all (rfl) ?_
      conv => whnf
      obtain ⟨y9, e10, h⟩ := bind_ex h
      refine CallOk.of (spec_seChecked_keep_ct e10) ?_
      conv => whnf
      refine CutK.go ?_
      conv => whnf
      cases h
      exact Done.of [some 0] [] rfl rfl ⟨⟨rfl, rfl⟩, ⟨rfl, ⟨rfl, rfl, trivial⟩, trivial⟩, ⟨rfl, trivial⟩, trivial⟩
  · replace h := condT h
    conv => whnf
    obtain ⟨y11, e12, h⟩ := bind_ex h
    refine CallOk.of (spec_suSum_ct e12) ?_
    conv => whnf
    refine spl (fun g13 => ?_) (fun g13 => ?_)
    · replace h := iteT h g13
      conv => whnf
      refine Take.all (rfl) ?_
      conv => whnf
      obtain ⟨y14, e15, h⟩ := bind_ex h
      refine CallOk.of (spec_seChecked_keep_ct e15) ?_
      conv => whnf
      refine CutK.go ?_
      conv => whnf
      cases h
      exact Done.of [some 0] [] rfl rfl ⟨⟨rfl, rfl⟩, ⟨rfl, ⟨rfl, rfl, trivial⟩, trivial⟩, ⟨rfl, trivial⟩, trivial⟩
    · replace h := iteF h g13
      conv => whnf
      refine Take.all (rfl) ?_
      conv => whnf
      obtain ⟨y16, e17, h⟩ := bind_ex h
      refine CallOk.of (spec_seChecked_keep_ct e17) ?_
      conv => whnf
      refine CutK.go ?_
      conv => whnf
      cases h
      exact Done.of [some 0] [] rfl rfl ⟨⟨rfl, rfl⟩, ⟨rfl, ⟨rfl, rfl, trivial⟩, trivial⟩, ⟨rfl, trivial⟩, trivial⟩

def spec_CheckQuotient_p6 (o63 : Bool) (v64 : Bool) (v72 : Bool) : Option (Bool × Bool) :=
  (cond o63 (cond v64 (cond v72 (some (false, false)) (some (false, false))) (cond v72 (some (false, false)) (some (false, false)))) (cond v64 (cond v72 (some (true, true)) (some (false, true))) (cond v72 (some (false, true)) (some (false, true)))))
set_option maxHeartbeats 4000000 in
set_option maxRecDepth 100000 in
theorem spec_CheckQuotient_p6_ct {o63 : Bool} {v64 : Bool} {v72 : Bool} {r : Bool × Bool} (h : spec_CheckQuotient_p6 o63 v64 v72 = some r) : X prog 0 (tlF f14 6) (mk 77 [(10, .ptr 2304 0), (11, .d (D.bool v72)), (12, .d (D.bool v64))] [(2304, .box 53 [.d (D.bool o63)])]) (finK prog f14 0 (.tup [.d (D.bool r.1), .d (D.bool r.2)]) (⟨[], []⟩)) := by
  rw [spec_CheckQuotient_p6] at h
  cases o63
  · replace h := condF h
    cases v64
    · replace h := condF h
      cases v72
      · replace h := condF h
        conv => whnf
        refine splF ?_
        conv => whnf
        cases h
        exact Done.of [] [] rfl rfl ⟨⟨rfl, rfl⟩, ⟨rfl, trivial⟩, ⟨rfl, rfl, trivial⟩, trivial⟩
      · replace h := condT h
        conv => whnf
        refine splF ?_
        conv => whnf
        cases h
        exact Done.of [] [] rfl rfl ⟨⟨rfl, rfl⟩, ⟨rfl, trivial⟩, ⟨rfl, rfl, trivial⟩, trivial⟩
    · replace h := condT h
      cases v72
      · replace h := condF h
        conv => whnf
        refine splF ?_
        conv => whnf
        cases h
        exact Done.of [] [] rfl rfl ⟨⟨rfl, rfl⟩, ⟨rfl, trivial⟩, ⟨rfl, rfl, trivial⟩, trivial⟩
      · replace h := condT h
        conv => whnf
        refine splF ?_
        conv => whnf
        cases h
        exact Done.of [] [] rfl rfl ⟨⟨rfl, rfl⟩, ⟨rfl, trivial⟩, ⟨rfl, rfl, trivial⟩, trivial⟩
  · replace h := condT h
    cases v64
    · replace h := condF h
      cases v72
      · replace h := condF h
        conv => whnf
        refine splT ?_
        conv => whnf
        cases h
        exact Done.of [] [] rfl rfl ⟨⟨rfl, rfl⟩, ⟨rfl, trivial⟩, ⟨rfl, rfl, trivial⟩, trivial⟩
      · replace h := condT h
        conv => whnf
        refine splT ?_
        conv => whnf
        cases h
        exact Done.of [] [] rfl rfl ⟨⟨rfl, rfl⟩, ⟨rfl, trivial⟩, ⟨rfl, rfl, trivial⟩, trivial⟩
    · replace h := condT h
      cases v72
      · replace h := condF h
        conv => whnf
        refine splT ?_
        conv => whnf
        cases h
        exact Done.of [] [] rfl rfl ⟨⟨rfl, rfl⟩, ⟨rfl, trivial⟩, ⟨rfl, rfl, trivial⟩, trivial⟩
      · replace h := condT h
        conv => whnf
        refine splT ?_
        conv => whnf
        cases h
        exact Done.of [] [] rfl rfl ⟨⟨rfl, rfl⟩, ⟨rfl, trivial⟩, ⟨rfl, rfl, trivial⟩, trivial⟩
def spec_CheckQuotient_p5 (k : Nat) (a2 : Rw) (a3 : Rw) (a4 : Rw) (v35 : Bool) (v39 : Bool) (v46 : Bool) : Option (Bool × Bool) :=
  (cond v35 (cond v39 (cond v46 (spec_CheckQuotient_p6 true true true) (spec_CheckQuotient_p6 false true true)) (cond v46 (spec_CheckQuotient_p6 true true false) (spec_CheckQuotient_p6 false true false))) (cond v39 (cond v46 (spec_CheckQuotient_p6 true false true) ((spec_seLast a3).bind fun y80 => ((spec_seChecked_mul k false y80 a2).bind fun y82 => ((spec_suSmall k a4 y82.1).bind fun y84 => (if y84 = true then (spec_CheckQuotient_p6 y82.2 true true) else (spec_CheckQuotient_p6 y82.2 false true)))))) (cond v46 (spec_CheckQuotient_p6 true false false) ((spec_seLast a3).bind fun y73 => ((spec_seChecked_mul k false y73 a2).bind fun y75 => ((spec_suSmall k a4 y75.1).bind fun y77 => (if y77 = true then (spec_CheckQuotient_p6 y75.2 true false) else (spec_CheckQuotient_p6 y75.2 false false))))))))
set_option maxHeartbeats 4000000 in
set_option maxRecDepth 100000 in
theorem spec_CheckQuotient_p5_ct {k : Nat} {a2 : Rw} {a3 : Rw} {a4 : Rw} {v35 : Bool} {v39 : Bool} {v46 : Bool} {r : Bool × Bool} (h : spec_CheckQuotient_p5 k a2 a3 a4 v35 v39 v46 = some r) : X prog 0 (tlF f14 5) (mk 77 [(5, .ptr 320 0), (6, .ptr 384 0), (7, .ptr 448 0), (10, .ptr 2304 0), (11, .d (D.bool v39)), (12, .d (D.bool v35))] [(320, .box 28 [.d (D.sl a2)]), (384, .box 28 [.d (D.sl a3)]), (448, .box 28 [.d (D.sl a4)]), (2304, .box 53 [.d (D.bool v46)])]) (finK prog f14 0 (.tup [.d (D.bool r.1), .d (D.bool r.2)]) (⟨[], []⟩)) := by
  rw [spec_CheckQuotient_p5] at h
  cases v35
  · replace h := condF h
    cases v39
    · replace h := condF h
      cases v46
      · replace h := condF h
        conv => whnf
        refine splF ?_
        conv => whnf
        obtain ⟨y73, e74, h⟩ := bind_ex h
        refine CallOk.of (spec_seLast_ct e74) ?_
        conv => whnf
        obtain ⟨y75, e76, h⟩ := bind_ex h
        refine CallOk.of (spec_seChecked_mul_ct e76) ?_
        conv => whnf
        obtain ⟨y77, e78, h⟩ := bind_ex h
        refine CallOk.of (spec_suSmall_ct e78) ?_
        conv => whnf
        refine spl (fun g79 => ?_) (fun g79 => ?_)
        · replace h := iteT h g79
          conv => whnf
          exact CutK.piece (spec_CheckQuotient_p6_ct  h) [some 2304] [] ⟨⟨rfl, rfl⟩, ⟨rfl, ⟨rfl, rfl, trivial⟩, trivial⟩, ⟨rfl, rfl⟩, rfl, rfl, trivial⟩
        · replace h := iteF h g79
          conv => whnf
          exact CutK.piece (spec_CheckQuotient_p6_ct  h) [some 2304] [] ⟨⟨rfl, rfl⟩, ⟨rfl, ⟨rfl, rfl, trivial⟩, trivial⟩, ⟨rfl, rfl⟩, rfl, rfl, trivial⟩
      · replace h := condT h
        conv => whnf
        refine splT ?_
        conv => whnf
        exact CutK.piece (spec_CheckQuotient_p6_ct  h) [some 2304] [] ⟨⟨rfl, rfl⟩, ⟨rfl, ⟨rfl, rfl, trivial⟩, trivial⟩, ⟨rfl, rfl⟩, rfl, rfl, trivial⟩
    · replace h := condT h
      cases v46
      · replace h := condF h
        conv => whnf
        refine splF ?_
        conv => whnf
        obtain ⟨y80, e81, h⟩ := bind_ex h
        refine CallOk.of (spec_seLast_ct e81) ?_
        conv => whnf
        obtain ⟨y82, e83, h⟩ := bind_ex h
        refine CallOk.of (spec_seChecked_mul_ct e83) ?_
        conv => whnf
        obtain ⟨y84, e85, h⟩ := bind_ex h
        refine CallOk.of (spec_suSmall_ct e85) ?_
        conv => whnf
        refine spl (fun g86 => ?_) (fun g86 => ?_)
        · replace h := iteT h g86
          conv => whnf
          exact CutK.piece (spec_CheckQuotient_p6_ct  h) [some 2304] [] ⟨⟨rfl, rfl⟩, ⟨rfl, ⟨rfl, rfl, trivial⟩, trivial⟩, ⟨rfl, rfl⟩, rfl, rfl, trivial⟩
        · replace h := iteF h g86
          conv => whnf
          exact CutK.piece (spec_CheckQuotient_p6_ct  h) [some 2304] [] ⟨⟨rfl, rfl⟩, ⟨rfl, ⟨rfl, rfl, trivial⟩, trivial⟩, ⟨rfl, rfl⟩, rfl, rfl, trivial⟩
      · replace h := condT h
        conv => whnf
        refine splT ?_
        conv => whnf
        exact CutK.piece (spec_CheckQuotient_p6_ct  h) [some 2304] [] ⟨⟨rfl, rfl⟩, ⟨rfl, ⟨rfl, rfl, trivial⟩, trivial⟩, ⟨rfl, rfl⟩, rfl, rfl, trivial⟩
  · replace h := condT h
    cases v39
    · replace h := condF h
      cases v46
      · replace h := condF h
        conv => whnf
        exact CutK.piece (spec_CheckQuotient_p6_ct  h) [some 2304] [] ⟨⟨rfl, rfl⟩, ⟨rfl, ⟨rfl, rfl, trivial⟩, trivial⟩, ⟨rfl, rfl⟩, rfl, rfl, trivial⟩
      · replace h := condT h
        conv => whnf
        exact CutK.piece (spec_CheckQuotient_p6_ct  h) [some 2304] [] ⟨⟨rfl, rfl⟩, ⟨rfl, ⟨rfl, rfl, trivial⟩, trivial⟩, ⟨rfl, rfl⟩, rfl, rfl, trivial⟩
    · replace h := condT h
      cases v46
      · replace h := condF h
        conv => whnf
        exact CutK.piece (spec_CheckQuotient_p6_ct  h) [some 2304] [] ⟨⟨rfl, rfl⟩, ⟨rfl, ⟨rfl, rfl, trivial⟩, trivial⟩, ⟨rfl, rfl⟩, rfl, rfl, trivial⟩
      · replace h := condT h
        conv => whnf
        exact CutK.piece (spec_CheckQuotient_p6_ct  h) [some 2304] [] ⟨⟨rfl, rfl⟩, ⟨rfl, ⟨rfl, rfl, trivial⟩, trivial⟩, ⟨rfl, rfl⟩, rfl, rfl, trivial⟩
def spec_CheckQuotient_p4 (k : Nat) (a2 : Rw) (a3 : Rw) (a4 : Rw) (o27 : Bool) (v28 : Bool) : Option (Bool × Bool) :=
  (cond o27 (cond v28 ((spec_suZero a4).bind fun y105 => (if y105 = true then (spec_CheckQuotient_p5 k a2 a3 a4 true true true) else ((spec_suZero a3).bind fun y108 => (if y108 = true then (spec_CheckQuotient_p5 k a2 a3 a4 true true true) else (spec_CheckQuotient_p5 k a2 a3 a4 false true true))))) ((spec_suZero a4).bind fun y99 => (if y99 = true then (spec_CheckQuotient_p5 k a2 a3 a4 true false true) else ((spec_suZero a3).bind fun y102 => (if y102 = true then (spec_CheckQuotient_p5 k a2 a3 a4 true false true) else (spec_CheckQuotient_p5 k a2 a3 a4 false false true)))))) (cond v28 ((spec_suZero a4).bind fun y93 => (if y93 = true then (spec_CheckQuotient_p5 k a2 a3 a4 true true false) else ((spec_suZero a3).bind fun y96 => (if y96 = true then (spec_CheckQuotient_p5 k a2 a3 a4 true true false) else (spec_CheckQuotient_p5 k a2 a3 a4 false true false))))) ((spec_suZero a4).bind fun y87 => (if y87 = true then (spec_CheckQuotient_p5 k a2 a3 a4 true false false) else ((spec_suZero a3).bind fun y90 => (if y90 = true then (spec_CheckQuotient_p5 k a2 a3 a4 true false false) else (spec_CheckQuotient_p5 k a2 a3 a4 false false false)))))))
set_option maxHeartbeats 4000000 in
set_option maxRecDepth 100000 in
theorem spec_CheckQuotient_p4_ct {k : Nat} {a2 : Rw} {a3 : Rw} {a4 : Rw} {o27 : Bool} {v28 : Bool} {r : Bool × Bool} (h : spec_CheckQuotient_p4 k a2 a3 a4 o27 v28 = some r) : X prog 0 (tlF f14 4) (mk 77 [(5, .ptr 320 0), (6, .ptr 384 0), (7, .ptr 448 0), (10, .ptr 2304 0), (11, .d (D.bool v28))] [(320, .box 28 [.d (D.sl a2)]), (384, .box 28 [.d (D.sl a3)]), (448, .box 28 [.d (D.sl a4)]), (2304, .box 53 [.d (D.bool o27)])]) (finK prog f14 0 (.tup [.d (D.bool r.1), .d (D.bool r.2)]) (⟨[], []⟩)) := by
  rw [spec_CheckQuotient_p4] at h
  cases o27
  · replace h := condF h
    cases v28
    · replace h := condF h
      conv => whnf
      obtain ⟨y87, e88, h⟩ := bind_ex h
      refine CallOk.of (spec_suZero_ct e88) ?_
      conv => whnf
      refine spl (fun g89 => ?_) (fun g89 => ?_)
      · replace h := iteT h g89
        conv => whnf
        exact CutK.piece (spec_CheckQuotient_p5_ct  h) [some 320, some 384, some 448, some 2304] [] ⟨⟨rfl, rfl⟩, ⟨rfl, ⟨rfl, rfl, trivial⟩, ⟨rfl, rfl, trivial⟩, ⟨rfl, rfl, trivial⟩, ⟨rfl, rfl, trivial⟩, trivial⟩, ⟨rfl, rfl⟩, ⟨rfl, rfl⟩, ⟨rfl, rfl⟩, ⟨rfl, rfl⟩, rfl, rfl, trivial⟩
      · replace h := iteF h g89
        conv => whnf
        obtain ⟨y90, e91, h⟩ := bind_ex h
        refine CallOk.of (spec_suZero_ct e91) ?_
        conv => whnf
        refine spl (fun g92 => ?_) (fun g92 => ?_)
        · replace h := iteT h g92
          conv => whnf
          exact CutK.piece (spec_CheckQuotient_p5_ct  h) [some 320, some 384, some 448, some 2304] [] ⟨⟨rfl, rfl⟩, ⟨rfl, ⟨rfl, rfl, trivial⟩, ⟨rfl, rfl, trivial⟩, ⟨rfl, rfl, trivial⟩, ⟨rfl, rfl, trivial⟩, trivial⟩, ⟨rfl, rfl⟩, ⟨rfl, rfl⟩, ⟨rfl, rfl⟩, ⟨rfl, rfl⟩, rfl, rfl, trivial⟩
        · replace h := iteF h g92
          conv => whnf
          exact CutK.piece (spec_CheckQuotient_p5_ct  h) [some 320, some 384, some 448, some 2304] [] ⟨⟨rfl, rfl⟩, ⟨rfl, ⟨rfl, rfl, trivial⟩, ⟨rfl, rfl, trivial⟩, ⟨rfl, rfl, trivial⟩, ⟨rfl, rfl, trivial⟩, trivial⟩, ⟨rfl, rfl⟩, ⟨rfl, rfl⟩, ⟨rfl, rfl⟩, ⟨rfl, rfl⟩, rfl, rfl, trivial⟩
    · replace h := condT h
      conv => whnf
      obtain ⟨y93, e94, h⟩ := bind_ex h
      refine CallOk.of (spec_suZero_ct e94) ?_
      conv => whnf
      refine spl (fun g95 => ?_) (fun g95 => ?_)
      · replace h := iteT h g95
        conv => whnf
        exact CutK.piece (spec_CheckQuotient_p5_ct  h) [some 320, some 384, some 448, some 2304] [] ⟨⟨rfl, rfl⟩, ⟨rfl, ⟨rfl, rfl, trivial⟩, ⟨rfl, rfl, trivial⟩, ⟨rfl, rfl, trivial⟩, ⟨rfl, rfl, trivial⟩, trivial⟩, ⟨rfl, rfl⟩, ⟨rfl, rfl⟩, ⟨rfl, rfl⟩, ⟨rfl, rfl⟩, rfl, rfl, trivial⟩
      · replace h := iteF h g95
        conv => whnf
        obtain ⟨y96, e97, h⟩ := bind_ex h
        refine CallOk.of (spec_suZero_ct e97) ?_
        conv => whnf
        refine spl (fun g98 => ?_) (fun g98 => ?_)
        · replace h := iteT h g98
          conv => whnf
          exact CutK.piece (spec_CheckQuotient_p5_ct  h) [some 320, some 384, some 448, some 2304] [] ⟨⟨rfl, rfl⟩, ⟨rfl, ⟨rfl, rfl, trivial⟩, ⟨rfl, rfl, trivial⟩, ⟨rfl, rfl, trivial⟩, ⟨rfl, rfl, trivial⟩, trivial⟩, ⟨rfl, rfl⟩, ⟨rfl, rfl⟩, ⟨rfl, rfl⟩, ⟨rfl, rfl⟩, rfl, rfl, trivial⟩
        · replace h := iteF h g98
          conv => whnf
          exact CutK.piece (spec_CheckQuotient_p5_ct  h) [some 320, some 384, some 448, some 2304] [] ⟨⟨rfl, rfl⟩, ⟨rfl, ⟨rfl, rfl, trivial⟩, ⟨rfl, rfl, trivial⟩, ⟨rfl, rfl, trivial⟩, ⟨rfl, rfl, trivial⟩, trivial⟩, ⟨rfl, rfl⟩, ⟨rfl, rfl⟩, ⟨rfl, rfl⟩, ⟨rfl, rfl⟩, rfl, rfl, trivial⟩
  · replace h := condT h
    cases v28
    · replace h := condF h
      conv => whnf
      obtain ⟨y99, e100, h⟩ := bind_ex h
      refine CallOk.of (spec_suZero_ct e100) ?_
      conv => whnf
      refine spl (fun g101 => ?_) (fun g101 => ?_)
      · replace h := iteT h g101
        conv => whnf
        exact CutK.piece (spec_CheckQuotient_p5_ct  h) [some 320, some 384, some 448, some 2304] [] ⟨⟨rfl, rfl⟩, ⟨rfl, ⟨rfl, rfl, trivial⟩, ⟨rfl, rfl, trivial⟩, ⟨rfl, rfl, trivial⟩, ⟨rfl, rfl, trivial⟩, trivial⟩, ⟨rfl, rfl⟩, ⟨rfl, rfl⟩, ⟨rfl, rfl⟩, ⟨rfl, rfl⟩, rfl, rfl, trivial⟩
      · replace h := iteF h g101
        conv => whnf
        obtain ⟨y102, e103, h⟩ := bind_ex h
        refine CallOk.of (spec_suZero_ct e103) ?_
        conv => whnf
        refine spl (fun g104 => ?_) (fun g104 => ?_)
        · replace h := iteT h g104
          conv => whnf
          exact CutK.piece (spec_CheckQuotient_p5_ct  h) [some 320, some 384, some 448, some 2304] [] ⟨⟨rfl, rfl⟩, ⟨rfl, ⟨rfl, rfl, trivial⟩, ⟨rfl, rfl, trivial⟩, ⟨rfl, rfl, trivial⟩, ⟨rfl, rfl, trivial⟩, trivial⟩, ⟨rfl, rfl⟩, ⟨rfl, rfl⟩, ⟨rfl, rfl⟩, ⟨rfl, rfl⟩, rfl, rfl, trivial⟩
        · replace h := iteF h g104
          conv => whnf
          exact CutK.piece (spec_CheckQuotient_p5_ct  h) [some 320, some 384, some 448, some 2304] [] ⟨⟨rfl, rfl⟩, ⟨rfl, ⟨rfl, rfl, trivial⟩, ⟨rfl, rfl, trivial⟩, ⟨rfl, rfl, trivial⟩, ⟨rfl, rfl, trivial⟩, trivial⟩, ⟨rfl, rfl⟩, ⟨rfl, rfl⟩, ⟨rfl, rfl⟩, ⟨rfl, rfl⟩, rfl, rfl, trivial⟩
    · replace h := condT h
      conv => whnf
      obtain ⟨y105, e106, h⟩ := bind_ex h
      refine CallOk.of (spec_suZero_ct e106) ?_
      conv => whnf
      refine spl (fun g107 => ?_) (fun g107 => ?_)
      · replace h := iteT h g107
        conv => whnf
        exact CutK.piece (spec_CheckQuotient_p5_ct  h) [some 320, some 384, some 448, some 2304] [] ⟨⟨rfl, rfl⟩, ⟨rfl, ⟨rfl, rfl, trivial⟩, ⟨rfl, rfl, trivial⟩, ⟨rfl, rfl, trivial⟩, ⟨rfl, rfl, trivial⟩, trivial⟩, ⟨rfl, rfl⟩, ⟨rfl, rfl⟩, ⟨rfl, rfl⟩, ⟨rfl, rfl⟩, rfl, rfl, trivial⟩
      · replace h := iteF h g107
        conv => whnf
        obtain ⟨y108, e109, h⟩ := bind_ex h
        refine CallOk.of (spec_suZero_ct e109) ?_
        conv => whnf
        refine spl (fun g110 => ?_) (fun g110 => ?_)
        · replace h := iteT h g110
          conv => whnf
          exact CutK.piece (spec_CheckQuotient_p5_ct  h) [some 320, some 384, some 448, some 2304] [] ⟨⟨rfl, rfl⟩, ⟨rfl, ⟨rfl, rfl, trivial⟩, ⟨rfl, rfl, trivial⟩, ⟨rfl, rfl, trivial⟩, ⟨rfl, rfl, trivial⟩, trivial⟩, ⟨rfl, rfl⟩, ⟨rfl, rfl⟩, ⟨rfl, rfl⟩, ⟨rfl, rfl⟩, rfl, rfl, trivial⟩
        · replace h := iteF h g110
          conv => whnf
          exact CutK.piece (spec_CheckQuotient_p5_ct  h) [some 320, some 384, some 448, some 2304] [] ⟨⟨rfl, rfl⟩, ⟨rfl, ⟨rfl, rfl, trivial⟩, ⟨rfl, rfl, trivial⟩, ⟨rfl, rfl, trivial⟩, ⟨rfl, rfl, trivial⟩, trivial⟩, ⟨rfl, rfl⟩, ⟨rfl, rfl⟩, ⟨rfl, rfl⟩, ⟨rfl, rfl⟩, rfl, rfl, trivial⟩
def spec_CheckQuotient_p2 (k : Nat) (a1 : Rw) (a2 : Rw) (a3 : Rw) (a4 : Rw) : Option (Bool × Bool) :=
  ((spec_seChecked_mul k false a3 a2).bind fun y111 => ((spec_seChecked_add k y111.2 y111.1 a4).bind fun y113 => ((spec_suCmp k y113.1 a1).bind fun y115 => (if y115 = (0 : Int) then (spec_CheckQuotient_p4 k a2 a3 a4 y113.2 true) else (spec_CheckQuotient_p4 k a2 a3 a4 y113.2 false)))))
set_option maxHeartbeats 4000000 in
set_option maxRecDepth 100000 in
theorem spec_CheckQuotient_p2_ct {k : Nat} {a1 : Rw} {a2 : Rw} {a3 : Rw} {a4 : Rw} {r : Bool × Bool} (h : spec_CheckQuotient_p2 k a1 a2 a3 a4 = some r) : X prog 0 (tlF f14 2) (mk 77 [(4, .ptr 256 0), (5, .ptr 320 0), (6, .ptr 384 0), (7, .ptr 448 0)] [(256, .box 28 [.d (D.sl a1)]), (320, .box 28 [.d (D.sl a2)]), (384, .box 28 [.d (D.sl a3)]), (448, .box 28 [.d (D.sl a4)])]) (finK prog f14 0 (.tup [.d (D.bool r.1), .d (D.bool r.2)]) (⟨[], []⟩)) := by
  rw [spec_CheckQuotient_p2] at h
  conv => whnf
  obtain ⟨y111, e112, h⟩ := bind_ex h
  refine CallOk.of (spec_seChecked_mul_ct e112) ?_
  conv => whnf
  obtain ⟨y113, e114, h⟩ := bind_ex h
  refine CallOk.of (spec_seChecked_add_ct e114) ?_
  conv => whnf
  obtain ⟨y115, e116, h⟩ := bind_ex h
  refine CallOk.of (spec_suCmp_ct e116) ?_
  conv => whnf
  refine splD (fun g117 => ?_) (fun g117 => ?_)
  · replace h := iteP h g117
    conv => whnf
    exact CutK.piece (spec_CheckQuotient_p4_ct  h) [some 320, some 384, some 448, some 2304] [] ⟨⟨rfl, rfl⟩, ⟨rfl, ⟨rfl, rfl, trivial⟩, ⟨rfl, rfl, trivial⟩, ⟨rfl, rfl, trivial⟩, ⟨rfl, rfl, trivial⟩, trivial⟩, ⟨rfl, rfl⟩, ⟨rfl, rfl⟩, ⟨rfl, rfl⟩, ⟨rfl, rfl⟩, rfl, trivial⟩
  · replace h := iteN h g117
    conv => whnf
    exact CutK.piece (spec_CheckQuotient_p4_ct  h) [some 320, some 384, some 448, some 2304] [] ⟨⟨rfl, rfl⟩, ⟨rfl, ⟨rfl, rfl, trivial⟩, ⟨rfl, rfl, trivial⟩, ⟨rfl, rfl, trivial⟩, ⟨rfl, rfl, trivial⟩, trivial⟩, ⟨rfl, rfl⟩, ⟨rfl, rfl⟩, ⟨rfl, rfl⟩, ⟨rfl, rfl⟩, rfl, trivial⟩
def spec_CheckQuotient (k : Nat) (a1 : Rw) (a2 : Rw) (a3 : Rw) (a4 : Rw) : Option (Bool × Bool) :=
  ((spec_suGood k a1).bind fun y118 => (if y118 = true then ((spec_suGood k a2).bind fun y121 => (if y121 = true then ((spec_suZero a2).bind fun y124 => (if y124 = true then some (false, false) else ((spec_suGood k a3).bind fun y127 => (if y127 = true then ((spec_suGood k a4).bind fun y130 => (if y130 = true then (spec_CheckQuotient_p2 k a1 a2 a3 a4) else some (false, false))) else some (false, false))))) else some (false, false))) else some (false, false)))
set_option maxHeartbeats 4000000 in
set_option maxRecDepth 100000 in
theorem spec_CheckQuotient_ct {k : Nat} {a1 : Rw} {a2 : Rw} {a3 : Rw} {a4 : Rw} {r : Bool × Bool} (h : spec_CheckQuotient k a1 a2 a3 a4 = some r) : Ct prog 14 [.agg [.d (D.sl a1)], .agg [.d (D.sl a2)], .agg [.d (D.sl a3)], .agg [.d (D.sl a4)]] (⟨[], []⟩) (.tup [.d (D.bool r.1), .d (D.bool r.2)]) (⟨[], []⟩) := by
  rw [spec_CheckQuotient] at h
  refine Ct.of (c := _) mixed func14 ⟨rfl, rfl, rfl⟩ ?_ rfl
  conv => whnf
  obtain ⟨y118, e119, h⟩ := bind_ex h
  refine CallOk.of (spec_suGood_ct e119) ?_
  conv => whnf
  refine spl (fun g120 => ?_) (fun g120 => ?_)
  · replace h := iteT h g120
    conv => whnf
    obtain ⟨y121, e122, h⟩ := bind_ex h
    refine CallOk.of (spec_suGood_ct e122) ?_
    conv => whnf
    refine spl (fun g123 => ?_) (fun g123 => ?_)
    · replace h := iteT h g123
      conv => whnf
      obtain ⟨y124, e125, h⟩ := bind_ex h
      refine CallOk.of (spec_suZero_ct e125) ?_
      conv => whnf
      refine spl (fun g126 => ?_) (fun g126 => ?_)
      · replace h := iteT h g126
        conv => whnf
        refine CutK.norm [4, 5, 6, 7, 34] [256, 320, 384, 448] ?_
        conv => whnf
        cases h
        exact Done.of [] [] rfl rfl ⟨⟨rfl, rfl⟩, ⟨rfl, trivial⟩, ⟨rfl, rfl, trivial⟩, trivial⟩
      · replace h := iteF h g126
        conv => whnf
        obtain ⟨y127, e128, h⟩ := bind_ex h
        refine CallOk.of (spec_suGood_ct e128) ?_
        conv => whnf
        refine spl (fun g129 => ?_) (fun g129 => ?_)
        · replace h := iteT h g129
          conv => whnf
          obtain ⟨y130, e131, h⟩ := bind_ex h
          refine CallOk.of (spec_suGood_ct e131) ?_
          conv => whnf
          refine spl (fun g132 => ?_) (fun g132 => ?_)
          · replace h := iteT h g132
            conv => whnf
            refine CutK.norm [4, 5, 6, 7, 34] [256, 320, 384, 448] ?_
            conv => whnf
            exact CutK.piece (spec_CheckQuotient_p2_ct  h) [some 256, some 320, some 384, some 448] [] ⟨⟨rfl, rfl⟩, ⟨rfl, ⟨rfl, rfl, trivial⟩, ⟨rfl, rfl, trivial⟩, ⟨rfl, rfl, trivial⟩, ⟨rfl, rfl, trivial⟩, trivial⟩, ⟨rfl, rfl⟩, ⟨rfl, rfl⟩, ⟨rfl, rfl⟩, ⟨rfl, rfl⟩, trivial⟩
          · replace h := iteF h g132
            conv => whnf
            refine CutK.norm [4, 5, 6, 7, 34] [256, 320, 384, 448] ?_
            conv => whnf
            cases h
            exact Done.of [] [] rfl rfl ⟨⟨rfl, rfl⟩, ⟨rfl, trivial⟩, ⟨rfl, rfl, trivial⟩, trivial⟩
        · replace h := iteF h g129
          conv => whnf
          refine CutK.norm [4, 5, 6, 7, 34] [256, 320, 384, 448] ?_
          conv => whnf
          cases h
          exact Done.of [] [] rfl rfl ⟨⟨rfl, rfl⟩, ⟨rfl, trivial⟩, ⟨rfl, rfl, trivial⟩, trivial⟩
    · replace h := iteF h g123
      conv => whnf
      refine CutK.norm [4, 5, 6, 7, 34] [256, 320, 384, 448] ?_
      conv => whnf
      cases h
      exact Done.of [] [] rfl rfl ⟨⟨rfl, rfl⟩, ⟨rfl, trivial⟩, ⟨rfl, rfl, trivial⟩, trivial⟩
  · replace h := iteF h g120
    conv => whnf
    refine CutK.norm [4, 5, 6, 7, 34] [256, 320, 384, 448] ?_
    conv => whnf
    cases h
    exact Done.of [] [] rfl rfl ⟨⟨rfl, rfl⟩, ⟨rfl, trivial⟩, ⟨rfl, rfl, trivial⟩, trivial⟩

def laws_szSurrealTerm (rec_laws_szSurreal : Rw → Int → Option Int) (a1 : Rw) (a2 : Int) (a3 : Int) (a4 : Int) : Option Int :=
  ((rec_laws_szSurreal a1 a4).bind fun y5 => (if y5 < (0 : Int) then some (-1) else some y5))
set_option maxHeartbeats 4000000 in
set_option maxRecDepth 100000 in
theorem laws_szSurrealTerm_ct {rec_laws_szSurreal : Rw → Int → Option Int} (hrec_laws_szSurreal : ∀ (a1 : Rw) (a2 : Int) (r : Int), rec_laws_szSurreal a1 a2 = some r → Ct prog 7 [.agg [.d (D.sl a1)], .d (D.int .i64 a2)] (⟨[], []⟩) (.d (D.int .i64 r)) (⟨[], []⟩)) {a1 : Rw} {a2 : Int} {a3 : Int} {a4 : Int} {r : Int} (h : laws_szSurrealTerm rec_laws_szSurreal a1 a2 a3 a4 = some r) : Ct prog 58 [.agg [.d (D.sl a1), .d (D.int .i64 a2), .d (D.int .i64 a3)], .d (D.int .i64 a4)] (⟨[], []⟩) (.d (D.int .i64 r)) (⟨[], []⟩) := by
  rw [laws_szSurrealTerm] at h
  refine Ct.of (c := _) mixed func58 ⟨rfl, rfl, rfl⟩ ?_ rfl
  conv => whnf
  obtain ⟨y5, e6, h⟩ := bind_ex h
  refine CallOk.of (hrec_laws_szSurreal _ _ _ e6) ?_
  conv => whnf
  refine CutK.go ?_
  conv => whnf
  refine splD (fun g7 => ?_) (fun g7 => ?_)
  · replace h := iteP h g7
    conv => whnf
    cases h
    exact Done.of [] [] rfl rfl ⟨⟨rfl, rfl⟩, ⟨rfl, trivial⟩, rfl, trivial⟩
  · replace h := iteN h g7
    conv => whnf
    cases h
    exact Done.of [] [] rfl rfl ⟨⟨rfl, rfl⟩, ⟨rfl, trivial⟩, rfl, trivial⟩

def laws_szSurrealTermS_l0 (rec_laws_szSurreal : Rw → Int → Option Int) (a1 : Rw) (K0 : Int → Option Int) : Rw → Int → Option Int
  | [], v13 => (K0 v13)
  | cs :: rest, v13 => (cell_sii cs fun x34 x35 x36 => ((laws_szSurrealTerm rec_laws_szSurreal x34 x35 x36 v13).bind fun y38 => (if y38 < (0 : Int) then some (-1) else (laws_szSurrealTermS_l0 rec_laws_szSurreal a1 K0 rest y38))))
set_option maxRecDepth 100000 in
theorem laws_szSurrealTermS_l0_ct {rec_laws_szSurreal : Rw → Int → Option Int} {a1 : Rw} {K0 : Int → Option Int} (hrec_laws_szSurreal : ∀ (a1 : Rw) (a2 : Int) (r : Int), rec_laws_szSurreal a1 a2 = some r → Ct prog 7 [.agg [.d (D.sl a1)], .d (D.int .i64 a2)] (⟨[], []⟩) (.d (D.int .i64 r)) (⟨[], []⟩)) {r : Int} (hx : a1.length ≤ cap) : ∀ (rest : Rw) (v14n : Nat) (v13 : Int), a1.drop v14n = rest → laws_szSurrealTermS_l0 rec_laws_szSurreal a1 K0 rest v13 = some r → LoopOk prog 0 (lp f24 0) (mk 27 [(0, .d (D.sl a1)), (1, .d (D.int .i64 v13)), (5, .d (D.int .i64 (v14n : Int)))] []) (LoopEnd prog f24 0 27 (.d (D.int .i64 r)) (⟨[], []⟩) (fun i ts os => (i = 0 ∧ ∃ v24 : Int, K0 v24 = some r ∧ ts = [(1, .d (D.int .i64 v24))] ∧ os = [])))
  | [], v14n, v13, hd, h => by
      rw [laws_szSurrealTermS_l0] at h
      have hn := drop_nil hd
      refine LoopOk.step ?_
      conv => whnf
      refine splD (fun g => absurd g hn) (fun _ => ?_)
      conv => whnf
      exact ⟨_, _, [], [], ⟨rfl, _, h, rfl, rfl⟩, ⟨⟨rfl, rfl⟩, ⟨rfl, trivial⟩, rfl, trivial⟩⟩
  | cs :: rest, v14n, v13, hd, h => by
      rw [laws_szSurrealTermS_l0] at h
      obtain ⟨hrow, hd1, hlt⟩ := drop_cons hd
      refine LoopOk.step ?_
      conv => whnf
      refine splD (fun _ => ?_) (fun g => absurd hlt g)
      conv => whnf
      obtain ⟨x34, x35, x36, e37, h⟩ := cell_sii_ex h
      rw [e37] at hrow
      refine Req.of (Int.natCast_nonneg _) ?_
      refine Row.of _ hrow ?_
      conv => whnf
      obtain ⟨y38, e39, h⟩ := bind_ex h
      refine CallOk.of (laws_szSurrealTerm_ct hrec_laws_szSurreal e39) ?_
      conv => whnf
      refine CutK.go ?_
      conv => whnf
      refine splD (fun g40 => ?_) (fun g40 => ?_)
      · replace h := iteP h g40
        conv => whnf
        cases h
        exact Done.of [] [] rfl rfl ⟨⟨rfl, rfl⟩, ⟨rfl, trivial⟩, rfl, trivial⟩
      · replace h := iteN h g40
        conv => whnf
        refine CutK.go ?_
        conv => whnf
        exact LoopOk.back (laws_szSurrealTermS_l0_ct hrec_laws_szSurreal hx rest (v14n + 1) _ hd1 h) [] [] ⟨⟨rfl, rfl⟩, ⟨rfl, trivial⟩, rfl, rfl, i64eq (wrap_up hlt hx), trivial⟩
def laws_szSurrealTermS (rec_laws_szSurreal : Rw → Int → Option Int) (a1 : Rw) (a2 : Int) : Option Int :=
  (if (IntKind.i64.wrap (a2 - (a1.length : Int))) < (0 : Int) then some (-1) else (if a1.length ≤ cap then (laws_szSurrealTermS_l0 rec_laws_szSurreal a1 (fun (v24 : Int) => some v24) a1 (IntKind.i64.wrap (a2 - (a1.length : Int)))) else none))
set_option maxHeartbeats 4000000 in
set_option maxRecDepth 100000 in
theorem laws_szSurrealTermS_ct {rec_laws_szSurreal : Rw → Int → Option Int} (hrec_laws_szSurreal : ∀ (a1 : Rw) (a2 : Int) (r : Int), rec_laws_szSurreal a1 a2 = some r → Ct prog 7 [.agg [.d (D.sl a1)], .d (D.int .i64 a2)] (⟨[], []⟩) (.d (D.int .i64 r)) (⟨[], []⟩)) {a1 : Rw} {a2 : Int} {r : Int} (h : laws_szSurrealTermS rec_laws_szSurreal a1 a2 = some r) : Ct prog 24 [.d (D.sl a1), .d (D.int .i64 a2)] (⟨[], []⟩) (.d (D.int .i64 r)) (⟨[], []⟩) := by
  rw [laws_szSurrealTermS] at h
  refine Ct.of (c := _) mixed func24 ⟨rfl, rfl, rfl⟩ ?_ rfl
  conv => whnf
  refine splD (fun g3 => ?_) (fun g3 => ?_)
  · replace h := iteP h g3
    conv => whnf
    cases h
    exact Done.of [] [] rfl rfl ⟨⟨rfl, rfl⟩, ⟨rfl, trivial⟩, rfl, trivial⟩
  · replace h := iteN h g3
    conv => whnf
    obtain ⟨g41, h⟩ := req_ex h
    refine LoopOk.into (laws_szSurrealTermS_l0_ct hrec_laws_szSurreal g41 _ _ _ rfl h) [] [] ⟨⟨rfl, rfl⟩, ⟨rfl, trivial⟩, rfl, rfl, rfl, trivial⟩ ?_ (fun _ hs => hs)
    rintro i ts os ⟨rfl, v24, h, rfl, rfl⟩
    conv => whnf
    refine CutK.go ?_
    conv => whnf
    cases h
    exact Done.of [] [] rfl rfl ⟨⟨rfl, rfl⟩, ⟨rfl, trivial⟩, rfl, trivial⟩

def laws_szSurreal_b (rec_laws_szSurreal : Rw → Int → Option Int) (a1 : Rw) (a2 : Int) : Option Int :=
  ((laws_szSurrealTermS rec_laws_szSurreal a1 a2).bind fun y3 => (if y3 < (0 : Int) then some (-1) else some y3))
set_option maxHeartbeats 4000000 in
set_option maxRecDepth 100000 in
theorem laws_szSurreal_b_ct {rec_laws_szSurreal : Rw → Int → Option Int} (hrec_laws_szSurreal : ∀ (a1 : Rw) (a2 : Int) (r : Int), rec_laws_szSurreal a1 a2 = some r → Ct prog 7 [.agg [.d (D.sl a1)], .d (D.int .i64 a2)] (⟨[], []⟩) (.d (D.int .i64 r)) (⟨[], []⟩)) {a1 : Rw} {a2 : Int} {r : Int} (h : laws_szSurreal_b rec_laws_szSurreal a1 a2 = some r) : Ct prog 7 [.agg [.d (D.sl a1)], .d (D.int .i64 a2)] (⟨[], []⟩) (.d (D.int .i64 r)) (⟨[], []⟩) := by
  rw [laws_szSurreal_b] at h
  refine Ct.of (c := _) mixed func7 ⟨rfl, rfl, rfl⟩ ?_ rfl
  conv => whnf
  obtain ⟨y3, e4, h⟩ := bind_ex h
  refine CallOk.of (laws_szSurrealTermS_ct hrec_laws_szSurreal e4) ?_
  conv => whnf
  refine CutK.go ?_
  conv => whnf
  refine splD (fun g5 => ?_) (fun g5 => ?_)
  · replace h := iteP h g5
    conv => whnf
    cases h
    exact Done.of [] [] rfl rfl ⟨⟨rfl, rfl⟩, ⟨rfl, trivial⟩, rfl, trivial⟩
  · replace h := iteN h g5
    conv => whnf
    cases h
    exact Done.of [] [] rfl rfl ⟨⟨rfl, rfl⟩, ⟨rfl, trivial⟩, rfl, trivial⟩
def laws_szSurreal : Nat → Rw → Int → Option Int
  | 0, _, _ => none
  | k + 1, a1, a2 => laws_szSurreal_b (laws_szSurreal k) a1 a2
theorem laws_szSurreal_ct' : ∀ (k : Nat) (a1 : Rw) (a2 : Int) (r : Int), laws_szSurreal k a1 a2 = some r → Ct prog 7 [.agg [.d (D.sl a1)], .d (D.int .i64 a2)] (⟨[], []⟩) (.d (D.int .i64 r)) (⟨[], []⟩)
  | 0, _, _, _, h => by rw [laws_szSurreal] at h; cases h
  | k + 1, _, _, _, h => by rw [laws_szSurreal] at h; exact laws_szSurreal_b_ct (laws_szSurreal_ct' k) h
theorem laws_szSurreal_ct {k : Nat} {a1 : Rw} {a2 : Int} {r : Int} (h : laws_szSurreal k a1 a2 = some r) : Ct prog 7 [.agg [.d (D.sl a1)], .d (D.int .i64 a2)] (⟨[], []⟩) (.d (D.int .i64 r)) (⟨[], []⟩) := laws_szSurreal_ct' k _ _ _ h

def laws_FnExactCheckQuotient_p21  : Option Bool :=
  some true
set_option maxHeartbeats 4000000 in
set_option maxRecDepth 100000 in
theorem laws_FnExactCheckQuotient_p21_ct  {r : Bool} (h : laws_FnExactCheckQuotient_p21 = some r) : X prog 0 (tlF f4 21) (mk 94 [] []) (finK prog f4 0 (.d (D.bool r)) (⟨[], []⟩)) := by
  rw [laws_FnExactCheckQuotient_p21] at h
  conv => whnf
  cases h
  exact Done.of [] [] rfl rfl ⟨⟨rfl, rfl⟩, ⟨rfl, trivial⟩, rfl, trivial⟩
def laws_FnExactCheckQuotient_p20 (k : Nat) (a4 : Rw) (o149 : Rw) : Option Bool :=
  ((laws_toSurreal k a4).bind fun y155 => ((laws_eqSurreal k o149 y155).bind fun y157 => (if y157 = true then (laws_FnExactCheckQuotient_p21) else some false)))
set_option maxHeartbeats 4000000 in
set_option maxRecDepth 100000 in
theorem laws_FnExactCheckQuotient_p20_ct {k : Nat} {a4 : Rw} {o149 : Rw} {r : Bool} (h : laws_FnExactCheckQuotient_p20 k a4 o149 = some r) : X prog 0 (tlF f4 20) (mk 94 [(7, .ptr 448 0), (15, .ptr 960 0)] [(448, .box 24 [.d (D.sl a4)]), (960, .box 28 [.os 1164000 o149.length]), (1164000, .arr 80 true o149)]) (finK prog f4 0 (.d (D.bool r)) (⟨[], []⟩)) := by
  rw [laws_FnExactCheckQuotient_p20] at h
  conv => whnf
  obtain ⟨y155, e156, h⟩ := bind_ex h
  refine CallOk.of (laws_toSurreal_ct e156) ?_
  conv => whnf
  refine Take.all (rfl) ?_
  conv => whnf
  refine Take.all (rfl) ?_
  conv => whnf
  obtain ⟨y157, e158, h⟩ := bind_ex h
  refine CallOk.of (laws_eqSurreal_ct e158) ?_
  conv => whnf
  refine spl (fun g159 => ?_) (fun g159 => ?_)
  · replace h := iteT h g159
    conv => whnf
    refine CutK.norm [93] [] ?_
    conv => whnf
    exact CutK.piece (laws_FnExactCheckQuotient_p21_ct  h) [] [] ⟨⟨rfl, rfl⟩, ⟨rfl, trivial⟩, trivial⟩
  · replace h := iteF h g159
    conv => whnf
    refine CutK.norm [93] [] ?_
    conv => whnf
    cases h
    exact Done.of [] [] rfl rfl ⟨⟨rfl, rfl⟩, ⟨rfl, trivial⟩, rfl, trivial⟩
def laws_FnExactCheckQuotient_p19 (k : Nat) (a3 : Rw) (a4 : Rw) (o142 : Rw) (o143 : Rw) : Option Bool :=
  ((laws_toSurreal k a3).bind fun y160 => ((laws_eqSurreal k o142 y160).bind fun y162 => (if y162 = true then (laws_FnExactCheckQuotient_p20 k a4 o143) else some false)))
set_option maxHeartbeats 4000000 in
set_option maxRecDepth 100000 in
theorem laws_FnExactCheckQuotient_p19_ct {k : Nat} {a3 : Rw} {a4 : Rw} {o142 : Rw} {o143 : Rw} {r : Bool} (h : laws_FnExactCheckQuotient_p19 k a3 a4 o142 o143 = some r) : X prog 0 (tlF f4 19) (mk 94 [(6, .ptr 384 0), (7, .ptr 448 0), (14, .ptr 896 0), (15, .ptr 960 0)] [(384, .box 24 [.d (D.sl a3)]), (448, .box 24 [.d (D.sl a4)]), (896, .box 28 [.os 1159000 o142.length]), (960, .box 28 [.os 1159001 o143.length]), (1159000, .arr 80 true o142), (1159001, .arr 80 true o143)]) (finK prog f4 0 (.d (D.bool r)) (⟨[], []⟩)) := by
  rw [laws_FnExactCheckQuotient_p19] at h
  conv => whnf
  obtain ⟨y160, e161, h⟩ := bind_ex h
  refine CallOk.of (laws_toSurreal_ct e161) ?_
  conv => whnf
  refine Take.all (rfl) ?_
  conv => whnf
  refine Take.all (rfl) ?_
  conv => whnf
  obtain ⟨y162, e163, h⟩ := bind_ex h
  refine CallOk.of (laws_eqSurreal_ct e163) ?_
  conv => whnf
  refine spl (fun g164 => ?_) (fun g164 => ?_)
  · replace h := iteT h g164
    conv => whnf
    refine CutK.norm [7, 15, 88] [448, 960, 1159001] ?_
    conv => whnf
    exact CutK.piece (laws_FnExactCheckQuotient_p20_ct  h) [some 448, some 960, some 1159001] [] ⟨⟨rfl, rfl⟩, ⟨rfl, ⟨rfl, rfl, trivial⟩, ⟨rfl, ⟨rfl, rfl⟩, trivial⟩, ⟨rfl, rfl, rows_same⟩, trivial⟩, ⟨rfl, rfl⟩, ⟨rfl, rfl⟩, trivial⟩
  · replace h := iteF h g164
    conv => whnf
    refine CutK.norm [7, 15, 88] [448, 960, 1159001] ?_
    conv => whnf
    cases h
    exact Done.of [] [] rfl rfl ⟨⟨rfl, rfl⟩, ⟨rfl, trivial⟩, rfl, trivial⟩
def laws_FnExactCheckQuotient_p18 (k : Nat) (a2 : Rw) (a3 : Rw) (a4 : Rw) (o119 : Rw) (o120 : Rw) (o121 : Rw) : Option Bool :=
  ((laws_toSurreal k a2).bind fun y165 => ((laws_eqSurreal k o119 y165).bind fun y167 => (if y167 = true then (laws_FnExactCheckQuotient_p19 k a3 a4 o120 o121) else some false)))
set_option maxHeartbeats 4000000 in
set_option maxRecDepth 100000 in
theorem laws_FnExactCheckQuotient_p18_ct {k : Nat} {a2 : Rw} {a3 : Rw} {a4 : Rw} {o119 : Rw} {o120 : Rw} {o121 : Rw} {r : Bool} (h : laws_FnExactCheckQuotient_p18 k a2 a3 a4 o119 o120 o121 = some r) : X prog 0 (tlF f4 18) (mk 94 [(5, .ptr 320 0), (6, .ptr 384 0), (7, .ptr 448 0), (13, .ptr 832 0), (14, .ptr 896 0), (15, .ptr 960 0)] [(320, .box 24 [.d (D.sl a2)]), (384, .box 24 [.d (D.sl a3)]), (448, .box 24 [.d (D.sl a4)]), (832, .box 28 [.os 1154000 o119.length]), (896, .box 28 [.os 1154001 o120.length]), (960, .box 28 [.os 1154002 o121.length]), (1154000, .arr 80 true o119), (1154001, .arr 80 true o120), (1154002, .arr 80 true o121)]) (finK prog f4 0 (.d (D.bool r)) (⟨[], []⟩)) := by
  rw [laws_FnExactCheckQuotient_p18] at h
  conv => whnf
  obtain ⟨y165, e166, h⟩ := bind_ex h
  refine CallOk.of (laws_toSurreal_ct e166) ?_
  conv => whnf
  refine Take.all (rfl) ?_
  conv => whnf
  refine Take.all (rfl) ?_
  conv => whnf
  obtain ⟨y167, e168, h⟩ := bind_ex h
  refine CallOk.of (laws_eqSurreal_ct e168) ?_
  conv => whnf
  refine spl (fun g169 => ?_) (fun g169 => ?_)
  · replace h := iteT h g169
    conv => whnf
    refine CutK.norm [6, 7, 14, 15, 83] [384, 448, 896, 960, 1154001, 1154002] ?_
    conv => whnf
    exact CutK.piece (laws_FnExactCheckQuotient_p19_ct  h) [some 384, some 448, some 896, some 960, some 1154001, some 1154002] [] ⟨⟨rfl, rfl⟩, ⟨rfl, ⟨rfl, rfl, trivial⟩, ⟨rfl, rfl, trivial⟩, ⟨rfl, ⟨rfl, rfl⟩, trivial⟩, ⟨rfl, ⟨rfl, rfl⟩, trivial⟩, ⟨rfl, rfl, rows_same⟩, ⟨rfl, rfl, rows_same⟩, trivial⟩, ⟨rfl, rfl⟩, ⟨rfl, rfl⟩, ⟨rfl, rfl⟩, ⟨rfl, rfl⟩, trivial⟩
  · replace h := iteF h g169
    conv => whnf
    refine CutK.norm [6, 7, 14, 15, 83] [384, 448, 896, 960, 1154001, 1154002] ?_
    conv => whnf
    cases h
    exact Done.of [] [] rfl rfl ⟨⟨rfl, rfl⟩, ⟨rfl, trivial⟩, rfl, trivial⟩
def laws_FnExactCheckQuotient_p16 (k : Nat) (a1 : Rw) (a2 : Rw) (a3 : Rw) (a4 : Rw) (o90 : Rw) (o91 : Rw) (o92 : Rw) (o93 : Rw) (v94 : Bool) (v96 : Bool) (v101 : Bool) (v107 : Bool) : Option Bool :=
  (cond v94 (cond v96 (cond v101 (cond v107 ((laws_toSurreal k a1).bind fun y185 => ((laws_eqSurreal k o90 y185).bind fun y187 => (if y187 = true then (laws_FnExactCheckQuotient_p18 k a2 a3 a4 o91 o92 o93) else some false))) (some false)) (cond v107 (some false) (some false))) (cond v101 (cond v107 (some false) (some false)) (cond v107 ((laws_toSurreal k a1).bind fun y180 => ((laws_eqSurreal k o90 y180).bind fun y182 => (if y182 = true then (laws_FnExactCheckQuotient_p18 k a2 a3 a4 o91 o92 o93) else some false))) (some false)))) (cond v96 (cond v101 (cond v107 (some false) ((laws_toSurreal k a1).bind fun y175 => ((laws_eqSurreal k o90 y175).bind fun y177 => (if y177 = true then (laws_FnExactCheckQuotient_p18 k a2 a3 a4 o91 o92 o93) else some false)))) (cond v107 (some false) (some false))) (cond v101 (cond v107 (some false) (some false)) (cond v107 (some false) ((laws_toSurreal k a1).bind fun y170 => ((laws_eqSurreal k o90 y170).bind fun y172 => (if y172 = true then (laws_FnExactCheckQuotient_p18 k a2 a3 a4 o91 o92 o93) else some false)))))))
set_option maxHeartbeats 4000000 in
set_option maxRecDepth 100000 in
theorem laws_FnExactCheckQuotient_p16_ct {k : Nat} {a1 : Rw} {a2 : Rw} {a3 : Rw} {a4 : Rw} {o90 : Rw} {o91 : Rw} {o92 : Rw} {o93 : Rw} {v94 : Bool} {v96 : Bool} {v101 : Bool} {v107 : Bool} {r : Bool} (h : laws_FnExactCheckQuotient_p16 k a1 a2 a3 a4 o90 o91 o92 o93 v94 v96 v101 v107 = some r) : X prog 0 (tlF f4 16) (mk 94 [(4, .ptr 256 0), (5, .ptr 320 0), (6, .ptr 384 0), (7, .ptr 448 0), (10, .d (D.bool v101)), (11, .d (D.bool v107)), (12, .ptr 768 0), (13, .ptr 832 0), (14, .ptr 896 0), (15, .ptr 960 0), (16, .d (D.bool v96)), (17, .d (D.bool v94))] [(256, .box 24 [.d (D.sl a1)]), (320, .box 24 [.d (D.sl a2)]), (384, .box 24 [.d (D.sl a3)]), (448, .box 24 [.d (D.sl a4)]), (768, .box 28 [.os 1144000 o90.length]), (832, .box 28 [.os 1144001 o91.length]), (896, .box 28 [.os 1144002 o92.length]), (960, .box 28 [.os 1144003 o93.length]), (1144000, .arr 80 true o90), (1144001, .arr 80 true o91), (1144002, .arr 80 true o92), (1144003, .arr 80 true o93)]) (finK prog f4 0 (.d (D.bool r)) (⟨[], []⟩)) := by
  rw [laws_FnExactCheckQuotient_p16] at h
  cases v94
  · replace h := condF h
    cases v96
    · replace h := condF h
      cases v101
      · replace h := condF h
        cases v107
        · replace h := condF h
          conv => whnf
          refine splF ?_
          conv => whnf
          refine splF ?_
          conv => whnf
          obtain ⟨y170, e171, h⟩ := bind_ex h
          refine CallOk.of (laws_toSurreal_ct e171) ?_
          conv => whnf
          refine Take.all (rfl) ?_
          conv => whnf
          refine Take.all (rfl) ?_
          conv => whnf
          obtain ⟨y172, e173, h⟩ := bind_ex h
          refine CallOk.of (laws_eqSurreal_ct e173) ?_
          conv => whnf
          refine spl (fun g174 => ?_) (fun g174 => ?_)
          · replace h := iteT h g174
            conv => whnf
            refine CutK.norm [5, 6, 7, 13, 14, 15, 78] [320, 384, 448, 832, 896, 960, 1144001, 1144002, 1144003] ?_
            conv => whnf
            exact CutK.piece (laws_FnExactCheckQuotient_p18_ct  h) [some 320, some 384, some 448, some 832, some 896, some 960, some 1144001, some 1144002, some 1144003] [] ⟨⟨rfl, rfl⟩, ⟨rfl, ⟨rfl, rfl, trivial⟩, ⟨rfl, rfl, trivial⟩, ⟨rfl, rfl, trivial⟩, ⟨rfl, ⟨rfl, rfl⟩, trivial⟩, ⟨rfl, ⟨rfl, rfl⟩, trivial⟩, ⟨rfl, ⟨rfl, rfl⟩, trivial⟩, ⟨rfl, rfl, rows_same⟩, ⟨rfl, rfl, rows_same⟩, ⟨rfl, rfl, rows_same⟩, trivial⟩, ⟨rfl, rfl⟩, ⟨rfl, rfl⟩, ⟨rfl, rfl⟩, ⟨rfl, rfl⟩, ⟨rfl, rfl⟩, ⟨rfl, rfl⟩, trivial⟩
          · replace h := iteF h g174
            conv => whnf
            refine CutK.norm [5, 6, 7, 13, 14, 15, 78] [320, 384, 448, 832, 896, 960, 1144001, 1144002, 1144003] ?_
            conv => whnf
            cases h
            exact Done.of [] [] rfl rfl ⟨⟨rfl, rfl⟩, ⟨rfl, trivial⟩, rfl, trivial⟩
        · replace h := condT h
          conv => whnf
          refine splF ?_
          conv => whnf
          refine splT ?_
          conv => whnf
          cases h
          exact Done.of [] [] rfl rfl ⟨⟨rfl, rfl⟩, ⟨rfl, trivial⟩, rfl, trivial⟩
      · replace h := condT h
        cases v107
        · replace h := condF h
          conv => whnf
          refine splT ?_
          conv => whnf
          cases h
          exact Done.of [] [] rfl rfl ⟨⟨rfl, rfl⟩, ⟨rfl, trivial⟩, rfl, trivial⟩
        · replace h := condT h
          conv => whnf
          refine splT ?_
          conv => whnf
          cases h
          exact Done.of [] [] rfl rfl ⟨⟨rfl, rfl⟩, ⟨rfl, trivial⟩, rfl, trivial⟩
    · replace h := condT h
      cases v101
      · replace h := condF h
        cases v107
        · replace h := condF h
          conv => whnf
          refine splT ?_
          conv => whnf
          cases h
          exact Done.of [] [] rfl rfl ⟨⟨rfl, rfl⟩, ⟨rfl, trivial⟩, rfl, trivial⟩
        · replace h := condT h
          conv => whnf
          refine splT ?_
          conv => whnf
          cases h
          exact Done.of [] [] rfl rfl ⟨⟨rfl, rfl⟩, ⟨rfl, trivial⟩, rfl, trivial⟩
      · replace h := condT h
        cases v107
        · replace h := condF h
          conv => whnf
          refine splF ?_
          conv => whnf
          refine splF ?_
          conv => whnf
          obtain ⟨y175, e176, h⟩ := bind_ex h
          refine CallOk.of (laws_toSurreal_ct e176) ?_
          conv => whnf
          refine Take.all (rfl) ?_
          conv => whnf
          refine Take.all (rfl) ?_
          conv => whnf
          obtain ⟨y177, e178, h⟩ := bind_ex h
          refine CallOk.of (laws_eqSurreal_ct e178) ?_
          conv => whnf
          refine spl (fun g179 => ?_) (fun g179 => ?_)
          · replace h := iteT h g179
            conv => whnf
            refine CutK.norm [5, 6, 7, 13, 14, 15, 78] [320, 384, 448, 832, 896, 960, 1144001, 1144002, 1144003] ?_
            conv => whnf
            exact CutK.piece (laws_FnExactCheckQuotient_p18_ct  h) [some 320, some 384, some 448, some 832, some 896, some 960, some 1144001, some 1144002, some 1144003] [] ⟨⟨rfl, rfl⟩, ⟨rfl, ⟨rfl, rfl, trivial⟩, ⟨rfl, rfl, trivial⟩, ⟨rfl, rfl, trivial⟩, ⟨rfl, ⟨rfl, rfl⟩, trivial⟩, ⟨rfl, ⟨rfl, rfl⟩, trivial⟩, ⟨rfl, ⟨rfl, rfl⟩, trivial⟩, ⟨rfl, rfl, rows_same⟩, ⟨rfl, rfl, rows_same⟩, ⟨rfl, rfl, rows_same⟩, trivial⟩, ⟨rfl, rfl⟩, ⟨rfl, rfl⟩, ⟨rfl, rfl⟩, ⟨rfl, rfl⟩, ⟨rfl, rfl⟩, ⟨rfl, rfl⟩, trivial⟩
          · replace h := iteF h g179
            conv => whnf
            refine CutK.norm [5, 6, 7, 13, 14, 15, 78] [320, 384, 448, 832, 896, 960, 1144001, 1144002, 1144003] ?_
            conv => whnf
            cases h
            exact Done.of [] [] rfl rfl ⟨⟨rfl, rfl⟩, ⟨rfl, trivial⟩, rfl, trivial⟩
        · replace h := condT h
          conv => whnf
          refine splF ?_
          conv => whnf
          refine splT ?_
          conv => whnf
          cases h
          exact Done.of [] [] rfl rfl ⟨⟨rfl, rfl⟩, ⟨rfl, trivial⟩, rfl, trivial⟩
  · replace h := condT h
    cases v96
    · replace h := condF h
      cases v101
      · replace h := condF h
        cases v107
        · replace h := condF h
          conv => whnf
          refine splF ?_
          conv => whnf
          refine splT ?_
          conv => whnf
          cases h
          exact Done.of [] [] rfl rfl ⟨⟨rfl, rfl⟩, ⟨rfl, trivial⟩, rfl, trivial⟩
        · replace h := condT h
          conv => whnf
          refine splF ?_
          conv => whnf
          refine splF ?_
          conv => whnf
          obtain ⟨y180, e181, h⟩ := bind_ex h
          refine CallOk.of (laws_toSurreal_ct e181) ?_
          conv => whnf
          refine Take.all (rfl) ?_
          conv => whnf
          refine Take.all (rfl) ?_
          conv => whnf
          obtain ⟨y182, e183, h⟩ := bind_ex h
          refine CallOk.of (laws_eqSurreal_ct e183) ?_
          conv => whnf
          refine spl (fun g184 => ?_) (fun g184 => ?_)
          · replace h := iteT h g184
            conv => whnf
            refine CutK.norm [5, 6, 7, 13, 14, 15, 78] [320, 384, 448, 832, 896, 960, 1144001, 1144002, 1144003] ?_
            conv => whnf
            exact CutK.piece (laws_FnExactCheckQuotient_p18_ct  h) [some 320, some 384, some 448, some 832, some 896, some 960, some 1144001, some 1144002, some 1144003] [] ⟨⟨rfl, rfl⟩, ⟨rfl, ⟨rfl, rfl, trivial⟩, ⟨rfl, rfl, trivial⟩, ⟨rfl, rfl, trivial⟩, ⟨rfl, ⟨rfl, rfl⟩, trivial⟩, ⟨rfl, ⟨rfl, rfl⟩, trivial⟩, ⟨rfl, ⟨rfl, rfl⟩, trivial⟩, ⟨rfl, rfl, rows_same⟩, ⟨rfl, rfl, rows_same⟩, ⟨rfl, rfl, rows_same⟩, trivial⟩, ⟨rfl, rfl⟩, ⟨rfl, rfl⟩, ⟨rfl, rfl⟩, ⟨rfl, rfl⟩, ⟨rfl, rfl⟩, ⟨rfl, rfl⟩, trivial⟩
          · replace h := iteF h g184
            conv => whnf
            refine CutK.norm [5, 6, 7, 13, 14, 15, 78] [320, 384, 448, 832, 896, 960, 1144001, 1144002, 1144003] ?_
            conv => whnf
            cases h
            exact Done.of [] [] rfl rfl ⟨⟨rfl, rfl⟩, ⟨rfl, trivial⟩, rfl, trivial⟩
      · replace h := condT h
        cases v107
        · replace h := condF h
          conv => whnf
          refine splT ?_
          conv => whnf
          cases h
          exact Done.of [] [] rfl rfl ⟨⟨rfl, rfl⟩, ⟨rfl, trivial⟩, rfl, trivial⟩
        · replace h := condT h
          conv => whnf
          refine splT ?_
          conv => whnf
          cases h
          exact Done.of [] [] rfl rfl ⟨⟨rfl, rfl⟩, ⟨rfl, trivial⟩, rfl, trivial⟩
    · replace h := condT h
      cases v101
      · replace h := condF h
        cases v107
        · replace h := condF h
          conv => whnf
          refine splT ?_
          conv => whnf
          cases h
          exact Done.of [] [] rfl rfl ⟨⟨rfl, rfl⟩, ⟨rfl, trivial⟩, rfl, trivial⟩
        · replace h := condT h
          conv => whnf
          refine splT ?_
          conv => whnf
          cases h
          exact Done.of [] [] rfl rfl ⟨⟨rfl, rfl⟩, ⟨rfl, trivial⟩, rfl, trivial⟩
      · replace h := condT h
        cases v107
        · replace h := condF h
          conv => whnf
          refine splF ?_
          conv => whnf
          refine splT ?_
          conv => whnf
          cases h
          exact Done.of [] [] rfl rfl ⟨⟨rfl, rfl⟩, ⟨rfl, trivial⟩, rfl, trivial⟩
        · replace h := condT h
          conv => whnf
          refine splF ?_
          conv => whnf
          refine splF ?_
          conv => whnf
          obtain ⟨y185, e186, h⟩ := bind_ex h
          refine CallOk.of (laws_toSurreal_ct e186) ?_
          conv => whnf
          refine Take.all (rfl) ?_
          conv => whnf
          refine Take.all (rfl) ?_
          conv => whnf
          obtain ⟨y187, e188, h⟩ := bind_ex h
          refine CallOk.of (laws_eqSurreal_ct e188) ?_
          conv => whnf
          refine spl (fun g189 => ?_) (fun g189 => ?_)
          · replace h := iteT h g189
            conv => whnf
            refine CutK.norm [5, 6, 7, 13, 14, 15, 78] [320, 384, 448, 832, 896, 960, 1144001, 1144002, 1144003] ?_
            conv => whnf
            exact CutK.piece (laws_FnExactCheckQuotient_p18_ct  h) [some 320, some 384, some 448, some 832, some 896, some 960, some 1144001, some 1144002, some 1144003] [] ⟨⟨rfl, rfl⟩, ⟨rfl, ⟨rfl, rfl, trivial⟩, ⟨rfl, rfl, trivial⟩, ⟨rfl, rfl, trivial⟩, ⟨rfl, ⟨rfl, rfl⟩, trivial⟩, ⟨rfl, ⟨rfl, rfl⟩, trivial⟩, ⟨rfl, ⟨rfl, rfl⟩, trivial⟩, ⟨rfl, rfl, rows_same⟩, ⟨rfl, rfl, rows_same⟩, ⟨rfl, rfl, rows_same⟩, trivial⟩, ⟨rfl, rfl⟩, ⟨rfl, rfl⟩, ⟨rfl, rfl⟩, ⟨rfl, rfl⟩, ⟨rfl, rfl⟩, ⟨rfl, rfl⟩, trivial⟩
          · replace h := iteF h g189
            conv => whnf
            refine CutK.norm [5, 6, 7, 13, 14, 15, 78] [320, 384, 448, 832, 896, 960, 1144001, 1144002, 1144003] ?_
            conv => whnf
            cases h
            exact Done.of [] [] rfl rfl ⟨⟨rfl, rfl⟩, ⟨rfl, trivial⟩, rfl, trivial⟩
def laws_FnExactCheckQuotient_p15 (k : Nat) (a1 : Rw) (a2 : Rw) (a3 : Rw) (a4 : Rw) (o74 : Rw) (o75 : Rw) (o76 : Rw) (o77 : Rw) (v80 : Bool) (v83 : Bool) : Option Bool :=
  (cond v80 (cond v83 ((impl_CheckQuotient k o74 o75 o76 o77).bind fun y205 => (if y205.1 = true then (if y205.2 = true then (laws_FnExactCheckQuotient_p16 k a1 a2 a3 a4 o74 o75 o76 o77 true true true true) else (laws_FnExactCheckQuotient_p16 k a1 a2 a3 a4 o74 o75 o76 o77 false true true true)) else (if y205.2 = true then (laws_FnExactCheckQuotient_p16 k a1 a2 a3 a4 o74 o75 o76 o77 true false true true) else (laws_FnExactCheckQuotient_p16 k a1 a2 a3 a4 o74 o75 o76 o77 false false true true)))) ((impl_CheckQuotient k o74 o75 o76 o77).bind fun y200 => (if y200.1 = true then (if y200.2 = true then (laws_FnExactCheckQuotient_p16 k a1 a2 a3 a4 o74 o75 o76 o77 true true false true) else (laws_FnExactCheckQuotient_p16 k a1 a2 a3 a4 o74 o75 o76 o77 false true false true)) else (if y200.2 = true then (laws_FnExactCheckQuotient_p16 k a1 a2 a3 a4 o74 o75 o76 o77 true false false true) else (laws_FnExactCheckQuotient_p16 k a1 a2 a3 a4 o74 o75 o76 o77 false false false true))))) (cond v83 ((impl_CheckQuotient k o74 o75 o76 o77).bind fun y195 => (if y195.1 = true then (if y195.2 = true then (laws_FnExactCheckQuotient_p16 k a1 a2 a3 a4 o74 o75 o76 o77 true true true false) else (laws_FnExactCheckQuotient_p16 k a1 a2 a3 a4 o74 o75 o76 o77 false true true false)) else (if y195.2 = true then (laws_FnExactCheckQuotient_p16 k a1 a2 a3 a4 o74 o75 o76 o77 true false true false) else (laws_FnExactCheckQuotient_p16 k a1 a2 a3 a4 o74 o75 o76 o77 false false true false)))) ((impl_CheckQuotient k o74 o75 o76 o77).bind fun y190 => (if y190.1 = true then (if y190.2 = true then (laws_FnExactCheckQuotient_p16 k a1 a2 a3 a4 o74 o75 o76 o77 true true false false) else (laws_FnExactCheckQuotient_p16 k a1 a2 a3 a4 o74 o75 o76 o77 false true false false)) else (if y190.2 = true then (laws_FnExactCheckQuotient_p16 k a1 a2 a3 a4 o74 o75 o76 o77 true false false false) else (laws_FnExactCheckQuotient_p16 k a1 a2 a3 a4 o74 o75 o76 o77 false false false false))))))
set_option maxHeartbeats 4000000 in
set_option maxRecDepth 100000 in
theorem laws_FnExactCheckQuotient_p15_ct {k : Nat} {a1 : Rw} {a2 : Rw} {a3 : Rw} {a4 : Rw} {o74 : Rw} {o75 : Rw} {o76 : Rw} {o77 : Rw} {v80 : Bool} {v83 : Bool} {r : Bool} (h : laws_FnExactCheckQuotient_p15 k a1 a2 a3 a4 o74 o75 o76 o77 v80 v83 = some r) : X prog 0 (tlF f4 15) (mk 94 [(4, .ptr 256 0), (5, .ptr 320 0), (6, .ptr 384 0), (7, .ptr 448 0), (10, .d (D.bool v83)), (11, .d (D.bool v80)), (12, .ptr 768 0), (13, .ptr 832 0), (14, .ptr 896 0), (15, .ptr 960 0)] [(256, .box 24 [.d (D.sl a1)]), (320, .box 24 [.d (D.sl a2)]), (384, .box 24 [.d (D.sl a3)]), (448, .box 24 [.d (D.sl a4)]), (768, .box 28 [.os 1139000 o74.length]), (832, .box 28 [.os 1139001 o75.length]), (896, .box 28 [.os 1139002 o76.length]), (960, .box 28 [.os 1139003 o77.length]), (1139000, .arr 80 true o74), (1139001, .arr 80 true o75), (1139002, .arr 80 true o76), (1139003, .arr 80 true o77)]) (finK prog f4 0 (.d (D.bool r)) (⟨[], []⟩)) := by
  rw [laws_FnExactCheckQuotient_p15] at h
  cases v80
  · replace h := condF h
    cases v83
    · replace h := condF h
      conv => whnf
      refine Take.all (rfl) ?_
      conv => whnf
      refine Take.all (rfl) ?_
      conv => whnf
      refine Take.all (rfl) ?_
      conv => whnf
      refine Take.all (rfl) ?_
      conv => whnf
      obtain ⟨y190, e191, h⟩ := bind_ex h
      refine CallOk.of (impl_CheckQuotient_ct e191) ?_
      conv => whnf
      refine spl (fun g192 => ?_) (fun g192 => ?_)
      · replace h := iteT h g192
        conv => whnf
        refine spl (fun g193 => ?_) (fun g193 => ?_)
        · replace h := iteT h g193
          conv => whnf
          exact CutK.piece (laws_FnExactCheckQuotient_p16_ct  h) [some 256, some 320, some 384, some 448, some 768, some 832, some 896, some 960, some 1139000, some 1139001, some 1139002, some 1139003] [] ⟨⟨rfl, rfl⟩, ⟨rfl, ⟨rfl, rfl, trivial⟩, ⟨rfl, rfl, trivial⟩, ⟨rfl, rfl, trivial⟩, ⟨rfl, rfl, trivial⟩, ⟨rfl, ⟨rfl, rfl⟩, trivial⟩, ⟨rfl, ⟨rfl, rfl⟩, trivial⟩, ⟨rfl, ⟨rfl, rfl⟩, trivial⟩, ⟨rfl, ⟨rfl, rfl⟩, trivial⟩, ⟨rfl, rfl, rows_same⟩, ⟨rfl, rfl, rows_same⟩, ⟨rfl, rfl, rows_same⟩, ⟨rfl, rfl, rows_same⟩, trivial⟩, ⟨rfl, rfl⟩, ⟨rfl, rfl⟩, ⟨rfl, rfl⟩, ⟨rfl, rfl⟩, rfl, rfl, ⟨rfl, rfl⟩, ⟨rfl, rfl⟩, ⟨rfl, rfl⟩, ⟨rfl, rfl⟩, rfl, rfl, trivial⟩
        · replace h := iteF h g193
          conv => whnf
          exact CutK.piece (laws_FnExactCheckQuotient_p16_ct  h) [some 256, some 320, some 384, some 448, some 768, some 832, some 896, some 960, some 1139000, some 1139001, some 1139002, some 1139003] [] ⟨⟨rfl, rfl⟩, ⟨rfl, ⟨rfl, rfl, trivial⟩, ⟨rfl, rfl, trivial⟩, ⟨rfl, rfl, trivial⟩, ⟨rfl, rfl, trivial⟩, ⟨rfl, ⟨rfl, rfl⟩, trivial⟩, ⟨rfl, ⟨rfl, rfl⟩, trivial⟩, ⟨rfl, ⟨rfl, rfl⟩, trivial⟩, ⟨rfl, ⟨rfl, rfl⟩, trivial⟩, ⟨rfl, rfl, rows_same⟩, ⟨rfl, rfl, rows_same⟩, ⟨rfl, rfl, rows_same⟩, ⟨rfl, rfl, rows_same⟩, trivial⟩, ⟨rfl, rfl⟩, ⟨rfl, rfl⟩, ⟨rfl, rfl⟩, ⟨rfl, rfl⟩, rfl, rfl, ⟨rfl, rfl⟩, ⟨rfl, rfl⟩, ⟨rfl, rfl⟩, ⟨rfl, rfl⟩, rfl, rfl, trivial⟩
      · replace h := iteF h g192
        conv => whnf
        refine spl (fun g194 => ?_) (fun g194 => ?_)
        · replace h := iteT h g194
          conv => whnf
          exact CutK.piece (laws_FnExactCheckQuotient_p16_ct  h) [some 256, some 320, some 384, some 448, some 768, some 832, some 896, some 960, some 1139000, some 1139001, some 1139002, some 1139003] [] ⟨⟨rfl, rfl⟩, ⟨rfl, ⟨rfl, rfl, trivial⟩, ⟨rfl, rfl, trivial⟩, ⟨rfl, rfl, trivial⟩, ⟨rfl, rfl, trivial⟩, ⟨rfl, ⟨rfl, rfl⟩, trivial⟩, ⟨rfl, ⟨rfl, rfl⟩, trivial⟩, ⟨rfl, ⟨rfl, rfl⟩, trivial⟩, ⟨rfl, ⟨rfl, rfl⟩, trivial⟩, ⟨rfl, rfl, rows_same⟩, ⟨rfl, rfl, rows_same⟩, ⟨rfl, rfl, rows_same⟩, ⟨rfl, rfl, rows_same⟩, trivial⟩, ⟨rfl, rfl⟩, ⟨rfl, rfl⟩, ⟨rfl, rfl⟩, ⟨rfl, rfl⟩, rfl, rfl, ⟨rfl, rfl⟩, ⟨rfl, rfl⟩, ⟨rfl, rfl⟩, ⟨rfl, rfl⟩, rfl, rfl, trivial⟩
        · replace h := iteF h g194
          conv => whnf
          exact CutK.piece (laws_FnExactCheckQuotient_p16_ct  h) [some 256, some 320, some 384, some 448, some 768, some 832, some 896, some 960, some 1139000, some 1139001, some 1139002, some 1139003] [] ⟨⟨rfl, rfl⟩, ⟨rfl, ⟨rfl, rfl, trivial⟩, ⟨rfl, rfl, trivial⟩, ⟨rfl, rfl, trivial⟩, ⟨rfl, rfl, trivial⟩, ⟨rfl, ⟨rfl, rfl⟩, trivial⟩, ⟨rfl, ⟨rfl, rfl⟩, trivial⟩, ⟨rfl, ⟨rfl, rfl⟩, trivial⟩, ⟨rfl, ⟨rfl, rfl⟩, trivial⟩, ⟨rfl, rfl, rows_same⟩, ⟨rfl, rfl, rows_same⟩, ⟨rfl, rfl, rows_same⟩, ⟨rfl, rfl, rows_same⟩, trivial⟩, ⟨rfl, rfl⟩, ⟨rfl, rfl⟩, ⟨rfl, rfl⟩, ⟨rfl, rfl⟩, rfl, rfl, ⟨rfl, rfl⟩, ⟨rfl, rfl⟩, ⟨rfl, rfl⟩, ⟨rfl, rfl⟩, rfl, rfl, trivial⟩
    · replace h := condT h
      conv => whnf
      refine Take.all (rfl) ?_
      conv => whnf
      refine Take.all (rfl) ?_
      conv => whnf
      refine Take.all (rfl) ?_
      conv => whnf
      refine Take.all (rfl) ?_
      conv => whnf
      obtain ⟨y195, e196, h⟩ := bind_ex h
      refine CallOk.of (impl_CheckQuotient_ct e196) ?_
      conv => whnf
      refine spl (fun g197 => ?_) (fun g197 => ?_)
      · replace h := iteT h g197
        conv => whnf
        refine spl (fun g198 => ?_) (fun g198 => ?_)
        · replace h := iteT h g198
          conv => whnf
          exact CutK.piece (laws_FnExactCheckQuotient_p16_ct  h) [some 256, some 320, some 384, some 448, some 768, some 832, some 896, some 960, some 1139000, some 1139001, some 1139002, some 1139003] [] ⟨⟨rfl, rfl⟩, ⟨rfl, ⟨rfl, rfl, trivial⟩, ⟨rfl, rfl, trivial⟩, ⟨rfl, rfl, trivial⟩, ⟨rfl, rfl, trivial⟩, ⟨rfl, ⟨rfl, rfl⟩, trivial⟩, ⟨rfl, ⟨rfl, rfl⟩, trivial⟩, ⟨rfl, ⟨rfl, rfl⟩, trivial⟩, ⟨rfl, ⟨rfl, rfl⟩, trivial⟩, ⟨rfl, rfl, rows_same⟩, ⟨rfl, rfl, rows_same⟩, ⟨rfl, rfl, rows_same⟩, ⟨rfl, rfl, rows_same⟩, trivial⟩, ⟨rfl, rfl⟩, ⟨rfl, rfl⟩, ⟨rfl, rfl⟩, ⟨rfl, rfl⟩, rfl, rfl, ⟨rfl, rfl⟩, ⟨rfl, rfl⟩, ⟨rfl, rfl⟩, ⟨rfl, rfl⟩, rfl, rfl, trivial⟩
        · replace h := iteF h g198
          conv => whnf
          exact CutK.piece (laws_FnExactCheckQuotient_p16_ct  h) [some 256, some 320, some 384, some 448, some 768, some 832, some 896, some 960, some 1139000, some 1139001, some 1139002, some 1139003] [] ⟨⟨rfl, rfl⟩, ⟨rfl, ⟨rfl, rfl, trivial⟩, ⟨rfl, rfl, trivial⟩, ⟨rfl, rfl, trivial⟩, ⟨rfl, rfl, trivial⟩, ⟨rfl, ⟨rfl, rfl⟩, trivial⟩, ⟨rfl, ⟨rfl, rfl⟩, trivial⟩, ⟨rfl, ⟨rfl, rfl⟩, trivial⟩, ⟨rfl, ⟨rfl, rfl⟩, trivial⟩, ⟨rfl, rfl, rows_same⟩, ⟨rfl, rfl, rows_same⟩, ⟨rfl, rfl, rows_same⟩, ⟨rfl, rfl, rows_same⟩, trivial⟩, ⟨rfl, rfl⟩, ⟨rfl, rfl⟩, ⟨rfl, rfl⟩, ⟨rfl, rfl⟩, rfl, rfl, ⟨rfl, rfl⟩, ⟨rfl, rfl⟩, ⟨rfl, rfl⟩, ⟨rfl, rfl⟩, rfl, rfl, trivial⟩
      · replace h := iteF h g197
        conv => whnf
        refine spl (fun g199 => ?_) (fun g199 => ?_)
        · replace h := iteT h g199
          conv => whnf
          exact CutK.piece (laws_FnExactCheckQuotient_p16_ct  h) [some 256, some 320, some 384, some 448, some 768, some 832, some 896, some 960, some 1139000, some 1139001, some 1139002, some 1139003] [] ⟨⟨rfl, rfl⟩, ⟨rfl, ⟨rfl, rfl, trivial⟩, ⟨rfl, rfl, trivial⟩, ⟨rfl, rfl, trivial⟩, ⟨rfl, rfl, trivial⟩, ⟨rfl, ⟨rfl, rfl⟩, trivial⟩, ⟨rfl, ⟨rfl, rfl⟩, trivial⟩, ⟨rfl, ⟨rfl, rfl⟩, trivial⟩, ⟨rfl, ⟨rfl, rfl⟩, trivial⟩, ⟨rfl, rfl, rows_same⟩, ⟨rfl, rfl, rows_same⟩, ⟨rfl, rfl, rows_same⟩, ⟨rfl, rfl, rows_same⟩, trivial⟩, ⟨rfl, rfl⟩, ⟨rfl, rfl⟩, ⟨rfl, rfl⟩, ⟨rfl, rfl⟩, rfl, rfl, ⟨rfl, rfl⟩, ⟨rfl, rfl⟩, ⟨rfl, rfl⟩, ⟨rfl, rfl⟩, rfl, rfl, trivial⟩
        · replace h := iteF h g199
          conv => whnf
          exact CutK.piece (laws_FnExactCheckQuotient_p16_ct  h) [some 256, some 320, some 384, some 448, some 768, some 832, some 896, some 960, some 1139000, some 1139001, some 1139002, some 1139003] [] ⟨⟨rfl, rfl⟩, ⟨rfl, ⟨rfl, rfl, trivial⟩, ⟨rfl, rfl, trivial⟩, ⟨rfl, rfl, trivial⟩, ⟨rfl, rfl, trivial⟩, ⟨rfl, ⟨rfl, rfl⟩, trivial⟩, ⟨rfl, ⟨rfl, rfl⟩, trivial⟩, ⟨rfl, ⟨rfl, rfl⟩, trivial⟩, ⟨rfl, ⟨rfl, rfl⟩, trivial⟩, ⟨rfl, rfl, rows_same⟩, ⟨rfl, rfl, rows_same⟩, ⟨rfl, rfl, rows_same⟩, ⟨rfl, rfl, rows_same⟩, trivial⟩, ⟨rfl, rfl⟩, ⟨rfl, rfl⟩, ⟨rfl, rfl⟩, ⟨rfl, rfl⟩, rfl, rfl, ⟨rfl, rfl⟩, ⟨rfl, rfl⟩, ⟨rfl, rfl⟩, ⟨rfl, rfl⟩, rfl, rfl, trivial⟩
  · replace h := condT h
    cases v83
    · replace h := condF h
      conv => whnf
      refine Take.all (rfl) ?_
      conv => whnf
      refine Take.all (rfl) ?_
      conv => whnf
      refine Take.all (rfl) ?_
      conv => whnf
      refine Take.all (rfl) ?_
      conv => whnf
      obtain ⟨y200, e201, h⟩ := bind_ex h
      refine CallOk.of (impl_CheckQuotient_ct e201) ?_
      conv => whnf
      refine spl (fun g202 => ?_) (fun g202 => ?_)
      · replace h := iteT h g202
        conv => whnf
        refine spl (fun g203 => ?_) (fun g203 => ?_)
        · replace h := iteT h g203
          conv => whnf
          exact CutK.piece (laws_FnExactCheckQuotient_p16_ct  h) [some 256, some 320, some 384, some 448, some 768, some 832, some 896, some 960, some 1139000, some 1139001, some 1139002, some 1139003] [] ⟨⟨rfl, rfl⟩, ⟨rfl, ⟨rfl, rfl, trivial⟩, ⟨rfl, rfl, trivial⟩, ⟨rfl, rfl, trivial⟩, ⟨rfl, rfl, trivial⟩, ⟨rfl, ⟨rfl, rfl⟩, trivial⟩, ⟨rfl, ⟨rfl, rfl⟩, trivial⟩, ⟨rfl, ⟨rfl, rfl⟩, trivial⟩, ⟨rfl, ⟨rfl, rfl⟩, trivial⟩, ⟨rfl, rfl, rows_same⟩, ⟨rfl, rfl, rows_same⟩, ⟨rfl, rfl, rows_same⟩, ⟨rfl, rfl, rows_same⟩, trivial⟩, ⟨rfl, rfl⟩, ⟨rfl, rfl⟩, ⟨rfl, rfl⟩, ⟨rfl, rfl⟩, rfl, rfl, ⟨rfl, rfl⟩, ⟨rfl, rfl⟩, ⟨rfl, rfl⟩, ⟨rfl, rfl⟩, rfl, rfl, trivial⟩
        · replace h := iteF h g203
          conv => whnf
          exact CutK.piece (laws_FnExactCheckQuotient_p16_ct  h) [some 256, some 320, some 384, some 448, some 768, some 832, some 896, some 960, some 1139000, some 1139001, some 1139002, some 1139003] [] ⟨⟨rfl, rfl⟩, ⟨rfl, ⟨rfl, rfl, trivial⟩, ⟨rfl, rfl, trivial⟩, ⟨rfl, rfl, trivial⟩, ⟨rfl, rfl, trivial⟩, ⟨rfl, ⟨rfl, rfl⟩, trivial⟩, ⟨rfl, ⟨rfl, rfl⟩, trivial⟩, ⟨rfl, ⟨rfl, rfl⟩, trivial⟩, ⟨rfl, ⟨rfl, rfl⟩, trivial⟩, ⟨rfl, rfl, rows_same⟩, ⟨rfl, rfl, rows_same⟩, ⟨rfl, rfl, rows_same⟩, ⟨rfl, rfl, rows_same⟩, trivial⟩, ⟨rfl, rfl⟩, ⟨rfl, rfl⟩, ⟨rfl, rfl⟩, ⟨rfl, rfl⟩, rfl, rfl, ⟨rfl, rfl⟩, ⟨rfl, rfl⟩, ⟨rfl, rfl⟩, ⟨rfl, rfl⟩, rfl, rfl, trivial⟩
      · replace h := iteF h g202
        conv => whnf
        refine spl (fun g204 => ?_) (fun g204 => ?_)
        · replace h := iteT h g204
          conv => whnf
          exact CutK.piece (laws_FnExactCheckQuotient_p16_ct  h) [some 256, some 320, some 384, some 448, some 768, some 832, some 896, some 960, some 1139000, some 1139001, some 1139002, some 1139003] [] ⟨⟨rfl, rfl⟩, ⟨rfl, ⟨rfl, rfl, trivial⟩, ⟨rfl, rfl, trivial⟩, ⟨rfl, rfl, trivial⟩, ⟨rfl, rfl, trivial⟩, ⟨rfl, ⟨rfl, rfl⟩, trivial⟩, ⟨rfl, ⟨rfl, rfl⟩, trivial⟩, ⟨rfl, ⟨rfl, rfl⟩, trivial⟩, ⟨rfl, ⟨rfl, rfl⟩, trivial⟩, ⟨rfl, rfl, rows_same⟩, ⟨rfl, rfl, rows_same⟩, ⟨rfl, rfl, rows_same⟩, ⟨rfl, rfl, rows_same⟩, trivial⟩, ⟨rfl, rfl⟩, ⟨rfl, rfl⟩, ⟨rfl, rfl⟩, ⟨rfl, rfl⟩, rfl, rfl, ⟨rfl, rfl⟩, ⟨rfl, rfl⟩, ⟨rfl, rfl⟩, ⟨rfl, rfl⟩, rfl, rfl, trivial⟩
        · replace h := iteF h g204
          conv => whnf
          exact CutK.piece (laws_FnExactCheckQuotient_p16_ct  h) [some 256, some 320, some 384, some 448, some 768, some 832, some 896, some 960, some 1139000, some 1139001, some 1139002, some 1139003] [] ⟨⟨rfl, rfl⟩, ⟨rfl, ⟨rfl, rfl, trivial⟩, ⟨rfl, rfl, trivial⟩, ⟨rfl, rfl, trivial⟩, ⟨rfl, rfl, trivial⟩, ⟨rfl, ⟨rfl, rfl⟩, trivial⟩, ⟨rfl, ⟨rfl, rfl⟩, trivial⟩, ⟨rfl, ⟨rfl, rfl⟩, trivial⟩, ⟨rfl, ⟨rfl, rfl⟩, trivial⟩, ⟨rfl, rfl, rows_same⟩, ⟨rfl, rfl, rows_same⟩, ⟨rfl, rfl, rows_same⟩, ⟨rfl, rfl, rows_same⟩, trivial⟩, ⟨rfl, rfl⟩, ⟨rfl, rfl⟩, ⟨rfl, rfl⟩, ⟨rfl, rfl⟩, rfl, rfl, ⟨rfl, rfl⟩, ⟨rfl, rfl⟩, ⟨rfl, rfl⟩, ⟨rfl, rfl⟩, rfl, rfl, trivial⟩
    · replace h := condT h
      conv => whnf
      refine Take.all (rfl) ?_
      conv => whnf
      refine Take.all (rfl) ?_
      conv => whnf
      refine Take.all (rfl) ?_
      conv => whnf
      refine Take.all (rfl) ?_
      conv => whnf
      obtain ⟨y205, e206, h⟩ := bind_ex h
      refine CallOk.of (impl_CheckQuotient_ct e206) ?_
      conv => whnf
      refine spl (fun g207 => ?_) (fun g207 => ?_)
      · replace h := iteT h g207
        conv => whnf
        refine spl (fun g208 => ?_) (fun g208 => ?_)
        · replace h := iteT h g208
          conv => whnf
          exact CutK.piece (laws_FnExactCheckQuotient_p16_ct  h) [some 256, some 320, some 384, some 448, some 768, some 832, some 896, some 960, some 1139000, some 1139001, some 1139002, some 1139003] [] ⟨⟨rfl, rfl⟩, ⟨rfl, ⟨rfl, rfl, trivial⟩, ⟨rfl, rfl, trivial⟩, ⟨rfl, rfl, trivial⟩, ⟨rfl, rfl, trivial⟩, ⟨rfl, ⟨rfl, rfl⟩, trivial⟩, ⟨rfl, ⟨rfl, rfl⟩, trivial⟩, ⟨rfl, ⟨rfl, rfl⟩, trivial⟩, ⟨rfl, ⟨rfl, rfl⟩, trivial⟩, ⟨rfl, rfl, rows_same⟩, ⟨rfl, rfl, rows_same⟩, ⟨rfl, rfl, rows_same⟩, ⟨rfl, rfl, rows_same⟩, trivial⟩, ⟨rfl, rfl⟩, ⟨rfl, rfl⟩, ⟨rfl, rfl⟩, ⟨rfl, rfl⟩, rfl, rfl, ⟨rfl, rfl⟩, ⟨rfl, rfl⟩, ⟨rfl, rfl⟩, ⟨rfl, rfl⟩, rfl, rfl, trivial⟩
        · replace h := iteF h g208
          conv => whnf
          exact CutK.piece (laws_FnExactCheckQuotient_p16_ct  h) [some 256, some 320, some 384, some 448, some 768, some 832, some 896, some 960, some 1139000, some 1139001, some 1139002, some 1139003] [] ⟨⟨rfl, rfl⟩, ⟨rfl, ⟨rfl, rfl, trivial⟩, ⟨rfl, rfl, trivial⟩, ⟨rfl, rfl, trivial⟩, ⟨rfl, rfl, trivial⟩, ⟨rfl, ⟨rfl, rfl⟩, trivial⟩, ⟨rfl, ⟨rfl, rfl⟩, trivial⟩, ⟨rfl, ⟨rfl, rfl⟩, trivial⟩, ⟨rfl, ⟨rfl, rfl⟩, trivial⟩, ⟨rfl, rfl, rows_same⟩, ⟨rfl, rfl, rows_same⟩, ⟨rfl, rfl, rows_same⟩, ⟨rfl, rfl, rows_same⟩, trivial⟩, ⟨rfl, rfl⟩, ⟨rfl, rfl⟩, ⟨rfl, rfl⟩, ⟨rfl, rfl⟩, rfl, rfl, ⟨rfl, rfl⟩, ⟨rfl, rfl⟩, ⟨rfl, rfl⟩, ⟨rfl, rfl⟩, rfl, rfl, trivial⟩
      · replace h := iteF h g207
        conv => whnf
        refine spl (fun g209 => ?_) (fun g209 => ?_)
        · replace h := iteT h g209
          conv => whnf
          exact CutK.piece (laws_FnExactCheckQuotient_p16_ct  h) [some 256, some 320, some 384, some 448, some 768, some 832, some 896, some 960, some 1139000, some 1139001, some 1139002, some 1139003] [] ⟨⟨rfl, rfl⟩, ⟨rfl, ⟨rfl, rfl, trivial⟩, ⟨rfl, rfl, trivial⟩, ⟨rfl, rfl, trivial⟩, ⟨rfl, rfl, trivial⟩, ⟨rfl, ⟨rfl, rfl⟩, trivial⟩, ⟨rfl, ⟨rfl, rfl⟩, trivial⟩, ⟨rfl, ⟨rfl, rfl⟩, trivial⟩, ⟨rfl, ⟨rfl, rfl⟩, trivial⟩, ⟨rfl, rfl, rows_same⟩, ⟨rfl, rfl, rows_same⟩, ⟨rfl, rfl, rows_same⟩, ⟨rfl, rfl, rows_same⟩, trivial⟩, ⟨rfl, rfl⟩, ⟨rfl, rfl⟩, ⟨rfl, rfl⟩, ⟨rfl, rfl⟩, rfl, rfl, ⟨rfl, rfl⟩, ⟨rfl, rfl⟩, ⟨rfl, rfl⟩, ⟨rfl, rfl⟩, rfl, rfl, trivial⟩
        · replace h := iteF h g209
          conv => whnf
          exact CutK.piece (laws_FnExactCheckQuotient_p16_ct  h) [some 256, some 320, some 384, some 448, some 768, some 832, some 896, some 960, some 1139000, some 1139001, some 1139002, some 1139003] [] ⟨⟨rfl, rfl⟩, ⟨rfl, ⟨rfl, rfl, trivial⟩, ⟨rfl, rfl, trivial⟩, ⟨rfl, rfl, trivial⟩, ⟨rfl, rfl, trivial⟩, ⟨rfl, ⟨rfl, rfl⟩, trivial⟩, ⟨rfl, ⟨rfl, rfl⟩, trivial⟩, ⟨rfl, ⟨rfl, rfl⟩, trivial⟩, ⟨rfl, ⟨rfl, rfl⟩, trivial⟩, ⟨rfl, rfl, rows_same⟩, ⟨rfl, rfl, rows_same⟩, ⟨rfl, rfl, rows_same⟩, ⟨rfl, rfl, rows_same⟩, trivial⟩, ⟨rfl, rfl⟩, ⟨rfl, rfl⟩, ⟨rfl, rfl⟩, ⟨rfl, rfl⟩, rfl, rfl, ⟨rfl, rfl⟩, ⟨rfl, rfl⟩, ⟨rfl, rfl⟩, ⟨rfl, rfl⟩, rfl, rfl, trivial⟩
def laws_FnExactCheckQuotient_p14 (k : Nat) (a1 : Rw) (a2 : Rw) (a3 : Rw) (a4 : Rw) (o61 : Rw) (o62 : Rw) (o63 : Rw) (v66 : Bool) (v69 : Bool) : Option Bool :=
  (cond v66 (cond v69 ((laws_toSurreal k a4).bind fun y216 => (laws_FnExactCheckQuotient_p15 k a1 a2 a3 a4 o61 o62 o63 y216 true true)) ((laws_toSurreal k a4).bind fun y214 => (laws_FnExactCheckQuotient_p15 k a1 a2 a3 a4 o61 o62 o63 y214 false true))) (cond v69 ((laws_toSurreal k a4).bind fun y212 => (laws_FnExactCheckQuotient_p15 k a1 a2 a3 a4 o61 o62 o63 y212 true false)) ((laws_toSurreal k a4).bind fun y210 => (laws_FnExactCheckQuotient_p15 k a1 a2 a3 a4 o61 o62 o63 y210 false false))))
set_option maxHeartbeats 4000000 in
set_option maxRecDepth 100000 in
theorem laws_FnExactCheckQuotient_p14_ct {k : Nat} {a1 : Rw} {a2 : Rw} {a3 : Rw} {a4 : Rw} {o61 : Rw} {o62 : Rw} {o63 : Rw} {v66 : Bool} {v69 : Bool} {r : Bool} (h : laws_FnExactCheckQuotient_p14 k a1 a2 a3 a4 o61 o62 o63 v66 v69 = some r) : X prog 0 (tlF f4 14) (mk 94 [(4, .ptr 256 0), (5, .ptr 320 0), (6, .ptr 384 0), (7, .ptr 448 0), (10, .d (D.bool v66)), (11, .d (D.bool v69)), (12, .ptr 768 0), (13, .ptr 832 0), (14, .ptr 896 0)] [(256, .box 24 [.d (D.sl a1)]), (320, .box 24 [.d (D.sl a2)]), (384, .box 24 [.d (D.sl a3)]), (448, .box 24 [.d (D.sl a4)]), (768, .box 28 [.os 1134000 o61.length]), (832, .box 28 [.os 1134001 o62.length]), (896, .box 28 [.os 1134002 o63.length]), (1134000, .arr 80 true o61), (1134001, .arr 80 true o62), (1134002, .arr 80 true o63)]) (finK prog f4 0 (.d (D.bool r)) (⟨[], []⟩)) := by
  rw [laws_FnExactCheckQuotient_p14] at h
  cases v66
  · replace h := condF h
    cases v69
    · replace h := condF h
      conv => whnf
      obtain ⟨y210, e211, h⟩ := bind_ex h
      refine CallOk.of (laws_toSurreal_ct e211) ?_
      conv => whnf
      exact CutK.piece (laws_FnExactCheckQuotient_p15_ct  h) [some 256, some 320, some 384, some 448, some 768, some 832, some 896, some 960, some 1134000, some 1134001, some 1134002, some 3648] [] ⟨⟨rfl, rfl⟩, ⟨rfl, ⟨rfl, rfl, trivial⟩, ⟨rfl, rfl, trivial⟩, ⟨rfl, rfl, trivial⟩, ⟨rfl, rfl, trivial⟩, ⟨rfl, ⟨rfl, rfl⟩, trivial⟩, ⟨rfl, ⟨rfl, rfl⟩, trivial⟩, ⟨rfl, ⟨rfl, rfl⟩, trivial⟩, ⟨rfl, ⟨rfl, rfl⟩, trivial⟩, ⟨rfl, rfl, rows_same⟩, ⟨rfl, rfl, rows_same⟩, ⟨rfl, rfl, rows_same⟩, ⟨rfl, rfl, rows_same⟩, trivial⟩, ⟨rfl, rfl⟩, ⟨rfl, rfl⟩, ⟨rfl, rfl⟩, ⟨rfl, rfl⟩, rfl, rfl, ⟨rfl, rfl⟩, ⟨rfl, rfl⟩, ⟨rfl, rfl⟩, ⟨rfl, rfl⟩, trivial⟩
    · replace h := condT h
      conv => whnf
      obtain ⟨y212, e213, h⟩ := bind_ex h
      refine CallOk.of (laws_toSurreal_ct e213) ?_
      conv => whnf
      exact CutK.piece (laws_FnExactCheckQuotient_p15_ct  h) [some 256, some 320, some 384, some 448, some 768, some 832, some 896, some 960, some 1134000, some 1134001, some 1134002, some 3648] [] ⟨⟨rfl, rfl⟩, ⟨rfl, ⟨rfl, rfl, trivial⟩, ⟨rfl, rfl, trivial⟩, ⟨rfl, rfl, trivial⟩, ⟨rfl, rfl, trivial⟩, ⟨rfl, ⟨rfl, rfl⟩, trivial⟩, ⟨rfl, ⟨rfl, rfl⟩, trivial⟩, ⟨rfl, ⟨rfl, rfl⟩, trivial⟩, ⟨rfl, ⟨rfl, rfl⟩, trivial⟩, ⟨rfl, rfl, rows_same⟩, ⟨rfl, rfl, rows_same⟩, ⟨rfl, rfl, rows_same⟩, ⟨rfl, rfl, rows_same⟩, trivial⟩, ⟨rfl, rfl⟩, ⟨rfl, rfl⟩, ⟨rfl, rfl⟩, ⟨rfl, rfl⟩, rfl, rfl, ⟨rfl, rfl⟩, ⟨rfl, rfl⟩, ⟨rfl, rfl⟩, ⟨rfl, rfl⟩, trivial⟩
  · replace h := condT h
    cases v69
    · replace h := condF h
      conv => whnf
      obtain ⟨y214, e215, h⟩ := bind_ex h
      refine CallOk.of (laws_toSurreal_ct e215) ?_
      conv => whnf
      exact CutK.piece (laws_FnExactCheckQuotient_p15_ct  h) [some 256, some 320, some 384, some 448, some 768, some 832, some 896, some 960, some 1134000, some 1134001, some 1134002, some 3648] [] ⟨⟨rfl, rfl⟩, ⟨rfl, ⟨rfl, rfl, trivial⟩, ⟨rfl, rfl, trivial⟩, ⟨rfl, rfl, trivial⟩, ⟨rfl, rfl, trivial⟩, ⟨rfl, ⟨rfl, rfl⟩, trivial⟩, ⟨rfl, ⟨rfl, rfl⟩, trivial⟩, ⟨rfl, ⟨rfl, rfl⟩, trivial⟩, ⟨rfl, ⟨rfl, rfl⟩, trivial⟩, ⟨rfl, rfl, rows_same⟩, ⟨rfl, rfl, rows_same⟩, ⟨rfl, rfl, rows_same⟩, ⟨rfl, rfl, rows_same⟩, trivial⟩, ⟨rfl, rfl⟩, ⟨rfl, rfl⟩, ⟨rfl, rfl⟩, ⟨rfl, rfl⟩, rfl, rfl, ⟨rfl, rfl⟩, ⟨rfl, rfl⟩, ⟨rfl, rfl⟩, ⟨rfl, rfl⟩, trivial⟩
    · replace h := condT h
      conv => whnf
      obtain ⟨y216, e217, h⟩ := bind_ex h
      refine CallOk.of (laws_toSurreal_ct e217) ?_
      conv => whnf
      exact CutK.piece (laws_FnExactCheckQuotient_p15_ct  h) [some 256, some 320, some 384, some 448, some 768, some 832, some 896, some 960, some 1134000, some 1134001, some 1134002, some 3648] [] ⟨⟨rfl, rfl⟩, ⟨rfl, ⟨rfl, rfl, trivial⟩, ⟨rfl, rfl, trivial⟩, ⟨rfl, rfl, trivial⟩, ⟨rfl, rfl, trivial⟩, ⟨rfl, ⟨rfl, rfl⟩, trivial⟩, ⟨rfl, ⟨rfl, rfl⟩, trivial⟩, ⟨rfl, ⟨rfl, rfl⟩, trivial⟩, ⟨rfl, ⟨rfl, rfl⟩, trivial⟩, ⟨rfl, rfl, rows_same⟩, ⟨rfl, rfl, rows_same⟩, ⟨rfl, rfl, rows_same⟩, ⟨rfl, rfl, rows_same⟩, trivial⟩, ⟨rfl, rfl⟩, ⟨rfl, rfl⟩, ⟨rfl, rfl⟩, ⟨rfl, rfl⟩, rfl, rfl, ⟨rfl, rfl⟩, ⟨rfl, rfl⟩, ⟨rfl, rfl⟩, ⟨rfl, rfl⟩, trivial⟩
def laws_FnExactCheckQuotient_p13 (k : Nat) (a1 : Rw) (a2 : Rw) (a3 : Rw) (a4 : Rw) (o49 : Rw) (o50 : Rw) (v53 : Bool) (v56 : Bool) : Option Bool :=
  (cond v53 (cond v56 ((laws_toSurreal k a3).bind fun y224 => (laws_FnExactCheckQuotient_p14 k a1 a2 a3 a4 o49 o50 y224 true true)) ((laws_toSurreal k a3).bind fun y222 => (laws_FnExactCheckQuotient_p14 k a1 a2 a3 a4 o49 o50 y222 false true))) (cond v56 ((laws_toSurreal k a3).bind fun y220 => (laws_FnExactCheckQuotient_p14 k a1 a2 a3 a4 o49 o50 y220 true false)) ((laws_toSurreal k a3).bind fun y218 => (laws_FnExactCheckQuotient_p14 k a1 a2 a3 a4 o49 o50 y218 false false))))
set_option maxHeartbeats 4000000 in
set_option maxRecDepth 100000 in
theorem laws_FnExactCheckQuotient_p13_ct {k : Nat} {a1 : Rw} {a2 : Rw} {a3 : Rw} {a4 : Rw} {o49 : Rw} {o50 : Rw} {v53 : Bool} {v56 : Bool} {r : Bool} (h : laws_FnExactCheckQuotient_p13 k a1 a2 a3 a4 o49 o50 v53 v56 = some r) : X prog 0 (tlF f4 13) (mk 94 [(4, .ptr 256 0), (5, .ptr 320 0), (6, .ptr 384 0), (7, .ptr 448 0), (10, .d (D.bool v56)), (11, .d (D.bool v53)), (12, .ptr 768 0), (13, .ptr 832 0)] [(256, .box 24 [.d (D.sl a1)]), (320, .box 24 [.d (D.sl a2)]), (384, .box 24 [.d (D.sl a3)]), (448, .box 24 [.d (D.sl a4)]), (768, .box 28 [.os 1129000 o49.length]), (832, .box 28 [.os 1129001 o50.length]), (1129000, .arr 80 true o49), (1129001, .arr 80 true o50)]) (finK prog f4 0 (.d (D.bool r)) (⟨[], []⟩)) := by
  rw [laws_FnExactCheckQuotient_p13] at h
  cases v53
  · replace h := condF h
    cases v56
    · replace h := condF h
      conv => whnf
      obtain ⟨y218, e219, h⟩ := bind_ex h
      refine CallOk.of (laws_toSurreal_ct e219) ?_
      conv => whnf
      exact CutK.piece (laws_FnExactCheckQuotient_p14_ct  h) [some 256, some 320, some 384, some 448, some 768, some 832, some 896, some 1129000, some 1129001, some 3520] [] ⟨⟨rfl, rfl⟩, ⟨rfl, ⟨rfl, rfl, trivial⟩, ⟨rfl, rfl, trivial⟩, ⟨rfl, rfl, trivial⟩, ⟨rfl, rfl, trivial⟩, ⟨rfl, ⟨rfl, rfl⟩, trivial⟩, ⟨rfl, ⟨rfl, rfl⟩, trivial⟩, ⟨rfl, ⟨rfl, rfl⟩, trivial⟩, ⟨rfl, rfl, rows_same⟩, ⟨rfl, rfl, rows_same⟩, ⟨rfl, rfl, rows_same⟩, trivial⟩, ⟨rfl, rfl⟩, ⟨rfl, rfl⟩, ⟨rfl, rfl⟩, ⟨rfl, rfl⟩, rfl, rfl, ⟨rfl, rfl⟩, ⟨rfl, rfl⟩, ⟨rfl, rfl⟩, trivial⟩
    · replace h := condT h
      conv => whnf
      obtain ⟨y220, e221, h⟩ := bind_ex h
      refine CallOk.of (laws_toSurreal_ct e221) ?_
      conv => whnf
      exact CutK.piece (laws_FnExactCheckQuotient_p14_ct  h) [some 256, some 320, some 384, some 448, some 768, some 832, some 896, some 1129000, some 1129001, some 3520] [] ⟨⟨rfl, rfl⟩, ⟨rfl, ⟨rfl, rfl, trivial⟩, ⟨rfl, rfl, trivial⟩, ⟨rfl, rfl, trivial⟩, ⟨rfl, rfl, trivial⟩, ⟨rfl, ⟨rfl, rfl⟩, trivial⟩, ⟨rfl, ⟨rfl, rfl⟩, trivial⟩, ⟨rfl, ⟨rfl, rfl⟩, trivial⟩, ⟨rfl, rfl, rows_same⟩, ⟨rfl, rfl, rows_same⟩, ⟨rfl, rfl, rows_same⟩, trivial⟩, ⟨rfl, rfl⟩, ⟨rfl, rfl⟩, ⟨rfl, rfl⟩, ⟨rfl, rfl⟩, rfl, rfl, ⟨rfl, rfl⟩, ⟨rfl, rfl⟩, ⟨rfl, rfl⟩, trivial⟩
  · replace h := condT h
    cases v56
    · replace h := condF h
      conv => whnf
      obtain ⟨y222, e223, h⟩ := bind_ex h
      refine CallOk.of (laws_toSurreal_ct e223) ?_
      conv => whnf
      exact CutK.piece (laws_FnExactCheckQuotient_p14_ct  h) [some 256, some 320, some 384, some 448, some 768, some 832, some 896, some 1129000, some 1129001, some 3520] [] ⟨⟨rfl, rfl⟩, ⟨rfl, ⟨rfl, rfl, trivial⟩, ⟨rfl, rfl, trivial⟩, ⟨rfl, rfl, trivial⟩, ⟨rfl, rfl, trivial⟩, ⟨rfl, ⟨rfl, rfl⟩, trivial⟩, ⟨rfl, ⟨rfl, rfl⟩, trivial⟩, ⟨rfl, ⟨rfl, rfl⟩, trivial⟩, ⟨rfl, rfl, rows_same⟩, ⟨rfl, rfl, rows_same⟩, ⟨rfl, rfl, rows_same⟩, trivial⟩, ⟨rfl, rfl⟩, ⟨rfl, rfl⟩, ⟨rfl, rfl⟩, ⟨rfl, rfl⟩, rfl, rfl, ⟨rfl, rfl⟩, ⟨rfl, rfl⟩, ⟨rfl, rfl⟩, trivial⟩
    · replace h := condT h
      conv => whnf
      obtain ⟨y224, e225, h⟩ := bind_ex h
      refine CallOk.of (laws_toSurreal_ct e225) ?_
      conv => whnf
      exact CutK.piece (laws_FnExactCheckQuotient_p14_ct  h) [some 256, some 320, some 384, some 448, some 768, some 832, some 896, some 1129000, some 1129001, some 3520] [] ⟨⟨rfl, rfl⟩, ⟨rfl, ⟨rfl, rfl, trivial⟩, ⟨rfl, rfl, trivial⟩, ⟨rfl, rfl, trivial⟩, ⟨rfl, rfl, trivial⟩, ⟨rfl, ⟨rfl, rfl⟩, trivial⟩, ⟨rfl, ⟨rfl, rfl⟩, trivial⟩, ⟨rfl, ⟨rfl, rfl⟩, trivial⟩, ⟨rfl, rfl, rows_same⟩, ⟨rfl, rfl, rows_same⟩, ⟨rfl, rfl, rows_same⟩, trivial⟩, ⟨rfl, rfl⟩, ⟨rfl, rfl⟩, ⟨rfl, rfl⟩, ⟨rfl, rfl⟩, rfl, rfl, ⟨rfl, rfl⟩, ⟨rfl, rfl⟩, ⟨rfl, rfl⟩, trivial⟩
def laws_FnExactCheckQuotient_p12 (k : Nat) (a1 : Rw) (a2 : Rw) (a3 : Rw) (a4 : Rw) (o38 : Rw) (v41 : Bool) (v44 : Bool) : Option Bool :=
  (cond v41 (cond v44 ((laws_toSurreal k a2).bind fun y232 => (laws_FnExactCheckQuotient_p13 k a1 a2 a3 a4 o38 y232 true true)) ((laws_toSurreal k a2).bind fun y230 => (laws_FnExactCheckQuotient_p13 k a1 a2 a3 a4 o38 y230 false true))) (cond v44 ((laws_toSurreal k a2).bind fun y228 => (laws_FnExactCheckQuotient_p13 k a1 a2 a3 a4 o38 y228 true false)) ((laws_toSurreal k a2).bind fun y226 => (laws_FnExactCheckQuotient_p13 k a1 a2 a3 a4 o38 y226 false false))))
set_option maxHeartbeats 4000000 in
set_option maxRecDepth 100000 in
theorem laws_FnExactCheckQuotient_p12_ct {k : Nat} {a1 : Rw} {a2 : Rw} {a3 : Rw} {a4 : Rw} {o38 : Rw} {v41 : Bool} {v44 : Bool} {r : Bool} (h : laws_FnExactCheckQuotient_p12 k a1 a2 a3 a4 o38 v41 v44 = some r) : X prog 0 (tlF f4 12) (mk 94 [(4, .ptr 256 0), (5, .ptr 320 0), (6, .ptr 384 0), (7, .ptr 448 0), (10, .d (D.bool v41)), (11, .d (D.bool v44)), (12, .ptr 768 0)] [(256, .box 24 [.d (D.sl a1)]), (320, .box 24 [.d (D.sl a2)]), (384, .box 24 [.d (D.sl a3)]), (448, .box 24 [.d (D.sl a4)]), (768, .box 28 [.os 1124000 o38.length]), (1124000, .arr 80 true o38)]) (finK prog f4 0 (.d (D.bool r)) (⟨[], []⟩)) := by
  rw [laws_FnExactCheckQuotient_p12] at h
  cases v41
  · replace h := condF h
    cases v44
    · replace h := condF h
      conv => whnf
      obtain ⟨y226, e227, h⟩ := bind_ex h
      refine CallOk.of (laws_toSurreal_ct e227) ?_
      conv => whnf
      exact CutK.piece (laws_FnExactCheckQuotient_p13_ct  h) [some 256, some 320, some 384, some 448, some 768, some 832, some 1124000, some 3392] [] ⟨⟨rfl, rfl⟩, ⟨rfl, ⟨rfl, rfl, trivial⟩, ⟨rfl, rfl, trivial⟩, ⟨rfl, rfl, trivial⟩, ⟨rfl, rfl, trivial⟩, ⟨rfl, ⟨rfl, rfl⟩, trivial⟩, ⟨rfl, ⟨rfl, rfl⟩, trivial⟩, ⟨rfl, rfl, rows_same⟩, ⟨rfl, rfl, rows_same⟩, trivial⟩, ⟨rfl, rfl⟩, ⟨rfl, rfl⟩, ⟨rfl, rfl⟩, ⟨rfl, rfl⟩, rfl, rfl, ⟨rfl, rfl⟩, ⟨rfl, rfl⟩, trivial⟩
    · replace h := condT h
      conv => whnf
      obtain ⟨y228, e229, h⟩ := bind_ex h
      refine CallOk.of (laws_toSurreal_ct e229) ?_
      conv => whnf
      exact CutK.piece (laws_FnExactCheckQuotient_p13_ct  h) [some 256, some 320, some 384, some 448, some 768, some 832, some 1124000, some 3392] [] ⟨⟨rfl, rfl⟩, ⟨rfl, ⟨rfl, rfl, trivial⟩, ⟨rfl, rfl, trivial⟩, ⟨rfl, rfl, trivial⟩, ⟨rfl, rfl, trivial⟩, ⟨rfl, ⟨rfl, rfl⟩, trivial⟩, ⟨rfl, ⟨rfl, rfl⟩, trivial⟩, ⟨rfl, rfl, rows_same⟩, ⟨rfl, rfl, rows_same⟩, trivial⟩, ⟨rfl, rfl⟩, ⟨rfl, rfl⟩, ⟨rfl, rfl⟩, ⟨rfl, rfl⟩, rfl, rfl, ⟨rfl, rfl⟩, ⟨rfl, rfl⟩, trivial⟩
  · replace h := condT h
    cases v44
    · replace h := condF h
      conv => whnf
      obtain ⟨y230, e231, h⟩ := bind_ex h
      refine CallOk.of (laws_toSurreal_ct e231) ?_
      conv => whnf
      exact CutK.piece (laws_FnExactCheckQuotient_p13_ct  h) [some 256, some 320, some 384, some 448, some 768, some 832, some 1124000, some 3392] [] ⟨⟨rfl, rfl⟩, ⟨rfl, ⟨rfl, rfl, trivial⟩, ⟨rfl, rfl, trivial⟩, ⟨rfl, rfl, trivial⟩, ⟨rfl, rfl, trivial⟩, ⟨rfl, ⟨rfl, rfl⟩, trivial⟩, ⟨rfl, ⟨rfl, rfl⟩, trivial⟩, ⟨rfl, rfl, rows_same⟩, ⟨rfl, rfl, rows_same⟩, trivial⟩, ⟨rfl, rfl⟩, ⟨rfl, rfl⟩, ⟨rfl, rfl⟩, ⟨rfl, rfl⟩, rfl, rfl, ⟨rfl, rfl⟩, ⟨rfl, rfl⟩, trivial⟩
    · replace h := condT h
      conv => whnf
      obtain ⟨y232, e233, h⟩ := bind_ex h
      refine CallOk.of (laws_toSurreal_ct e233) ?_
      conv => whnf
      exact CutK.piece (laws_FnExactCheckQuotient_p13_ct  h) [some 256, some 320, some 384, some 448, some 768, some 832, some 1124000, some 3392] [] ⟨⟨rfl, rfl⟩, ⟨rfl, ⟨rfl, rfl, trivial⟩, ⟨rfl, rfl, trivial⟩, ⟨rfl, rfl, trivial⟩, ⟨rfl, rfl, trivial⟩, ⟨rfl, ⟨rfl, rfl⟩, trivial⟩, ⟨rfl, ⟨rfl, rfl⟩, trivial⟩, ⟨rfl, rfl, rows_same⟩, ⟨rfl, rfl, rows_same⟩, trivial⟩, ⟨rfl, rfl⟩, ⟨rfl, rfl⟩, ⟨rfl, rfl⟩, ⟨rfl, rfl⟩, rfl, rfl, ⟨rfl, rfl⟩, ⟨rfl, rfl⟩, trivial⟩
def laws_FnExactCheckQuotient_p11 (k : Nat) (a1 : Rw) (a2 : Rw) (a3 : Rw) (a4 : Rw) (v33 : Bool) (v35 : Bool) : Option Bool :=
  (cond v33 (cond v35 ((laws_toSurreal k a1).bind fun y240 => (laws_FnExactCheckQuotient_p12 k a1 a2 a3 a4 y240 true true)) ((laws_toSurreal k a1).bind fun y238 => (laws_FnExactCheckQuotient_p12 k a1 a2 a3 a4 y238 false true))) (cond v35 ((laws_toSurreal k a1).bind fun y236 => (laws_FnExactCheckQuotient_p12 k a1 a2 a3 a4 y236 true false)) ((laws_toSurreal k a1).bind fun y234 => (laws_FnExactCheckQuotient_p12 k a1 a2 a3 a4 y234 false false))))
set_option maxHeartbeats 4000000 in
set_option maxRecDepth 100000 in
theorem laws_FnExactCheckQuotient_p11_ct {k : Nat} {a1 : Rw} {a2 : Rw} {a3 : Rw} {a4 : Rw} {v33 : Bool} {v35 : Bool} {r : Bool} (h : laws_FnExactCheckQuotient_p11 k a1 a2 a3 a4 v33 v35 = some r) : X prog 0 (tlF f4 11) (mk 94 [(4, .ptr 256 0), (5, .ptr 320 0), (6, .ptr 384 0), (7, .ptr 448 0), (10, .d (D.bool v35)), (11, .d (D.bool v33))] [(256, .box 24 [.d (D.sl a1)]), (320, .box 24 [.d (D.sl a2)]), (384, .box 24 [.d (D.sl a3)]), (448, .box 24 [.d (D.sl a4)])]) (finK prog f4 0 (.d (D.bool r)) (⟨[], []⟩)) := by
  rw [laws_FnExactCheckQuotient_p11] at h
  cases v33
  · replace h := condF h
    cases v35
    · replace h := condF h
      conv => whnf
      obtain ⟨y234, e235, h⟩ := bind_ex h
      refine CallOk.of (laws_toSurreal_ct e235) ?_
      conv => whnf
      exact CutK.piece (laws_FnExactCheckQuotient_p12_ct  h) [some 256, some 320, some 384, some 448, some 768, some 3264] [] ⟨⟨rfl, rfl⟩, ⟨rfl, ⟨rfl, rfl, trivial⟩, ⟨rfl, rfl, trivial⟩, ⟨rfl, rfl, trivial⟩, ⟨rfl, rfl, trivial⟩, ⟨rfl, ⟨rfl, rfl⟩, trivial⟩, ⟨rfl, rfl, rows_same⟩, trivial⟩, ⟨rfl, rfl⟩, ⟨rfl, rfl⟩, ⟨rfl, rfl⟩, ⟨rfl, rfl⟩, rfl, rfl, ⟨rfl, rfl⟩, trivial⟩
    · replace h := condT h
      conv => whnf
      obtain ⟨y236, e237, h⟩ := bind_ex h
      refine CallOk.of (laws_toSurreal_ct e237) ?_
      conv => whnf
      exact CutK.piece (laws_FnExactCheckQuotient_p12_ct  h) [some 256, some 320, some 384, some 448, some 768, some 3264] [] ⟨⟨rfl, rfl⟩, ⟨rfl, ⟨rfl, rfl, trivial⟩, ⟨rfl, rfl, trivial⟩, ⟨rfl, rfl, trivial⟩, ⟨rfl, rfl, trivial⟩, ⟨rfl, ⟨rfl, rfl⟩, trivial⟩, ⟨rfl, rfl, rows_same⟩, trivial⟩, ⟨rfl, rfl⟩, ⟨rfl, rfl⟩, ⟨rfl, rfl⟩, ⟨rfl, rfl⟩, rfl, rfl, ⟨rfl, rfl⟩, trivial⟩
  · replace h := condT h
    cases v35
    · replace h := condF h
      conv => whnf
      obtain ⟨y238, e239, h⟩ := bind_ex h
      refine CallOk.of (laws_toSurreal_ct e239) ?_
      conv => whnf
      exact CutK.piece (laws_FnExactCheckQuotient_p12_ct  h) [some 256, some 320, some 384, some 448, some 768, some 3264] [] ⟨⟨rfl, rfl⟩, ⟨rfl, ⟨rfl, rfl, trivial⟩, ⟨rfl, rfl, trivial⟩, ⟨rfl, rfl, trivial⟩, ⟨rfl, rfl, trivial⟩, ⟨rfl, ⟨rfl, rfl⟩, trivial⟩, ⟨rfl, rfl, rows_same⟩, trivial⟩, ⟨rfl, rfl⟩, ⟨rfl, rfl⟩, ⟨rfl, rfl⟩, ⟨rfl, rfl⟩, rfl, rfl, ⟨rfl, rfl⟩, trivial⟩
    · replace h := condT h
      conv => whnf
      obtain ⟨y240, e241, h⟩ := bind_ex h
      refine CallOk.of (laws_toSurreal_ct e241) ?_
      conv => whnf
      exact CutK.piece (laws_FnExactCheckQuotient_p12_ct  h) [some 256, some 320, some 384, some 448, some 768, some 3264] [] ⟨⟨rfl, rfl⟩, ⟨rfl, ⟨rfl, rfl, trivial⟩, ⟨rfl, rfl, trivial⟩, ⟨rfl, rfl, trivial⟩, ⟨rfl, rfl, trivial⟩, ⟨rfl, ⟨rfl, rfl⟩, trivial⟩, ⟨rfl, rfl, rows_same⟩, trivial⟩, ⟨rfl, rfl⟩, ⟨rfl, rfl⟩, ⟨rfl, rfl⟩, ⟨rfl, rfl⟩, rfl, rfl, ⟨rfl, rfl⟩, trivial⟩
def laws_FnExactCheckQuotient_p9 (k : Nat) (a1 : Rw) (a2 : Rw) (a3 : Rw) (a4 : Rw) (o19 : Int) : Option Bool :=
  (if o19 < (0 : Int) then some true else ((laws_toSurreal k a1).bind fun y243 => ((laws_toSurreal k a2).bind fun y245 => ((laws_toSurreal k a3).bind fun y247 => ((laws_toSurreal k a4).bind fun y249 => ((spec_CheckQuotient k y243 y245 y247 y249).bind fun y251 => (if y251.1 = true then (if y251.2 = true then (laws_FnExactCheckQuotient_p11 k a1 a2 a3 a4 true true) else (laws_FnExactCheckQuotient_p11 k a1 a2 a3 a4 false true)) else (if y251.2 = true then (laws_FnExactCheckQuotient_p11 k a1 a2 a3 a4 true false) else (laws_FnExactCheckQuotient_p11 k a1 a2 a3 a4 false false)))))))))
set_option maxHeartbeats 4000000 in
set_option maxRecDepth 100000 in
theorem laws_FnExactCheckQuotient_p9_ct {k : Nat} {a1 : Rw} {a2 : Rw} {a3 : Rw} {a4 : Rw} {o19 : Int} {r : Bool} (h : laws_FnExactCheckQuotient_p9 k a1 a2 a3 a4 o19 = some r) : X prog 0 (tlF f4 9) (mk 94 [(4, .ptr 256 0), (5, .ptr 320 0), (6, .ptr 384 0), (7, .ptr 448 0), (9, .d (D.int .i64 o19))] [(256, .box 24 [.d (D.sl a1)]), (320, .box 24 [.d (D.sl a2)]), (384, .box 24 [.d (D.sl a3)]), (448, .box 24 [.d (D.sl a4)])]) (finK prog f4 0 (.d (D.bool r)) (⟨[], []⟩)) := by
  rw [laws_FnExactCheckQuotient_p9] at h
  conv => whnf
  refine splD (fun g242 => ?_) (fun g242 => ?_)
  · replace h := iteP h g242
    conv => whnf
    cases h
    exact Done.of [] [] rfl rfl ⟨⟨rfl, rfl⟩, ⟨rfl, trivial⟩, rfl, trivial⟩
  · replace h := iteN h g242
    conv => whnf
    obtain ⟨y243, e244, h⟩ := bind_ex h
    refine CallOk.of (laws_toSurreal_ct e244) ?_
    conv => whnf
    obtain ⟨y245, e246, h⟩ := bind_ex h
    refine CallOk.of (laws_toSurreal_ct e246) ?_
    conv => whnf
    obtain ⟨y247, e248, h⟩ := bind_ex h
    refine CallOk.of (laws_toSurreal_ct e248) ?_
    conv => whnf
    obtain ⟨y249, e250, h⟩ := bind_ex h
    refine CallOk.of (laws_toSurreal_ct e250) ?_
    conv => whnf
    refine Take.all (rfl) ?_
    conv => whnf
    refine Take.all (rfl) ?_
    conv => whnf
    refine Take.all (rfl) ?_
    conv => whnf
    refine Take.all (rfl) ?_
    conv => whnf
    obtain ⟨y251, e252, h⟩ := bind_ex h
    refine CallOk.of (spec_CheckQuotient_ct e252) ?_
    conv => whnf
    refine spl (fun g253 => ?_) (fun g253 => ?_)
    · replace h := iteT h g253
      conv => whnf
      refine spl (fun g254 => ?_) (fun g254 => ?_)
      · replace h := iteT h g254
        conv => whnf
        exact CutK.piece (laws_FnExactCheckQuotient_p11_ct  h) [some 256, some 320, some 384, some 448] [] ⟨⟨rfl, rfl⟩, ⟨rfl, ⟨rfl, rfl, trivial⟩, ⟨rfl, rfl, trivial⟩, ⟨rfl, rfl, trivial⟩, ⟨rfl, rfl, trivial⟩, trivial⟩, ⟨rfl, rfl⟩, ⟨rfl, rfl⟩, ⟨rfl, rfl⟩, ⟨rfl, rfl⟩, rfl, rfl, trivial⟩
      · replace h := iteF h g254
        conv => whnf
        exact CutK.piece (laws_FnExactCheckQuotient_p11_ct  h) [some 256, some 320, some 384, some 448] [] ⟨⟨rfl, rfl⟩, ⟨rfl, ⟨rfl, rfl, trivial⟩, ⟨rfl, rfl, trivial⟩, ⟨rfl, rfl, trivial⟩, ⟨rfl, rfl, trivial⟩, trivial⟩, ⟨rfl, rfl⟩, ⟨rfl, rfl⟩, ⟨rfl, rfl⟩, ⟨rfl, rfl⟩, rfl, rfl, trivial⟩
    · replace h := iteF h g253
      conv => whnf
      refine spl (fun g255 => ?_) (fun g255 => ?_)
      · replace h := iteT h g255
        conv => whnf
        exact CutK.piece (laws_FnExactCheckQuotient_p11_ct  h) [some 256, some 320, some 384, some 448] [] ⟨⟨rfl, rfl⟩, ⟨rfl, ⟨rfl, rfl, trivial⟩, ⟨rfl, rfl, trivial⟩, ⟨rfl, rfl, trivial⟩, ⟨rfl, rfl, trivial⟩, trivial⟩, ⟨rfl, rfl⟩, ⟨rfl, rfl⟩, ⟨rfl, rfl⟩, ⟨rfl, rfl⟩, rfl, rfl, trivial⟩
      · replace h := iteF h g255
        conv => whnf
        exact CutK.piece (laws_FnExactCheckQuotient_p11_ct  h) [some 256, some 320, some 384, some 448] [] ⟨⟨rfl, rfl⟩, ⟨rfl, ⟨rfl, rfl, trivial⟩, ⟨rfl, rfl, trivial⟩, ⟨rfl, rfl, trivial⟩, ⟨rfl, rfl, trivial⟩, trivial⟩, ⟨rfl, rfl⟩, ⟨rfl, rfl⟩, ⟨rfl, rfl⟩, ⟨rfl, rfl⟩, rfl, rfl, trivial⟩
def laws_FnExactCheckQuotient_p7 (k : Nat) (a1 : Rw) (a2 : Rw) (a3 : Rw) (a4 : Rw) (o15 : Int) : Option Bool :=
  (if o15 < (0 : Int) then some true else ((laws_szSurreal k a4 o15).bind fun y257 => (laws_FnExactCheckQuotient_p9 k a1 a2 a3 a4 y257)))
set_option maxHeartbeats 4000000 in
set_option maxRecDepth 100000 in
theorem laws_FnExactCheckQuotient_p7_ct {k : Nat} {a1 : Rw} {a2 : Rw} {a3 : Rw} {a4 : Rw} {o15 : Int} {r : Bool} (h : laws_FnExactCheckQuotient_p7 k a1 a2 a3 a4 o15 = some r) : X prog 0 (tlF f4 7) (mk 94 [(4, .ptr 256 0), (5, .ptr 320 0), (6, .ptr 384 0), (7, .ptr 448 0), (9, .d (D.int .i64 o15))] [(256, .box 24 [.d (D.sl a1)]), (320, .box 24 [.d (D.sl a2)]), (384, .box 24 [.d (D.sl a3)]), (448, .box 24 [.d (D.sl a4)])]) (finK prog f4 0 (.d (D.bool r)) (⟨[], []⟩)) := by
  rw [laws_FnExactCheckQuotient_p7] at h
  conv => whnf
  refine splD (fun g256 => ?_) (fun g256 => ?_)
  · replace h := iteP h g256
    conv => whnf
    cases h
    exact Done.of [] [] rfl rfl ⟨⟨rfl, rfl⟩, ⟨rfl, trivial⟩, rfl, trivial⟩
  · replace h := iteN h g256
    conv => whnf
    obtain ⟨y257, e258, h⟩ := bind_ex h
    refine CallOk.of (laws_szSurreal_ct e258) ?_
    conv => whnf
    exact CutK.piece (laws_FnExactCheckQuotient_p9_ct  h) [some 256, some 320, some 384, some 448] [] ⟨⟨rfl, rfl⟩, ⟨rfl, ⟨rfl, rfl, trivial⟩, ⟨rfl, rfl, trivial⟩, ⟨rfl, rfl, trivial⟩, ⟨rfl, rfl, trivial⟩, trivial⟩, ⟨rfl, rfl⟩, ⟨rfl, rfl⟩, ⟨rfl, rfl⟩, ⟨rfl, rfl⟩, rfl, trivial⟩
def laws_FnExactCheckQuotient_p5 (k : Nat) (a1 : Rw) (a2 : Rw) (a3 : Rw) (a4 : Rw) (o11 : Int) : Option Bool :=
  (if o11 < (0 : Int) then some true else ((laws_szSurreal k a3 o11).bind fun y260 => (laws_FnExactCheckQuotient_p7 k a1 a2 a3 a4 y260)))
set_option maxHeartbeats 4000000 in
set_option maxRecDepth 100000 in
theorem laws_FnExactCheckQuotient_p5_ct {k : Nat} {a1 : Rw} {a2 : Rw} {a3 : Rw} {a4 : Rw} {o11 : Int} {r : Bool} (h : laws_FnExactCheckQuotient_p5 k a1 a2 a3 a4 o11 = some r) : X prog 0 (tlF f4 5) (mk 94 [(4, .ptr 256 0), (5, .ptr 320 0), (6, .ptr 384 0), (7, .ptr 448 0), (9, .d (D.int .i64 o11))] [(256, .box 24 [.d (D.sl a1)]), (320, .box 24 [.d (D.sl a2)]), (384, .box 24 [.d (D.sl a3)]), (448, .box 24 [.d (D.sl a4)])]) (finK prog f4 0 (.d (D.bool r)) (⟨[], []⟩)) := by
  rw [laws_FnExactCheckQuotient_p5] at h
  conv => whnf
  refine splD (fun g259 => ?_) (fun g259 => ?_)
  · replace h := iteP h g259
    conv => whnf
    cases h
    exact Done.of [] [] rfl rfl ⟨⟨rfl, rfl⟩, ⟨rfl, trivial⟩, rfl, trivial⟩
  · replace h := iteN h g259
    conv => whnf
    obtain ⟨y260, e261, h⟩ := bind_ex h
    refine CallOk.of (laws_szSurreal_ct e261) ?_
    conv => whnf
    exact CutK.piece (laws_FnExactCheckQuotient_p7_ct  h) [some 256, some 320, some 384, some 448] [] ⟨⟨rfl, rfl⟩, ⟨rfl, ⟨rfl, rfl, trivial⟩, ⟨rfl, rfl, trivial⟩, ⟨rfl, rfl, trivial⟩, ⟨rfl, rfl, trivial⟩, trivial⟩, ⟨rfl, rfl⟩, ⟨rfl, rfl⟩, ⟨rfl, rfl⟩, ⟨rfl, rfl⟩, rfl, trivial⟩
def laws_FnExactCheckQuotient_p3 (k : Nat) (a1 : Rw) (a2 : Rw) (a3 : Rw) (a4 : Rw) (o7 : Int) : Option Bool :=
  (if o7 < (0 : Int) then some true else ((laws_szSurreal k a2 o7).bind fun y263 => (laws_FnExactCheckQuotient_p5 k a1 a2 a3 a4 y263)))
set_option maxHeartbeats 4000000 in
set_option maxRecDepth 100000 in
theorem laws_FnExactCheckQuotient_p3_ct {k : Nat} {a1 : Rw} {a2 : Rw} {a3 : Rw} {a4 : Rw} {o7 : Int} {r : Bool} (h : laws_FnExactCheckQuotient_p3 k a1 a2 a3 a4 o7 = some r) : X prog 0 (tlF f4 3) (mk 94 [(4, .ptr 256 0), (5, .ptr 320 0), (6, .ptr 384 0), (7, .ptr 448 0), (9, .d (D.int .i64 o7))] [(256, .box 24 [.d (D.sl a1)]), (320, .box 24 [.d (D.sl a2)]), (384, .box 24 [.d (D.sl a3)]), (448, .box 24 [.d (D.sl a4)])]) (finK prog f4 0 (.d (D.bool r)) (⟨[], []⟩)) := by
  rw [laws_FnExactCheckQuotient_p3] at h
  conv => whnf
  refine splD (fun g262 => ?_) (fun g262 => ?_)
  · replace h := iteP h g262
    conv => whnf
    cases h
    exact Done.of [] [] rfl rfl ⟨⟨rfl, rfl⟩, ⟨rfl, trivial⟩, rfl, trivial⟩
  · replace h := iteN h g262
    conv => whnf
    obtain ⟨y263, e264, h⟩ := bind_ex h
    refine CallOk.of (laws_szSurreal_ct e264) ?_
    conv => whnf
    exact CutK.piece (laws_FnExactCheckQuotient_p5_ct  h) [some 256, some 320, some 384, some 448] [] ⟨⟨rfl, rfl⟩, ⟨rfl, ⟨rfl, rfl, trivial⟩, ⟨rfl, rfl, trivial⟩, ⟨rfl, rfl, trivial⟩, ⟨rfl, rfl, trivial⟩, trivial⟩, ⟨rfl, rfl⟩, ⟨rfl, rfl⟩, ⟨rfl, rfl⟩, ⟨rfl, rfl⟩, rfl, trivial⟩
def laws_FnExactCheckQuotient (k : Nat) (a1 : Rw) (a2 : Rw) (a3 : Rw) (a4 : Rw) : Option Bool :=
  ((laws_szSurreal k a1 1048576).bind fun y265 => (laws_FnExactCheckQuotient_p3 k a1 a2 a3 a4 y265))
set_option maxHeartbeats 4000000 in
set_option maxRecDepth 100000 in
theorem laws_FnExactCheckQuotient_ct {k : Nat} {a1 : Rw} {a2 : Rw} {a3 : Rw} {a4 : Rw} {r : Bool} (h : laws_FnExactCheckQuotient k a1 a2 a3 a4 = some r) : Ct prog 4 [.agg [.d (D.sl a1)], .agg [.d (D.sl a2)], .agg [.d (D.sl a3)], .agg [.d (D.sl a4)]] (⟨[], []⟩) (.d (D.bool r)) (⟨[], []⟩) := by
  rw [laws_FnExactCheckQuotient] at h
  refine Ct.of (c := _) mixed func4 ⟨rfl, rfl, rfl⟩ ?_ rfl
  conv => whnf
  obtain ⟨y265, e266, h⟩ := bind_ex h
  refine CallOk.of (laws_szSurreal_ct e266) ?_
  conv => whnf
  exact CutK.piece (laws_FnExactCheckQuotient_p3_ct  h) [some 256, some 320, some 384, some 448] [] ⟨⟨rfl, rfl⟩, ⟨rfl, ⟨rfl, rfl, trivial⟩, ⟨rfl, rfl, trivial⟩, ⟨rfl, rfl, trivial⟩, ⟨rfl, rfl, trivial⟩, trivial⟩, ⟨rfl, rfl⟩, ⟨rfl, rfl⟩, ⟨rfl, rfl⟩, ⟨rfl, rfl⟩, rfl, trivial⟩
end
end Go.Proofs.Try
