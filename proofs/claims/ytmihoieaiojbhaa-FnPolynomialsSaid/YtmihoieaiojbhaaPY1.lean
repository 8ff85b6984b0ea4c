/- Printed by program (axgen): pure functions, and that the Go functions compute them. -/
import Derived.Test.YtmihoieaiojbhaaPY0
set_option linter.unusedVariables false
set_option linter.unusedSimpArgs false
namespace Go.Proofs.Try
open Go Go.AX
noncomputable section
def spec_suProduct_p4 (o145 : Rw) (v146 : Bool) : Option (Rw × Bool) :=
  (cond v146 (some (o145, true)) (some (o145, false)))
set_option maxHeartbeats 4000000 in
set_option maxRecDepth 100000 in
theorem spec_suProduct_p4_ct {o145 : Rw} {v146 : Bool} {r : Rw × Bool} (h : spec_suProduct_p4 o145 v146 = some r) : X prog 0 (tlF f133 4) (mk 55 [(4, .ptr 256 0), (5, .d (D.bool v146))] [(256, .box 38 [.os 1084000 o145.length]), (1084000, .arr 109 true o145)]) (finK prog f133 0 (.tup [.agg [.os 8 r.1.length], .d (D.bool r.2)]) (⟨[], [(109, true, r.1)]⟩)) := by
  rw [spec_suProduct_p4] at h
  cases v146
  · replace h := condF h
    conv => whnf
    cases h
    exact Done.of [some 1084000] [] rfl rfl ⟨⟨rfl, rfl⟩, ⟨rfl, ⟨rfl, rfl, rows_same⟩, trivial⟩, ⟨⟨⟨rfl, rfl⟩, trivial⟩, rfl, trivial⟩, trivial⟩
  · replace h := condT h
    conv => whnf
    cases h
    exact Done.of [some 1084000] [] rfl rfl ⟨⟨rfl, rfl⟩, ⟨rfl, ⟨rfl, rfl, rows_same⟩, trivial⟩, ⟨⟨⟨rfl, rfl⟩, trivial⟩, rfl, trivial⟩, trivial⟩
def spec_suProduct_p3 (k : Nat) (o141 : Rw) : Option (Rw × Bool) :=
  ((spec_suIf k o141).bind fun y147 => (if y147.2 = true then (spec_suProduct_p4 y147.1 true) else (spec_suProduct_p4 y147.1 false)))
set_option maxHeartbeats 4000000 in
set_option maxRecDepth 100000 in
theorem spec_suProduct_p3_ct {k : Nat} {o141 : Rw} {r : Rw × Bool} (h : spec_suProduct_p3 k o141 = some r) : X prog 0 (tlF f133 3) (mk 55 [(4, .ptr 256 0), (6, .ptr 384 0)] [(256, .box 38 [.es]), (384, .box 38 [.os 1079000 o141.length]), (1079000, .arr 109 false o141)]) (finK prog f133 0 (.tup [.agg [.os 8 r.1.length], .d (D.bool r.2)]) (⟨[], [(109, true, r.1)]⟩)) := by
  rw [spec_suProduct_p3] at h
  conv => whnf
  refine Pick.no ?_
  conv => whnf
  refine Take.all (rfl) ?_
  conv => whnf
  obtain ⟨y147, e148, h⟩ := bind_ex h
  refine CallOk.of (spec_suIf_ct e148) ?_
  conv => whnf
  refine spl (fun g149 => ?_) (fun g149 => ?_)
  · replace h := iteT h g149
    conv => whnf
    exact CutK.piece (spec_suProduct_p4_ct  h) [some 256, some 3328] [] ⟨⟨rfl, rfl⟩, ⟨rfl, ⟨rfl, ⟨rfl, rfl⟩, trivial⟩, ⟨rfl, rfl, rows_same⟩, trivial⟩, ⟨rfl, rfl⟩, rfl, trivial⟩
  · replace h := iteF h g149
    conv => whnf
    exact CutK.piece (spec_suProduct_p4_ct  h) [some 256, some 3328] [] ⟨⟨rfl, rfl⟩, ⟨rfl, ⟨rfl, ⟨rfl, rfl⟩, trivial⟩, ⟨rfl, rfl, rows_same⟩, trivial⟩, ⟨rfl, rfl⟩, rfl, trivial⟩
def spec_suProduct_l1 (k : Nat) (a1 : Rw) (a2 : Rw) (v195n : Nat) (x288 : Rw) (x289 : Int) (x290 : Int) (K2 : Rw → Option (Rw × Bool)) : Rw → Rw → Option (Rw × Bool)
  | [], v305 => (K2 v305)
  | cs :: rest, v305 => (cell_sii cs fun x331 x332 x333 => ((spec_suTimesTerm k x288 x289 x290 x331 x332 x333).bind fun y335 => (if y335.2.2.2 = true then ((spec_suPut k v305 y335.1 y335.2.1 y335.2.2.1).bind fun y338 => (if y338.2 = true then (spec_suProduct_l1 k a1 a2 v195n x288 x289 x290 K2 rest y338.1) else some (([] : Rw), false))) else some (([] : Rw), false))))
set_option maxHeartbeats 4000000 in
set_option maxRecDepth 100000 in
theorem spec_suProduct_l1_ct {k : Nat} {a1 : Rw} {a2 : Rw} {v195n : Nat} {x288 : Rw} {x289 : Int} {x290 : Int} {K2 : Rw → Option (Rw × Bool)} {r : Rw × Bool} (hx : a2.length ≤ cap) : ∀ (rest : Rw) (v304n : Nat) (v305 : Rw), a2.drop v304n = rest → spec_suProduct_l1 k a1 a2 v195n x288 x289 x290 K2 rest v305 = some r → LoopOk prog 0 (lp f133 1) (mk 55 [(3, .ptr 192 0), (4, .ptr 256 0), (6, .ptr 384 0), (8, .ptr 512 0), (17, .d (D.sl a1)), (18, .d (D.int .i64 (a1.length : Int))), (19, .d (D.int .i64 (v195n : Int))), (24, .d (D.sl a2)), (25, .d (D.int .i64 (a2.length : Int))), (26, .d (D.int .i64 (v304n : Int)))] [(192, .box 38 [.d (D.sl a2)]), (256, .box 38 [.es]), (384, .box 38 [.os 76800 v305.length]), (512, .box 109 [.d (D.sl x288), .d (D.int .i64 x289), .d (D.int .i64 x290)]), (76800, .arr 109 false v305)]) (LoopEnd prog f133 0 55 (.tup [.agg [.os 8 r.1.length], .d (D.bool r.2)]) (⟨[], [(109, true, r.1)]⟩) (fun i ts os => (i = 2 ∧ ∃ v318 : Rw, K2 v318 = some r ∧ ts = [(3, .ptr 192 0), (4, .ptr 256 0), (6, .ptr 384 0), (17, .d (D.sl a1)), (18, .d (D.int .i64 (a1.length : Int))), (19, .d (D.int .i64 (v195n : Int)))] ∧ os = [(192, .box 38 [.d (D.sl a2)]), (256, .box 38 [.es]), (384, .box 38 [.os 79801 v318.length]), (79801, .arr 109 false v318)])))
  | [], v304n, v305, hd, h => by
      rw [spec_suProduct_l1] at h
      have hn := drop_nil hd
      refine LoopOk.step ?_
      conv => whnf
      refine splD (fun g => absurd g hn) (fun _ => ?_)
      conv => whnf
      exact ⟨_, _, [some 192, some 256, some 384, some 76800], [], ⟨rfl, _, h, rfl, rfl⟩, ⟨⟨rfl, rfl⟩, ⟨rfl, ⟨rfl, rfl, trivial⟩, ⟨rfl, trivial, trivial⟩, ⟨rfl, ⟨rfl, rfl⟩, trivial⟩, ⟨rfl, rfl, rows_same⟩, trivial⟩, ⟨rfl, rfl⟩, ⟨rfl, rfl⟩, ⟨rfl, rfl⟩, rfl, rfl, rfl, trivial⟩⟩
  | cs :: rest, v304n, v305, hd, h => by
      rw [spec_suProduct_l1] at h
      obtain ⟨hrow, hd1, hlt⟩ := drop_cons hd
      refine LoopOk.step ?_
      conv => whnf
      refine splD (fun _ => ?_) (fun g => absurd hlt g)
      conv => whnf
      obtain ⟨x331, x332, x333, e334, h⟩ := cell_sii_ex h
      rw [e334] at hrow
      refine Req.of (Int.natCast_nonneg _) ?_
      refine Row.of _ hrow ?_
      conv => whnf
      refine Pick.no ?_
      conv => whnf
      obtain ⟨y335, e336, h⟩ := bind_ex h
      refine CallOk.of (spec_suTimesTerm_ct e336) ?_
      conv => whnf
      refine spl (fun g337 => ?_) (fun g337 => ?_)
      · replace h := iteT h g337
        conv => whnf
        refine CutK.norm [3, 4, 6, 8, 11, 12, 17, 18, 19, 24, 25, 26] [192, 256, 384, 512, 704, 2112, 76800] ?_
        conv => whnf
        refine Pick.no ?_
        conv => whnf
        refine Take.all (rfl) ?_
        conv => whnf
        refine Take.all (rfl) ?_
        conv => whnf
        obtain ⟨y338, e339, h⟩ := bind_ex h
        refine CallOk.of (spec_suPut_ct e339) ?_
        conv => whnf
        refine spl (fun g340 => ?_) (fun g340 => ?_)
        · replace h := iteT h g340
          conv => whnf
          refine CutK.norm [3, 4, 6, 8, 13, 14, 17, 18, 19, 24, 25, 26] [192, 256, 384, 512, 832, 2688, 76800] ?_
          conv => whnf
          refine CutK.norm [3, 4, 6, 8, 17, 18, 19, 24, 25, 26] [192, 256, 384, 512, 2688] ?_
          conv => whnf
          exact LoopOk.back (spec_suProduct_l1_ct hx rest (v304n + 1) _ hd1 h) [some 192, some 256, some 384, some 512, some 2688] [] ⟨⟨rfl, rfl⟩, ⟨rfl, ⟨rfl, rfl, trivial⟩, ⟨rfl, trivial, trivial⟩, ⟨rfl, ⟨rfl, rfl⟩, trivial⟩, ⟨rfl, rfl, rfl, rfl, trivial⟩, ⟨rfl, rfl, rows_same⟩, trivial⟩, ⟨rfl, rfl⟩, ⟨rfl, rfl⟩, ⟨rfl, rfl⟩, ⟨rfl, rfl⟩, rfl, rfl, rfl, rfl, rfl, i64eq (wrap_up hlt hx), trivial⟩
        · replace h := iteF h g340
          conv => whnf
          refine CutK.norm [3, 4, 6, 8, 13, 14, 17, 18, 19, 24, 25, 26] [192, 256, 384, 512, 832, 2688, 76800] ?_
          conv => whnf
          cases h
          exact Done.of [none] [] rfl rfl ⟨⟨rfl, rfl⟩, ⟨rfl, rfl, trivial⟩, ⟨⟨⟨rfl, rfl⟩, trivial⟩, rfl, trivial⟩, trivial⟩
      · replace h := iteF h g337
        conv => whnf
        refine CutK.norm [3, 4, 6, 8, 11, 12, 17, 18, 19, 24, 25, 26] [192, 256, 384, 512, 704, 2112, 76800] ?_
        conv => whnf
        cases h
        exact Done.of [none] [] rfl rfl ⟨⟨rfl, rfl⟩, ⟨rfl, rfl, trivial⟩, ⟨⟨⟨rfl, rfl⟩, trivial⟩, rfl, trivial⟩, trivial⟩
def spec_suProduct_l0 (k : Nat) (a1 : Rw) (a2 : Rw) (K0 : Rw → Option (Rw × Bool)) : Rw → Nat → Rw → Option (Rw × Bool)
  | [], v195n, v196 => (K0 v196)
  | cs :: rest, v195n, v196 => (cell_sii cs fun x288 x289 x290 => (if a2.length ≤ cap then (spec_suProduct_l1 k a1 a2 v195n x288 x289 x290 (fun (v318 : Rw) => (spec_suProduct_l0 k a1 a2 K0 rest (v195n + 1) v318)) a2 v196) else none))
set_option maxHeartbeats 4000000 in
set_option maxRecDepth 100000 in
theorem spec_suProduct_l0_ct {k : Nat} {a1 : Rw} {a2 : Rw} {K0 : Rw → Option (Rw × Bool)} {r : Rw × Bool} (hx : a1.length ≤ cap) : ∀ (rest : Rw) (v195n : Nat) (v196 : Rw), a1.drop v195n = rest → spec_suProduct_l0 k a1 a2 K0 rest v195n v196 = some r → LoopOk prog 0 (lp f133 0) (mk 55 [(3, .ptr 192 0), (4, .ptr 256 0), (6, .ptr 384 0), (17, .d (D.sl a1)), (18, .d (D.int .i64 (a1.length : Int))), (19, .d (D.int .i64 (v195n : Int)))] [(192, .box 38 [.d (D.sl a2)]), (256, .box 38 [.es]), (384, .box 38 [.os 64000 v196.length]), (64000, .arr 109 false v196)]) (LoopEnd prog f133 0 55 (.tup [.agg [.os 8 r.1.length], .d (D.bool r.2)]) (⟨[], [(109, true, r.1)]⟩) (fun i ts os => (i = 0 ∧ ∃ v242 : Rw, K0 v242 = some r ∧ ts = [(4, .ptr 256 0), (6, .ptr 384 0)] ∧ os = [(256, .box 38 [.es]), (384, .box 38 [.os 67001 v242.length]), (67001, .arr 109 false v242)])))
  | [], v195n, v196, hd, h => by
      rw [spec_suProduct_l0] at h
      have hn := drop_nil hd
      refine LoopOk.step ?_
      conv => whnf
      refine splD (fun g => absurd g hn) (fun _ => ?_)
      conv => whnf
      exact ⟨_, _, [some 256, some 384, some 64000], [], ⟨rfl, _, h, rfl, rfl⟩, ⟨⟨rfl, rfl⟩, ⟨rfl, ⟨rfl, trivial, trivial⟩, ⟨rfl, ⟨rfl, rfl⟩, trivial⟩, ⟨rfl, rfl, rows_same⟩, trivial⟩, ⟨rfl, rfl⟩, ⟨rfl, rfl⟩, trivial⟩⟩
  | cs :: rest, v195n, v196, hd, h => by
      rw [spec_suProduct_l0] at h
      obtain ⟨hrow, hd1, hlt⟩ := drop_cons hd
      refine LoopOk.step ?_
      conv => whnf
      refine splD (fun _ => ?_) (fun g => absurd hlt g)
      conv => whnf
      obtain ⟨x288, x289, x290, e291, h⟩ := cell_sii_ex h
      rw [e291] at hrow
      refine Req.of (Int.natCast_nonneg _) ?_
      refine Row.of _ hrow ?_
      conv => whnf
      obtain ⟨g341, h⟩ := req_ex h
      refine LoopOk.into (spec_suProduct_l1_ct  g341 _ _ _ rfl h) [some 192, some 256, some 384, some 512, some 64000] [] ⟨⟨rfl, rfl⟩, ⟨rfl, ⟨rfl, rfl, trivial⟩, ⟨rfl, trivial, trivial⟩, ⟨rfl, ⟨rfl, rfl⟩, trivial⟩, ⟨rfl, rfl, rfl, rfl, trivial⟩, ⟨rfl, rfl, rows_same⟩, trivial⟩, ⟨rfl, rfl⟩, ⟨rfl, rfl⟩, ⟨rfl, rfl⟩, ⟨rfl, rfl⟩, rfl, rfl, rfl, rfl, rfl, rfl, trivial⟩ ?_ (fun _ hs => hs)
      rintro i ts os ⟨rfl, v318, h, rfl, rfl⟩
      conv => whnf
      refine CutK.norm [3, 4, 6, 17, 18, 19] [192, 256, 384, 79801] ?_
      conv => whnf
      exact LoopOk.back (spec_suProduct_l0_ct hx rest (v195n + 1) _ hd1 h) [some 192, some 256, some 384, some 79801] [] ⟨⟨rfl, rfl⟩, ⟨rfl, ⟨rfl, rfl, trivial⟩, ⟨rfl, trivial, trivial⟩, ⟨rfl, ⟨rfl, rfl⟩, trivial⟩, ⟨rfl, rfl, rows_same⟩, trivial⟩, ⟨rfl, rfl⟩, ⟨rfl, rfl⟩, ⟨rfl, rfl⟩, rfl, rfl, i64eq (wrap_up hlt hx), trivial⟩
def spec_suProduct (k : Nat) (a1 : Rw) (a2 : Rw) : Option (Rw × Bool) :=
  (if a1.length ≤ cap then (spec_suProduct_l0 k a1 a2 (fun (v242 : Rw) => (spec_suProduct_p3 k v242)) a1 0 ([] : Rw)) else none)
set_option maxHeartbeats 4000000 in
set_option maxRecDepth 100000 in
theorem spec_suProduct_ct {k : Nat} {a1 : Rw} {a2 : Rw} {r : Rw × Bool} (h : spec_suProduct k a1 a2 = some r) : Ct prog 133 [.agg [.d (D.sl a1)], .agg [.d (D.sl a2)]] (⟨[], []⟩) (.tup [.agg [.os 8 r.1.length], .d (D.bool r.2)]) (⟨[], [(109, true, r.1)]⟩) := by
  rw [spec_suProduct] at h
  refine Ct.of (c := _) mixed func133 ⟨rfl, rfl, rfl⟩ ?_ rfl
  conv => whnf
  obtain ⟨g342, h⟩ := req_ex h
  refine LoopOk.into (spec_suProduct_l0_ct  g342 _ _ _ rfl h) [some 192, some 256, some 384, none] [] ⟨⟨rfl, rfl⟩, ⟨rfl, ⟨rfl, rfl, trivial⟩, ⟨rfl, trivial, trivial⟩, ⟨rfl, ⟨rfl, rfl⟩, trivial⟩, rfl, trivial⟩, ⟨rfl, rfl⟩, ⟨rfl, rfl⟩, ⟨rfl, rfl⟩, rfl, rfl, rfl, trivial⟩ ?_ (fun _ hs => hs)
  rintro i ts os ⟨rfl, v242, h, rfl, rfl⟩
  conv => whnf
  exact CutK.piece (spec_suProduct_p3_ct  h) [some 256, some 384, some 67001] [] ⟨⟨rfl, rfl⟩, ⟨rfl, ⟨rfl, trivial, trivial⟩, ⟨rfl, ⟨rfl, rfl⟩, trivial⟩, ⟨rfl, rfl, rows_same⟩, trivial⟩, ⟨rfl, rfl⟩, ⟨rfl, rfl⟩, trivial⟩

def spec_seChecked_keep  (a1 : Bool) (a2 : Rw) (a3 : Bool) : Option (Rw × Bool) :=
  (cond a1 (cond a3 (some (([] : Rw), true)) (some (([] : Rw), true))) (cond a3 (some (a2, false)) (some (([] : Rw), true))))
set_option maxHeartbeats 4000000 in
set_option maxRecDepth 100000 in
theorem spec_seChecked_keep_ct  {a1 : Bool} {a2 : Rw} {a3 : Bool} {r : Rw × Bool} (h : spec_seChecked_keep a1 a2 a3 = some r) : Ct prog 131 [.ptr 0 0, .agg [.d (D.sl a2)], .d (D.bool a3)] (⟨[(107, [.d (D.bool a1)])], []⟩) (.agg [.d (D.sl r.1)]) (⟨[(107, [.d (D.bool r.2)])], []⟩) := by
  rw [spec_seChecked_keep] at h
  refine Ct.of (c := _) mixed func131 ⟨rfl, rfl, rfl⟩ ?_ rfl
  cases a1
  · replace h := condF h
    cases a3
    · replace h := condF h
      conv => whnf
      refine splF ?_
      conv => whnf
      refine splT ?_
      conv => whnf
      cases h
      exact Done.of [some 0] [] rfl rfl ⟨⟨rfl, rfl⟩, ⟨rfl, ⟨rfl, rfl, trivial⟩, trivial⟩, ⟨rfl, trivial⟩, trivial⟩
    · replace h := condT h
      conv => whnf
      refine splF ?_
      conv => whnf
      refine splF ?_
      conv => whnf
      cases h
      exact Done.of [some 0] [] rfl rfl ⟨⟨rfl, rfl⟩, ⟨rfl, ⟨rfl, rfl, trivial⟩, trivial⟩, ⟨rfl, trivial⟩, trivial⟩
  · replace h := condT h
    cases a3
    · replace h := condF h
      conv => whnf
      refine splT ?_
      conv => whnf
      refine splT ?_
      conv => whnf
      cases h
      exact Done.of [some 0] [] rfl rfl ⟨⟨rfl, rfl⟩, ⟨rfl, ⟨rfl, rfl, trivial⟩, trivial⟩, ⟨rfl, trivial⟩, trivial⟩
    · replace h := condT h
      conv => whnf
      refine splT ?_
      conv => whnf
      refine splT ?_
      conv => whnf
      cases h
      exact Done.of [some 0] [] rfl rfl ⟨⟨rfl, rfl⟩, ⟨rfl, ⟨rfl, rfl, trivial⟩, trivial⟩, ⟨rfl, trivial⟩, trivial⟩

def spec_seChecked_mul (k : Nat) (a1 : Bool) (a2 : Rw) (a3 : Rw) : Option (Rw × Bool) :=
  (cond a1 ((spec_suProduct k a2 a3).bind fun y11 => (if y11.2 = true then ((spec_seChecked_keep true y11.1 true).bind fun y14 => some (y14.1, y14.2)) else ((spec_seChecked_keep true y11.1 false).bind fun y16 => some (y16.1, y16.2)))) ((spec_suProduct k a2 a3).bind fun y4 => (if y4.2 = true then ((spec_seChecked_keep false y4.1 true).bind fun y7 => some (y7.1, y7.2)) else ((spec_seChecked_keep false y4.1 false).bind fun y9 => some (y9.1, y9.2)))))
set_option maxHeartbeats 4000000 in
set_option maxRecDepth 100000 in
theorem spec_seChecked_mul_ct {k : Nat} {a1 : Bool} {a2 : Rw} {a3 : Rw} {r : Rw × Bool} (h : spec_seChecked_mul k a1 a2 a3 = some r) : Ct prog 63 [.ptr 0 0, .agg [.d (D.sl a2)], .agg [.d (D.sl a3)]] (⟨[(107, [.d (D.bool a1)])], []⟩) (.agg [.d (D.sl r.1)]) (⟨[(107, [.d (D.bool r.2)])], []⟩) := by
  rw [spec_seChecked_mul] at h
  refine Ct.of (c := _) mixed func63 ⟨rfl, rfl, rfl⟩ ?_ rfl
  cases a1
  · replace h := condF h
    conv => whnf
    refine Pick.no ?_
    conv => whnf
    obtain ⟨y4, e5, h⟩ := bind_ex h
    refine CallOk.of (spec_suProduct_ct e5) ?_
    conv => whnf
    refine spl (fun g6 => ?_) (fun g6 => ?_)
    · replace h := iteT h g6
      conv => whnf
      refine Pick.no ?_
      conv => whnf
      refine Take.all (rfl) ?_
      conv => whnf
      obtain ⟨y7, e8, h⟩ := bind_ex h
      refine CallOk.of (spec_seChecked_keep_ct e8) ?_
      conv => whnf
      refine CutK.go ?_
      conv => whnf
      cases h
      exact Done.of [some 0] [] rfl rfl ⟨⟨rfl, rfl⟩, ⟨rfl, ⟨rfl, rfl, trivial⟩, trivial⟩, ⟨rfl, trivial⟩, trivial⟩
    · replace h := iteF h g6
      conv => whnf
      refine Pick.no ?_
      conv => whnf
      refine Take.all (rfl) ?_
      conv => whnf
      obtain ⟨y9, e10, h⟩ := bind_ex h
      refine CallOk.of (spec_seChecked_keep_ct e10) ?_
      conv => whnf
      refine CutK.go ?_
      conv => whnf
      cases h
      exact Done.of [some 0] [] rfl rfl ⟨⟨rfl, rfl⟩, ⟨rfl, ⟨rfl, rfl, trivial⟩, trivial⟩, ⟨rfl, trivial⟩, trivial⟩
  · replace h := condT h
    conv => whnf
    refine Pick.no ?_
    conv => whnf
    obtain ⟨y11, e12, h⟩ := bind_ex h
    refine CallOk.of (spec_suProduct_ct e12) ?_
    conv => whnf
    refine spl (fun g13 => ?_) (fun g13 => ?_)
    · replace h := iteT h g13
      conv => whnf
      refine Pick.no ?_
      conv => whnf
      refine Take.all (rfl) ?_
      conv => whnf
      obtain ⟨y14, e15, h⟩ := bind_ex h
      refine CallOk.of (spec_seChecked_keep_ct e15) ?_
      conv => whnf
      refine CutK.go ?_
      conv => whnf
      cases h
      exact Done.of [some 0] [] rfl rfl ⟨⟨rfl, rfl⟩, ⟨rfl, ⟨rfl, rfl, trivial⟩, trivial⟩, ⟨rfl, trivial⟩, trivial⟩
    · replace h := iteF h g13
      conv => whnf
      refine Pick.no ?_
      conv => whnf
      refine Take.all (rfl) ?_
      conv => whnf
      obtain ⟨y16, e17, h⟩ := bind_ex h
      refine CallOk.of (spec_seChecked_keep_ct e17) ?_
      conv => whnf
      refine CutK.go ?_
      conv => whnf
      cases h
      exact Done.of [some 0] [] rfl rfl ⟨⟨rfl, rfl⟩, ⟨rfl, ⟨rfl, rfl, trivial⟩, trivial⟩, ⟨rfl, trivial⟩, trivial⟩

def spec_suReal  (a1 : Int) (a2 : Int) : Option Rw :=
  ((spec_suTerm ([] : Rw) a1 a2).bind fun y3 => some y3)
set_option maxHeartbeats 4000000 in
set_option maxRecDepth 100000 in
theorem spec_suReal_ct  {a1 : Int} {a2 : Int} {r : Rw} (h : spec_suReal a1 a2 = some r) : Ct prog 64 [.agg [.d (D.int .i64 a1), .d (D.int .i64 a2)]] (⟨[], []⟩) (.agg [.os 8 r.length]) (⟨[], [(109, false, r)]⟩) := by
  rw [spec_suReal] at h
  refine Ct.of (c := _) mixed func64 ⟨rfl, rfl, rfl⟩ ?_ rfl
  conv => whnf
  refine Pick.no ?_
  conv => whnf
  obtain ⟨y3, e4, h⟩ := bind_ex h
  refine CallOk.of (spec_suTerm_ct e4) ?_
  conv => whnf
  refine CutK.go ?_
  conv => whnf
  cases h
  exact Done.of [some 320] [] rfl rfl ⟨⟨rfl, rfl⟩, ⟨rfl, ⟨rfl, rfl, rows_same⟩, trivial⟩, ⟨⟨rfl, rfl⟩, trivial⟩, trivial⟩

def spec_seChecked_add (k : Nat) (a1 : Bool) (a2 : Rw) (a3 : Rw) : Option (Rw × Bool) :=
  (cond a1 ((spec_suSum k a2 a3).bind fun y11 => (if y11.2 = true then ((spec_seChecked_keep true y11.1 true).bind fun y14 => some (y14.1, y14.2)) else ((spec_seChecked_keep true y11.1 false).bind fun y16 => some (y16.1, y16.2)))) ((spec_suSum k a2 a3).bind fun y4 => (if y4.2 = true then ((spec_seChecked_keep false y4.1 true).bind fun y7 => some (y7.1, y7.2)) else ((spec_seChecked_keep false y4.1 false).bind fun y9 => some (y9.1, y9.2)))))
set_option maxHeartbeats 4000000 in
set_option maxRecDepth 100000 in
theorem spec_seChecked_add_ct {k : Nat} {a1 : Bool} {a2 : Rw} {a3 : Rw} {r : Rw × Bool} (h : spec_seChecked_add k a1 a2 a3 = some r) : Ct prog 62 [.ptr 0 0, .agg [.d (D.sl a2)], .agg [.d (D.sl a3)]] (⟨[(107, [.d (D.bool a1)])], []⟩) (.agg [.d (D.sl r.1)]) (⟨[(107, [.d (D.bool r.2)])], []⟩) := by
  rw [spec_seChecked_add] at h
  refine Ct.of (c := _) mixed func62 ⟨rfl, rfl, rfl⟩ ?_ rfl
  cases a1
  · replace h := condF h
    conv => whnf
    refine Pick.no ?_
    conv => whnf
    obtain ⟨y4, e5, h⟩ := bind_ex h
    refine CallOk.of (spec_suSum_ct e5) ?_
    conv => whnf
    refine spl (fun g6 => ?_) (fun g6 => ?_)
    · replace h := iteT h g6
      conv => whnf
      refine Pick.no ?_
      conv => whnf
      refine Take.all (rfl) ?_
      conv => whnf
      obtain ⟨y7, e8, h⟩ := bind_ex h
      refine CallOk.of (spec_seChecked_keep_ct e8) ?_
      conv => whnf
      refine CutK.go ?_
      conv => whnf
      cases h
      exact Done.of [some 0] [] rfl rfl ⟨⟨rfl, rfl⟩, ⟨rfl, ⟨rfl, rfl, trivial⟩, trivial⟩, ⟨rfl, trivial⟩, trivial⟩
    · replace h := iteF h g6
      conv => whnf
      refine Pick.no ?_
      conv => whnf
      refine Take.all (rfl) ?_
      conv => whnf
      obtain ⟨y9, e10, h⟩ := bind_ex h
      refine CallOk.of (spec_seChecked_keep_ct e10) ?_
      conv => whnf
      refine CutK.go ?_
      conv => whnf
      cases h
      exact Done.of [some 0] [] rfl rfl ⟨⟨rfl, rfl⟩, ⟨rfl, ⟨rfl, rfl, trivial⟩, trivial⟩, ⟨rfl, trivial⟩, trivial⟩
  · replace h := condT h
    conv => whnf
    refine Pick.no ?_
    conv => whnf
    obtain ⟨y11, e12, h⟩ := bind_ex h
    refine CallOk.of (spec_suSum_ct e12) ?_
    conv => whnf
    refine spl (fun g13 => ?_) (fun g13 => ?_)
    · replace h := iteT h g13
      conv => whnf
      refine Pick.no ?_
      conv => whnf
      refine Take.all (rfl) ?_
      conv => whnf
      obtain ⟨y14, e15, h⟩ := bind_ex h
      refine CallOk.of (spec_seChecked_keep_ct e15) ?_
      conv => whnf
      refine CutK.go ?_
      conv => whnf
      cases h
      exact Done.of [some 0] [] rfl rfl ⟨⟨rfl, rfl⟩, ⟨rfl, ⟨rfl, rfl, trivial⟩, trivial⟩, ⟨rfl, trivial⟩, trivial⟩
    · replace h := iteF h g13
      conv => whnf
      refine Pick.no ?_
      conv => whnf
      refine Take.all (rfl) ?_
      conv => whnf
      obtain ⟨y16, e17, h⟩ := bind_ex h
      refine CallOk.of (spec_seChecked_keep_ct e17) ?_
      conv => whnf
      refine CutK.go ?_
      conv => whnf
      cases h
      exact Done.of [some 0] [] rfl rfl ⟨⟨rfl, rfl⟩, ⟨rfl, ⟨rfl, rfl, trivial⟩, trivial⟩, ⟨rfl, trivial⟩, trivial⟩

def spec_PolynomialAt_l0 (k : Nat) (a1 : Rw) (a2 : Rw) (K0 : Rw → Bool → Option (Rw × Bool)) : Nat → Int → Rw → Bool → Option (Rw × Bool)
  | 0, _, _, _ => none
  | n + 1, v20, v21, v22 => (cond v22 (if (0 : Int) ≤ v20 then ((spec_seChecked_mul k true v21 a2).bind fun y81 => (row_ii a1 v20 fun x83 x84 => ((spec_suReal x83 x84).bind fun y87 => ((spec_seChecked_add k y81.2 y81.1 y87).bind fun y89 => (spec_PolynomialAt_l0 k a1 a2 K0 n (IntKind.i64.wrap (v20 - 1)) y89.1 y89.2))))) else (K0 v21 true)) (if (0 : Int) ≤ v20 then ((spec_seChecked_mul k false v21 a2).bind fun y70 => (row_ii a1 v20 fun x72 x73 => ((spec_suReal x72 x73).bind fun y76 => ((spec_seChecked_add k y70.2 y70.1 y76).bind fun y78 => (spec_PolynomialAt_l0 k a1 a2 K0 n (IntKind.i64.wrap (v20 - 1)) y78.1 y78.2))))) else (K0 v21 false)))
set_option maxHeartbeats 4000000 in
set_option maxRecDepth 100000 in
theorem spec_PolynomialAt_l0_ct {k : Nat} {a1 : Rw} {a2 : Rw} {K0 : Rw → Bool → Option (Rw × Bool)} {r : Rw × Bool} : ∀ (n : Nat) (v20 : Int) (v21 : Rw) (v22 : Bool), spec_PolynomialAt_l0 k a1 a2 K0 n v20 v21 v22 = some r → LoopOk prog 0 (lp f17 0) (mk 45 [(0, .d (D.sl a1)), (3, .ptr 192 0), (4, .ptr 256 0), (6, .ptr 1216 0), (7, .ptr 448 0), (8, .d (D.int .i64 v20))] [(192, .box 38 [.d (D.sl a2)]), (256, .box 38 [.es]), (448, .box 38 [.d (D.sl v21)]), (1216, .box 107 [.d (D.bool v22)])]) (LoopEnd prog f17 0 45 (.tup [.agg [.d (D.sl r.1)], .d (D.bool r.2)]) (⟨[], []⟩) (fun i ts os => (i = 0 ∧ ∃ v34 : Rw, ∃ v46 : Bool, K0 v34 v46 = some r ∧ ts = [(4, .ptr 256 0), (6, .ptr 1216 0), (7, .ptr 448 0)] ∧ os = [(256, .box 38 [.es]), (448, .box 38 [.d (D.sl v34)]), (1216, .box 107 [.d (D.bool v46)])])))
  | 0, _, _, _, h => by
      rw [spec_PolynomialAt_l0] at h; cases h
  | n + 1, v20, v21, v22, h => by
      rw [spec_PolynomialAt_l0] at h
      cases v22
      · replace h := condF h
        refine LoopOk.step ?_
        conv => whnf
        refine splD (fun g69 => ?_) (fun g69 => ?_)
        · replace h := iteP h g69
          conv => whnf
          refine Pick.no ?_
          conv => whnf
          obtain ⟨y70, e71, h⟩ := bind_ex h
          refine CallOk.of (spec_seChecked_mul_ct e71) ?_
          conv => whnf
          obtain ⟨g75, x72, x73, e74, h⟩ := row_ii_ex h
          refine Req.of g75 ?_
          refine Row.of _ e74 ?_
          conv => whnf
          refine Pick.no ?_
          conv => whnf
          obtain ⟨y76, e77, h⟩ := bind_ex h
          refine CallOk.of (spec_suReal_ct e77) ?_
          conv => whnf
          refine Pick.no ?_
          conv => whnf
          refine Take.all (rfl) ?_
          conv => whnf
          obtain ⟨y78, e79, h⟩ := bind_ex h
          refine CallOk.of (spec_seChecked_add_ct e79) ?_
          conv => whnf
          refine CutK.norm [0, 3, 4, 6, 7, 8] [192, 256, 448, 1216] ?_
          conv => whnf
          exact LoopOk.back (spec_PolynomialAt_l0_ct  n _ _ _ h) [some 192, some 256, some 448, some 1216] [] ⟨⟨rfl, rfl⟩, ⟨rfl, ⟨rfl, rfl, trivial⟩, ⟨rfl, trivial, trivial⟩, ⟨rfl, rfl, trivial⟩, ⟨rfl, rfl, trivial⟩, trivial⟩, rfl, ⟨rfl, rfl⟩, ⟨rfl, rfl⟩, ⟨rfl, rfl⟩, ⟨rfl, rfl⟩, rfl, trivial⟩
        · replace h := iteN h g69
          conv => whnf
          exact ⟨_, _, [some 256, some 448, some 1216], [], ⟨rfl, _, _, h, rfl, rfl⟩, ⟨⟨rfl, rfl⟩, ⟨rfl, ⟨rfl, trivial, trivial⟩, ⟨rfl, rfl, trivial⟩, ⟨rfl, rfl, trivial⟩, trivial⟩, ⟨rfl, rfl⟩, ⟨rfl, rfl⟩, ⟨rfl, rfl⟩, trivial⟩⟩
      · replace h := condT h
        refine LoopOk.step ?_
        conv => whnf
        refine splD (fun g80 => ?_) (fun g80 => ?_)
        · replace h := iteP h g80
          conv => whnf
          refine Pick.no ?_
          conv => whnf
          obtain ⟨y81, e82, h⟩ := bind_ex h
          refine CallOk.of (spec_seChecked_mul_ct e82) ?_
          conv => whnf
          obtain ⟨g86, x83, x84, e85, h⟩ := row_ii_ex h
          refine Req.of g86 ?_
          refine Row.of _ e85 ?_
          conv => whnf
          refine Pick.no ?_
          conv => whnf
          obtain ⟨y87, e88, h⟩ := bind_ex h
          refine CallOk.of (spec_suReal_ct e88) ?_
          conv => whnf
          refine Pick.no ?_
          conv => whnf
          refine Take.all (rfl) ?_
          conv => whnf
          obtain ⟨y89, e90, h⟩ := bind_ex h
          refine CallOk.of (spec_seChecked_add_ct e90) ?_
          conv => whnf
          refine CutK.norm [0, 3, 4, 6, 7, 8] [192, 256, 448, 1216] ?_
          conv => whnf
          exact LoopOk.back (spec_PolynomialAt_l0_ct  n _ _ _ h) [some 192, some 256, some 448, some 1216] [] ⟨⟨rfl, rfl⟩, ⟨rfl, ⟨rfl, rfl, trivial⟩, ⟨rfl, trivial, trivial⟩, ⟨rfl, rfl, trivial⟩, ⟨rfl, rfl, trivial⟩, trivial⟩, rfl, ⟨rfl, rfl⟩, ⟨rfl, rfl⟩, ⟨rfl, rfl⟩, ⟨rfl, rfl⟩, rfl, trivial⟩
        · replace h := iteN h g80
          conv => whnf
          exact ⟨_, _, [some 256, some 448, some 1216], [], ⟨rfl, _, _, h, rfl, rfl⟩, ⟨⟨rfl, rfl⟩, ⟨rfl, ⟨rfl, trivial, trivial⟩, ⟨rfl, rfl, trivial⟩, ⟨rfl, rfl, trivial⟩, trivial⟩, ⟨rfl, rfl⟩, ⟨rfl, rfl⟩, ⟨rfl, rfl⟩, trivial⟩⟩
def spec_PolynomialAt (k : Nat) (a1 : Rw) (a2 : Rw) : Option (Rw × Bool) :=
  ((spec_shList k a1 12).bind fun y3 => (if y3 = true then ((spec_suGood k a2).bind fun y6 => (if y6 = true then (spec_PolynomialAt_l0 k a1 a2 (fun (v34 : Rw) (v46 : Bool) => (cond v46 (some (v34, false)) (some (v34, true)))) k (IntKind.i64.wrap ((a1.length : Int) - 1)) ([] : Rw) false) else some (([] : Rw), false))) else some (([] : Rw), false)))
set_option maxHeartbeats 4000000 in
set_option maxRecDepth 100000 in
theorem spec_PolynomialAt_ct {k : Nat} {a1 : Rw} {a2 : Rw} {r : Rw × Bool} (h : spec_PolynomialAt k a1 a2 = some r) : Ct prog 17 [.d (D.sl a1), .agg [.d (D.sl a2)]] (⟨[], []⟩) (.tup [.agg [.d (D.sl r.1)], .d (D.bool r.2)]) (⟨[], []⟩) := by
  rw [spec_PolynomialAt] at h
  refine Ct.of (c := _) mixed func17 ⟨rfl, rfl, rfl⟩ ?_ rfl
  conv => whnf
  refine Pick.no ?_
  conv => whnf
  obtain ⟨y3, e4, h⟩ := bind_ex h
  refine CallOk.of (spec_shList_ct e4) ?_
  conv => whnf
  refine spl (fun g5 => ?_) (fun g5 => ?_)
  · replace h := iteT h g5
    conv => whnf
    refine Pick.no ?_
    conv => whnf
    obtain ⟨y6, e7, h⟩ := bind_ex h
    refine CallOk.of (spec_suGood_ct e7) ?_
    conv => whnf
    refine spl (fun g8 => ?_) (fun g8 => ?_)
    · replace h := iteT h g8
      conv => whnf
      refine CutK.norm [0, 3, 4, 16] [192, 256] ?_
      conv => whnf
      refine CutK.norm [0, 3, 4] [192, 256] ?_
      conv => whnf
      refine LoopOk.into (spec_PolynomialAt_l0_ct  _ _ _ _ h) [some 192, some 256, some 448, some 1216] [] ⟨⟨rfl, rfl⟩, ⟨rfl, ⟨rfl, rfl, trivial⟩, ⟨rfl, trivial, trivial⟩, ⟨rfl, rfl, trivial⟩, ⟨rfl, rfl, trivial⟩, trivial⟩, rfl, ⟨rfl, rfl⟩, ⟨rfl, rfl⟩, ⟨rfl, rfl⟩, ⟨rfl, rfl⟩, rfl, trivial⟩ ?_ (fun _ hs => hs)
      rintro i ts os ⟨rfl, v34, v46, h, rfl, rfl⟩
      cases v46
      · replace h := condF h
        conv => whnf
        refine CutK.norm [4, 6, 7] [256, 448, 1216] ?_
        conv => whnf
        refine splF ?_
        conv => whnf
        cases h
        exact Done.of [] [] rfl rfl ⟨⟨rfl, rfl⟩, ⟨rfl, trivial⟩, ⟨⟨rfl, trivial⟩, rfl, trivial⟩, trivial⟩
      · replace h := condT h
        conv => whnf
        refine CutK.norm [4, 6, 7] [256, 448, 1216] ?_
        conv => whnf
        refine splT ?_
        conv => whnf
        cases h
        exact Done.of [] [] rfl rfl ⟨⟨rfl, rfl⟩, ⟨rfl, trivial⟩, ⟨⟨rfl, trivial⟩, rfl, trivial⟩, trivial⟩
    · replace h := iteF h g8
      conv => whnf
      refine CutK.norm [0, 3, 4, 16] [192, 256] ?_
      conv => whnf
      cases h
      exact Done.of [] [] rfl rfl ⟨⟨rfl, rfl⟩, ⟨rfl, trivial⟩, ⟨⟨rfl, trivial⟩, rfl, trivial⟩, trivial⟩
  · replace h := iteF h g5
    conv => whnf
    refine CutK.norm [0, 3, 4, 16] [192, 256] ?_
    conv => whnf
    cases h
    exact Done.of [] [] rfl rfl ⟨⟨rfl, rfl⟩, ⟨rfl, trivial⟩, ⟨⟨rfl, trivial⟩, rfl, trivial⟩, trivial⟩

def impl_maker_add (k : Nat) (a1 : Bool) (a2 : Rw) (a3 : Rw) : Option (Rw × Bool) :=
  (cond a1 ((impl_AddSurreals k a2 a3).bind fun y11 => (if y11.2 = true then ((impl_maker_take_2 true y11.1 true).bind fun y14 => some (y14.1, y14.2)) else ((impl_maker_take_2 true y11.1 false).bind fun y16 => some (y16.1, y16.2)))) ((impl_AddSurreals k a2 a3).bind fun y4 => (if y4.2 = true then ((impl_maker_take_2 false y4.1 true).bind fun y7 => some (y7.1, y7.2)) else ((impl_maker_take_2 false y4.1 false).bind fun y9 => some (y9.1, y9.2)))))
set_option maxHeartbeats 4000000 in
set_option maxRecDepth 100000 in
theorem impl_maker_add_ct {k : Nat} {a1 : Bool} {a2 : Rw} {a3 : Rw} {r : Rw × Bool} (h : impl_maker_add k a1 a2 a3 = some r) : Ct prog 57 [.ptr 0 0, .agg [.d (D.sl a2)], .agg [.d (D.sl a3)]] (⟨[(101, [.d (D.bool a1)])], []⟩) (.agg [.os 8 r.1.length]) (⟨[(101, [.d (D.bool r.2)])], [(109, true, r.1)]⟩) := by
  rw [impl_maker_add] at h
  refine Ct.of (c := _) mixed func57 ⟨rfl, rfl, rfl⟩ ?_ rfl
  cases a1
  · replace h := condF h
    conv => whnf
    refine Pick.no ?_
    conv => whnf
    obtain ⟨y4, e5, h⟩ := bind_ex h
    refine CallOk.of (impl_AddSurreals_ct e5) ?_
    conv => whnf
    refine spl (fun g6 => ?_) (fun g6 => ?_)
    · replace h := iteT h g6
      conv => whnf
      refine Pick.yes ?_
      conv => whnf
      refine Req.of (Nat.le_refl _) ?_
      conv => whnf
      obtain ⟨y7, e8, h⟩ := bind_ex h
      refine CallOk.of (impl_maker_take_2_ct e8) ?_
      conv => whnf
      refine CutK.go ?_
      conv => whnf
      cases h
      exact Done.of [some 0, some 832] [] rfl rfl ⟨⟨rfl, rfl⟩, ⟨rfl, ⟨rfl, rfl, trivial⟩, ⟨rfl, rfl, rows_same⟩, trivial⟩, ⟨⟨rfl, rfl⟩, trivial⟩, trivial⟩
    · replace h := iteF h g6
      conv => whnf
      refine Pick.yes ?_
      conv => whnf
      refine Req.of (Nat.le_refl _) ?_
      conv => whnf
      obtain ⟨y9, e10, h⟩ := bind_ex h
      refine CallOk.of (impl_maker_take_2_ct e10) ?_
      conv => whnf
      refine CutK.go ?_
      conv => whnf
      cases h
      exact Done.of [some 0, some 832] [] rfl rfl ⟨⟨rfl, rfl⟩, ⟨rfl, ⟨rfl, rfl, trivial⟩, ⟨rfl, rfl, rows_same⟩, trivial⟩, ⟨⟨rfl, rfl⟩, trivial⟩, trivial⟩
  · replace h := condT h
    conv => whnf
    refine Pick.no ?_
    conv => whnf
    obtain ⟨y11, e12, h⟩ := bind_ex h
    refine CallOk.of (impl_AddSurreals_ct e12) ?_
    conv => whnf
    refine spl (fun g13 => ?_) (fun g13 => ?_)
    · replace h := iteT h g13
      conv => whnf
      refine Pick.yes ?_
      conv => whnf
      refine Req.of (Nat.le_refl _) ?_
      conv => whnf
      obtain ⟨y14, e15, h⟩ := bind_ex h
      refine CallOk.of (impl_maker_take_2_ct e15) ?_
      conv => whnf
      refine CutK.go ?_
      conv => whnf
      cases h
      exact Done.of [some 0, some 832] [] rfl rfl ⟨⟨rfl, rfl⟩, ⟨rfl, ⟨rfl, rfl, trivial⟩, ⟨rfl, rfl, rows_same⟩, trivial⟩, ⟨⟨rfl, rfl⟩, trivial⟩, trivial⟩
    · replace h := iteF h g13
      conv => whnf
      refine Pick.yes ?_
      conv => whnf
      refine Req.of (Nat.le_refl _) ?_
      conv => whnf
      obtain ⟨y16, e17, h⟩ := bind_ex h
      refine CallOk.of (impl_maker_take_2_ct e17) ?_
      conv => whnf
      refine CutK.go ?_
      conv => whnf
      cases h
      exact Done.of [some 0, some 832] [] rfl rfl ⟨⟨rfl, rfl⟩, ⟨rfl, ⟨rfl, rfl, trivial⟩, ⟨rfl, rfl, rows_same⟩, trivial⟩, ⟨⟨rfl, rfl⟩, trivial⟩, trivial⟩

def impl_PolynomialAt_p6 (o92 : Rw) (v93 : Bool) : Option (Rw × Bool) :=
  (cond v93 (some (o92, true)) (some (o92, false)))
set_option maxHeartbeats 4000000 in
set_option maxRecDepth 100000 in
theorem impl_PolynomialAt_p6_ct {o92 : Rw} {v93 : Bool} {r : Rw × Bool} (h : impl_PolynomialAt_p6 o92 v93 = some r) : X prog 0 (tlF f16 6) (mk 62 [(4, .ptr 256 0), (5, .d (D.bool v93))] [(256, .box 38 [.os 1094000 o92.length]), (1094000, .arr 109 true o92)]) (finK prog f16 0 (.tup [.agg [.os 8 r.1.length], .d (D.bool r.2)]) (⟨[], [(109, true, r.1)]⟩)) := by
  rw [impl_PolynomialAt_p6] at h
  cases v93
  · replace h := condF h
    conv => whnf
    cases h
    exact Done.of [some 1094000] [] rfl rfl ⟨⟨rfl, rfl⟩, ⟨rfl, ⟨rfl, rfl, rows_same⟩, trivial⟩, ⟨⟨⟨rfl, rfl⟩, trivial⟩, rfl, trivial⟩, trivial⟩
  · replace h := condT h
    conv => whnf
    cases h
    exact Done.of [some 1094000] [] rfl rfl ⟨⟨rfl, rfl⟩, ⟨rfl, ⟨rfl, rfl, rows_same⟩, trivial⟩, ⟨⟨⟨rfl, rfl⟩, trivial⟩, rfl, trivial⟩, trivial⟩
def impl_PolynomialAt_p5 (o85 : Rw) (v86 : Bool) : Option (Rw × Bool) :=
  (cond v86 ((impl_maker_told_2 true o85).bind fun y100 => (if y100.2.1 = true then (impl_PolynomialAt_p6 y100.1 true) else (impl_PolynomialAt_p6 y100.1 false))) ((impl_maker_told_2 false o85).bind fun y97 => (if y97.2.1 = true then (impl_PolynomialAt_p6 y97.1 true) else (impl_PolynomialAt_p6 y97.1 false))))
set_option maxHeartbeats 4000000 in
set_option maxRecDepth 100000 in
theorem impl_PolynomialAt_p5_ct {o85 : Rw} {v86 : Bool} {r : Rw × Bool} (h : impl_PolynomialAt_p5 o85 v86 = some r) : X prog 0 (tlF f16 5) (mk 62 [(4, .ptr 256 0), (6, .ptr 384 0), (7, .ptr 448 0)] [(256, .box 38 [.es]), (384, .box 101 [.d (D.bool v86)]), (448, .box 38 [.os 1089000 o85.length]), (1089000, .arr 109 true o85)]) (finK prog f16 0 (.tup [.agg [.os 8 r.1.length], .d (D.bool r.2)]) (⟨[], [(109, true, r.1)]⟩)) := by
  rw [impl_PolynomialAt_p5] at h
  cases v86
  · replace h := condF h
    conv => whnf
    refine Pick.yes ?_
    conv => whnf
    refine Req.of (Nat.le_refl _) ?_
    conv => whnf
    obtain ⟨y97, e98, h⟩ := bind_ex h
    refine CallOk.of (impl_maker_told_2_ct e98) ?_
    conv => whnf
    refine spl (fun g99 => ?_) (fun g99 => ?_)
    · replace h := iteT h g99
      conv => whnf
      exact CutK.piece (impl_PolynomialAt_p6_ct  h) [some 256, some 3776] [] ⟨⟨rfl, rfl⟩, ⟨rfl, ⟨rfl, ⟨rfl, rfl⟩, trivial⟩, ⟨rfl, rfl, rows_same⟩, trivial⟩, ⟨rfl, rfl⟩, rfl, trivial⟩
    · replace h := iteF h g99
      conv => whnf
      exact CutK.piece (impl_PolynomialAt_p6_ct  h) [some 256, some 3776] [] ⟨⟨rfl, rfl⟩, ⟨rfl, ⟨rfl, ⟨rfl, rfl⟩, trivial⟩, ⟨rfl, rfl, rows_same⟩, trivial⟩, ⟨rfl, rfl⟩, rfl, trivial⟩
  · replace h := condT h
    conv => whnf
    refine Pick.yes ?_
    conv => whnf
    refine Req.of (Nat.le_refl _) ?_
    conv => whnf
    obtain ⟨y100, e101, h⟩ := bind_ex h
    refine CallOk.of (impl_maker_told_2_ct e101) ?_
    conv => whnf
    refine spl (fun g102 => ?_) (fun g102 => ?_)
    · replace h := iteT h g102
      conv => whnf
      exact CutK.piece (impl_PolynomialAt_p6_ct  h) [some 256, some 3776] [] ⟨⟨rfl, rfl⟩, ⟨rfl, ⟨rfl, ⟨rfl, rfl⟩, trivial⟩, ⟨rfl, rfl, rows_same⟩, trivial⟩, ⟨rfl, rfl⟩, rfl, trivial⟩
    · replace h := iteF h g102
      conv => whnf
      exact CutK.piece (impl_PolynomialAt_p6_ct  h) [some 256, some 3776] [] ⟨⟨rfl, rfl⟩, ⟨rfl, ⟨rfl, ⟨rfl, rfl⟩, trivial⟩, ⟨rfl, rfl, rows_same⟩, trivial⟩, ⟨rfl, rfl⟩, rfl, trivial⟩
def impl_PolynomialAt_l1 (k : Nat) (a1 : Rw) (a2 : Rw) (K2 : Rw → Bool → Option (Rw × Bool)) : Nat → Int → Bool → Rw → Option (Rw × Bool)
  | 0, _, _, _ => none
  | n + 1, v114, v115, v116 => (cond v115 (if (0 : Int) ≤ v114 then (K2 v116 true) else (K2 v116 true)) (if (0 : Int) ≤ v114 then ((impl_maker_mul k false v116 a2).bind fun y144 => (row_ii a1 v114 fun x146 x147 => ((impl_real x146 x147).bind fun y150 => ((impl_maker_add k y144.2 y144.1 y150).bind fun y152 => (impl_PolynomialAt_l1 k a1 a2 K2 n (IntKind.i64.wrap (v114 - 1)) y152.2 y152.1))))) else (K2 v116 false)))
set_option maxHeartbeats 4000000 in
set_option maxRecDepth 100000 in
theorem impl_PolynomialAt_l1_ct {k : Nat} {a1 : Rw} {a2 : Rw} {K2 : Rw → Bool → Option (Rw × Bool)} {r : Rw × Bool} : ∀ (n : Nat) (v114 : Int) (v115 : Bool) (v116 : Rw), impl_PolynomialAt_l1 k a1 a2 K2 n v114 v115 v116 = some r → LoopOk prog 0 (lp f16 1) (mk 62 [(0, .d (D.sl a1)), (3, .ptr 192 0), (4, .ptr 256 0), (6, .ptr 384 0), (7, .ptr 448 0), (10, .d (D.int .i64 v114))] [(192, .box 38 [.d (D.sl a2)]), (256, .box 38 [.es]), (384, .box 101 [.d (D.bool v115)]), (448, .box 38 [.os 70400 v116.length]), (70400, .arr 109 true v116)]) (LoopEnd prog f16 0 62 (.tup [.agg [.os 8 r.1.length], .d (D.bool r.2)]) (⟨[], [(109, true, r.1)]⟩) (fun i ts os => (i = 2 ∧ ∃ v128 : Rw, ∃ v130 : Bool, K2 v128 v130 = some r ∧ ts = [(4, .ptr 256 0), (6, .ptr 384 0), (7, .ptr 448 0)] ∧ os = [(256, .box 38 [.es]), (384, .box 101 [.d (D.bool v130)]), (448, .box 38 [.os 73401 v128.length]), (73401, .arr 109 true v128)])))
  | 0, _, _, _, h => by
      rw [impl_PolynomialAt_l1] at h; cases h
  | n + 1, v114, v115, v116, h => by
      rw [impl_PolynomialAt_l1] at h
      cases v115
      · replace h := condF h
        refine LoopOk.step ?_
        conv => whnf
        refine splD (fun g143 => ?_) (fun g143 => ?_)
        · replace h := iteP h g143
          conv => whnf
          refine splF ?_
          conv => whnf
          refine Pick.no ?_
          conv => whnf
          refine Take.all (rfl) ?_
          conv => whnf
          obtain ⟨y144, e145, h⟩ := bind_ex h
          refine CallOk.of (impl_maker_mul_ct e145) ?_
          conv => whnf
          obtain ⟨g149, x146, x147, e148, h⟩ := row_ii_ex h
          refine Req.of g149 ?_
          refine Row.of _ e148 ?_
          conv => whnf
          refine Pick.no ?_
          conv => whnf
          obtain ⟨y150, e151, h⟩ := bind_ex h
          refine CallOk.of (impl_real_ct e151) ?_
          conv => whnf
          refine Pick.no ?_
          conv => whnf
          refine Take.all (rfl) ?_
          conv => whnf
          refine Take.all (rfl) ?_
          conv => whnf
          obtain ⟨y152, e153, h⟩ := bind_ex h
          refine CallOk.of (impl_maker_add_ct e153) ?_
          conv => whnf
          refine CutK.norm [0, 3, 4, 6, 7, 10] [192, 256, 384, 448, 3648] ?_
          conv => whnf
          exact LoopOk.back (impl_PolynomialAt_l1_ct  n _ _ _ h) [some 192, some 256, some 384, some 448, some 3648] [] ⟨⟨rfl, rfl⟩, ⟨rfl, ⟨rfl, rfl, trivial⟩, ⟨rfl, trivial, trivial⟩, ⟨rfl, rfl, trivial⟩, ⟨rfl, ⟨rfl, rfl⟩, trivial⟩, ⟨rfl, rfl, rows_same⟩, trivial⟩, rfl, ⟨rfl, rfl⟩, ⟨rfl, rfl⟩, ⟨rfl, rfl⟩, ⟨rfl, rfl⟩, rfl, trivial⟩
        · replace h := iteN h g143
          conv => whnf
          exact ⟨_, _, [some 256, some 384, some 448, some 70400], [], ⟨rfl, _, _, h, rfl, rfl⟩, ⟨⟨rfl, rfl⟩, ⟨rfl, ⟨rfl, trivial, trivial⟩, ⟨rfl, rfl, trivial⟩, ⟨rfl, ⟨rfl, rfl⟩, trivial⟩, ⟨rfl, rfl, rows_same⟩, trivial⟩, ⟨rfl, rfl⟩, ⟨rfl, rfl⟩, ⟨rfl, rfl⟩, trivial⟩⟩
      · replace h := condT h
        refine LoopOk.step ?_
        conv => whnf
        refine splD (fun g154 => ?_) (fun g154 => ?_)
        · replace h := iteP h g154
          conv => whnf
          refine splT ?_
          conv => whnf
          exact ⟨_, _, [some 256, some 384, some 448, some 70400], [], ⟨rfl, _, _, h, rfl, rfl⟩, ⟨⟨rfl, rfl⟩, ⟨rfl, ⟨rfl, trivial, trivial⟩, ⟨rfl, rfl, trivial⟩, ⟨rfl, ⟨rfl, rfl⟩, trivial⟩, ⟨rfl, rfl, rows_same⟩, trivial⟩, ⟨rfl, rfl⟩, ⟨rfl, rfl⟩, ⟨rfl, rfl⟩, trivial⟩⟩
        · replace h := iteN h g154
          conv => whnf
          exact ⟨_, _, [some 256, some 384, some 448, some 70400], [], ⟨rfl, _, _, h, rfl, rfl⟩, ⟨⟨rfl, rfl⟩, ⟨rfl, ⟨rfl, trivial, trivial⟩, ⟨rfl, rfl, trivial⟩, ⟨rfl, ⟨rfl, rfl⟩, trivial⟩, ⟨rfl, rfl, rows_same⟩, trivial⟩, ⟨rfl, rfl⟩, ⟨rfl, rfl⟩, ⟨rfl, rfl⟩, trivial⟩⟩
def impl_PolynomialAt_l1_2 (a1 : Rw) (a2 : Rw) (K2 : Option (Rw × Bool)) : Nat → Option (Rw × Bool)
  | 0 => none
  | n + 1 => (if (0 : Int) ≤ (IntKind.i64.wrap ((a1.length : Int) - 1)) then (K2) else (K2))
set_option maxHeartbeats 4000000 in
set_option maxRecDepth 100000 in
theorem impl_PolynomialAt_l1_2_ct {a1 : Rw} {a2 : Rw} {K2 : Option (Rw × Bool)} {r : Rw × Bool} : ∀ (n : Nat), impl_PolynomialAt_l1_2 a1 a2 K2 n = some r → LoopOk prog 0 (lp f16 1) (mk 62 [(0, .d (D.sl a1)), (3, .ptr 192 0), (4, .ptr 256 0), (6, .ptr 384 0), (7, .ptr 448 0), (10, .d (D.int .i64 (IntKind.i64.wrap ((a1.length : Int) - 1))))] [(192, .box 38 [.d (D.sl a2)]), (256, .box 38 [.es]), (384, .box 101 [.d (D.bool true)]), (448, .box 38 [.es])]) (LoopEnd prog f16 0 62 (.tup [.agg [.os 8 r.1.length], .d (D.bool r.2)]) (⟨[], [(109, true, r.1)]⟩) (fun i ts os => (i = 2 ∧ K2 = some r ∧ ts = [(4, .ptr 256 0), (6, .ptr 384 0), (7, .ptr 448 0)] ∧ os = [(256, .box 38 [.es]), (384, .box 101 [.d (D.bool true)]), (448, .box 38 [.es])])))
  | 0, h => by
      rw [impl_PolynomialAt_l1_2] at h; cases h
  | n + 1, h => by
      rw [impl_PolynomialAt_l1_2] at h
      refine LoopOk.step ?_
      conv => whnf
      refine splD (fun g157 => ?_) (fun g157 => ?_)
      · replace h := iteP h g157
        conv => whnf
        refine splT ?_
        conv => whnf
        exact ⟨_, _, [some 256, some 384, some 448], [], ⟨rfl, h, rfl, rfl⟩, ⟨⟨rfl, rfl⟩, ⟨rfl, ⟨rfl, trivial, trivial⟩, ⟨rfl, rfl, trivial⟩, ⟨rfl, trivial, trivial⟩, trivial⟩, ⟨rfl, rfl⟩, ⟨rfl, rfl⟩, ⟨rfl, rfl⟩, trivial⟩⟩
      · replace h := iteN h g157
        conv => whnf
        exact ⟨_, _, [some 256, some 384, some 448], [], ⟨rfl, h, rfl, rfl⟩, ⟨⟨rfl, rfl⟩, ⟨rfl, ⟨rfl, trivial, trivial⟩, ⟨rfl, rfl, trivial⟩, ⟨rfl, trivial, trivial⟩, trivial⟩, ⟨rfl, rfl⟩, ⟨rfl, rfl⟩, ⟨rfl, rfl⟩, trivial⟩⟩
def impl_PolynomialAt_p4 (k : Nat) (a1 : Rw) (a2 : Rw) (v44 : Bool) : Option (Rw × Bool) :=
  (cond v44 (impl_PolynomialAt_l1_2 a1 a2 (impl_PolynomialAt_p5 ([] : Rw) true) k) (impl_PolynomialAt_l1 k a1 a2 (fun (v128 : Rw) (v130 : Bool) => (cond v130 (impl_PolynomialAt_p5 v128 true) (impl_PolynomialAt_p5 v128 false))) k (IntKind.i64.wrap ((a1.length : Int) - 1)) false ([] : Rw)))
set_option maxHeartbeats 4000000 in
set_option maxRecDepth 100000 in
theorem impl_PolynomialAt_p4_ct {k : Nat} {a1 : Rw} {a2 : Rw} {v44 : Bool} {r : Rw × Bool} (h : impl_PolynomialAt_p4 k a1 a2 v44 = some r) : X prog 0 (tlF f16 4) (mk 62 [(0, .d (D.sl a1)), (3, .ptr 192 0), (4, .ptr 256 0), (6, .ptr 384 0), (7, .ptr 448 0)] [(192, .box 38 [.d (D.sl a2)]), (256, .box 38 [.es]), (384, .box 101 [.d (D.bool v44)]), (448, .box 38 [.es])]) (finK prog f16 0 (.tup [.agg [.os 8 r.1.length], .d (D.bool r.2)]) (⟨[], [(109, true, r.1)]⟩)) := by
  rw [impl_PolynomialAt_p4] at h
  cases v44
  · replace h := condF h
    conv => whnf
    refine LoopOk.into (impl_PolynomialAt_l1_ct  _ _ _ _ h) [some 192, some 256, some 384, some 448, none] [] ⟨⟨rfl, rfl⟩, ⟨rfl, ⟨rfl, rfl, trivial⟩, ⟨rfl, trivial, trivial⟩, ⟨rfl, rfl, trivial⟩, ⟨rfl, ⟨rfl, rfl⟩, trivial⟩, rfl, trivial⟩, rfl, ⟨rfl, rfl⟩, ⟨rfl, rfl⟩, ⟨rfl, rfl⟩, ⟨rfl, rfl⟩, rfl, trivial⟩ ?_ (fun _ hs => hs)
    rintro i ts os ⟨rfl, v128, v130, h, rfl, rfl⟩
    cases v130
    · replace h := condF h
      conv => whnf
      exact CutK.piece (impl_PolynomialAt_p5_ct  h) [some 256, some 384, some 448, some 73401] [] ⟨⟨rfl, rfl⟩, ⟨rfl, ⟨rfl, trivial, trivial⟩, ⟨rfl, rfl, trivial⟩, ⟨rfl, ⟨rfl, rfl⟩, trivial⟩, ⟨rfl, rfl, rows_same⟩, trivial⟩, ⟨rfl, rfl⟩, ⟨rfl, rfl⟩, ⟨rfl, rfl⟩, trivial⟩
    · replace h := condT h
      conv => whnf
      exact CutK.piece (impl_PolynomialAt_p5_ct  h) [some 256, some 384, some 448, some 73401] [] ⟨⟨rfl, rfl⟩, ⟨rfl, ⟨rfl, trivial, trivial⟩, ⟨rfl, rfl, trivial⟩, ⟨rfl, ⟨rfl, rfl⟩, trivial⟩, ⟨rfl, rfl, rows_same⟩, trivial⟩, ⟨rfl, rfl⟩, ⟨rfl, rfl⟩, ⟨rfl, rfl⟩, trivial⟩
  · replace h := condT h
    conv => whnf
    refine LoopOk.into (impl_PolynomialAt_l1_2_ct  _  h) [some 192, some 256, some 384, some 448] [] ⟨⟨rfl, rfl⟩, ⟨rfl, ⟨rfl, rfl, trivial⟩, ⟨rfl, trivial, trivial⟩, ⟨rfl, rfl, trivial⟩, ⟨rfl, trivial, trivial⟩, trivial⟩, rfl, ⟨rfl, rfl⟩, ⟨rfl, rfl⟩, ⟨rfl, rfl⟩, ⟨rfl, rfl⟩, rfl, trivial⟩ ?_ (fun _ hs => hs)
    rintro i ts os ⟨rfl, h, rfl, rfl⟩
    conv => whnf
    exact CutK.piece (impl_PolynomialAt_p5_ct  h) [some 256, some 384, some 448, none] [] ⟨⟨rfl, rfl⟩, ⟨rfl, ⟨rfl, trivial, trivial⟩, ⟨rfl, rfl, trivial⟩, ⟨rfl, ⟨rfl, rfl⟩, trivial⟩, rfl, trivial⟩, ⟨rfl, rfl⟩, ⟨rfl, rfl⟩, ⟨rfl, rfl⟩, trivial⟩
def impl_PolynomialAt_l0 (k : Nat) (a1 : Rw) (a2 : Rw) (K0 : Bool → Option (Rw × Bool)) : Rw → Bool → Option (Rw × Bool)
  | [], v167 => (cond v167 (K0 true) (K0 false))
  | cs :: rest, v167 => (cond v167 (cell_ii cs fun x201 x202 => (impl_PolynomialAt_l0 k a1 a2 K0 rest true)) (cell_ii cs fun x195 x196 => ((impl_IsFraction k x195 x196).bind fun y198 => (if y198 = true then (impl_PolynomialAt_l0 k a1 a2 K0 rest false) else (impl_PolynomialAt_l0 k a1 a2 K0 rest true)))))
set_option maxHeartbeats 4000000 in
set_option maxRecDepth 100000 in
theorem impl_PolynomialAt_l0_ct {k : Nat} {a1 : Rw} {a2 : Rw} {K0 : Bool → Option (Rw × Bool)} {r : Rw × Bool} (hx : a1.length ≤ cap) : ∀ (rest : Rw) (v166n : Nat) (v167 : Bool), a1.drop v166n = rest → impl_PolynomialAt_l0 k a1 a2 K0 rest v167 = some r → LoopOk prog 0 (lp f16 0) (mk 62 [(0, .d (D.sl a1)), (3, .ptr 192 0), (4, .ptr 256 0), (6, .ptr 384 0), (7, .ptr 448 0), (22, .d (D.sl a1)), (23, .d (D.int .i64 (a1.length : Int))), (24, .d (D.int .i64 (v166n : Int)))] [(192, .box 38 [.d (D.sl a2)]), (256, .box 38 [.es]), (384, .box 101 [.d (D.bool v167)]), (448, .box 38 [.es])]) (LoopEnd prog f16 0 62 (.tup [.agg [.os 8 r.1.length], .d (D.bool r.2)]) (⟨[], [(109, true, r.1)]⟩) (fun i ts os => (i = 0 ∧ ∃ v181 : Bool, K0 v181 = some r ∧ ts = [(0, .d (D.sl a1)), (3, .ptr 192 0), (4, .ptr 256 0), (6, .ptr 384 0), (7, .ptr 448 0)] ∧ os = [(192, .box 38 [.d (D.sl a2)]), (256, .box 38 [.es]), (384, .box 101 [.d (D.bool v181)]), (448, .box 38 [.es])])))
  | [], v166n, v167, hd, h => by
      rw [impl_PolynomialAt_l0] at h
      have hn := drop_nil hd
      cases v167
      · replace h := condF h
        refine LoopOk.step ?_
        conv => whnf
        refine splD (fun g => absurd g hn) (fun _ => ?_)
        conv => whnf
        exact ⟨_, _, [some 192, some 256, some 384, some 448], [], ⟨rfl, _, h, rfl, rfl⟩, ⟨⟨rfl, rfl⟩, ⟨rfl, ⟨rfl, rfl, trivial⟩, ⟨rfl, trivial, trivial⟩, ⟨rfl, rfl, trivial⟩, ⟨rfl, trivial, trivial⟩, trivial⟩, rfl, ⟨rfl, rfl⟩, ⟨rfl, rfl⟩, ⟨rfl, rfl⟩, ⟨rfl, rfl⟩, trivial⟩⟩
      · replace h := condT h
        refine LoopOk.step ?_
        conv => whnf
        refine splD (fun g => absurd g hn) (fun _ => ?_)
        conv => whnf
        exact ⟨_, _, [some 192, some 256, some 384, some 448], [], ⟨rfl, _, h, rfl, rfl⟩, ⟨⟨rfl, rfl⟩, ⟨rfl, ⟨rfl, rfl, trivial⟩, ⟨rfl, trivial, trivial⟩, ⟨rfl, rfl, trivial⟩, ⟨rfl, trivial, trivial⟩, trivial⟩, rfl, ⟨rfl, rfl⟩, ⟨rfl, rfl⟩, ⟨rfl, rfl⟩, ⟨rfl, rfl⟩, trivial⟩⟩
  | cs :: rest, v166n, v167, hd, h => by
      rw [impl_PolynomialAt_l0] at h
      obtain ⟨hrow, hd1, hlt⟩ := drop_cons hd
      cases v167
      · replace h := condF h
        refine LoopOk.step ?_
        conv => whnf
        refine splD (fun _ => ?_) (fun g => absurd hlt g)
        conv => whnf
        obtain ⟨x195, x196, e197, h⟩ := cell_ii_ex h
        rw [e197] at hrow
        refine Req.of (Int.natCast_nonneg _) ?_
        refine Row.of _ hrow ?_
        conv => whnf
        refine splF ?_
        conv => whnf
        refine Pick.no ?_
        conv => whnf
        obtain ⟨y198, e199, h⟩ := bind_ex h
        refine CallOk.of (impl_IsFraction_ct e199) ?_
        conv => whnf
        refine spl (fun g200 => ?_) (fun g200 => ?_)
        · replace h := iteT h g200
          conv => whnf
          refine CutK.norm [0, 3, 4, 6, 7, 22, 23, 24] [192, 256, 384, 448] ?_
          conv => whnf
          exact LoopOk.back (impl_PolynomialAt_l0_ct hx rest (v166n + 1) _ hd1 h) [some 192, some 256, some 384, some 448] [] ⟨⟨rfl, rfl⟩, ⟨rfl, ⟨rfl, rfl, trivial⟩, ⟨rfl, trivial, trivial⟩, ⟨rfl, rfl, trivial⟩, ⟨rfl, trivial, trivial⟩, trivial⟩, rfl, ⟨rfl, rfl⟩, ⟨rfl, rfl⟩, ⟨rfl, rfl⟩, ⟨rfl, rfl⟩, rfl, rfl, i64eq (wrap_up hlt hx), trivial⟩
        · replace h := iteF h g200
          conv => whnf
          refine CutK.norm [0, 3, 4, 6, 7, 22, 23, 24] [192, 256, 384, 448] ?_
          conv => whnf
          exact LoopOk.back (impl_PolynomialAt_l0_ct hx rest (v166n + 1) _ hd1 h) [some 192, some 256, some 384, some 448] [] ⟨⟨rfl, rfl⟩, ⟨rfl, ⟨rfl, rfl, trivial⟩, ⟨rfl, trivial, trivial⟩, ⟨rfl, rfl, trivial⟩, ⟨rfl, trivial, trivial⟩, trivial⟩, rfl, ⟨rfl, rfl⟩, ⟨rfl, rfl⟩, ⟨rfl, rfl⟩, ⟨rfl, rfl⟩, rfl, rfl, i64eq (wrap_up hlt hx), trivial⟩
      · replace h := condT h
        refine LoopOk.step ?_
        conv => whnf
        refine splD (fun _ => ?_) (fun g => absurd hlt g)
        conv => whnf
        obtain ⟨x201, x202, e203, h⟩ := cell_ii_ex h
        rw [e203] at hrow
        refine Req.of (Int.natCast_nonneg _) ?_
        refine Row.of _ hrow ?_
        conv => whnf
        refine splT ?_
        conv => whnf
        refine CutK.norm [0, 3, 4, 6, 7, 22, 23, 24] [192, 256, 384, 448] ?_
        conv => whnf
        exact LoopOk.back (impl_PolynomialAt_l0_ct hx rest (v166n + 1) _ hd1 h) [some 192, some 256, some 384, some 448] [] ⟨⟨rfl, rfl⟩, ⟨rfl, ⟨rfl, rfl, trivial⟩, ⟨rfl, trivial, trivial⟩, ⟨rfl, rfl, trivial⟩, ⟨rfl, trivial, trivial⟩, trivial⟩, rfl, ⟨rfl, rfl⟩, ⟨rfl, rfl⟩, ⟨rfl, rfl⟩, ⟨rfl, rfl⟩, rfl, rfl, i64eq (wrap_up hlt hx), trivial⟩
def impl_PolynomialAt_p2 (k : Nat) (a1 : Rw) (a2 : Rw) : Option (Rw × Bool) :=
  (if a1.length ≤ cap then (impl_PolynomialAt_l0 k a1 a2 (fun (v181 : Bool) => (cond v181 (impl_PolynomialAt_p4 k a1 a2 true) (impl_PolynomialAt_p4 k a1 a2 false))) a1 false) else none)
set_option maxHeartbeats 4000000 in
set_option maxRecDepth 100000 in
theorem impl_PolynomialAt_p2_ct {k : Nat} {a1 : Rw} {a2 : Rw} {r : Rw × Bool} (h : impl_PolynomialAt_p2 k a1 a2 = some r) : X prog 0 (tlF f16 2) (mk 62 [(0, .d (D.sl a1)), (3, .ptr 192 0), (4, .ptr 256 0)] [(192, .box 38 [.d (D.sl a2)]), (256, .box 38 [.es])]) (finK prog f16 0 (.tup [.agg [.os 8 r.1.length], .d (D.bool r.2)]) (⟨[], [(109, true, r.1)]⟩)) := by
  rw [impl_PolynomialAt_p2] at h
  conv => whnf
  obtain ⟨g204, h⟩ := req_ex h
  refine LoopOk.into (impl_PolynomialAt_l0_ct  g204 _ _ _ rfl h) [some 192, some 256, some 384, some 448] [] ⟨⟨rfl, rfl⟩, ⟨rfl, ⟨rfl, rfl, trivial⟩, ⟨rfl, trivial, trivial⟩, ⟨rfl, rfl, trivial⟩, ⟨rfl, trivial, trivial⟩, trivial⟩, rfl, ⟨rfl, rfl⟩, ⟨rfl, rfl⟩, ⟨rfl, rfl⟩, ⟨rfl, rfl⟩, rfl, rfl, rfl, trivial⟩ ?_ (fun _ hs => hs)
  rintro i ts os ⟨rfl, v181, h, rfl, rfl⟩
  cases v181
  · replace h := condF h
    conv => whnf
    exact CutK.piece (impl_PolynomialAt_p4_ct  h) [some 192, some 256, some 384, some 448] [] ⟨⟨rfl, rfl⟩, ⟨rfl, ⟨rfl, rfl, trivial⟩, ⟨rfl, trivial, trivial⟩, ⟨rfl, rfl, trivial⟩, ⟨rfl, trivial, trivial⟩, trivial⟩, rfl, ⟨rfl, rfl⟩, ⟨rfl, rfl⟩, ⟨rfl, rfl⟩, ⟨rfl, rfl⟩, trivial⟩
  · replace h := condT h
    conv => whnf
    exact CutK.piece (impl_PolynomialAt_p4_ct  h) [some 192, some 256, some 384, some 448] [] ⟨⟨rfl, rfl⟩, ⟨rfl, ⟨rfl, rfl, trivial⟩, ⟨rfl, trivial, trivial⟩, ⟨rfl, rfl, trivial⟩, ⟨rfl, trivial, trivial⟩, trivial⟩, rfl, ⟨rfl, rfl⟩, ⟨rfl, rfl⟩, ⟨rfl, rfl⟩, ⟨rfl, rfl⟩, trivial⟩
def impl_PolynomialAt (k : Nat) (a1 : Rw) (a2 : Rw) : Option (Rw × Bool) :=
  ((impl_IsSurreal k a2).bind fun y205 => (if y205 = true then (if (12 : Int) < (a1.length : Int) then some (([] : Rw), false) else (impl_PolynomialAt_p2 k a1 a2)) else some (([] : Rw), false)))
set_option maxHeartbeats 4000000 in
set_option maxRecDepth 100000 in
theorem impl_PolynomialAt_ct {k : Nat} {a1 : Rw} {a2 : Rw} {r : Rw × Bool} (h : impl_PolynomialAt k a1 a2 = some r) : Ct prog 16 [.d (D.sl a1), .agg [.d (D.sl a2)]] (⟨[], []⟩) (.tup [.agg [.os 8 r.1.length], .d (D.bool r.2)]) (⟨[], [(109, true, r.1)]⟩) := by
  rw [impl_PolynomialAt] at h
  refine Ct.of (c := _) mixed func16 ⟨rfl, rfl, rfl⟩ ?_ rfl
  conv => whnf
  refine Pick.no ?_
  conv => whnf
  obtain ⟨y205, e206, h⟩ := bind_ex h
  refine CallOk.of (impl_IsSurreal_ct e206) ?_
  conv => whnf
  refine spl (fun g207 => ?_) (fun g207 => ?_)
  · replace h := iteT h g207
    conv => whnf
    refine splD (fun g208 => ?_) (fun g208 => ?_)
    · replace h := iteP h g208
      conv => whnf
      refine CutK.norm [0, 3, 4, 18] [192, 256] ?_
      conv => whnf
      cases h
      exact Done.of [none] [] rfl rfl ⟨⟨rfl, rfl⟩, ⟨rfl, rfl, trivial⟩, ⟨⟨⟨rfl, rfl⟩, trivial⟩, rfl, trivial⟩, trivial⟩
    · replace h := iteN h g208
      conv => whnf
      refine CutK.norm [0, 3, 4, 18] [192, 256] ?_
      conv => whnf
      exact CutK.piece (impl_PolynomialAt_p2_ct  h) [some 192, some 256] [] ⟨⟨rfl, rfl⟩, ⟨rfl, ⟨rfl, rfl, trivial⟩, ⟨rfl, trivial, trivial⟩, trivial⟩, rfl, ⟨rfl, rfl⟩, ⟨rfl, rfl⟩, trivial⟩
  · replace h := iteF h g207
    conv => whnf
    refine CutK.norm [0, 3, 4, 18] [192, 256] ?_
    conv => whnf
    cases h
    exact Done.of [none] [] rfl rfl ⟨⟨rfl, rfl⟩, ⟨rfl, rfl, trivial⟩, ⟨⟨⟨rfl, rfl⟩, trivial⟩, rfl, trivial⟩, trivial⟩

def spec_l1Cur_next  (a1 : Rw) (a2 : Int) (a3 : Int) : Option (Int × Rw × Int × Int) :=
  (if a2 < (a1.length : Int) then (row_iu8 a1 a2 fun x5 => (if (IntKind.i64.wrap (a2 + 1)) ≤ (a1.length : Int) then some (IntKind.i64.wrap x5, a1, IntKind.i64.wrap (a2 + 1), IntKind.u64.wrap ((IntKind.u64.wrap ((IntKind.u64.wrap (a3 * 6364136223846793005)) + (IntKind.u64.wrap (IntKind.i64.wrap x5)))) + 1442695040888963407)) else some (IntKind.i64.wrap (IntKind.u64.wrap (BitVec.ofInt (IntKind.u64).bits ((IntKind.u64.wrap ((IntKind.u64.wrap ((IntKind.u64.wrap (a3 * 6364136223846793005)) + (IntKind.u64.wrap (IntKind.i64.wrap x5)))) + 1442695040888963407)).fdiv (2 ^ (min (40 : Int).toNat (IntKind.u64).bits))) &&& BitVec.ofInt (IntKind.u64).bits 255).toNat), a1, IntKind.i64.wrap (a2 + 1), IntKind.u64.wrap ((IntKind.u64.wrap ((IntKind.u64.wrap (a3 * 6364136223846793005)) + (IntKind.u64.wrap (IntKind.i64.wrap x5)))) + 1442695040888963407)))) else (if (IntKind.i64.wrap (a2 + 1)) ≤ (a1.length : Int) then some (0, a1, IntKind.i64.wrap (a2 + 1), IntKind.u64.wrap ((IntKind.u64.wrap ((IntKind.u64.wrap (a3 * 6364136223846793005)) + (IntKind.u64.wrap 0))) + 1442695040888963407)) else some (IntKind.i64.wrap (IntKind.u64.wrap (BitVec.ofInt (IntKind.u64).bits ((IntKind.u64.wrap ((IntKind.u64.wrap ((IntKind.u64.wrap (a3 * 6364136223846793005)) + (IntKind.u64.wrap 0))) + 1442695040888963407)).fdiv (2 ^ (min (40 : Int).toNat (IntKind.u64).bits))) &&& BitVec.ofInt (IntKind.u64).bits 255).toNat), a1, IntKind.i64.wrap (a2 + 1), IntKind.u64.wrap ((IntKind.u64.wrap ((IntKind.u64.wrap (a3 * 6364136223846793005)) + (IntKind.u64.wrap 0))) + 1442695040888963407))))
set_option maxHeartbeats 4000000 in
set_option maxRecDepth 100000 in
theorem spec_l1Cur_next_ct  {a1 : Rw} {a2 : Int} {a3 : Int} {r : Int × Rw × Int × Int} (h : spec_l1Cur_next a1 a2 a3 = some r) : Ct prog 102 [.ptr 0 0] (⟨[(81, [.d (D.sl a1), .d (D.int .i64 a2), .d (D.int .u64 a3)])], []⟩) (.d (D.int .i64 r.1)) (⟨[(81, [.d (D.sl r.2.1), .d (D.int .i64 r.2.2.1), .d (D.int .u64 r.2.2.2)])], []⟩) := by
  rw [spec_l1Cur_next] at h
  refine Ct.of (c := _) mixed func102 ⟨rfl, rfl, rfl⟩ ?_ rfl
  conv => whnf
  refine splD (fun g4 => ?_) (fun g4 => ?_)
  · replace h := iteP h g4
    conv => whnf
    obtain ⟨g7, x5, e6, h⟩ := row_iu8_ex h
    refine Req.of g7 ?_
    refine Row.of _ e6 ?_
    conv => whnf
    refine splD (fun g8 => ?_) (fun g8 => ?_)
    · replace h := iteP h g8
      conv => whnf
      cases h
      exact Done.of [some 0] [] rfl rfl ⟨⟨rfl, rfl⟩, ⟨rfl, ⟨rfl, rfl, rfl, rfl, trivial⟩, trivial⟩, rfl, trivial⟩
    · replace h := iteN h g8
      conv => whnf
      cases h
      exact Done.of [some 0] [] rfl rfl ⟨⟨rfl, rfl⟩, ⟨rfl, ⟨rfl, rfl, rfl, rfl, trivial⟩, trivial⟩, rfl, trivial⟩
  · replace h := iteN h g4
    conv => whnf
    refine splD (fun g9 => ?_) (fun g9 => ?_)
    · replace h := iteP h g9
      conv => whnf
      cases h
      exact Done.of [some 0] [] rfl rfl ⟨⟨rfl, rfl⟩, ⟨rfl, ⟨rfl, rfl, rfl, rfl, trivial⟩, trivial⟩, rfl, trivial⟩
    · replace h := iteN h g9
      conv => whnf
      cases h
      exact Done.of [some 0] [] rfl rfl ⟨⟨rfl, rfl⟩, ⟨rfl, ⟨rfl, rfl, rfl, rfl, trivial⟩, trivial⟩, rfl, trivial⟩

def spec_l1Cur_pick  (a1 : Rw) (a2 : Int) (a3 : Int) (a4 : Int) : Option (Int × Rw × Int × Int) :=
  (if a4 ≤ (1 : Int) then some (0, a1, a2, a3) else ((spec_l1Cur_next a1 a2 a3).bind fun y6 => (if (200 : Int) < a4 then ((spec_l1Cur_next y6.2.1 y6.2.2.1 y6.2.2.2).bind fun y9 => (if a4 ≠ 0 then some ((IntKind.i64.wrap ((IntKind.i64.wrap (y6.1 * 256)) + y9.1)).tmod a4, y9.2.1, y9.2.2.1, y9.2.2.2) else none)) else (if a4 ≠ 0 then some (y6.1.tmod a4, y6.2.1, y6.2.2.1, y6.2.2.2) else none))))
set_option maxHeartbeats 4000000 in
set_option maxRecDepth 100000 in
theorem spec_l1Cur_pick_ct  {a1 : Rw} {a2 : Int} {a3 : Int} {a4 : Int} {r : Int × Rw × Int × Int} (h : spec_l1Cur_pick a1 a2 a3 a4 = some r) : Ct prog 41 [.ptr 0 0, .d (D.int .i64 a4)] (⟨[(81, [.d (D.sl a1), .d (D.int .i64 a2), .d (D.int .u64 a3)])], []⟩) (.d (D.int .i64 r.1)) (⟨[(81, [.d (D.sl r.2.1), .d (D.int .i64 r.2.2.1), .d (D.int .u64 r.2.2.2)])], []⟩) := by
  rw [spec_l1Cur_pick] at h
  refine Ct.of (c := _) mixed func41 ⟨rfl, rfl, rfl⟩ ?_ rfl
  conv => whnf
  refine splD (fun g5 => ?_) (fun g5 => ?_)
  · replace h := iteP h g5
    conv => whnf
    cases h
    exact Done.of [some 0] [] rfl rfl ⟨⟨rfl, rfl⟩, ⟨rfl, ⟨rfl, rfl, rfl, rfl, trivial⟩, trivial⟩, rfl, trivial⟩
  · replace h := iteN h g5
    conv => whnf
    refine Pick.no ?_
    conv => whnf
    obtain ⟨y6, e7, h⟩ := bind_ex h
    refine CallOk.of (spec_l1Cur_next_ct e7) ?_
    conv => whnf
    refine CutK.go ?_
    conv => whnf
    refine splD (fun g8 => ?_) (fun g8 => ?_)
    · replace h := iteP h g8
      conv => whnf
      refine Pick.no ?_
      conv => whnf
      obtain ⟨y9, e10, h⟩ := bind_ex h
      refine CallOk.of (spec_l1Cur_next_ct e10) ?_
      conv => whnf
      refine CutK.go ?_
      conv => whnf
      obtain ⟨g11, h⟩ := req_ex h
      refine Req.of g11 ?_
      conv => whnf
      cases h
      exact Done.of [some 0] [] rfl rfl ⟨⟨rfl, rfl⟩, ⟨rfl, ⟨rfl, rfl, rfl, rfl, trivial⟩, trivial⟩, rfl, trivial⟩
    · replace h := iteN h g8
      conv => whnf
      refine CutK.go ?_
      conv => whnf
      obtain ⟨g12, h⟩ := req_ex h
      refine Req.of g12 ?_
      conv => whnf
      cases h
      exact Done.of [some 0] [] rfl rfl ⟨⟨rfl, rfl⟩, ⟨rfl, ⟨rfl, rfl, rfl, rfl, trivial⟩, trivial⟩, rfl, trivial⟩

def spec_l1Cur_among  (a1 : Rw) (a2 : Int) (a3 : Int) (a4 : Rw) : Option (Int × Rw × Int × Int) :=
  ((spec_l1Cur_pick a1 a2 a3 (a4.length : Int)).bind fun y5 => (row_i a4 y5.1 fun x7 => some (x7, y5.2.1, y5.2.2.1, y5.2.2.2)))
set_option maxHeartbeats 4000000 in
set_option maxRecDepth 100000 in
theorem spec_l1Cur_among_ct  {a1 : Rw} {a2 : Int} {a3 : Int} {a4 : Rw} {r : Int × Rw × Int × Int} (h : spec_l1Cur_among a1 a2 a3 a4 = some r) : Ct prog 53 [.ptr 0 0, .d (D.sl a4)] (⟨[(81, [.d (D.sl a1), .d (D.int .i64 a2), .d (D.int .u64 a3)])], []⟩) (.d (D.int .i64 r.1)) (⟨[(81, [.d (D.sl r.2.1), .d (D.int .i64 r.2.2.1), .d (D.int .u64 r.2.2.2)])], []⟩) := by
  rw [spec_l1Cur_among] at h
  refine Ct.of (c := _) mixed func53 ⟨rfl, rfl, rfl⟩ ?_ rfl
  conv => whnf
  refine Pick.no ?_
  conv => whnf
  obtain ⟨y5, e6, h⟩ := bind_ex h
  refine CallOk.of (spec_l1Cur_pick_ct e6) ?_
  conv => whnf
  obtain ⟨g9, x7, e8, h⟩ := row_i_ex h
  refine Req.of g9 ?_
  refine Row.of _ e8 ?_
  conv => whnf
  refine CutK.go ?_
  conv => whnf
  cases h
  exact Done.of [some 0] [] rfl rfl ⟨⟨rfl, rfl⟩, ⟨rfl, ⟨rfl, rfl, rfl, rfl, trivial⟩, trivial⟩, rfl, trivial⟩

def spec_l1Cur_one  (a1 : Rw) (a2 : Int) (a3 : Int) (a4 : Int) : Option (Bool × Rw × Int × Int) :=
  ((spec_l1Cur_pick a1 a2 a3 a4).bind fun y5 => (if y5.1 = (0 : Int) then some (true, y5.2.1, y5.2.2.1, y5.2.2.2) else some (false, y5.2.1, y5.2.2.1, y5.2.2.2)))
set_option maxHeartbeats 4000000 in
set_option maxRecDepth 100000 in
theorem spec_l1Cur_one_ct  {a1 : Rw} {a2 : Int} {a3 : Int} {a4 : Int} {r : Bool × Rw × Int × Int} (h : spec_l1Cur_one a1 a2 a3 a4 = some r) : Ct prog 38 [.ptr 0 0, .d (D.int .i64 a4)] (⟨[(81, [.d (D.sl a1), .d (D.int .i64 a2), .d (D.int .u64 a3)])], []⟩) (.d (D.bool r.1)) (⟨[(81, [.d (D.sl r.2.1), .d (D.int .i64 r.2.2.1), .d (D.int .u64 r.2.2.2)])], []⟩) := by
  rw [spec_l1Cur_one] at h
  refine Ct.of (c := _) mixed func38 ⟨rfl, rfl, rfl⟩ ?_ rfl
  conv => whnf
  refine Pick.no ?_
  conv => whnf
  obtain ⟨y5, e6, h⟩ := bind_ex h
  refine CallOk.of (spec_l1Cur_pick_ct e6) ?_
  conv => whnf
  refine splD (fun g7 => ?_) (fun g7 => ?_)
  · replace h := iteP h g7
    conv => whnf
    refine CutK.go ?_
    conv => whnf
    cases h
    exact Done.of [some 0] [] rfl rfl ⟨⟨rfl, rfl⟩, ⟨rfl, ⟨rfl, rfl, rfl, rfl, trivial⟩, trivial⟩, rfl, trivial⟩
  · replace h := iteN h g7
    conv => whnf
    refine CutK.go ?_
    conv => whnf
    cases h
    exact Done.of [some 0] [] rfl rfl ⟨⟨rfl, rfl⟩, ⟨rfl, ⟨rfl, rfl, rfl, rfl, trivial⟩, trivial⟩, rfl, trivial⟩

def spec_shInt  (a1 : Int) : Option (Int × Int) :=
  some (a1, 1)
set_option maxHeartbeats 4000000 in
set_option maxRecDepth 100000 in
theorem spec_shInt_ct  {a1 : Int} {r : Int × Int} (h : spec_shInt a1 = some r) : Ct prog 54 [.d (D.int .i64 a1)] (⟨[], []⟩) (.agg [.d (D.int .i64 r.1), .d (D.int .i64 r.2)]) (⟨[], []⟩) := by
  rw [spec_shInt] at h
  refine Ct.of (c := _) mixed func54 ⟨rfl, rfl, rfl⟩ ?_ rfl
  conv => whnf
  cases h
  exact Done.of [] [] rfl rfl ⟨⟨rfl, rfl⟩, ⟨rfl, trivial⟩, ⟨rfl, rfl, trivial⟩, trivial⟩

def spec_l1Cur_of  (a1 : Rw) (a2 : Int) (a3 : Int) (a4 : Rw) : Option (ByteArray × Rw × Int × Int) :=
  ((spec_l1Cur_pick a1 a2 a3 (a4.length : Int)).bind fun y5 => (row_t a4 y5.1 fun x7 => some (x7, y5.2.1, y5.2.2.1, y5.2.2.2)))
set_option maxHeartbeats 4000000 in
set_option maxRecDepth 100000 in
theorem spec_l1Cur_of_ct  {a1 : Rw} {a2 : Int} {a3 : Int} {a4 : Rw} {r : ByteArray × Rw × Int × Int} (h : spec_l1Cur_of a1 a2 a3 a4 = some r) : Ct prog 168 [.ptr 0 0, .d (D.sl a4)] (⟨[(81, [.d (D.sl a1), .d (D.int .i64 a2), .d (D.int .u64 a3)])], []⟩) (.d (D.str r.1)) (⟨[(81, [.d (D.sl r.2.1), .d (D.int .i64 r.2.2.1), .d (D.int .u64 r.2.2.2)])], []⟩) := by
  rw [spec_l1Cur_of] at h
  refine Ct.of (c := _) mixed func168 ⟨rfl, rfl, rfl⟩ ?_ rfl
  conv => whnf
  refine Pick.no ?_
  conv => whnf
  obtain ⟨y5, e6, h⟩ := bind_ex h
  refine CallOk.of (spec_l1Cur_pick_ct e6) ?_
  conv => whnf
  obtain ⟨g9, x7, e8, h⟩ := row_t_ex h
  refine Req.of g9 ?_
  refine Row.of _ e8 ?_
  conv => whnf
  refine CutK.go ?_
  conv => whnf
  cases h
  exact Done.of [some 0] [] rfl rfl ⟨⟨rfl, rfl⟩, ⟨rfl, ⟨rfl, rfl, rfl, rfl, trivial⟩, trivial⟩, rfl, trivial⟩

def spec_l1Cur_word_l0 (K0 : ByteArray → Rw → Int → Int → Option (ByteArray × Rw × Int × Int)) : Nat → ByteArray → Int → Rw → Int → Int → Option (ByteArray × Rw × Int × Int)
  | 0, _, _, _, _, _ => none
  | n + 1, v11, v12, v13, v14, v15 => (if (0 : Int) < v12 then ((spec_l1Cur_of v13 v14 v15 ([[D.str (ByteArray.mk #[43])], [D.str (ByteArray.mk #[45])], [D.str (ByteArray.mk #[43])]] : Rw)).bind fun y29 => (if v11.size + y29.1.size ≤ 9223372036854775807 then (spec_l1Cur_word_l0 K0 n (v11 ++ y29.1) (IntKind.i64.wrap (v12 - 1)) y29.2.1 y29.2.2.1 y29.2.2.2) else none)) else (K0 v11 v13 v14 v15))
set_option maxHeartbeats 4000000 in
set_option maxRecDepth 100000 in
theorem spec_l1Cur_word_l0_ct {K0 : ByteArray → Rw → Int → Int → Option (ByteArray × Rw × Int × Int)} {r : ByteArray × Rw × Int × Int} : ∀ (n : Nat) (v11 : ByteArray) (v12 : Int) (v13 : Rw) (v14 : Int) (v15 : Int), spec_l1Cur_word_l0 K0 n v11 v12 v13 v14 v15 = some r → LoopOk prog 1 (lp f119 0) (mk 21 [(0, .ptr 0 0), (5, .d (D.str v11)), (6, .d (D.int .i64 v12))] [(0, .box 81 [.d (D.sl v13), .d (D.int .i64 v14), .d (D.int .u64 v15)])]) (LoopEnd prog f119 1 21 (.d (D.str r.1)) (⟨[(81, [.d (D.sl r.2.1), .d (D.int .i64 r.2.2.1), .d (D.int .u64 r.2.2.2)])], []⟩) (fun i ts os => (i = 0 ∧ ∃ v20 : ByteArray, ∃ v21 : Rw, ∃ v22 : Int, ∃ v23 : Int, K0 v20 v21 v22 v23 = some r ∧ ts = [(5, .d (D.str v20))] ∧ os = [(0, .box 81 [.d (D.sl v21), .d (D.int .i64 v22), .d (D.int .u64 v23)])])))
  | 0, _, _, _, _, _, h => by
      rw [spec_l1Cur_word_l0] at h; cases h
  | n + 1, v11, v12, v13, v14, v15, h => by
      rw [spec_l1Cur_word_l0] at h
      refine LoopOk.step ?_
      conv => whnf
      refine splD (fun g28 => ?_) (fun g28 => ?_)
      · replace h := iteP h g28
        conv => whnf
        refine Pick.no ?_
        conv => whnf
        refine Take.all (by first | rfl | exact List.length_append.symm | (simp; done) | omega) ?_
        conv => whnf
        obtain ⟨y29, e30, h⟩ := bind_ex h
        refine CallOk.of (spec_l1Cur_of_ct e30) ?_
        conv => whnf
        obtain ⟨g31, h⟩ := req_ex h
        refine Req.of g31 ?_
        conv => whnf
        refine CutK.go ?_
        conv => whnf
        exact LoopOk.back (spec_l1Cur_word_l0_ct  n _ _ _ _ _ h) [some 0] [] ⟨⟨rfl, rfl⟩, ⟨rfl, ⟨rfl, rfl, rfl, rfl, trivial⟩, trivial⟩, ⟨rfl, rfl⟩, rfl, rfl, trivial⟩
      · replace h := iteN h g28
        conv => whnf
        exact ⟨_, _, [some 0], [], ⟨rfl, _, _, _, _, h, rfl, rfl⟩, ⟨⟨rfl, rfl⟩, ⟨rfl, ⟨rfl, rfl, rfl, rfl, trivial⟩, trivial⟩, rfl, trivial⟩⟩
def spec_l1Cur_word (k : Nat) (a1 : Rw) (a2 : Int) (a3 : Int) (a4 : Int) : Option (ByteArray × Rw × Int × Int) :=
  ((spec_l1Cur_pick a1 a2 a3 (IntKind.i64.wrap (a4 + 1))).bind fun y5 => (spec_l1Cur_word_l0 (fun (v20 : ByteArray) (v21 : Rw) (v22 : Int) (v23 : Int) => some (v20, v21, v22, v23)) k (ByteArray.mk #[]) y5.1 y5.2.1 y5.2.2.1 y5.2.2.2))
set_option maxHeartbeats 4000000 in
set_option maxRecDepth 100000 in
theorem spec_l1Cur_word_ct {k : Nat} {a1 : Rw} {a2 : Int} {a3 : Int} {a4 : Int} {r : ByteArray × Rw × Int × Int} (h : spec_l1Cur_word k a1 a2 a3 a4 = some r) : Ct prog 119 [.ptr 0 0, .d (D.int .i64 a4)] (⟨[(81, [.d (D.sl a1), .d (D.int .i64 a2), .d (D.int .u64 a3)])], []⟩) (.d (D.str r.1)) (⟨[(81, [.d (D.sl r.2.1), .d (D.int .i64 r.2.2.1), .d (D.int .u64 r.2.2.2)])], []⟩) := by
  rw [spec_l1Cur_word] at h
  refine Ct.of (c := _) mixed func119 ⟨rfl, rfl, rfl⟩ ?_ rfl
  conv => whnf
  refine Pick.no ?_
  conv => whnf
  obtain ⟨y5, e6, h⟩ := bind_ex h
  refine CallOk.of (spec_l1Cur_pick_ct e6) ?_
  conv => whnf
  refine CutK.go ?_
  conv => whnf
  refine LoopOk.into (spec_l1Cur_word_l0_ct  _ _ _ _ _ _ h) [some 0] [] ⟨⟨rfl, rfl⟩, ⟨rfl, ⟨rfl, rfl, rfl, rfl, trivial⟩, trivial⟩, ⟨rfl, rfl⟩, rfl, rfl, trivial⟩ ?_ (fun _ hs => hs)
  rintro i ts os ⟨rfl, v20, v21, v22, v23, h, rfl, rfl⟩
  conv => whnf
  refine CutK.go ?_
  conv => whnf
  cases h
  exact Done.of [some 0] [] rfl rfl ⟨⟨rfl, rfl⟩, ⟨rfl, ⟨rfl, rfl, rfl, rfl, trivial⟩, trivial⟩, rfl, trivial⟩

def spec_shStart   : Option (Int × Int × Int × Int × Int × Int × Bool × Bool) :=
  ((spec_shInt 0).bind fun y1 => some (y1.1, y1.2, 0, 0, 0, 0, false, false))
set_option maxHeartbeats 4000000 in
set_option maxRecDepth 100000 in
theorem spec_shStart_ct   {r : Int × Int × Int × Int × Int × Int × Bool × Bool} (h : spec_shStart = some r) : Ct prog 111 [] (⟨[], []⟩) (.agg [.d (D.int .i64 r.1), .d (D.int .i64 r.2.1), .d (D.int .i64 r.2.2.1), .d (D.int .i64 r.2.2.2.1), .d (D.int .i64 r.2.2.2.2.1), .d (D.int .i64 r.2.2.2.2.2.1), .d (D.bool r.2.2.2.2.2.2.1), .d (D.bool r.2.2.2.2.2.2.2)]) (⟨[], []⟩) := by
  rw [spec_shStart] at h
  refine Ct.of (c := _) mixed func111 ⟨rfl, rfl, rfl⟩ ?_ rfl
  conv => whnf
  refine Pick.no ?_
  conv => whnf
  obtain ⟨y1, e2, h⟩ := bind_ex h
  refine CallOk.of (spec_shInt_ct e2) ?_
  conv => whnf
  refine CutK.go ?_
  conv => whnf
  cases h
  exact Done.of [] [] rfl rfl ⟨⟨rfl, rfl⟩, ⟨rfl, trivial⟩, ⟨rfl, rfl, rfl, rfl, rfl, rfl, rfl, rfl, trivial⟩, trivial⟩

def spec_shWalk_step (k : Nat) (a1 : Int) (a2 : Int) (a3 : Int) (a4 : Int) (a5 : Int) (a6 : Int) (a7 : Bool) (a8 : Bool) (a9 : Bool) : Option (Int × Int × Int × Int × Int × Int × Bool × Bool) :=
  (cond a7 (cond a8 (cond a9 ((spec_shAdd k a1 a2 a5 a6).bind fun y38 => ((spec_shMul k y38.1 y38.2 1 2).bind fun y40 => some (y40.1, y40.2, a1, a2, a5, a6, true, true))) ((spec_shAdd k a3 a4 a1 a2).bind fun y34 => ((spec_shMul k y34.1 y34.2 1 2).bind fun y36 => some (y36.1, y36.2, a3, a4, a1, a2, true, true)))) (cond a9 ((spec_shInt 1).bind fun y30 => ((spec_shAdd k a1 a2 y30.1 y30.2).bind fun y32 => some (y32.1, y32.2, a1, a2, a5, a6, true, false))) ((spec_shAdd k a3 a4 a1 a2).bind fun y26 => ((spec_shMul k y26.1 y26.2 1 2).bind fun y28 => some (y28.1, y28.2, a3, a4, a1, a2, true, true))))) (cond a8 (cond a9 ((spec_shAdd k a1 a2 a5 a6).bind fun y22 => ((spec_shMul k y22.1 y22.2 1 2).bind fun y24 => some (y24.1, y24.2, a1, a2, a5, a6, true, true))) ((spec_shInt (-1)).bind fun y18 => ((spec_shAdd k a1 a2 y18.1 y18.2).bind fun y20 => some (y20.1, y20.2, a3, a4, a1, a2, false, true)))) (cond a9 ((spec_shInt 1).bind fun y14 => ((spec_shAdd k a1 a2 y14.1 y14.2).bind fun y16 => some (y16.1, y16.2, a1, a2, a5, a6, true, false))) ((spec_shInt (-1)).bind fun y10 => ((spec_shAdd k a1 a2 y10.1 y10.2).bind fun y12 => some (y12.1, y12.2, a3, a4, a1, a2, false, true))))))
set_option maxHeartbeats 4000000 in
set_option maxRecDepth 100000 in
theorem spec_shWalk_step_ct {k : Nat} {a1 : Int} {a2 : Int} {a3 : Int} {a4 : Int} {a5 : Int} {a6 : Int} {a7 : Bool} {a8 : Bool} {a9 : Bool} {r : Int × Int × Int × Int × Int × Int × Bool × Bool} (h : spec_shWalk_step k a1 a2 a3 a4 a5 a6 a7 a8 a9 = some r) : Ct prog 115 [.agg [.d (D.int .i64 a1), .d (D.int .i64 a2), .d (D.int .i64 a3), .d (D.int .i64 a4), .d (D.int .i64 a5), .d (D.int .i64 a6), .d (D.bool a7), .d (D.bool a8)], .d (D.bool a9)] (⟨[], []⟩) (.agg [.d (D.int .i64 r.1), .d (D.int .i64 r.2.1), .d (D.int .i64 r.2.2.1), .d (D.int .i64 r.2.2.2.1), .d (D.int .i64 r.2.2.2.2.1), .d (D.int .i64 r.2.2.2.2.2.1), .d (D.bool r.2.2.2.2.2.2.1), .d (D.bool r.2.2.2.2.2.2.2)]) (⟨[], []⟩) := by
  rw [spec_shWalk_step] at h
  refine Ct.of (c := _) mixed func115 ⟨rfl, rfl, rfl⟩ ?_ rfl
  cases a7
  · replace h := condF h
    cases a8
    · replace h := condF h
      cases a9
      · replace h := condF h
        conv => whnf
        refine splF ?_
        conv => whnf
        refine Pick.no ?_
        conv => whnf
        obtain ⟨y10, e11, h⟩ := bind_ex h
        refine CallOk.of (spec_shInt_ct e11) ?_
        conv => whnf
        refine Pick.no ?_
        conv => whnf
        obtain ⟨y12, e13, h⟩ := bind_ex h
        refine CallOk.of (spec_shAdd_ct e13) ?_
        conv => whnf
        refine CutK.norm [2, 4] [128, 256] ?_
        conv => whnf
        refine splF ?_
        conv => whnf
        refine splT ?_
        conv => whnf
        cases h
        exact Done.of [] [] rfl rfl ⟨⟨rfl, rfl⟩, ⟨rfl, trivial⟩, ⟨rfl, rfl, rfl, rfl, rfl, rfl, rfl, rfl, trivial⟩, trivial⟩
      · replace h := condT h
        conv => whnf
        refine splT ?_
        conv => whnf
        refine splF ?_
        conv => whnf
        refine Pick.no ?_
        conv => whnf
        obtain ⟨y14, e15, h⟩ := bind_ex h
        refine CallOk.of (spec_shInt_ct e15) ?_
        conv => whnf
        refine Pick.no ?_
        conv => whnf
        obtain ⟨y16, e17, h⟩ := bind_ex h
        refine CallOk.of (spec_shAdd_ct e17) ?_
        conv => whnf
        refine CutK.norm [2, 4] [128, 256] ?_
        conv => whnf
        refine splT ?_
        conv => whnf
        refine splF ?_
        conv => whnf
        cases h
        exact Done.of [] [] rfl rfl ⟨⟨rfl, rfl⟩, ⟨rfl, trivial⟩, ⟨rfl, rfl, rfl, rfl, rfl, rfl, rfl, rfl, trivial⟩, trivial⟩
    · replace h := condT h
      cases a9
      · replace h := condF h
        conv => whnf
        refine splF ?_
        conv => whnf
        refine Pick.no ?_
        conv => whnf
        obtain ⟨y18, e19, h⟩ := bind_ex h
        refine CallOk.of (spec_shInt_ct e19) ?_
        conv => whnf
        refine Pick.no ?_
        conv => whnf
        obtain ⟨y20, e21, h⟩ := bind_ex h
        refine CallOk.of (spec_shAdd_ct e21) ?_
        conv => whnf
        refine CutK.norm [2, 4] [128, 256] ?_
        conv => whnf
        refine splF ?_
        conv => whnf
        refine splT ?_
        conv => whnf
        cases h
        exact Done.of [] [] rfl rfl ⟨⟨rfl, rfl⟩, ⟨rfl, trivial⟩, ⟨rfl, rfl, rfl, rfl, rfl, rfl, rfl, rfl, trivial⟩, trivial⟩
      · replace h := condT h
        conv => whnf
        refine splT ?_
        conv => whnf
        refine splT ?_
        conv => whnf
        refine Pick.no ?_
        conv => whnf
        obtain ⟨y22, e23, h⟩ := bind_ex h
        refine CallOk.of (spec_shAdd_ct e23) ?_
        conv => whnf
        refine Pick.no ?_
        conv => whnf
        obtain ⟨y24, e25, h⟩ := bind_ex h
        refine CallOk.of (spec_shMul_ct e25) ?_
        conv => whnf
        refine CutK.norm [2, 4] [128, 256] ?_
        conv => whnf
        refine splT ?_
        conv => whnf
        refine splT ?_
        conv => whnf
        cases h
        exact Done.of [] [] rfl rfl ⟨⟨rfl, rfl⟩, ⟨rfl, trivial⟩, ⟨rfl, rfl, rfl, rfl, rfl, rfl, rfl, rfl, trivial⟩, trivial⟩
  · replace h := condT h
    cases a8
    · replace h := condF h
      cases a9
      · replace h := condF h
        conv => whnf
        refine splT ?_
        conv => whnf
        refine splT ?_
        conv => whnf
        refine Pick.no ?_
        conv => whnf
        obtain ⟨y26, e27, h⟩ := bind_ex h
        refine CallOk.of (spec_shAdd_ct e27) ?_
        conv => whnf
        refine Pick.no ?_
        conv => whnf
        obtain ⟨y28, e29, h⟩ := bind_ex h
        refine CallOk.of (spec_shMul_ct e29) ?_
        conv => whnf
        refine CutK.norm [2, 4] [128, 256] ?_
        conv => whnf
        refine splT ?_
        conv => whnf
        refine splT ?_
        conv => whnf
        cases h
        exact Done.of [] [] rfl rfl ⟨⟨rfl, rfl⟩, ⟨rfl, trivial⟩, ⟨rfl, rfl, rfl, rfl, rfl, rfl, rfl, rfl, trivial⟩, trivial⟩
      · replace h := condT h
        conv => whnf
        refine splT ?_
        conv => whnf
        refine splF ?_
        conv => whnf
        refine Pick.no ?_
        conv => whnf
        obtain ⟨y30, e31, h⟩ := bind_ex h
        refine CallOk.of (spec_shInt_ct e31) ?_
        conv => whnf
        refine Pick.no ?_
        conv => whnf
        obtain ⟨y32, e33, h⟩ := bind_ex h
        refine CallOk.of (spec_shAdd_ct e33) ?_
        conv => whnf
        refine CutK.norm [2, 4] [128, 256] ?_
        conv => whnf
        refine splT ?_
        conv => whnf
        refine splF ?_
        conv => whnf
        cases h
        exact Done.of [] [] rfl rfl ⟨⟨rfl, rfl⟩, ⟨rfl, trivial⟩, ⟨rfl, rfl, rfl, rfl, rfl, rfl, rfl, rfl, trivial⟩, trivial⟩
    · replace h := condT h
      cases a9
      · replace h := condF h
        conv => whnf
        refine splT ?_
        conv => whnf
        refine splT ?_
        conv => whnf
        refine Pick.no ?_
        conv => whnf
        obtain ⟨y34, e35, h⟩ := bind_ex h
        refine CallOk.of (spec_shAdd_ct e35) ?_
        conv => whnf
        refine Pick.no ?_
        conv => whnf
        obtain ⟨y36, e37, h⟩ := bind_ex h
        refine CallOk.of (spec_shMul_ct e37) ?_
        conv => whnf
        refine CutK.norm [2, 4] [128, 256] ?_
        conv => whnf
        refine splT ?_
        conv => whnf
        refine splT ?_
        conv => whnf
        cases h
        exact Done.of [] [] rfl rfl ⟨⟨rfl, rfl⟩, ⟨rfl, trivial⟩, ⟨rfl, rfl, rfl, rfl, rfl, rfl, rfl, rfl, trivial⟩, trivial⟩
      · replace h := condT h
        conv => whnf
        refine splT ?_
        conv => whnf
        refine splT ?_
        conv => whnf
        refine Pick.no ?_
        conv => whnf
        obtain ⟨y38, e39, h⟩ := bind_ex h
        refine CallOk.of (spec_shAdd_ct e39) ?_
        conv => whnf
        refine Pick.no ?_
        conv => whnf
        obtain ⟨y40, e41, h⟩ := bind_ex h
        refine CallOk.of (spec_shMul_ct e41) ?_
        conv => whnf
        refine CutK.norm [2, 4] [128, 256] ?_
        conv => whnf
        refine splT ?_
        conv => whnf
        refine splT ?_
        conv => whnf
        cases h
        exact Done.of [] [] rfl rfl ⟨⟨rfl, rfl⟩, ⟨rfl, trivial⟩, ⟨rfl, rfl, rfl, rfl, rfl, rfl, rfl, rfl, trivial⟩, trivial⟩

def spec_shValue_l0 (k : Nat) (a1 : ByteArray) (K0 : Int → Int → Int → Int → Int → Int → Bool → Bool → Option (Int × Int)) : Nat → Int → Int → Int → Int → Int → Int → Int → Bool → Bool → Option (Int × Int)
  | 0, _, _, _, _, _, _, _, _, _ => none
  | n + 1, v15, v16, v17, v18, v19, v20, v21, v22, v24 => (cond v22 (cond v24 (if v15 < (a1.size : Int) then (byteD a1 v15 fun b204 => (if (b204.toNat : Int) = (43 : Int) then ((spec_shWalk_step k v16 v17 v18 v19 v20 v21 true true true).bind fun y208 => (if y208.2.2.2.2.2.2.1 = true then (if y208.2.2.2.2.2.2.2 = true then (spec_shValue_l0 k a1 K0 n (IntKind.i64.wrap (v15 + 1)) y208.1 y208.2.1 y208.2.2.1 y208.2.2.2.1 y208.2.2.2.2.1 y208.2.2.2.2.2.1 true true) else (spec_shValue_l0 k a1 K0 n (IntKind.i64.wrap (v15 + 1)) y208.1 y208.2.1 y208.2.2.1 y208.2.2.2.1 y208.2.2.2.2.1 y208.2.2.2.2.2.1 false true)) else (if y208.2.2.2.2.2.2.2 = true then (spec_shValue_l0 k a1 K0 n (IntKind.i64.wrap (v15 + 1)) y208.1 y208.2.1 y208.2.2.1 y208.2.2.2.1 y208.2.2.2.2.1 y208.2.2.2.2.2.1 true false) else (spec_shValue_l0 k a1 K0 n (IntKind.i64.wrap (v15 + 1)) y208.1 y208.2.1 y208.2.2.1 y208.2.2.2.1 y208.2.2.2.2.1 y208.2.2.2.2.2.1 false false)))) else ((spec_shWalk_step k v16 v17 v18 v19 v20 v21 true true false).bind fun y213 => (if y213.2.2.2.2.2.2.1 = true then (if y213.2.2.2.2.2.2.2 = true then (spec_shValue_l0 k a1 K0 n (IntKind.i64.wrap (v15 + 1)) y213.1 y213.2.1 y213.2.2.1 y213.2.2.2.1 y213.2.2.2.2.1 y213.2.2.2.2.2.1 true true) else (spec_shValue_l0 k a1 K0 n (IntKind.i64.wrap (v15 + 1)) y213.1 y213.2.1 y213.2.2.1 y213.2.2.2.1 y213.2.2.2.2.1 y213.2.2.2.2.2.1 false true)) else (if y213.2.2.2.2.2.2.2 = true then (spec_shValue_l0 k a1 K0 n (IntKind.i64.wrap (v15 + 1)) y213.1 y213.2.1 y213.2.2.1 y213.2.2.2.1 y213.2.2.2.2.1 y213.2.2.2.2.2.1 true false) else (spec_shValue_l0 k a1 K0 n (IntKind.i64.wrap (v15 + 1)) y213.1 y213.2.1 y213.2.2.1 y213.2.2.2.1 y213.2.2.2.2.1 y213.2.2.2.2.2.1 false false)))))) else (K0 v16 v17 v18 v19 v20 v21 true true)) (if v15 < (a1.size : Int) then (byteD a1 v15 fun b189 => (if (b189.toNat : Int) = (43 : Int) then ((spec_shWalk_step k v16 v17 v18 v19 v20 v21 false true true).bind fun y193 => (if y193.2.2.2.2.2.2.1 = true then (if y193.2.2.2.2.2.2.2 = true then (spec_shValue_l0 k a1 K0 n (IntKind.i64.wrap (v15 + 1)) y193.1 y193.2.1 y193.2.2.1 y193.2.2.2.1 y193.2.2.2.2.1 y193.2.2.2.2.2.1 true true) else (spec_shValue_l0 k a1 K0 n (IntKind.i64.wrap (v15 + 1)) y193.1 y193.2.1 y193.2.2.1 y193.2.2.2.1 y193.2.2.2.2.1 y193.2.2.2.2.2.1 false true)) else (if y193.2.2.2.2.2.2.2 = true then (spec_shValue_l0 k a1 K0 n (IntKind.i64.wrap (v15 + 1)) y193.1 y193.2.1 y193.2.2.1 y193.2.2.2.1 y193.2.2.2.2.1 y193.2.2.2.2.2.1 true false) else (spec_shValue_l0 k a1 K0 n (IntKind.i64.wrap (v15 + 1)) y193.1 y193.2.1 y193.2.2.1 y193.2.2.2.1 y193.2.2.2.2.1 y193.2.2.2.2.2.1 false false)))) else ((spec_shWalk_step k v16 v17 v18 v19 v20 v21 false true false).bind fun y198 => (if y198.2.2.2.2.2.2.1 = true then (if y198.2.2.2.2.2.2.2 = true then (spec_shValue_l0 k a1 K0 n (IntKind.i64.wrap (v15 + 1)) y198.1 y198.2.1 y198.2.2.1 y198.2.2.2.1 y198.2.2.2.2.1 y198.2.2.2.2.2.1 true true) else (spec_shValue_l0 k a1 K0 n (IntKind.i64.wrap (v15 + 1)) y198.1 y198.2.1 y198.2.2.1 y198.2.2.2.1 y198.2.2.2.2.1 y198.2.2.2.2.2.1 false true)) else (if y198.2.2.2.2.2.2.2 = true then (spec_shValue_l0 k a1 K0 n (IntKind.i64.wrap (v15 + 1)) y198.1 y198.2.1 y198.2.2.1 y198.2.2.2.1 y198.2.2.2.2.1 y198.2.2.2.2.2.1 true false) else (spec_shValue_l0 k a1 K0 n (IntKind.i64.wrap (v15 + 1)) y198.1 y198.2.1 y198.2.2.1 y198.2.2.2.1 y198.2.2.2.2.1 y198.2.2.2.2.2.1 false false)))))) else (K0 v16 v17 v18 v19 v20 v21 false true))) (cond v24 (if v15 < (a1.size : Int) then (byteD a1 v15 fun b174 => (if (b174.toNat : Int) = (43 : Int) then ((spec_shWalk_step k v16 v17 v18 v19 v20 v21 true false true).bind fun y178 => (if y178.2.2.2.2.2.2.1 = true then (if y178.2.2.2.2.2.2.2 = true then (spec_shValue_l0 k a1 K0 n (IntKind.i64.wrap (v15 + 1)) y178.1 y178.2.1 y178.2.2.1 y178.2.2.2.1 y178.2.2.2.2.1 y178.2.2.2.2.2.1 true true) else (spec_shValue_l0 k a1 K0 n (IntKind.i64.wrap (v15 + 1)) y178.1 y178.2.1 y178.2.2.1 y178.2.2.2.1 y178.2.2.2.2.1 y178.2.2.2.2.2.1 false true)) else (if y178.2.2.2.2.2.2.2 = true then (spec_shValue_l0 k a1 K0 n (IntKind.i64.wrap (v15 + 1)) y178.1 y178.2.1 y178.2.2.1 y178.2.2.2.1 y178.2.2.2.2.1 y178.2.2.2.2.2.1 true false) else (spec_shValue_l0 k a1 K0 n (IntKind.i64.wrap (v15 + 1)) y178.1 y178.2.1 y178.2.2.1 y178.2.2.2.1 y178.2.2.2.2.1 y178.2.2.2.2.2.1 false false)))) else ((spec_shWalk_step k v16 v17 v18 v19 v20 v21 true false false).bind fun y183 => (if y183.2.2.2.2.2.2.1 = true then (if y183.2.2.2.2.2.2.2 = true then (spec_shValue_l0 k a1 K0 n (IntKind.i64.wrap (v15 + 1)) y183.1 y183.2.1 y183.2.2.1 y183.2.2.2.1 y183.2.2.2.2.1 y183.2.2.2.2.2.1 true true) else (spec_shValue_l0 k a1 K0 n (IntKind.i64.wrap (v15 + 1)) y183.1 y183.2.1 y183.2.2.1 y183.2.2.2.1 y183.2.2.2.2.1 y183.2.2.2.2.2.1 false true)) else (if y183.2.2.2.2.2.2.2 = true then (spec_shValue_l0 k a1 K0 n (IntKind.i64.wrap (v15 + 1)) y183.1 y183.2.1 y183.2.2.1 y183.2.2.2.1 y183.2.2.2.2.1 y183.2.2.2.2.2.1 true false) else (spec_shValue_l0 k a1 K0 n (IntKind.i64.wrap (v15 + 1)) y183.1 y183.2.1 y183.2.2.1 y183.2.2.2.1 y183.2.2.2.2.1 y183.2.2.2.2.2.1 false false)))))) else (K0 v16 v17 v18 v19 v20 v21 true false)) (if v15 < (a1.size : Int) then (byteD a1 v15 fun b159 => (if (b159.toNat : Int) = (43 : Int) then ((spec_shWalk_step k v16 v17 v18 v19 v20 v21 false false true).bind fun y163 => (if y163.2.2.2.2.2.2.1 = true then (if y163.2.2.2.2.2.2.2 = true then (spec_shValue_l0 k a1 K0 n (IntKind.i64.wrap (v15 + 1)) y163.1 y163.2.1 y163.2.2.1 y163.2.2.2.1 y163.2.2.2.2.1 y163.2.2.2.2.2.1 true true) else (spec_shValue_l0 k a1 K0 n (IntKind.i64.wrap (v15 + 1)) y163.1 y163.2.1 y163.2.2.1 y163.2.2.2.1 y163.2.2.2.2.1 y163.2.2.2.2.2.1 false true)) else (if y163.2.2.2.2.2.2.2 = true then (spec_shValue_l0 k a1 K0 n (IntKind.i64.wrap (v15 + 1)) y163.1 y163.2.1 y163.2.2.1 y163.2.2.2.1 y163.2.2.2.2.1 y163.2.2.2.2.2.1 true false) else (spec_shValue_l0 k a1 K0 n (IntKind.i64.wrap (v15 + 1)) y163.1 y163.2.1 y163.2.2.1 y163.2.2.2.1 y163.2.2.2.2.1 y163.2.2.2.2.2.1 false false)))) else ((spec_shWalk_step k v16 v17 v18 v19 v20 v21 false false false).bind fun y168 => (if y168.2.2.2.2.2.2.1 = true then (if y168.2.2.2.2.2.2.2 = true then (spec_shValue_l0 k a1 K0 n (IntKind.i64.wrap (v15 + 1)) y168.1 y168.2.1 y168.2.2.1 y168.2.2.2.1 y168.2.2.2.2.1 y168.2.2.2.2.2.1 true true) else (spec_shValue_l0 k a1 K0 n (IntKind.i64.wrap (v15 + 1)) y168.1 y168.2.1 y168.2.2.1 y168.2.2.2.1 y168.2.2.2.2.1 y168.2.2.2.2.2.1 false true)) else (if y168.2.2.2.2.2.2.2 = true then (spec_shValue_l0 k a1 K0 n (IntKind.i64.wrap (v15 + 1)) y168.1 y168.2.1 y168.2.2.1 y168.2.2.2.1 y168.2.2.2.2.1 y168.2.2.2.2.2.1 true false) else (spec_shValue_l0 k a1 K0 n (IntKind.i64.wrap (v15 + 1)) y168.1 y168.2.1 y168.2.2.1 y168.2.2.2.1 y168.2.2.2.2.1 y168.2.2.2.2.2.1 false false)))))) else (K0 v16 v17 v18 v19 v20 v21 false false))))
set_option maxHeartbeats 4000000 in
set_option maxRecDepth 100000 in
theorem spec_shValue_l0_ct {k : Nat} {a1 : ByteArray} {K0 : Int → Int → Int → Int → Int → Int → Bool → Bool → Option (Int × Int)} {r : Int × Int} : ∀ (n : Nat) (v15 : Int) (v16 : Int) (v17 : Int) (v18 : Int) (v19 : Int) (v20 : Int) (v21 : Int) (v22 : Bool) (v24 : Bool), spec_shValue_l0 k a1 K0 n v15 v16 v17 v18 v19 v20 v21 v22 v24 = some r → LoopOk prog 0 (lp f118 0) (mk 20 [(0, .d (D.str a1)), (2, .ptr 128 0), (3, .ptr 192 0), (4, .d (D.int .i64 v15))] [(128, .box 28 [.d (D.int .i64 0), .d (D.int .i64 0)]), (192, .box 139 [.d (D.int .i64 v16), .d (D.int .i64 v17), .d (D.int .i64 v18), .d (D.int .i64 v19), .d (D.int .i64 v20), .d (D.int .i64 v21), .d (D.bool v24), .d (D.bool v22)])]) (LoopEnd prog f118 0 20 (.agg [.d (D.int .i64 r.1), .d (D.int .i64 r.2)]) (⟨[], []⟩) (fun i ts os => (i = 0 ∧ ∃ v45 : Int, ∃ v46 : Int, ∃ v47 : Int, ∃ v48 : Int, ∃ v49 : Int, ∃ v50 : Int, ∃ v51 : Bool, ∃ v52 : Bool, K0 v45 v46 v47 v48 v49 v50 v51 v52 = some r ∧ ts = [(2, .ptr 128 0), (3, .ptr 192 0)] ∧ os = [(128, .box 28 [.d (D.int .i64 0), .d (D.int .i64 0)]), (192, .box 139 [.d (D.int .i64 v45), .d (D.int .i64 v46), .d (D.int .i64 v47), .d (D.int .i64 v48), .d (D.int .i64 v49), .d (D.int .i64 v50), .d (D.bool v51), .d (D.bool v52)])])))
  | 0, _, _, _, _, _, _, _, _, _, h => by
      rw [spec_shValue_l0] at h; cases h
  | n + 1, v15, v16, v17, v18, v19, v20, v21, v22, v24, h => by
      rw [spec_shValue_l0] at h
      cases v22
      · replace h := condF h
        cases v24
        · replace h := condF h
          refine LoopOk.step ?_
          conv => whnf
          refine splD (fun g158 => ?_) (fun g158 => ?_)
          · replace h := iteP h g158
            conv => whnf
            refine splF ?_
            conv => whnf
            refine splF ?_
            conv => whnf
            obtain ⟨g160, b159, e161, h⟩ := byteD_ex h
            refine Req.of g160 ?_
            refine Byte.of _ e161 ?_
            conv => whnf
            refine splD (fun g162 => ?_) (fun g162 => ?_)
            · replace h := iteP h g162
              conv => whnf
              refine Pick.no ?_
              conv => whnf
              obtain ⟨y163, e164, h⟩ := bind_ex h
              refine CallOk.of (spec_shWalk_step_ct e164) ?_
              conv => whnf
              refine spl (fun g165 => ?_) (fun g165 => ?_)
              · replace h := iteT h g165
                conv => whnf
                refine spl (fun g166 => ?_) (fun g166 => ?_)
                · replace h := iteT h g166
                  conv => whnf
                  refine CutK.go ?_
                  conv => whnf
                  exact LoopOk.back (spec_shValue_l0_ct  n _ _ _ _ _ _ _ _ _ h) [some 128, some 192] [] ⟨⟨rfl, rfl⟩, ⟨rfl, ⟨rfl, rfl, rfl, trivial⟩, ⟨rfl, rfl, rfl, rfl, rfl, rfl, rfl, rfl, rfl, trivial⟩, trivial⟩, rfl, ⟨rfl, rfl⟩, ⟨rfl, rfl⟩, rfl, trivial⟩
                · replace h := iteF h g166
                  conv => whnf
                  refine CutK.go ?_
                  conv => whnf
                  exact LoopOk.back (spec_shValue_l0_ct  n _ _ _ _ _ _ _ _ _ h) [some 128, some 192] [] ⟨⟨rfl, rfl⟩, ⟨rfl, ⟨rfl, rfl, rfl, trivial⟩, ⟨rfl, rfl, rfl, rfl, rfl, rfl, rfl, rfl, rfl, trivial⟩, trivial⟩, rfl, ⟨rfl, rfl⟩, ⟨rfl, rfl⟩, rfl, trivial⟩
              · replace h := iteF h g165
                conv => whnf
                refine spl (fun g167 => ?_) (fun g167 => ?_)
                · replace h := iteT h g167
                  conv => whnf
                  refine CutK.go ?_
                  conv => whnf
                  exact LoopOk.back (spec_shValue_l0_ct  n _ _ _ _ _ _ _ _ _ h) [some 128, some 192] [] ⟨⟨rfl, rfl⟩, ⟨rfl, ⟨rfl, rfl, rfl, trivial⟩, ⟨rfl, rfl, rfl, rfl, rfl, rfl, rfl, rfl, rfl, trivial⟩, trivial⟩, rfl, ⟨rfl, rfl⟩, ⟨rfl, rfl⟩, rfl, trivial⟩
                · replace h := iteF h g167
                  conv => whnf
                  refine CutK.go ?_
                  conv => whnf
                  exact LoopOk.back (spec_shValue_l0_ct  n _ _ _ _ _ _ _ _ _ h) [some 128, some 192] [] ⟨⟨rfl, rfl⟩, ⟨rfl, ⟨rfl, rfl, rfl, trivial⟩, ⟨rfl, rfl, rfl, rfl, rfl, rfl, rfl, rfl, rfl, trivial⟩, trivial⟩, rfl, ⟨rfl, rfl⟩, ⟨rfl, rfl⟩, rfl, trivial⟩
            · replace h := iteN h g162
              conv => whnf
              refine Pick.no ?_
              conv => whnf
              obtain ⟨y168, e169, h⟩ := bind_ex h
              refine CallOk.of (spec_shWalk_step_ct e169) ?_
              conv => whnf
              refine spl (fun g170 => ?_) (fun g170 => ?_)
              · replace h := iteT h g170
                conv => whnf
                refine spl (fun g171 => ?_) (fun g171 => ?_)
                · replace h := iteT h g171
                  conv => whnf
                  refine CutK.go ?_
                  conv => whnf
                  exact LoopOk.back (spec_shValue_l0_ct  n _ _ _ _ _ _ _ _ _ h) [some 128, some 192] [] ⟨⟨rfl, rfl⟩, ⟨rfl, ⟨rfl, rfl, rfl, trivial⟩, ⟨rfl, rfl, rfl, rfl, rfl, rfl, rfl, rfl, rfl, trivial⟩, trivial⟩, rfl, ⟨rfl, rfl⟩, ⟨rfl, rfl⟩, rfl, trivial⟩
                · replace h := iteF h g171
                  conv => whnf
                  refine CutK.go ?_
                  conv => whnf
                  exact LoopOk.back (spec_shValue_l0_ct  n _ _ _ _ _ _ _ _ _ h) [some 128, some 192] [] ⟨⟨rfl, rfl⟩, ⟨rfl, ⟨rfl, rfl, rfl, trivial⟩, ⟨rfl, rfl, rfl, rfl, rfl, rfl, rfl, rfl, rfl, trivial⟩, trivial⟩, rfl, ⟨rfl, rfl⟩, ⟨rfl, rfl⟩, rfl, trivial⟩
              · replace h := iteF h g170
                conv => whnf
                refine spl (fun g172 => ?_) (fun g172 => ?_)
                · replace h := iteT h g172
                  conv => whnf
                  refine CutK.go ?_
                  conv => whnf
                  exact LoopOk.back (spec_shValue_l0_ct  n _ _ _ _ _ _ _ _ _ h) [some 128, some 192] [] ⟨⟨rfl, rfl⟩, ⟨rfl, ⟨rfl, rfl, rfl, trivial⟩, ⟨rfl, rfl, rfl, rfl, rfl, rfl, rfl, rfl, rfl, trivial⟩, trivial⟩, rfl, ⟨rfl, rfl⟩, ⟨rfl, rfl⟩, rfl, trivial⟩
                · replace h := iteF h g172
                  conv => whnf
                  refine CutK.go ?_
                  conv => whnf
                  exact LoopOk.back (spec_shValue_l0_ct  n _ _ _ _ _ _ _ _ _ h) [some 128, some 192] [] ⟨⟨rfl, rfl⟩, ⟨rfl, ⟨rfl, rfl, rfl, trivial⟩, ⟨rfl, rfl, rfl, rfl, rfl, rfl, rfl, rfl, rfl, trivial⟩, trivial⟩, rfl, ⟨rfl, rfl⟩, ⟨rfl, rfl⟩, rfl, trivial⟩
          · replace h := iteN h g158
            conv => whnf
            exact ⟨_, _, [some 128, some 192], [], ⟨rfl, _, _, _, _, _, _, _, _, h, rfl, rfl⟩, ⟨⟨rfl, rfl⟩, ⟨rfl, ⟨rfl, rfl, rfl, trivial⟩, ⟨rfl, rfl, rfl, rfl, rfl, rfl, rfl, rfl, rfl, trivial⟩, trivial⟩, ⟨rfl, rfl⟩, ⟨rfl, rfl⟩, trivial⟩⟩
        · replace h := condT h
          refine LoopOk.step ?_
          conv => whnf
          refine splD (fun g173 => ?_) (fun g173 => ?_)
          · replace h := iteP h g173
            conv => whnf
            refine splT ?_
            conv => whnf
            refine splF ?_
            conv => whnf
            obtain ⟨g175, b174, e176, h⟩ := byteD_ex h
            refine Req.of g175 ?_
            refine Byte.of _ e176 ?_
            conv => whnf
            refine splD (fun g177 => ?_) (fun g177 => ?_)
            · replace h := iteP h g177
              conv => whnf
              refine Pick.no ?_
              conv => whnf
              obtain ⟨y178, e179, h⟩ := bind_ex h
              refine CallOk.of (spec_shWalk_step_ct e179) ?_
              conv => whnf
              refine spl (fun g180 => ?_) (fun g180 => ?_)
              · replace h := iteT h g180
                conv => whnf
                refine spl (fun g181 => ?_) (fun g181 => ?_)
                · replace h := iteT h g181
                  conv => whnf
                  refine CutK.go ?_
                  conv => whnf
                  exact LoopOk.back (spec_shValue_l0_ct  n _ _ _ _ _ _ _ _ _ h) [some 128, some 192] [] ⟨⟨rfl, rfl⟩, ⟨rfl, ⟨rfl, rfl, rfl, trivial⟩, ⟨rfl, rfl, rfl, rfl, rfl, rfl, rfl, rfl, rfl, trivial⟩, trivial⟩, rfl, ⟨rfl, rfl⟩, ⟨rfl, rfl⟩, rfl, trivial⟩
                · replace h := iteF h g181
                  conv => whnf
                  refine CutK.go ?_
                  conv => whnf
                  exact LoopOk.back (spec_shValue_l0_ct  n _ _ _ _ _ _ _ _ _ h) [some 128, some 192] [] ⟨⟨rfl, rfl⟩, ⟨rfl, ⟨rfl, rfl, rfl, trivial⟩, ⟨rfl, rfl, rfl, rfl, rfl, rfl, rfl, rfl, rfl, trivial⟩, trivial⟩, rfl, ⟨rfl, rfl⟩, ⟨rfl, rfl⟩, rfl, trivial⟩
              · replace h := iteF h g180
                conv => whnf
                refine spl (fun g182 => ?_) (fun g182 => ?_)
                · replace h := iteT h g182
                  conv => whnf
                  refine CutK.go ?_
                  conv => whnf
                  exact LoopOk.back (spec_shValue_l0_ct  n _ _ _ _ _ _ _ _ _ h) [some 128, some 192] [] ⟨⟨rfl, rfl⟩, ⟨rfl, ⟨rfl, rfl, rfl, trivial⟩, ⟨rfl, rfl, rfl, rfl, rfl, rfl, rfl, rfl, rfl, trivial⟩, trivial⟩, rfl, ⟨rfl, rfl⟩, ⟨rfl, rfl⟩, rfl, trivial⟩
                · replace h := iteF h g182
                  conv => whnf
                  refine CutK.go ?_
                  conv => whnf
                  exact LoopOk.back (spec_shValue_l0_ct  n _ _ _ _ _ _ _ _ _ h) [some 128, some 192] [] ⟨⟨rfl, rfl⟩, ⟨rfl, ⟨rfl, rfl, rfl, trivial⟩, ⟨rfl, rfl, rfl, rfl, rfl, rfl, rfl, rfl, rfl, trivial⟩, trivial⟩, rfl, ⟨rfl, rfl⟩, ⟨rfl, rfl⟩, rfl, trivial⟩
            · replace h := iteN h g177
              conv => whnf
              refine Pick.no ?_
              conv => whnf
              obtain ⟨y183, e184, h⟩ := bind_ex h
              refine CallOk.of (spec_shWalk_step_ct e184) ?_
              conv => whnf
              refine spl (fun g185 => ?_) (fun g185 => ?_)
              · replace h := iteT h g185
                conv => whnf
                refine spl (fun g186 => ?_) (fun g186 => ?_)
                · replace h := iteT h g186
                  conv => whnf
                  refine CutK.go ?_
                  conv => whnf
                  exact LoopOk.back (spec_shValue_l0_ct  n _ _ _ _ _ _ _ _ _ h) [some 128, some 192] [] ⟨⟨rfl, rfl⟩, ⟨rfl, ⟨rfl, rfl, rfl, trivial⟩, ⟨rfl, rfl, rfl, rfl, rfl, rfl, rfl, rfl, rfl, trivial⟩, trivial⟩, rfl, ⟨rfl, rfl⟩, ⟨rfl, rfl⟩, rfl, trivial⟩
                · replace h := iteF h g186
                  conv => whnf
                  refine CutK.go ?_
                  conv => whnf
                  exact LoopOk.back (spec_shValue_l0_ct  n _ _ _ _ _ _ _ _ _ h) [some 128, some 192] [] ⟨⟨rfl, rfl⟩, ⟨rfl, ⟨rfl, rfl, rfl, trivial⟩, ⟨rfl, rfl, rfl, rfl, rfl, rfl, rfl, rfl, rfl, trivial⟩, trivial⟩, rfl, ⟨rfl, rfl⟩, ⟨rfl, rfl⟩, rfl, trivial⟩
              · replace h := iteF h g185
                conv => whnf
                refine spl (fun g187 => ?_) (fun g187 => ?_)
                · replace h := iteT h g187
                  conv => whnf
                  refine CutK.go ?_
                  conv => whnf
                  exact LoopOk.back (spec_shValue_l0_ct  n _ _ _ _ _ _ _ _ _ h) [some 128, some 192] [] ⟨⟨rfl, rfl⟩, ⟨rfl, ⟨rfl, rfl, rfl, trivial⟩, ⟨rfl, rfl, rfl, rfl, rfl, rfl, rfl, rfl, rfl, trivial⟩, trivial⟩, rfl, ⟨rfl, rfl⟩, ⟨rfl, rfl⟩, rfl, trivial⟩
                · replace h := iteF h g187
                  conv => whnf
                  refine CutK.go ?_
                  conv => whnf
                  exact LoopOk.back (spec_shValue_l0_ct  n _ _ _ _ _ _ _ _ _ h) [some 128, some 192] [] ⟨⟨rfl, rfl⟩, ⟨rfl, ⟨rfl, rfl, rfl, trivial⟩, ⟨rfl, rfl, rfl, rfl, rfl, rfl, rfl, rfl, rfl, trivial⟩, trivial⟩, rfl, ⟨rfl, rfl⟩, ⟨rfl, rfl⟩, rfl, trivial⟩
          · replace h := iteN h g173
            conv => whnf
            exact ⟨_, _, [some 128, some 192], [], ⟨rfl, _, _, _, _, _, _, _, _, h, rfl, rfl⟩, ⟨⟨rfl, rfl⟩, ⟨rfl, ⟨rfl, rfl, rfl, trivial⟩, ⟨rfl, rfl, rfl, rfl, rfl, rfl, rfl, rfl, rfl, trivial⟩, trivial⟩, ⟨rfl, rfl⟩, ⟨rfl, rfl⟩, trivial⟩⟩
      · replace h := condT h
        cases v24
        · replace h := condF h
          refine LoopOk.step ?_
          conv => whnf
          refine splD (fun g188 => ?_) (fun g188 => ?_)
          · replace h := iteP h g188
            conv => whnf
            refine splF ?_
            conv => whnf
            refine splT ?_
            conv => whnf
            obtain ⟨g190, b189, e191, h⟩ := byteD_ex h
            refine Req.of g190 ?_
            refine Byte.of _ e191 ?_
            conv => whnf
            refine splD (fun g192 => ?_) (fun g192 => ?_)
            · replace h := iteP h g192
              conv => whnf
              refine Pick.no ?_
              conv => whnf
              obtain ⟨y193, e194, h⟩ := bind_ex h
              refine CallOk.of (spec_shWalk_step_ct e194) ?_
              conv => whnf
              refine spl (fun g195 => ?_) (fun g195 => ?_)
              · replace h := iteT h g195
                conv => whnf
                refine spl (fun g196 => ?_) (fun g196 => ?_)
                · replace h := iteT h g196
                  conv => whnf
                  refine CutK.go ?_
                  conv => whnf
                  exact LoopOk.back (spec_shValue_l0_ct  n _ _ _ _ _ _ _ _ _ h) [some 128, some 192] [] ⟨⟨rfl, rfl⟩, ⟨rfl, ⟨rfl, rfl, rfl, trivial⟩, ⟨rfl, rfl, rfl, rfl, rfl, rfl, rfl, rfl, rfl, trivial⟩, trivial⟩, rfl, ⟨rfl, rfl⟩, ⟨rfl, rfl⟩, rfl, trivial⟩
                · replace h := iteF h g196
                  conv => whnf
                  refine CutK.go ?_
                  conv => whnf
                  exact LoopOk.back (spec_shValue_l0_ct  n _ _ _ _ _ _ _ _ _ h) [some 128, some 192] [] ⟨⟨rfl, rfl⟩, ⟨rfl, ⟨rfl, rfl, rfl, trivial⟩, ⟨rfl, rfl, rfl, rfl, rfl, rfl, rfl, rfl, rfl, trivial⟩, trivial⟩, rfl, ⟨rfl, rfl⟩, ⟨rfl, rfl⟩, rfl, trivial⟩
              · replace h := iteF h g195
                conv => whnf
                refine spl (fun g197 => ?_) (fun g197 => ?_)
                · replace h := iteT h g197
                  conv => whnf
                  refine CutK.go ?_
                  conv => whnf
                  exact LoopOk.back (spec_shValue_l0_ct  n _ _ _ _ _ _ _ _ _ h) [some 128, some 192] [] ⟨⟨rfl, rfl⟩, ⟨rfl, ⟨rfl, rfl, rfl, trivial⟩, ⟨rfl, rfl, rfl, rfl, rfl, rfl, rfl, rfl, rfl, trivial⟩, trivial⟩, rfl, ⟨rfl, rfl⟩, ⟨rfl, rfl⟩, rfl, trivial⟩
                · replace h := iteF h g197
                  conv => whnf
                  refine CutK.go ?_
                  conv => whnf
                  exact LoopOk.back (spec_shValue_l0_ct  n _ _ _ _ _ _ _ _ _ h) [some 128, some 192] [] ⟨⟨rfl, rfl⟩, ⟨rfl, ⟨rfl, rfl, rfl, trivial⟩, ⟨rfl, rfl, rfl, rfl, rfl, rfl, rfl, rfl, rfl, trivial⟩, trivial⟩, rfl, ⟨rfl, rfl⟩, ⟨rfl, rfl⟩, rfl, trivial⟩
            · replace h := iteN h g192
              conv => whnf
              refine Pick.no ?_
              conv => whnf
              obtain ⟨y198, e199, h⟩ := bind_ex h
              refine CallOk.of (spec_shWalk_step_ct e199) ?_
              conv => whnf
              refine spl (fun g200 => ?_) (fun g200 => ?_)
              · replace h := iteT h g200
                conv => whnf
                refine spl (fun g201 => ?_) (fun g201 => ?_)
                · replace h := iteT h g201
                  conv => whnf
                  refine CutK.go ?_
                  conv => whnf
                  exact LoopOk.back (spec_shValue_l0_ct  n _ _ _ _ _ _ _ _ _ h) [some 128, some 192] [] ⟨⟨rfl, rfl⟩, ⟨rfl, ⟨rfl, rfl, rfl, trivial⟩, ⟨rfl, rfl, rfl, rfl, rfl, rfl, rfl, rfl, rfl, trivial⟩, trivial⟩, rfl, ⟨rfl, rfl⟩, ⟨rfl, rfl⟩, rfl, trivial⟩
                · replace h := iteF h g201
                  conv => whnf
                  refine CutK.go ?_
                  conv => whnf
                  exact LoopOk.back (spec_shValue_l0_ct  n _ _ _ _ _ _ _ _ _ h) [some 128, some 192] [] ⟨⟨rfl, rfl⟩, ⟨rfl, ⟨rfl, rfl, rfl, trivial⟩, ⟨rfl, rfl, rfl, rfl, rfl, rfl, rfl, rfl, rfl, trivial⟩, trivial⟩, rfl, ⟨rfl, rfl⟩, ⟨rfl, rfl⟩, rfl, trivial⟩
              · replace h := iteF h g200
                conv => whnf
                refine spl (fun g202 => ?_) (fun g202 => ?_)
                · replace h := iteT h g202
                  conv => whnf
                  refine CutK.go ?_
                  conv => whnf
                  exact LoopOk.back (spec_shValue_l0_ct  n _ _ _ _ _ _ _ _ _ h) [some 128, some 192] [] ⟨⟨rfl, rfl⟩, ⟨rfl, ⟨rfl, rfl, rfl, trivial⟩, ⟨rfl, rfl, rfl, rfl, rfl, rfl, rfl, rfl, rfl, trivial⟩, trivial⟩, rfl, ⟨rfl, rfl⟩, ⟨rfl, rfl⟩, rfl, trivial⟩
                · replace h := iteF h g202
                  conv => whnf
                  refine CutK.go ?_
                  conv => whnf
                  exact LoopOk.back (spec_shValue_l0_ct  n _ _ _ _ _ _ _ _ _ h) [some 128, some 192] [] ⟨⟨rfl, rfl⟩, ⟨rfl, ⟨rfl, rfl, rfl, trivial⟩, ⟨rfl, rfl, rfl, rfl, rfl, rfl, rfl, rfl, rfl, trivial⟩, trivial⟩, rfl, ⟨rfl, rfl⟩, ⟨rfl, rfl⟩, rfl, trivial⟩
          · replace h := iteN h g188
            conv => whnf
            exact ⟨_, _, [some 128, some 192], [], ⟨rfl, _, _, _, _, _, _, _, _, h, rfl, rfl⟩, ⟨⟨rfl, rfl⟩, ⟨rfl, ⟨rfl, rfl, rfl, trivial⟩, ⟨rfl, rfl, rfl, rfl, rfl, rfl, rfl, rfl, rfl, trivial⟩, trivial⟩, ⟨rfl, rfl⟩, ⟨rfl, rfl⟩, trivial⟩⟩
        · replace h := condT h
          refine LoopOk.step ?_
          conv => whnf
          refine splD (fun g203 => ?_) (fun g203 => ?_)
          · replace h := iteP h g203
            conv => whnf
            refine splT ?_
            conv => whnf
            refine splT ?_
            conv => whnf
            obtain ⟨g205, b204, e206, h⟩ := byteD_ex h
            refine Req.of g205 ?_
            refine Byte.of _ e206 ?_
            conv => whnf
            refine splD (fun g207 => ?_) (fun g207 => ?_)
            · replace h := iteP h g207
              conv => whnf
              refine Pick.no ?_
              conv => whnf
              obtain ⟨y208, e209, h⟩ := bind_ex h
              refine CallOk.of (spec_shWalk_step_ct e209) ?_
              conv => whnf
              refine spl (fun g210 => ?_) (fun g210 => ?_)
              · replace h := iteT h g210
                conv => whnf
                refine spl (fun g211 => ?_) (fun g211 => ?_)
                · replace h := iteT h g211
                  conv => whnf
                  refine CutK.go ?_
                  conv => whnf
                  exact LoopOk.back (spec_shValue_l0_ct  n _ _ _ _ _ _ _ _ _ h) [some 128, some 192] [] ⟨⟨rfl, rfl⟩, ⟨rfl, ⟨rfl, rfl, rfl, trivial⟩, ⟨rfl, rfl, rfl, rfl, rfl, rfl, rfl, rfl, rfl, trivial⟩, trivial⟩, rfl, ⟨rfl, rfl⟩, ⟨rfl, rfl⟩, rfl, trivial⟩
                · replace h := iteF h g211
                  conv => whnf
                  refine CutK.go ?_
                  conv => whnf
                  exact LoopOk.back (spec_shValue_l0_ct  n _ _ _ _ _ _ _ _ _ h) [some 128, some 192] [] ⟨⟨rfl, rfl⟩, ⟨rfl, ⟨rfl, rfl, rfl, trivial⟩, ⟨rfl, rfl, rfl, rfl, rfl, rfl, rfl, rfl, rfl, trivial⟩, trivial⟩, rfl, ⟨rfl, rfl⟩, ⟨rfl, rfl⟩, rfl, trivial⟩
              · replace h := iteF h g210
                conv => whnf
                refine spl (fun g212 => ?_) (fun g212 => ?_)
                · replace h := iteT h g212
                  conv => whnf
                  refine CutK.go ?_
                  conv => whnf
                  exact LoopOk.back (spec_shValue_l0_ct  n _ _ _ _ _ _ _ _ _ h) [some 128, some 192] [] ⟨⟨rfl, rfl⟩, ⟨rfl, ⟨rfl, rfl, rfl, trivial⟩, ⟨rfl, rfl, rfl, rfl, rfl, rfl, rfl, rfl, rfl, trivial⟩, trivial⟩, rfl, ⟨rfl, rfl⟩, ⟨rfl, rfl⟩, rfl, trivial⟩
                · replace h := iteF h g212
                  conv => whnf
                  refine CutK.go ?_
                  conv => whnf
                  exact LoopOk.back (spec_shValue_l0_ct  n _ _ _ _ _ _ _ _ _ h) [some 128, some 192] [] ⟨⟨rfl, rfl⟩, ⟨rfl, ⟨rfl, rfl, rfl, trivial⟩, ⟨rfl, rfl, rfl, rfl, rfl, rfl, rfl, rfl, rfl, trivial⟩, trivial⟩, rfl, ⟨rfl, rfl⟩, ⟨rfl, rfl⟩, rfl, trivial⟩
            · replace h := iteN h g207
              conv => whnf
              refine Pick.no ?_
              conv => whnf
              obtain ⟨y213, e214, h⟩ := bind_ex h
              refine CallOk.of (spec_shWalk_step_ct e214) ?_
              conv => whnf
              refine spl (fun g215 => ?_) (fun g215 => ?_)
              · replace h := iteT h g215
                conv => whnf
                refine spl (fun g216 => ?_) (fun g216 => ?_)
                · replace h := iteT h g216
                  conv => whnf
                  refine CutK.go ?_
                  conv => whnf
                  exact LoopOk.back (spec_shValue_l0_ct  n _ _ _ _ _ _ _ _ _ h) [some 128, some 192] [] ⟨⟨rfl, rfl⟩, ⟨rfl, ⟨rfl, rfl, rfl, trivial⟩, ⟨rfl, rfl, rfl, rfl, rfl, rfl, rfl, rfl, rfl, trivial⟩, trivial⟩, rfl, ⟨rfl, rfl⟩, ⟨rfl, rfl⟩, rfl, trivial⟩
                · replace h := iteF h g216
                  conv => whnf
                  refine CutK.go ?_
                  conv => whnf
                  exact LoopOk.back (spec_shValue_l0_ct  n _ _ _ _ _ _ _ _ _ h) [some 128, some 192] [] ⟨⟨rfl, rfl⟩, ⟨rfl, ⟨rfl, rfl, rfl, trivial⟩, ⟨rfl, rfl, rfl, rfl, rfl, rfl, rfl, rfl, rfl, trivial⟩, trivial⟩, rfl, ⟨rfl, rfl⟩, ⟨rfl, rfl⟩, rfl, trivial⟩
              · replace h := iteF h g215
                conv => whnf
                refine spl (fun g217 => ?_) (fun g217 => ?_)
                · replace h := iteT h g217
                  conv => whnf
                  refine CutK.go ?_
                  conv => whnf
                  exact LoopOk.back (spec_shValue_l0_ct  n _ _ _ _ _ _ _ _ _ h) [some 128, some 192] [] ⟨⟨rfl, rfl⟩, ⟨rfl, ⟨rfl, rfl, rfl, trivial⟩, ⟨rfl, rfl, rfl, rfl, rfl, rfl, rfl, rfl, rfl, trivial⟩, trivial⟩, rfl, ⟨rfl, rfl⟩, ⟨rfl, rfl⟩, rfl, trivial⟩
                · replace h := iteF h g217
                  conv => whnf
                  refine CutK.go ?_
                  conv => whnf
                  exact LoopOk.back (spec_shValue_l0_ct  n _ _ _ _ _ _ _ _ _ h) [some 128, some 192] [] ⟨⟨rfl, rfl⟩, ⟨rfl, ⟨rfl, rfl, rfl, trivial⟩, ⟨rfl, rfl, rfl, rfl, rfl, rfl, rfl, rfl, rfl, trivial⟩, trivial⟩, rfl, ⟨rfl, rfl⟩, ⟨rfl, rfl⟩, rfl, trivial⟩
          · replace h := iteN h g203
            conv => whnf
            exact ⟨_, _, [some 128, some 192], [], ⟨rfl, _, _, _, _, _, _, _, _, h, rfl, rfl⟩, ⟨⟨rfl, rfl⟩, ⟨rfl, ⟨rfl, rfl, rfl, trivial⟩, ⟨rfl, rfl, rfl, rfl, rfl, rfl, rfl, rfl, rfl, trivial⟩, trivial⟩, ⟨rfl, rfl⟩, ⟨rfl, rfl⟩, trivial⟩⟩
def spec_shValue_l0_2 (k : Nat) (a1 : ByteArray) (K0 : Int → Int → Int → Int → Int → Int → Bool → Bool → Option (Int × Int)) : Nat → Int → Int → Int → Int → Int → Int → Int → Bool → Bool → Option (Int × Int)
  | 0, _, _, _, _, _, _, _, _, _ => none
  | n + 1, v227, v228, v229, v230, v231, v232, v233, v234, v236 => (cond v234 (cond v236 (if v227 < (a1.size : Int) then (byteD a1 v227 fun b416 => (if (b416.toNat : Int) = (43 : Int) then ((spec_shWalk_step k v228 v229 v230 v231 v232 v233 true true true).bind fun y420 => (if y420.2.2.2.2.2.2.1 = true then (if y420.2.2.2.2.2.2.2 = true then (spec_shValue_l0_2 k a1 K0 n (IntKind.i64.wrap (v227 + 1)) y420.1 y420.2.1 y420.2.2.1 y420.2.2.2.1 y420.2.2.2.2.1 y420.2.2.2.2.2.1 true true) else (spec_shValue_l0_2 k a1 K0 n (IntKind.i64.wrap (v227 + 1)) y420.1 y420.2.1 y420.2.2.1 y420.2.2.2.1 y420.2.2.2.2.1 y420.2.2.2.2.2.1 false true)) else (if y420.2.2.2.2.2.2.2 = true then (spec_shValue_l0_2 k a1 K0 n (IntKind.i64.wrap (v227 + 1)) y420.1 y420.2.1 y420.2.2.1 y420.2.2.2.1 y420.2.2.2.2.1 y420.2.2.2.2.2.1 true false) else (spec_shValue_l0_2 k a1 K0 n (IntKind.i64.wrap (v227 + 1)) y420.1 y420.2.1 y420.2.2.1 y420.2.2.2.1 y420.2.2.2.2.1 y420.2.2.2.2.2.1 false false)))) else ((spec_shWalk_step k v228 v229 v230 v231 v232 v233 true true false).bind fun y425 => (if y425.2.2.2.2.2.2.1 = true then (if y425.2.2.2.2.2.2.2 = true then (spec_shValue_l0_2 k a1 K0 n (IntKind.i64.wrap (v227 + 1)) y425.1 y425.2.1 y425.2.2.1 y425.2.2.2.1 y425.2.2.2.2.1 y425.2.2.2.2.2.1 true true) else (spec_shValue_l0_2 k a1 K0 n (IntKind.i64.wrap (v227 + 1)) y425.1 y425.2.1 y425.2.2.1 y425.2.2.2.1 y425.2.2.2.2.1 y425.2.2.2.2.2.1 false true)) else (if y425.2.2.2.2.2.2.2 = true then (spec_shValue_l0_2 k a1 K0 n (IntKind.i64.wrap (v227 + 1)) y425.1 y425.2.1 y425.2.2.1 y425.2.2.2.1 y425.2.2.2.2.1 y425.2.2.2.2.2.1 true false) else (spec_shValue_l0_2 k a1 K0 n (IntKind.i64.wrap (v227 + 1)) y425.1 y425.2.1 y425.2.2.1 y425.2.2.2.1 y425.2.2.2.2.1 y425.2.2.2.2.2.1 false false)))))) else (K0 v228 v229 v230 v231 v232 v233 true true)) (if v227 < (a1.size : Int) then (byteD a1 v227 fun b401 => (if (b401.toNat : Int) = (43 : Int) then ((spec_shWalk_step k v228 v229 v230 v231 v232 v233 false true true).bind fun y405 => (if y405.2.2.2.2.2.2.1 = true then (if y405.2.2.2.2.2.2.2 = true then (spec_shValue_l0_2 k a1 K0 n (IntKind.i64.wrap (v227 + 1)) y405.1 y405.2.1 y405.2.2.1 y405.2.2.2.1 y405.2.2.2.2.1 y405.2.2.2.2.2.1 true true) else (spec_shValue_l0_2 k a1 K0 n (IntKind.i64.wrap (v227 + 1)) y405.1 y405.2.1 y405.2.2.1 y405.2.2.2.1 y405.2.2.2.2.1 y405.2.2.2.2.2.1 false true)) else (if y405.2.2.2.2.2.2.2 = true then (spec_shValue_l0_2 k a1 K0 n (IntKind.i64.wrap (v227 + 1)) y405.1 y405.2.1 y405.2.2.1 y405.2.2.2.1 y405.2.2.2.2.1 y405.2.2.2.2.2.1 true false) else (spec_shValue_l0_2 k a1 K0 n (IntKind.i64.wrap (v227 + 1)) y405.1 y405.2.1 y405.2.2.1 y405.2.2.2.1 y405.2.2.2.2.1 y405.2.2.2.2.2.1 false false)))) else ((spec_shWalk_step k v228 v229 v230 v231 v232 v233 false true false).bind fun y410 => (if y410.2.2.2.2.2.2.1 = true then (if y410.2.2.2.2.2.2.2 = true then (spec_shValue_l0_2 k a1 K0 n (IntKind.i64.wrap (v227 + 1)) y410.1 y410.2.1 y410.2.2.1 y410.2.2.2.1 y410.2.2.2.2.1 y410.2.2.2.2.2.1 true true) else (spec_shValue_l0_2 k a1 K0 n (IntKind.i64.wrap (v227 + 1)) y410.1 y410.2.1 y410.2.2.1 y410.2.2.2.1 y410.2.2.2.2.1 y410.2.2.2.2.2.1 false true)) else (if y410.2.2.2.2.2.2.2 = true then (spec_shValue_l0_2 k a1 K0 n (IntKind.i64.wrap (v227 + 1)) y410.1 y410.2.1 y410.2.2.1 y410.2.2.2.1 y410.2.2.2.2.1 y410.2.2.2.2.2.1 true false) else (spec_shValue_l0_2 k a1 K0 n (IntKind.i64.wrap (v227 + 1)) y410.1 y410.2.1 y410.2.2.1 y410.2.2.2.1 y410.2.2.2.2.1 y410.2.2.2.2.2.1 false false)))))) else (K0 v228 v229 v230 v231 v232 v233 false true))) (cond v236 (if v227 < (a1.size : Int) then (byteD a1 v227 fun b386 => (if (b386.toNat : Int) = (43 : Int) then ((spec_shWalk_step k v228 v229 v230 v231 v232 v233 true false true).bind fun y390 => (if y390.2.2.2.2.2.2.1 = true then (if y390.2.2.2.2.2.2.2 = true then (spec_shValue_l0_2 k a1 K0 n (IntKind.i64.wrap (v227 + 1)) y390.1 y390.2.1 y390.2.2.1 y390.2.2.2.1 y390.2.2.2.2.1 y390.2.2.2.2.2.1 true true) else (spec_shValue_l0_2 k a1 K0 n (IntKind.i64.wrap (v227 + 1)) y390.1 y390.2.1 y390.2.2.1 y390.2.2.2.1 y390.2.2.2.2.1 y390.2.2.2.2.2.1 false true)) else (if y390.2.2.2.2.2.2.2 = true then (spec_shValue_l0_2 k a1 K0 n (IntKind.i64.wrap (v227 + 1)) y390.1 y390.2.1 y390.2.2.1 y390.2.2.2.1 y390.2.2.2.2.1 y390.2.2.2.2.2.1 true false) else (spec_shValue_l0_2 k a1 K0 n (IntKind.i64.wrap (v227 + 1)) y390.1 y390.2.1 y390.2.2.1 y390.2.2.2.1 y390.2.2.2.2.1 y390.2.2.2.2.2.1 false false)))) else ((spec_shWalk_step k v228 v229 v230 v231 v232 v233 true false false).bind fun y395 => (if y395.2.2.2.2.2.2.1 = true then (if y395.2.2.2.2.2.2.2 = true then (spec_shValue_l0_2 k a1 K0 n (IntKind.i64.wrap (v227 + 1)) y395.1 y395.2.1 y395.2.2.1 y395.2.2.2.1 y395.2.2.2.2.1 y395.2.2.2.2.2.1 true true) else (spec_shValue_l0_2 k a1 K0 n (IntKind.i64.wrap (v227 + 1)) y395.1 y395.2.1 y395.2.2.1 y395.2.2.2.1 y395.2.2.2.2.1 y395.2.2.2.2.2.1 false true)) else (if y395.2.2.2.2.2.2.2 = true then (spec_shValue_l0_2 k a1 K0 n (IntKind.i64.wrap (v227 + 1)) y395.1 y395.2.1 y395.2.2.1 y395.2.2.2.1 y395.2.2.2.2.1 y395.2.2.2.2.2.1 true false) else (spec_shValue_l0_2 k a1 K0 n (IntKind.i64.wrap (v227 + 1)) y395.1 y395.2.1 y395.2.2.1 y395.2.2.2.1 y395.2.2.2.2.1 y395.2.2.2.2.2.1 false false)))))) else (K0 v228 v229 v230 v231 v232 v233 true false)) (if v227 < (a1.size : Int) then (byteD a1 v227 fun b371 => (if (b371.toNat : Int) = (43 : Int) then ((spec_shWalk_step k v228 v229 v230 v231 v232 v233 false false true).bind fun y375 => (if y375.2.2.2.2.2.2.1 = true then (if y375.2.2.2.2.2.2.2 = true then (spec_shValue_l0_2 k a1 K0 n (IntKind.i64.wrap (v227 + 1)) y375.1 y375.2.1 y375.2.2.1 y375.2.2.2.1 y375.2.2.2.2.1 y375.2.2.2.2.2.1 true true) else (spec_shValue_l0_2 k a1 K0 n (IntKind.i64.wrap (v227 + 1)) y375.1 y375.2.1 y375.2.2.1 y375.2.2.2.1 y375.2.2.2.2.1 y375.2.2.2.2.2.1 false true)) else (if y375.2.2.2.2.2.2.2 = true then (spec_shValue_l0_2 k a1 K0 n (IntKind.i64.wrap (v227 + 1)) y375.1 y375.2.1 y375.2.2.1 y375.2.2.2.1 y375.2.2.2.2.1 y375.2.2.2.2.2.1 true false) else (spec_shValue_l0_2 k a1 K0 n (IntKind.i64.wrap (v227 + 1)) y375.1 y375.2.1 y375.2.2.1 y375.2.2.2.1 y375.2.2.2.2.1 y375.2.2.2.2.2.1 false false)))) else ((spec_shWalk_step k v228 v229 v230 v231 v232 v233 false false false).bind fun y380 => (if y380.2.2.2.2.2.2.1 = true then (if y380.2.2.2.2.2.2.2 = true then (spec_shValue_l0_2 k a1 K0 n (IntKind.i64.wrap (v227 + 1)) y380.1 y380.2.1 y380.2.2.1 y380.2.2.2.1 y380.2.2.2.2.1 y380.2.2.2.2.2.1 true true) else (spec_shValue_l0_2 k a1 K0 n (IntKind.i64.wrap (v227 + 1)) y380.1 y380.2.1 y380.2.2.1 y380.2.2.2.1 y380.2.2.2.2.1 y380.2.2.2.2.2.1 false true)) else (if y380.2.2.2.2.2.2.2 = true then (spec_shValue_l0_2 k a1 K0 n (IntKind.i64.wrap (v227 + 1)) y380.1 y380.2.1 y380.2.2.1 y380.2.2.2.1 y380.2.2.2.2.1 y380.2.2.2.2.2.1 true false) else (spec_shValue_l0_2 k a1 K0 n (IntKind.i64.wrap (v227 + 1)) y380.1 y380.2.1 y380.2.2.1 y380.2.2.2.1 y380.2.2.2.2.1 y380.2.2.2.2.2.1 false false)))))) else (K0 v228 v229 v230 v231 v232 v233 false false))))
set_option maxHeartbeats 4000000 in
set_option maxRecDepth 100000 in
theorem spec_shValue_l0_2_ct {k : Nat} {a1 : ByteArray} {K0 : Int → Int → Int → Int → Int → Int → Bool → Bool → Option (Int × Int)} {r : Int × Int} : ∀ (n : Nat) (v227 : Int) (v228 : Int) (v229 : Int) (v230 : Int) (v231 : Int) (v232 : Int) (v233 : Int) (v234 : Bool) (v236 : Bool), spec_shValue_l0_2 k a1 K0 n v227 v228 v229 v230 v231 v232 v233 v234 v236 = some r → LoopOk prog 0 (lp f118 0) (mk 20 [(0, .d (D.str a1)), (2, .ptr 128 0), (3, .ptr 192 0), (4, .d (D.int .i64 v227))] [(128, .box 28 [.d (D.int .i64 0), .d (D.int .i64 0)]), (192, .box 139 [.d (D.int .i64 v228), .d (D.int .i64 v229), .d (D.int .i64 v230), .d (D.int .i64 v231), .d (D.int .i64 v232), .d (D.int .i64 v233), .d (D.bool v236), .d (D.bool v234)])]) (LoopEnd prog f118 0 20 (.agg [.d (D.int .i64 r.1), .d (D.int .i64 r.2)]) (⟨[], []⟩) (fun i ts os => (i = 0 ∧ ∃ v257 : Int, ∃ v258 : Int, ∃ v259 : Int, ∃ v260 : Int, ∃ v261 : Int, ∃ v262 : Int, ∃ v263 : Bool, ∃ v294 : Bool, K0 v257 v258 v259 v260 v261 v262 v263 v294 = some r ∧ ts = [(2, .ptr 128 0), (3, .ptr 192 0)] ∧ os = [(128, .box 28 [.d (D.int .i64 0), .d (D.int .i64 0)]), (192, .box 139 [.d (D.int .i64 v257), .d (D.int .i64 v258), .d (D.int .i64 v259), .d (D.int .i64 v260), .d (D.int .i64 v261), .d (D.int .i64 v262), .d (D.bool v263), .d (D.bool v294)])])))
  | 0, _, _, _, _, _, _, _, _, _, h => by
      rw [spec_shValue_l0_2] at h; cases h
  | n + 1, v227, v228, v229, v230, v231, v232, v233, v234, v236, h => by
      rw [spec_shValue_l0_2] at h
      cases v234
      · replace h := condF h
        cases v236
        · replace h := condF h
          refine LoopOk.step ?_
          conv => whnf
          refine splD (fun g370 => ?_) (fun g370 => ?_)
          · replace h := iteP h g370
            conv => whnf
            refine splF ?_
            conv => whnf
            refine splF ?_
            conv => whnf
            obtain ⟨g372, b371, e373, h⟩ := byteD_ex h
            refine Req.of g372 ?_
            refine Byte.of _ e373 ?_
            conv => whnf
            refine splD (fun g374 => ?_) (fun g374 => ?_)
            · replace h := iteP h g374
              conv => whnf
              refine Pick.no ?_
              conv => whnf
              obtain ⟨y375, e376, h⟩ := bind_ex h
              refine CallOk.of (spec_shWalk_step_ct e376) ?_
              conv => whnf
              refine spl (fun g377 => ?_) (fun g377 => ?_)
              · replace h := iteT h g377
                conv => whnf
                refine spl (fun g378 => ?_) (fun g378 => ?_)
                · replace h := iteT h g378
                  conv => whnf
                  refine CutK.go ?_
                  conv => whnf
                  exact LoopOk.back (spec_shValue_l0_2_ct  n _ _ _ _ _ _ _ _ _ h) [some 128, some 192] [] ⟨⟨rfl, rfl⟩, ⟨rfl, ⟨rfl, rfl, rfl, trivial⟩, ⟨rfl, rfl, rfl, rfl, rfl, rfl, rfl, rfl, rfl, trivial⟩, trivial⟩, rfl, ⟨rfl, rfl⟩, ⟨rfl, rfl⟩, rfl, trivial⟩
                · replace h := iteF h g378
                  conv => whnf
                  refine CutK.go ?_
                  conv => whnf
                  exact LoopOk.back (spec_shValue_l0_2_ct  n _ _ _ _ _ _ _ _ _ h) [some 128, some 192] [] ⟨⟨rfl, rfl⟩, ⟨rfl, ⟨rfl, rfl, rfl, trivial⟩, ⟨rfl, rfl, rfl, rfl, rfl, rfl, rfl, rfl, rfl, trivial⟩, trivial⟩, rfl, ⟨rfl, rfl⟩, ⟨rfl, rfl⟩, rfl, trivial⟩
              · replace h := iteF h g377
                conv => whnf
                refine spl (fun g379 => ?_) (fun g379 => ?_)
                · replace h := iteT h g379
                  conv => whnf
                  refine CutK.go ?_
                  conv => whnf
                  exact LoopOk.back (spec_shValue_l0_2_ct  n _ _ _ _ _ _ _ _ _ h) [some 128, some 192] [] ⟨⟨rfl, rfl⟩, ⟨rfl, ⟨rfl, rfl, rfl, trivial⟩, ⟨rfl, rfl, rfl, rfl, rfl, rfl, rfl, rfl, rfl, trivial⟩, trivial⟩, rfl, ⟨rfl, rfl⟩, ⟨rfl, rfl⟩, rfl, trivial⟩
                · replace h := iteF h g379
                  conv => whnf
                  refine CutK.go ?_
                  conv => whnf
                  exact LoopOk.back (spec_shValue_l0_2_ct  n _ _ _ _ _ _ _ _ _ h) [some 128, some 192] [] ⟨⟨rfl, rfl⟩, ⟨rfl, ⟨rfl, rfl, rfl, trivial⟩, ⟨rfl, rfl, rfl, rfl, rfl, rfl, rfl, rfl, rfl, trivial⟩, trivial⟩, rfl, ⟨rfl, rfl⟩, ⟨rfl, rfl⟩, rfl, trivial⟩
            · replace h := iteN h g374
              conv => whnf
              refine Pick.no ?_
              conv => whnf
              obtain ⟨y380, e381, h⟩ := bind_ex h
              refine CallOk.of (spec_shWalk_step_ct e381) ?_
              conv => whnf
              refine spl (fun g382 => ?_) (fun g382 => ?_)
              · replace h := iteT h g382
                conv => whnf
                refine spl (fun g383 => ?_) (fun g383 => ?_)
                · replace h := iteT h g383
                  conv => whnf
                  refine CutK.go ?_
                  conv => whnf
                  exact LoopOk.back (spec_shValue_l0_2_ct  n _ _ _ _ _ _ _ _ _ h) [some 128, some 192] [] ⟨⟨rfl, rfl⟩, ⟨rfl, ⟨rfl, rfl, rfl, trivial⟩, ⟨rfl, rfl, rfl, rfl, rfl, rfl, rfl, rfl, rfl, trivial⟩, trivial⟩, rfl, ⟨rfl, rfl⟩, ⟨rfl, rfl⟩, rfl, trivial⟩
                · replace h := iteF h g383
                  conv => whnf
                  refine CutK.go ?_
                  conv => whnf
                  exact LoopOk.back (spec_shValue_l0_2_ct  n _ _ _ _ _ _ _ _ _ h) [some 128, some 192] [] ⟨⟨rfl, rfl⟩, ⟨rfl, ⟨rfl, rfl, rfl, trivial⟩, ⟨rfl, rfl, rfl, rfl, rfl, rfl, rfl, rfl, rfl, trivial⟩, trivial⟩, rfl, ⟨rfl, rfl⟩, ⟨rfl, rfl⟩, rfl, trivial⟩
              · replace h := iteF h g382
                conv => whnf
                refine spl (fun g384 => ?_) (fun g384 => ?_)
                · replace h := iteT h g384
                  conv => whnf
                  refine CutK.go ?_
                  conv => whnf
                  exact LoopOk.back (spec_shValue_l0_2_ct  n _ _ _ _ _ _ _ _ _ h) [some 128, some 192] [] ⟨⟨rfl, rfl⟩, ⟨rfl, ⟨rfl, rfl, rfl, trivial⟩, ⟨rfl, rfl, rfl, rfl, rfl, rfl, rfl, rfl, rfl, trivial⟩, trivial⟩, rfl, ⟨rfl, rfl⟩, ⟨rfl, rfl⟩, rfl, trivial⟩
                · replace h := iteF h g384
                  conv => whnf
                  refine CutK.go ?_
                  conv => whnf
                  exact LoopOk.back (spec_shValue_l0_2_ct  n _ _ _ _ _ _ _ _ _ h) [some 128, some 192] [] ⟨⟨rfl, rfl⟩, ⟨rfl, ⟨rfl, rfl, rfl, trivial⟩, ⟨rfl, rfl, rfl, rfl, rfl, rfl, rfl, rfl, rfl, trivial⟩, trivial⟩, rfl, ⟨rfl, rfl⟩, ⟨rfl, rfl⟩, rfl, trivial⟩
          · replace h := iteN h g370
            conv => whnf
            exact ⟨_, _, [some 128, some 192], [], ⟨rfl, _, _, _, _, _, _, _, _, h, rfl, rfl⟩, ⟨⟨rfl, rfl⟩, ⟨rfl, ⟨rfl, rfl, rfl, trivial⟩, ⟨rfl, rfl, rfl, rfl, rfl, rfl, rfl, rfl, rfl, trivial⟩, trivial⟩, ⟨rfl, rfl⟩, ⟨rfl, rfl⟩, trivial⟩⟩
        · replace h := condT h
          refine LoopOk.step ?_
          conv => whnf
          refine splD (fun g385 => ?_) (fun g385 => ?_)
          · replace h := iteP h g385
            conv => whnf
            refine splT ?_
            conv => whnf
            refine splF ?_
            conv => whnf
            obtain ⟨g387, b386, e388, h⟩ := byteD_ex h
            refine Req.of g387 ?_
            refine Byte.of _ e388 ?_
            conv => whnf
            refine splD (fun g389 => ?_) (fun g389 => ?_)
            · replace h := iteP h g389
              conv => whnf
              refine Pick.no ?_
              conv => whnf
              obtain ⟨y390, e391, h⟩ := bind_ex h
              refine CallOk.of (spec_shWalk_step_ct e391) ?_
              conv => whnf
              refine spl (fun g392 => ?_) (fun g392 => ?_)
              · replace h := iteT h g392
                conv => whnf
                refine spl (fun g393 => ?_) (fun g393 => ?_)
                · replace h := iteT h g393
                  conv => whnf
                  refine CutK.go ?_
                  conv => whnf
                  exact LoopOk.back (spec_shValue_l0_2_ct  n _ _ _ _ _ _ _ _ _ h) [some 128, some 192] [] ⟨⟨rfl, rfl⟩, ⟨rfl, ⟨rfl, rfl, rfl, trivial⟩, ⟨rfl, rfl, rfl, rfl, rfl, rfl, rfl, rfl, rfl, trivial⟩, trivial⟩, rfl, ⟨rfl, rfl⟩, ⟨rfl, rfl⟩, rfl, trivial⟩
                · replace h := iteF h g393
                  conv => whnf
                  refine CutK.go ?_
                  conv => whnf
                  exact LoopOk.back (spec_shValue_l0_2_ct  n _ _ _ _ _ _ _ _ _ h) [some 128, some 192] [] ⟨⟨rfl, rfl⟩, ⟨rfl, ⟨rfl, rfl, rfl, trivial⟩, ⟨rfl, rfl, rfl, rfl, rfl, rfl, rfl, rfl, rfl, trivial⟩, trivial⟩, rfl, ⟨rfl, rfl⟩, ⟨rfl, rfl⟩, rfl, trivial⟩
              · replace h := iteF h g392
                conv => whnf
                refine spl (fun g394 => ?_) (fun g394 => ?_)
                · replace h := iteT h g394
                  conv => whnf
                  refine CutK.go ?_
                  conv => whnf
                  exact LoopOk.back (spec_shValue_l0_2_ct  n _ _ _ _ _ _ _ _ _ h) [some 128, some 192] [] ⟨⟨rfl, rfl⟩, ⟨rfl, ⟨rfl, rfl, rfl, trivial⟩, ⟨rfl, rfl, rfl, rfl, rfl, rfl, rfl, rfl, rfl, trivial⟩, trivial⟩, rfl, ⟨rfl, rfl⟩, ⟨rfl, rfl⟩, rfl, trivial⟩
                · replace h := iteF h g394
                  conv => whnf
                  refine CutK.go ?_
                  conv => whnf
                  exact LoopOk.back (spec_shValue_l0_2_ct  n _ _ _ _ _ _ _ _ _ h) [some 128, some 192] [] ⟨⟨rfl, rfl⟩, ⟨rfl, ⟨rfl, rfl, rfl, trivial⟩, ⟨rfl, rfl, rfl, rfl, rfl, rfl, rfl, rfl, rfl, trivial⟩, trivial⟩, rfl, ⟨rfl, rfl⟩, ⟨rfl, rfl⟩, rfl, trivial⟩
            · replace h := iteN h g389
              conv => whnf
              refine Pick.no ?_
              conv => whnf
              obtain ⟨y395, e396, h⟩ := bind_ex h
              refine CallOk.of (spec_shWalk_step_ct e396) ?_
              conv => whnf
              refine spl (fun g397 => ?_) (fun g397 => ?_)
              · replace h := iteT h g397
                conv => whnf
                refine spl (fun g398 => ?_) (fun g398 => ?_)
                · replace h := iteT h g398
                  conv => whnf
                  refine CutK.go ?_
                  conv => whnf
                  exact LoopOk.back (spec_shValue_l0_2_ct  n _ _ _ _ _ _ _ _ _ h) [some 128, some 192] [] ⟨⟨rfl, rfl⟩, ⟨rfl, ⟨rfl, rfl, rfl, trivial⟩, ⟨rfl, rfl, rfl, rfl, rfl, rfl, rfl, rfl, rfl, trivial⟩, trivial⟩, rfl, ⟨rfl, rfl⟩, ⟨rfl, rfl⟩, rfl, trivial⟩
                · replace h := iteF h g398
                  conv => whnf
                  refine CutK.go ?_
                  conv => whnf
                  exact LoopOk.back (spec_shValue_l0_2_ct  n _ _ _ _ _ _ _ _ _ h) [some 128, some 192] [] ⟨⟨rfl, rfl⟩, ⟨rfl, ⟨rfl, rfl, rfl, trivial⟩, ⟨rfl, rfl, rfl, rfl, rfl, rfl, rfl, rfl, rfl, trivial⟩, trivial⟩, rfl, ⟨rfl, rfl⟩, ⟨rfl, rfl⟩, rfl, trivial⟩
              · replace h := iteF h g397
                conv => whnf
                refine spl (fun g399 => ?_) (fun g399 => ?_)
                · replace h := iteT h g399
                  conv => whnf
                  refine CutK.go ?_
                  conv => whnf
                  exact LoopOk.back (spec_shValue_l0_2_ct  n _ _ _ _ _ _ _ _ _ h) [some 128, some 192] [] ⟨⟨rfl, rfl⟩, ⟨rfl, ⟨rfl, rfl, rfl, trivial⟩, ⟨rfl, rfl, rfl, rfl, rfl, rfl, rfl, rfl, rfl, trivial⟩, trivial⟩, rfl, ⟨rfl, rfl⟩, ⟨rfl, rfl⟩, rfl, trivial⟩
                · replace h := iteF h g399
                  conv => whnf
                  refine CutK.go ?_
                  conv => whnf
                  exact LoopOk.back (spec_shValue_l0_2_ct  n _ _ _ _ _ _ _ _ _ h) [some 128, some 192] [] ⟨⟨rfl, rfl⟩, ⟨rfl, ⟨rfl, rfl, rfl, trivial⟩, ⟨rfl, rfl, rfl, rfl, rfl, rfl, rfl, rfl, rfl, trivial⟩, trivial⟩, rfl, ⟨rfl, rfl⟩, ⟨rfl, rfl⟩, rfl, trivial⟩
          · replace h := iteN h g385
            conv => whnf
            exact ⟨_, _, [some 128, some 192], [], ⟨rfl, _, _, _, _, _, _, _, _, h, rfl, rfl⟩, ⟨⟨rfl, rfl⟩, ⟨rfl, ⟨rfl, rfl, rfl, trivial⟩, ⟨rfl, rfl, rfl, rfl, rfl, rfl, rfl, rfl, rfl, trivial⟩, trivial⟩, ⟨rfl, rfl⟩, ⟨rfl, rfl⟩, trivial⟩⟩
      · replace h := condT h
        cases v236
        · replace h := condF h
          refine LoopOk.step ?_
          conv => whnf
          refine splD (fun g400 => ?_) (fun g400 => ?_)
          · replace h := iteP h g400
            conv => whnf
            refine splF ?_
            conv => whnf
            refine splT ?_
            conv => whnf
            obtain ⟨g402, b401, e403, h⟩ := byteD_ex h
            refine Req.of g402 ?_
            refine Byte.of _ e403 ?_
            conv => whnf
            refine splD (fun g404 => ?_) (fun g404 => ?_)
            · replace h := iteP h g404
              conv => whnf
              refine Pick.no ?_
              conv => whnf
              obtain ⟨y405, e406, h⟩ := bind_ex h
              refine CallOk.of (spec_shWalk_step_ct e406) ?_
              conv => whnf
              refine spl (fun g407 => ?_) (fun g407 => ?_)
              · replace h := iteT h g407
                conv => whnf
                refine spl (fun g408 => ?_) (fun g408 => ?_)
                · replace h := iteT h g408
                  conv => whnf
                  refine CutK.go ?_
                  conv => whnf
                  exact LoopOk.back (spec_shValue_l0_2_ct  n _ _ _ _ _ _ _ _ _ h) [some 128, some 192] [] ⟨⟨rfl, rfl⟩, ⟨rfl, ⟨rfl, rfl, rfl, trivial⟩, ⟨rfl, rfl, rfl, rfl, rfl, rfl, rfl, rfl, rfl, trivial⟩, trivial⟩, rfl, ⟨rfl, rfl⟩, ⟨rfl, rfl⟩, rfl, trivial⟩
                · replace h := iteF h g408
                  conv => whnf
                  refine CutK.go ?_
                  conv => whnf
                  exact LoopOk.back (spec_shValue_l0_2_ct  n _ _ _ _ _ _ _ _ _ h) [some 128, some 192] [] ⟨⟨rfl, rfl⟩, ⟨rfl, ⟨rfl, rfl, rfl, trivial⟩, ⟨rfl, rfl, rfl, rfl, rfl, rfl, rfl, rfl, rfl, trivial⟩, trivial⟩, rfl, ⟨rfl, rfl⟩, ⟨rfl, rfl⟩, rfl, trivial⟩
              · replace h := iteF h g407
                conv => whnf
                refine spl (fun g409 => ?_) (fun g409 => ?_)
                · replace h := iteT h g409
                  conv => whnf
                  refine CutK.go ?_
                  conv => whnf
                  exact LoopOk.back (spec_shValue_l0_2_ct  n _ _ _ _ _ _ _ _ _ h) [some 128, some 192] [] ⟨⟨rfl, rfl⟩, ⟨rfl, ⟨rfl, rfl, rfl, trivial⟩, ⟨rfl, rfl, rfl, rfl, rfl, rfl, rfl, rfl, rfl, trivial⟩, trivial⟩, rfl, ⟨rfl, rfl⟩, ⟨rfl, rfl⟩, rfl, trivial⟩
                · replace h := iteF h g409
                  conv => whnf
                  refine CutK.go ?_
                  conv => whnf
                  exact LoopOk.back (spec_shValue_l0_2_ct  n _ _ _ _ _ _ _ _ _ h) [some 128, some 192] [] ⟨⟨rfl, rfl⟩, ⟨rfl, ⟨rfl, rfl, rfl, trivial⟩, ⟨rfl, rfl, rfl, rfl, rfl, rfl, rfl, rfl, rfl, trivial⟩, trivial⟩, rfl, ⟨rfl, rfl⟩, ⟨rfl, rfl⟩, rfl, trivial⟩
            · replace h := iteN h g404
              conv => whnf
              refine Pick.no ?_
              conv => whnf
              obtain ⟨y410, e411, h⟩ := bind_ex h
              refine CallOk.of (spec_shWalk_step_ct e411) ?_
              conv => whnf
              refine spl (fun g412 => ?_) (fun g412 => ?_)
              · replace h := iteT h g412
                conv => whnf
                refine spl (fun g413 => ?_) (fun g413 => ?_)
                · replace h := iteT h g413
                  conv => whnf
                  refine CutK.go ?_
                  conv => whnf
                  exact LoopOk.back (spec_shValue_l0_2_ct  n _ _ _ _ _ _ _ _ _ h) [some 128, some 192] [] ⟨⟨rfl, rfl⟩, ⟨rfl, ⟨rfl, rfl, rfl, trivial⟩, ⟨rfl, rfl, rfl, rfl, rfl, rfl, rfl, rfl, rfl, trivial⟩, trivial⟩, rfl, ⟨rfl, rfl⟩, ⟨rfl, rfl⟩, rfl, trivial⟩
                · replace h := iteF h g413
                  conv => whnf
                  refine CutK.go ?_
                  conv => whnf
                  exact LoopOk.back (spec_shValue_l0_2_ct  n _ _ _ _ _ _ _ _ _ h) [some 128, some 192] [] ⟨⟨rfl, rfl⟩, ⟨rfl, ⟨rfl, rfl, rfl, trivial⟩, ⟨rfl, rfl, rfl, rfl, rfl, rfl, rfl, rfl, rfl, trivial⟩, trivial⟩, rfl, ⟨rfl, rfl⟩, ⟨rfl, rfl⟩, rfl, trivial⟩
              · replace h := iteF h g412
                conv => whnf
                refine spl (fun g414 => ?_) (fun g414 => ?_)
                · replace h := iteT h g414
                  conv => whnf
                  refine CutK.go ?_
                  conv => whnf
                  exact LoopOk.back (spec_shValue_l0_2_ct  n _ _ _ _ _ _ _ _ _ h) [some 128, some 192] [] ⟨⟨rfl, rfl⟩, ⟨rfl, ⟨rfl, rfl, rfl, trivial⟩, ⟨rfl, rfl, rfl, rfl, rfl, rfl, rfl, rfl, rfl, trivial⟩, trivial⟩, rfl, ⟨rfl, rfl⟩, ⟨rfl, rfl⟩, rfl, trivial⟩
                · replace h := iteF h g414
                  conv => whnf
                  refine CutK.go ?_
                  conv => whnf
                  exact LoopOk.back (spec_shValue_l0_2_ct  n _ _ _ _ _ _ _ _ _ h) [some 128, some 192] [] ⟨⟨rfl, rfl⟩, ⟨rfl, ⟨rfl, rfl, rfl, trivial⟩, ⟨rfl, rfl, rfl, rfl, rfl, rfl, rfl, rfl, rfl, trivial⟩, trivial⟩, rfl, ⟨rfl, rfl⟩, ⟨rfl, rfl⟩, rfl, trivial⟩
          · replace h := iteN h g400
            conv => whnf
            exact ⟨_, _, [some 128, some 192], [], ⟨rfl, _, _, _, _, _, _, _, _, h, rfl, rfl⟩, ⟨⟨rfl, rfl⟩, ⟨rfl, ⟨rfl, rfl, rfl, trivial⟩, ⟨rfl, rfl, rfl, rfl, rfl, rfl, rfl, rfl, rfl, trivial⟩, trivial⟩, ⟨rfl, rfl⟩, ⟨rfl, rfl⟩, trivial⟩⟩
        · replace h := condT h
          refine LoopOk.step ?_
          conv => whnf
          refine splD (fun g415 => ?_) (fun g415 => ?_)
          · replace h := iteP h g415
            conv => whnf
            refine splT ?_
            conv => whnf
            refine splT ?_
            conv => whnf
            obtain ⟨g417, b416, e418, h⟩ := byteD_ex h
            refine Req.of g417 ?_
            refine Byte.of _ e418 ?_
            conv => whnf
            refine splD (fun g419 => ?_) (fun g419 => ?_)
            · replace h := iteP h g419
              conv => whnf
              refine Pick.no ?_
              conv => whnf
              obtain ⟨y420, e421, h⟩ := bind_ex h
              refine CallOk.of (spec_shWalk_step_ct e421) ?_
              conv => whnf
              refine spl (fun g422 => ?_) (fun g422 => ?_)
              · replace h := iteT h g422
                conv => whnf
                refine spl (fun g423 => ?_) (fun g423 => ?_)
                · replace h := iteT h g423
                  conv => whnf
                  refine CutK.go ?_
                  conv => whnf
                  exact LoopOk.back (spec_shValue_l0_2_ct  n _ _ _ _ _ _ _ _ _ h) [some 128, some 192] [] ⟨⟨rfl, rfl⟩, ⟨rfl, ⟨rfl, rfl, rfl, trivial⟩, ⟨rfl, rfl, rfl, rfl, rfl, rfl, rfl, rfl, rfl, trivial⟩, trivial⟩, rfl, ⟨rfl, rfl⟩, ⟨rfl, rfl⟩, rfl, trivial⟩
                · replace h := iteF h g423
                  conv => whnf
                  refine CutK.go ?_
                  conv => whnf
                  exact LoopOk.back (spec_shValue_l0_2_ct  n _ _ _ _ _ _ _ _ _ h) [some 128, some 192] [] ⟨⟨rfl, rfl⟩, ⟨rfl, ⟨rfl, rfl, rfl, trivial⟩, ⟨rfl, rfl, rfl, rfl, rfl, rfl, rfl, rfl, rfl, trivial⟩, trivial⟩, rfl, ⟨rfl, rfl⟩, ⟨rfl, rfl⟩, rfl, trivial⟩
              · replace h := iteF h g422
                conv => whnf
                refine spl (fun g424 => ?_) (fun g424 => ?_)
                · replace h := iteT h g424
                  conv => whnf
                  refine CutK.go ?_
                  conv => whnf
                  exact LoopOk.back (spec_shValue_l0_2_ct  n _ _ _ _ _ _ _ _ _ h) [some 128, some 192] [] ⟨⟨rfl, rfl⟩, ⟨rfl, ⟨rfl, rfl, rfl, trivial⟩, ⟨rfl, rfl, rfl, rfl, rfl, rfl, rfl, rfl, rfl, trivial⟩, trivial⟩, rfl, ⟨rfl, rfl⟩, ⟨rfl, rfl⟩, rfl, trivial⟩
                · replace h := iteF h g424
                  conv => whnf
                  refine CutK.go ?_
                  conv => whnf
                  exact LoopOk.back (spec_shValue_l0_2_ct  n _ _ _ _ _ _ _ _ _ h) [some 128, some 192] [] ⟨⟨rfl, rfl⟩, ⟨rfl, ⟨rfl, rfl, rfl, trivial⟩, ⟨rfl, rfl, rfl, rfl, rfl, rfl, rfl, rfl, rfl, trivial⟩, trivial⟩, rfl, ⟨rfl, rfl⟩, ⟨rfl, rfl⟩, rfl, trivial⟩
            · replace h := iteN h g419
              conv => whnf
              refine Pick.no ?_
              conv => whnf
              obtain ⟨y425, e426, h⟩ := bind_ex h
              refine CallOk.of (spec_shWalk_step_ct e426) ?_
              conv => whnf
              refine spl (fun g427 => ?_) (fun g427 => ?_)
              · replace h := iteT h g427
                conv => whnf
                refine spl (fun g428 => ?_) (fun g428 => ?_)
                · replace h := iteT h g428
                  conv => whnf
                  refine CutK.go ?_
                  conv => whnf
                  exact LoopOk.back (spec_shValue_l0_2_ct  n _ _ _ _ _ _ _ _ _ h) [some 128, some 192] [] ⟨⟨rfl, rfl⟩, ⟨rfl, ⟨rfl, rfl, rfl, trivial⟩, ⟨rfl, rfl, rfl, rfl, rfl, rfl, rfl, rfl, rfl, trivial⟩, trivial⟩, rfl, ⟨rfl, rfl⟩, ⟨rfl, rfl⟩, rfl, trivial⟩
                · replace h := iteF h g428
                  conv => whnf
                  refine CutK.go ?_
                  conv => whnf
                  exact LoopOk.back (spec_shValue_l0_2_ct  n _ _ _ _ _ _ _ _ _ h) [some 128, some 192] [] ⟨⟨rfl, rfl⟩, ⟨rfl, ⟨rfl, rfl, rfl, trivial⟩, ⟨rfl, rfl, rfl, rfl, rfl, rfl, rfl, rfl, rfl, trivial⟩, trivial⟩, rfl, ⟨rfl, rfl⟩, ⟨rfl, rfl⟩, rfl, trivial⟩
              · replace h := iteF h g427
                conv => whnf
                refine spl (fun g429 => ?_) (fun g429 => ?_)
                · replace h := iteT h g429
                  conv => whnf
                  refine CutK.go ?_
                  conv => whnf
                  exact LoopOk.back (spec_shValue_l0_2_ct  n _ _ _ _ _ _ _ _ _ h) [some 128, some 192] [] ⟨⟨rfl, rfl⟩, ⟨rfl, ⟨rfl, rfl, rfl, trivial⟩, ⟨rfl, rfl, rfl, rfl, rfl, rfl, rfl, rfl, rfl, trivial⟩, trivial⟩, rfl, ⟨rfl, rfl⟩, ⟨rfl, rfl⟩, rfl, trivial⟩
                · replace h := iteF h g429
                  conv => whnf
                  refine CutK.go ?_
                  conv => whnf
                  exact LoopOk.back (spec_shValue_l0_2_ct  n _ _ _ _ _ _ _ _ _ h) [some 128, some 192] [] ⟨⟨rfl, rfl⟩, ⟨rfl, ⟨rfl, rfl, rfl, trivial⟩, ⟨rfl, rfl, rfl, rfl, rfl, rfl, rfl, rfl, rfl, trivial⟩, trivial⟩, rfl, ⟨rfl, rfl⟩, ⟨rfl, rfl⟩, rfl, trivial⟩
          · replace h := iteN h g415
            conv => whnf
            exact ⟨_, _, [some 128, some 192], [], ⟨rfl, _, _, _, _, _, _, _, _, h, rfl, rfl⟩, ⟨⟨rfl, rfl⟩, ⟨rfl, ⟨rfl, rfl, rfl, trivial⟩, ⟨rfl, rfl, rfl, rfl, rfl, rfl, rfl, rfl, rfl, trivial⟩, trivial⟩, ⟨rfl, rfl⟩, ⟨rfl, rfl⟩, trivial⟩⟩
def spec_shValue_l0_3 (k : Nat) (a1 : ByteArray) (K0 : Int → Int → Int → Int → Int → Int → Bool → Bool → Option (Int × Int)) : Nat → Int → Int → Int → Int → Int → Int → Int → Bool → Bool → Option (Int × Int)
  | 0, _, _, _, _, _, _, _, _, _ => none
  | n + 1, v440, v441, v442, v443, v444, v445, v446, v447, v448 => (cond v447 (cond v448 (if v440 < (a1.size : Int) then (byteD a1 v440 fun b629 => (if (b629.toNat : Int) = (43 : Int) then ((spec_shWalk_step k v441 v442 v443 v444 v445 v446 true true true).bind fun y633 => (if y633.2.2.2.2.2.2.1 = true then (if y633.2.2.2.2.2.2.2 = true then (spec_shValue_l0_3 k a1 K0 n (IntKind.i64.wrap (v440 + 1)) y633.1 y633.2.1 y633.2.2.1 y633.2.2.2.1 y633.2.2.2.2.1 y633.2.2.2.2.2.1 true true) else (spec_shValue_l0_3 k a1 K0 n (IntKind.i64.wrap (v440 + 1)) y633.1 y633.2.1 y633.2.2.1 y633.2.2.2.1 y633.2.2.2.2.1 y633.2.2.2.2.2.1 true false)) else (if y633.2.2.2.2.2.2.2 = true then (spec_shValue_l0_3 k a1 K0 n (IntKind.i64.wrap (v440 + 1)) y633.1 y633.2.1 y633.2.2.1 y633.2.2.2.1 y633.2.2.2.2.1 y633.2.2.2.2.2.1 false true) else (spec_shValue_l0_3 k a1 K0 n (IntKind.i64.wrap (v440 + 1)) y633.1 y633.2.1 y633.2.2.1 y633.2.2.2.1 y633.2.2.2.2.1 y633.2.2.2.2.2.1 false false)))) else ((spec_shWalk_step k v441 v442 v443 v444 v445 v446 true true false).bind fun y638 => (if y638.2.2.2.2.2.2.1 = true then (if y638.2.2.2.2.2.2.2 = true then (spec_shValue_l0_3 k a1 K0 n (IntKind.i64.wrap (v440 + 1)) y638.1 y638.2.1 y638.2.2.1 y638.2.2.2.1 y638.2.2.2.2.1 y638.2.2.2.2.2.1 true true) else (spec_shValue_l0_3 k a1 K0 n (IntKind.i64.wrap (v440 + 1)) y638.1 y638.2.1 y638.2.2.1 y638.2.2.2.1 y638.2.2.2.2.1 y638.2.2.2.2.2.1 true false)) else (if y638.2.2.2.2.2.2.2 = true then (spec_shValue_l0_3 k a1 K0 n (IntKind.i64.wrap (v440 + 1)) y638.1 y638.2.1 y638.2.2.1 y638.2.2.2.1 y638.2.2.2.2.1 y638.2.2.2.2.2.1 false true) else (spec_shValue_l0_3 k a1 K0 n (IntKind.i64.wrap (v440 + 1)) y638.1 y638.2.1 y638.2.2.1 y638.2.2.2.1 y638.2.2.2.2.1 y638.2.2.2.2.2.1 false false)))))) else (K0 v441 v442 v443 v444 v445 v446 true true)) (if v440 < (a1.size : Int) then (byteD a1 v440 fun b614 => (if (b614.toNat : Int) = (43 : Int) then ((spec_shWalk_step k v441 v442 v443 v444 v445 v446 true false true).bind fun y618 => (if y618.2.2.2.2.2.2.1 = true then (if y618.2.2.2.2.2.2.2 = true then (spec_shValue_l0_3 k a1 K0 n (IntKind.i64.wrap (v440 + 1)) y618.1 y618.2.1 y618.2.2.1 y618.2.2.2.1 y618.2.2.2.2.1 y618.2.2.2.2.2.1 true true) else (spec_shValue_l0_3 k a1 K0 n (IntKind.i64.wrap (v440 + 1)) y618.1 y618.2.1 y618.2.2.1 y618.2.2.2.1 y618.2.2.2.2.1 y618.2.2.2.2.2.1 true false)) else (if y618.2.2.2.2.2.2.2 = true then (spec_shValue_l0_3 k a1 K0 n (IntKind.i64.wrap (v440 + 1)) y618.1 y618.2.1 y618.2.2.1 y618.2.2.2.1 y618.2.2.2.2.1 y618.2.2.2.2.2.1 false true) else (spec_shValue_l0_3 k a1 K0 n (IntKind.i64.wrap (v440 + 1)) y618.1 y618.2.1 y618.2.2.1 y618.2.2.2.1 y618.2.2.2.2.1 y618.2.2.2.2.2.1 false false)))) else ((spec_shWalk_step k v441 v442 v443 v444 v445 v446 true false false).bind fun y623 => (if y623.2.2.2.2.2.2.1 = true then (if y623.2.2.2.2.2.2.2 = true then (spec_shValue_l0_3 k a1 K0 n (IntKind.i64.wrap (v440 + 1)) y623.1 y623.2.1 y623.2.2.1 y623.2.2.2.1 y623.2.2.2.2.1 y623.2.2.2.2.2.1 true true) else (spec_shValue_l0_3 k a1 K0 n (IntKind.i64.wrap (v440 + 1)) y623.1 y623.2.1 y623.2.2.1 y623.2.2.2.1 y623.2.2.2.2.1 y623.2.2.2.2.2.1 true false)) else (if y623.2.2.2.2.2.2.2 = true then (spec_shValue_l0_3 k a1 K0 n (IntKind.i64.wrap (v440 + 1)) y623.1 y623.2.1 y623.2.2.1 y623.2.2.2.1 y623.2.2.2.2.1 y623.2.2.2.2.2.1 false true) else (spec_shValue_l0_3 k a1 K0 n (IntKind.i64.wrap (v440 + 1)) y623.1 y623.2.1 y623.2.2.1 y623.2.2.2.1 y623.2.2.2.2.1 y623.2.2.2.2.2.1 false false)))))) else (K0 v441 v442 v443 v444 v445 v446 false true))) (cond v448 (if v440 < (a1.size : Int) then (byteD a1 v440 fun b599 => (if (b599.toNat : Int) = (43 : Int) then ((spec_shWalk_step k v441 v442 v443 v444 v445 v446 false true true).bind fun y603 => (if y603.2.2.2.2.2.2.1 = true then (if y603.2.2.2.2.2.2.2 = true then (spec_shValue_l0_3 k a1 K0 n (IntKind.i64.wrap (v440 + 1)) y603.1 y603.2.1 y603.2.2.1 y603.2.2.2.1 y603.2.2.2.2.1 y603.2.2.2.2.2.1 true true) else (spec_shValue_l0_3 k a1 K0 n (IntKind.i64.wrap (v440 + 1)) y603.1 y603.2.1 y603.2.2.1 y603.2.2.2.1 y603.2.2.2.2.1 y603.2.2.2.2.2.1 true false)) else (if y603.2.2.2.2.2.2.2 = true then (spec_shValue_l0_3 k a1 K0 n (IntKind.i64.wrap (v440 + 1)) y603.1 y603.2.1 y603.2.2.1 y603.2.2.2.1 y603.2.2.2.2.1 y603.2.2.2.2.2.1 false true) else (spec_shValue_l0_3 k a1 K0 n (IntKind.i64.wrap (v440 + 1)) y603.1 y603.2.1 y603.2.2.1 y603.2.2.2.1 y603.2.2.2.2.1 y603.2.2.2.2.2.1 false false)))) else ((spec_shWalk_step k v441 v442 v443 v444 v445 v446 false true false).bind fun y608 => (if y608.2.2.2.2.2.2.1 = true then (if y608.2.2.2.2.2.2.2 = true then (spec_shValue_l0_3 k a1 K0 n (IntKind.i64.wrap (v440 + 1)) y608.1 y608.2.1 y608.2.2.1 y608.2.2.2.1 y608.2.2.2.2.1 y608.2.2.2.2.2.1 true true) else (spec_shValue_l0_3 k a1 K0 n (IntKind.i64.wrap (v440 + 1)) y608.1 y608.2.1 y608.2.2.1 y608.2.2.2.1 y608.2.2.2.2.1 y608.2.2.2.2.2.1 true false)) else (if y608.2.2.2.2.2.2.2 = true then (spec_shValue_l0_3 k a1 K0 n (IntKind.i64.wrap (v440 + 1)) y608.1 y608.2.1 y608.2.2.1 y608.2.2.2.1 y608.2.2.2.2.1 y608.2.2.2.2.2.1 false true) else (spec_shValue_l0_3 k a1 K0 n (IntKind.i64.wrap (v440 + 1)) y608.1 y608.2.1 y608.2.2.1 y608.2.2.2.1 y608.2.2.2.2.1 y608.2.2.2.2.2.1 false false)))))) else (K0 v441 v442 v443 v444 v445 v446 true false)) (if v440 < (a1.size : Int) then (byteD a1 v440 fun b584 => (if (b584.toNat : Int) = (43 : Int) then ((spec_shWalk_step k v441 v442 v443 v444 v445 v446 false false true).bind fun y588 => (if y588.2.2.2.2.2.2.1 = true then (if y588.2.2.2.2.2.2.2 = true then (spec_shValue_l0_3 k a1 K0 n (IntKind.i64.wrap (v440 + 1)) y588.1 y588.2.1 y588.2.2.1 y588.2.2.2.1 y588.2.2.2.2.1 y588.2.2.2.2.2.1 true true) else (spec_shValue_l0_3 k a1 K0 n (IntKind.i64.wrap (v440 + 1)) y588.1 y588.2.1 y588.2.2.1 y588.2.2.2.1 y588.2.2.2.2.1 y588.2.2.2.2.2.1 true false)) else (if y588.2.2.2.2.2.2.2 = true then (spec_shValue_l0_3 k a1 K0 n (IntKind.i64.wrap (v440 + 1)) y588.1 y588.2.1 y588.2.2.1 y588.2.2.2.1 y588.2.2.2.2.1 y588.2.2.2.2.2.1 false true) else (spec_shValue_l0_3 k a1 K0 n (IntKind.i64.wrap (v440 + 1)) y588.1 y588.2.1 y588.2.2.1 y588.2.2.2.1 y588.2.2.2.2.1 y588.2.2.2.2.2.1 false false)))) else ((spec_shWalk_step k v441 v442 v443 v444 v445 v446 false false false).bind fun y593 => (if y593.2.2.2.2.2.2.1 = true then (if y593.2.2.2.2.2.2.2 = true then (spec_shValue_l0_3 k a1 K0 n (IntKind.i64.wrap (v440 + 1)) y593.1 y593.2.1 y593.2.2.1 y593.2.2.2.1 y593.2.2.2.2.1 y593.2.2.2.2.2.1 true true) else (spec_shValue_l0_3 k a1 K0 n (IntKind.i64.wrap (v440 + 1)) y593.1 y593.2.1 y593.2.2.1 y593.2.2.2.1 y593.2.2.2.2.1 y593.2.2.2.2.2.1 true false)) else (if y593.2.2.2.2.2.2.2 = true then (spec_shValue_l0_3 k a1 K0 n (IntKind.i64.wrap (v440 + 1)) y593.1 y593.2.1 y593.2.2.1 y593.2.2.2.1 y593.2.2.2.2.1 y593.2.2.2.2.2.1 false true) else (spec_shValue_l0_3 k a1 K0 n (IntKind.i64.wrap (v440 + 1)) y593.1 y593.2.1 y593.2.2.1 y593.2.2.2.1 y593.2.2.2.2.1 y593.2.2.2.2.2.1 false false)))))) else (K0 v441 v442 v443 v444 v445 v446 false false))))
set_option maxHeartbeats 4000000 in
set_option maxRecDepth 100000 in
theorem spec_shValue_l0_3_ct {k : Nat} {a1 : ByteArray} {K0 : Int → Int → Int → Int → Int → Int → Bool → Bool → Option (Int × Int)} {r : Int × Int} : ∀ (n : Nat) (v440 : Int) (v441 : Int) (v442 : Int) (v443 : Int) (v444 : Int) (v445 : Int) (v446 : Int) (v447 : Bool) (v448 : Bool), spec_shValue_l0_3 k a1 K0 n v440 v441 v442 v443 v444 v445 v446 v447 v448 = some r → LoopOk prog 0 (lp f118 0) (mk 20 [(0, .d (D.str a1)), (2, .ptr 128 0), (3, .ptr 192 0), (4, .d (D.int .i64 v440))] [(128, .box 28 [.d (D.int .i64 0), .d (D.int .i64 0)]), (192, .box 139 [.d (D.int .i64 v441), .d (D.int .i64 v442), .d (D.int .i64 v443), .d (D.int .i64 v444), .d (D.int .i64 v445), .d (D.int .i64 v446), .d (D.bool v447), .d (D.bool v448)])]) (LoopEnd prog f118 0 20 (.agg [.d (D.int .i64 r.1), .d (D.int .i64 r.2)]) (⟨[], []⟩) (fun i ts os => (i = 0 ∧ ∃ v470 : Int, ∃ v471 : Int, ∃ v472 : Int, ∃ v473 : Int, ∃ v474 : Int, ∃ v475 : Int, ∃ v476 : Bool, ∃ v507 : Bool, K0 v470 v471 v472 v473 v474 v475 v476 v507 = some r ∧ ts = [(2, .ptr 128 0), (3, .ptr 192 0)] ∧ os = [(128, .box 28 [.d (D.int .i64 0), .d (D.int .i64 0)]), (192, .box 139 [.d (D.int .i64 v470), .d (D.int .i64 v471), .d (D.int .i64 v472), .d (D.int .i64 v473), .d (D.int .i64 v474), .d (D.int .i64 v475), .d (D.bool v507), .d (D.bool v476)])])))
  | 0, _, _, _, _, _, _, _, _, _, h => by
      rw [spec_shValue_l0_3] at h; cases h
  | n + 1, v440, v441, v442, v443, v444, v445, v446, v447, v448, h => by
      rw [spec_shValue_l0_3] at h
      cases v447
      · replace h := condF h
        cases v448
        · replace h := condF h
          refine LoopOk.step ?_
          conv => whnf
          refine splD (fun g583 => ?_) (fun g583 => ?_)
          · replace h := iteP h g583
            conv => whnf
            refine splF ?_
            conv => whnf
            refine splF ?_
            conv => whnf
            obtain ⟨g585, b584, e586, h⟩ := byteD_ex h
            refine Req.of g585 ?_
            refine Byte.of _ e586 ?_
            conv => whnf
            refine splD (fun g587 => ?_) (fun g587 => ?_)
            · replace h := iteP h g587
              conv => whnf
              refine Pick.no ?_
              conv => whnf
              obtain ⟨y588, e589, h⟩ := bind_ex h
              refine CallOk.of (spec_shWalk_step_ct e589) ?_
              conv => whnf
              refine spl (fun g590 => ?_) (fun g590 => ?_)
              · replace h := iteT h g590
                conv => whnf
                refine spl (fun g591 => ?_) (fun g591 => ?_)
                · replace h := iteT h g591
                  conv => whnf
                  refine CutK.go ?_
                  conv => whnf
                  exact LoopOk.back (spec_shValue_l0_3_ct  n _ _ _ _ _ _ _ _ _ h) [some 128, some 192] [] ⟨⟨rfl, rfl⟩, ⟨rfl, ⟨rfl, rfl, rfl, trivial⟩, ⟨rfl, rfl, rfl, rfl, rfl, rfl, rfl, rfl, rfl, trivial⟩, trivial⟩, rfl, ⟨rfl, rfl⟩, ⟨rfl, rfl⟩, rfl, trivial⟩
                · replace h := iteF h g591
                  conv => whnf
                  refine CutK.go ?_
                  conv => whnf
                  exact LoopOk.back (spec_shValue_l0_3_ct  n _ _ _ _ _ _ _ _ _ h) [some 128, some 192] [] ⟨⟨rfl, rfl⟩, ⟨rfl, ⟨rfl, rfl, rfl, trivial⟩, ⟨rfl, rfl, rfl, rfl, rfl, rfl, rfl, rfl, rfl, trivial⟩, trivial⟩, rfl, ⟨rfl, rfl⟩, ⟨rfl, rfl⟩, rfl, trivial⟩
              · replace h := iteF h g590
                conv => whnf
                refine spl (fun g592 => ?_) (fun g592 => ?_)
                · replace h := iteT h g592
                  conv => whnf
                  refine CutK.go ?_
                  conv => whnf
                  exact LoopOk.back (spec_shValue_l0_3_ct  n _ _ _ _ _ _ _ _ _ h) [some 128, some 192] [] ⟨⟨rfl, rfl⟩, ⟨rfl, ⟨rfl, rfl, rfl, trivial⟩, ⟨rfl, rfl, rfl, rfl, rfl, rfl, rfl, rfl, rfl, trivial⟩, trivial⟩, rfl, ⟨rfl, rfl⟩, ⟨rfl, rfl⟩, rfl, trivial⟩
                · replace h := iteF h g592
                  conv => whnf
                  refine CutK.go ?_
                  conv => whnf
                  exact LoopOk.back (spec_shValue_l0_3_ct  n _ _ _ _ _ _ _ _ _ h) [some 128, some 192] [] ⟨⟨rfl, rfl⟩, ⟨rfl, ⟨rfl, rfl, rfl, trivial⟩, ⟨rfl, rfl, rfl, rfl, rfl, rfl, rfl, rfl, rfl, trivial⟩, trivial⟩, rfl, ⟨rfl, rfl⟩, ⟨rfl, rfl⟩, rfl, trivial⟩
            · replace h := iteN h g587
              conv => whnf
              refine Pick.no ?_
              conv => whnf
              obtain ⟨y593, e594, h⟩ := bind_ex h
              refine CallOk.of (spec_shWalk_step_ct e594) ?_
              conv => whnf
              refine spl (fun g595 => ?_) (fun g595 => ?_)
              · replace h := iteT h g595
                conv => whnf
                refine spl (fun g596 => ?_) (fun g596 => ?_)
                · replace h := iteT h g596
                  conv => whnf
                  refine CutK.go ?_
                  conv => whnf
                  exact LoopOk.back (spec_shValue_l0_3_ct  n _ _ _ _ _ _ _ _ _ h) [some 128, some 192] [] ⟨⟨rfl, rfl⟩, ⟨rfl, ⟨rfl, rfl, rfl, trivial⟩, ⟨rfl, rfl, rfl, rfl, rfl, rfl, rfl, rfl, rfl, trivial⟩, trivial⟩, rfl, ⟨rfl, rfl⟩, ⟨rfl, rfl⟩, rfl, trivial⟩
                · replace h := iteF h g596
                  conv => whnf
                  refine CutK.go ?_
                  conv => whnf
                  exact LoopOk.back (spec_shValue_l0_3_ct  n _ _ _ _ _ _ _ _ _ h) [some 128, some 192] [] ⟨⟨rfl, rfl⟩, ⟨rfl, ⟨rfl, rfl, rfl, trivial⟩, ⟨rfl, rfl, rfl, rfl, rfl, rfl, rfl, rfl, rfl, trivial⟩, trivial⟩, rfl, ⟨rfl, rfl⟩, ⟨rfl, rfl⟩, rfl, trivial⟩
              · replace h := iteF h g595
                conv => whnf
                refine spl (fun g597 => ?_) (fun g597 => ?_)
                · replace h := iteT h g597
                  conv => whnf
                  refine CutK.go ?_
                  conv => whnf
                  exact LoopOk.back (spec_shValue_l0_3_ct  n _ _ _ _ _ _ _ _ _ h) [some 128, some 192] [] ⟨⟨rfl, rfl⟩, ⟨rfl, ⟨rfl, rfl, rfl, trivial⟩, ⟨rfl, rfl, rfl, rfl, rfl, rfl, rfl, rfl, rfl, trivial⟩, trivial⟩, rfl, ⟨rfl, rfl⟩, ⟨rfl, rfl⟩, rfl, trivial⟩
                · replace h := iteF h g597
                  conv => whnf
                  refine CutK.go ?_
                  conv => whnf
                  exact LoopOk.back (spec_shValue_l0_3_ct  n _ _ _ _ _ _ _ _ _ h) [some 128, some 192] [] ⟨⟨rfl, rfl⟩, ⟨rfl, ⟨rfl, rfl, rfl, trivial⟩, ⟨rfl, rfl, rfl, rfl, rfl, rfl, rfl, rfl, rfl, trivial⟩, trivial⟩, rfl, ⟨rfl, rfl⟩, ⟨rfl, rfl⟩, rfl, trivial⟩
          · replace h := iteN h g583
            conv => whnf
            exact ⟨_, _, [some 128, some 192], [], ⟨rfl, _, _, _, _, _, _, _, _, h, rfl, rfl⟩, ⟨⟨rfl, rfl⟩, ⟨rfl, ⟨rfl, rfl, rfl, trivial⟩, ⟨rfl, rfl, rfl, rfl, rfl, rfl, rfl, rfl, rfl, trivial⟩, trivial⟩, ⟨rfl, rfl⟩, ⟨rfl, rfl⟩, trivial⟩⟩
        · replace h := condT h
          refine LoopOk.step ?_
          conv => whnf
          refine splD (fun g598 => ?_) (fun g598 => ?_)
          · replace h := iteP h g598
            conv => whnf
            refine splF ?_
            conv => whnf
            refine splT ?_
            conv => whnf
            obtain ⟨g600, b599, e601, h⟩ := byteD_ex h
            refine Req.of g600 ?_
            refine Byte.of _ e601 ?_
            conv => whnf
            refine splD (fun g602 => ?_) (fun g602 => ?_)
            · replace h := iteP h g602
              conv => whnf
              refine Pick.no ?_
              conv => whnf
              obtain ⟨y603, e604, h⟩ := bind_ex h
              refine CallOk.of (spec_shWalk_step_ct e604) ?_
              conv => whnf
              refine spl (fun g605 => ?_) (fun g605 => ?_)
              · replace h := iteT h g605
                conv => whnf
                refine spl (fun g606 => ?_) (fun g606 => ?_)
                · replace h := iteT h g606
                  conv => whnf
                  refine CutK.go ?_
                  conv => whnf
                  exact LoopOk.back (spec_shValue_l0_3_ct  n _ _ _ _ _ _ _ _ _ h) [some 128, some 192] [] ⟨⟨rfl, rfl⟩, ⟨rfl, ⟨rfl, rfl, rfl, trivial⟩, ⟨rfl, rfl, rfl, rfl, rfl, rfl, rfl, rfl, rfl, trivial⟩, trivial⟩, rfl, ⟨rfl, rfl⟩, ⟨rfl, rfl⟩, rfl, trivial⟩
                · replace h := iteF h g606
                  conv => whnf
                  refine CutK.go ?_
                  conv => whnf
                  exact LoopOk.back (spec_shValue_l0_3_ct  n _ _ _ _ _ _ _ _ _ h) [some 128, some 192] [] ⟨⟨rfl, rfl⟩, ⟨rfl, ⟨rfl, rfl, rfl, trivial⟩, ⟨rfl, rfl, rfl, rfl, rfl, rfl, rfl, rfl, rfl, trivial⟩, trivial⟩, rfl, ⟨rfl, rfl⟩, ⟨rfl, rfl⟩, rfl, trivial⟩
              · replace h := iteF h g605
                conv => whnf
                refine spl (fun g607 => ?_) (fun g607 => ?_)
                · replace h := iteT h g607
                  conv => whnf
                  refine CutK.go ?_
                  conv => whnf
                  exact LoopOk.back (spec_shValue_l0_3_ct  n _ _ _ _ _ _ _ _ _ h) [some 128, some 192] [] ⟨⟨rfl, rfl⟩, ⟨rfl, ⟨rfl, rfl, rfl, trivial⟩, ⟨rfl, rfl, rfl, rfl, rfl, rfl, rfl, rfl, rfl, trivial⟩, trivial⟩, rfl, ⟨rfl, rfl⟩, ⟨rfl, rfl⟩, rfl, trivial⟩
                · replace h := iteF h g607
                  conv => whnf
                  refine CutK.go ?_
                  conv => whnf
                  exact LoopOk.back (spec_shValue_l0_3_ct  n _ _ _ _ _ _ _ _ _ h) [some 128, some 192] [] ⟨⟨rfl, rfl⟩, ⟨rfl, ⟨rfl, rfl, rfl, trivial⟩, ⟨rfl, rfl, rfl, rfl, rfl, rfl, rfl, rfl, rfl, trivial⟩, trivial⟩, rfl, ⟨rfl, rfl⟩, ⟨rfl, rfl⟩, rfl, trivial⟩
            · replace h := iteN h g602
              conv => whnf
              refine Pick.no ?_
              conv => whnf
              obtain ⟨y608, e609, h⟩ := bind_ex h
              refine CallOk.of (spec_shWalk_step_ct e609) ?_
              conv => whnf
              refine spl (fun g610 => ?_) (fun g610 => ?_)
              · replace h := iteT h g610
                conv => whnf
                refine spl (fun g611 => ?_) (fun g611 => ?_)
                · replace h := iteT h g611
                  conv => whnf
                  refine CutK.go ?_
                  conv => whnf
                  exact LoopOk.back (spec_shValue_l0_3_ct  n _ _ _ _ _ _ _ _ _ h) [some 128, some 192] [] ⟨⟨rfl, rfl⟩, ⟨rfl, ⟨rfl, rfl, rfl, trivial⟩, ⟨rfl, rfl, rfl, rfl, rfl, rfl, rfl, rfl, rfl, trivial⟩, trivial⟩, rfl, ⟨rfl, rfl⟩, ⟨rfl, rfl⟩, rfl, trivial⟩
                · replace h := iteF h g611
                  conv => whnf
                  refine CutK.go ?_
                  conv => whnf
                  exact LoopOk.back (spec_shValue_l0_3_ct  n _ _ _ _ _ _ _ _ _ h) [some 128, some 192] [] ⟨⟨rfl, rfl⟩, ⟨rfl, ⟨rfl, rfl, rfl, trivial⟩, ⟨rfl, rfl, rfl, rfl, rfl, rfl, rfl, rfl, rfl, trivial⟩, trivial⟩, rfl, ⟨rfl, rfl⟩, ⟨rfl, rfl⟩, rfl, trivial⟩
              · replace h := iteF h g610
                conv => whnf
                refine spl (fun g612 => ?_) (fun g612 => ?_)
                · replace h := iteT h g612
                  conv => whnf
                  refine CutK.go ?_
                  conv => whnf
                  exact LoopOk.back (spec_shValue_l0_3_ct  n _ _ _ _ _ _ _ _ _ h) [some 128, some 192] [] ⟨⟨rfl, rfl⟩, ⟨rfl, ⟨rfl, rfl, rfl, trivial⟩, ⟨rfl, rfl, rfl, rfl, rfl, rfl, rfl, rfl, rfl, trivial⟩, trivial⟩, rfl, ⟨rfl, rfl⟩, ⟨rfl, rfl⟩, rfl, trivial⟩
                · replace h := iteF h g612
                  conv => whnf
                  refine CutK.go ?_
                  conv => whnf
                  exact LoopOk.back (spec_shValue_l0_3_ct  n _ _ _ _ _ _ _ _ _ h) [some 128, some 192] [] ⟨⟨rfl, rfl⟩, ⟨rfl, ⟨rfl, rfl, rfl, trivial⟩, ⟨rfl, rfl, rfl, rfl, rfl, rfl, rfl, rfl, rfl, trivial⟩, trivial⟩, rfl, ⟨rfl, rfl⟩, ⟨rfl, rfl⟩, rfl, trivial⟩
          · replace h := iteN h g598
            conv => whnf
            exact ⟨_, _, [some 128, some 192], [], ⟨rfl, _, _, _, _, _, _, _, _, h, rfl, rfl⟩, ⟨⟨rfl, rfl⟩, ⟨rfl, ⟨rfl, rfl, rfl, trivial⟩, ⟨rfl, rfl, rfl, rfl, rfl, rfl, rfl, rfl, rfl, trivial⟩, trivial⟩, ⟨rfl, rfl⟩, ⟨rfl, rfl⟩, trivial⟩⟩
      · replace h := condT h
        cases v448
        · replace h := condF h
          refine LoopOk.step ?_
          conv => whnf
          refine splD (fun g613 => ?_) (fun g613 => ?_)
          · replace h := iteP h g613
            conv => whnf
            refine splT ?_
            conv => whnf
            refine splF ?_
            conv => whnf
            obtain ⟨g615, b614, e616, h⟩ := byteD_ex h
            refine Req.of g615 ?_
            refine Byte.of _ e616 ?_
            conv => whnf
            refine splD (fun g617 => ?_) (fun g617 => ?_)
            · replace h := iteP h g617
              conv => whnf
              refine Pick.no ?_
              conv => whnf
              obtain ⟨y618, e619, h⟩ := bind_ex h
              refine CallOk.of (spec_shWalk_step_ct e619) ?_
              conv => whnf
              refine spl (fun g620 => ?_) (fun g620 => ?_)
              · replace h := iteT h g620
                conv => whnf
                refine spl (fun g621 => ?_) (fun g621 => ?_)
                · replace h := iteT h g621
                  conv => whnf
                  refine CutK.go ?_
                  conv => whnf
                  exact LoopOk.back (spec_shValue_l0_3_ct  n _ _ _ _ _ _ _ _ _ h) [some 128, some 192] [] ⟨⟨rfl, rfl⟩, ⟨rfl, ⟨rfl, rfl, rfl, trivial⟩, ⟨rfl, rfl, rfl, rfl, rfl, rfl, rfl, rfl, rfl, trivial⟩, trivial⟩, rfl, ⟨rfl, rfl⟩, ⟨rfl, rfl⟩, rfl, trivial⟩
                · replace h := iteF h g621
                  conv => whnf
                  refine CutK.go ?_
                  conv => whnf
                  exact LoopOk.back (spec_shValue_l0_3_ct  n _ _ _ _ _ _ _ _ _ h) [some 128, some 192] [] ⟨⟨rfl, rfl⟩, ⟨rfl, ⟨rfl, rfl, rfl, trivial⟩, ⟨rfl, rfl, rfl, rfl, rfl, rfl, rfl, rfl, rfl, trivial⟩, trivial⟩, rfl, ⟨rfl, rfl⟩, ⟨rfl, rfl⟩, rfl, trivial⟩
              · replace h := iteF h g620
                conv => whnf
                refine spl (fun g622 => ?_) (fun g622 => ?_)
                · replace h := iteT h g622
                  conv => whnf
                  refine CutK.go ?_
                  conv => whnf
                  exact LoopOk.back (spec_shValue_l0_3_ct  n _ _ _ _ _ _ _ _ _ h) [some 128, some 192] [] ⟨⟨rfl, rfl⟩, ⟨rfl, ⟨rfl, rfl, rfl, trivial⟩, ⟨rfl, rfl, rfl, rfl, rfl, rfl, rfl, rfl, rfl, trivial⟩, trivial⟩, rfl, ⟨rfl, rfl⟩, ⟨rfl, rfl⟩, rfl, trivial⟩
                · replace h := iteF h g622
                  conv => whnf
                  refine CutK.go ?_
                  conv => whnf
                  exact LoopOk.back (spec_shValue_l0_3_ct  n _ _ _ _ _ _ _ _ _ h) [some 128, some 192] [] ⟨⟨rfl, rfl⟩, ⟨rfl, ⟨rfl, rfl, rfl, trivial⟩, ⟨rfl, rfl, rfl, rfl, rfl, rfl, rfl, rfl, rfl, trivial⟩, trivial⟩, rfl, ⟨rfl, rfl⟩, ⟨rfl, rfl⟩, rfl, trivial⟩
            · replace h := iteN h g617
              conv => whnf
              refine Pick.no ?_
              conv => whnf
              obtain ⟨y623, e624, h⟩ := bind_ex h
              refine CallOk.of (spec_shWalk_step_ct e624) ?_
              conv => whnf
              refine spl (fun g625 => ?_) (fun g625 => ?_)
              · replace h := iteT h g625
                conv => whnf
                refine spl (fun g626 => ?_) (fun g626 => ?_)
                · replace h := iteT h g626
                  conv => whnf
                  refine CutK.go ?_
                  conv => whnf
                  exact LoopOk.back (spec_shValue_l0_3_ct  n _ _ _ _ _ _ _ _ _ h) [some 128, some 192] [] ⟨⟨rfl, rfl⟩, ⟨rfl, ⟨rfl, rfl, rfl, trivial⟩, ⟨rfl, rfl, rfl, rfl, rfl, rfl, rfl, rfl, rfl, trivial⟩, trivial⟩, rfl, ⟨rfl, rfl⟩, ⟨rfl, rfl⟩, rfl, trivial⟩
                · replace h := iteF h g626
                  conv => whnf
                  refine CutK.go ?_
                  conv => whnf
                  exact LoopOk.back (spec_shValue_l0_3_ct  n _ _ _ _ _ _ _ _ _ h) [some 128, some 192] [] ⟨⟨rfl, rfl⟩, ⟨rfl, ⟨rfl, rfl, rfl, trivial⟩, ⟨rfl, rfl, rfl, rfl, rfl, rfl, rfl, rfl, rfl, trivial⟩, trivial⟩, rfl, ⟨rfl, rfl⟩, ⟨rfl, rfl⟩, rfl, trivial⟩
              · replace h := iteF h g625
                conv => whnf
                refine spl (fun g627 => ?_) (fun g627 => ?_)
                · replace h := iteT h g627
                  conv => whnf
                  refine CutK.go ?_
                  conv => whnf
                  exact LoopOk.back (spec_shValue_l0_3_ct  n _ _ _ _ _ _ _ _ _ h) [some 128, some 192] [] ⟨⟨rfl, rfl⟩, ⟨rfl, ⟨rfl, rfl, rfl, trivial⟩, ⟨rfl, rfl, rfl, rfl, rfl, rfl, rfl, rfl, rfl, trivial⟩, trivial⟩, rfl, ⟨rfl, rfl⟩, ⟨rfl, rfl⟩, rfl, trivial⟩
                · replace h := iteF h g627
                  conv => whnf
                  refine CutK.go ?_
                  conv => whnf
                  exact LoopOk.back (spec_shValue_l0_3_ct  n _ _ _ _ _ _ _ _ _ h) [some 128, some 192] [] ⟨⟨rfl, rfl⟩, ⟨rfl, ⟨rfl, rfl, rfl, trivial⟩, ⟨rfl, rfl, rfl, rfl, rfl, rfl, rfl, rfl, rfl, trivial⟩, trivial⟩, rfl, ⟨rfl, rfl⟩, ⟨rfl, rfl⟩, rfl, trivial⟩
          · replace h := iteN h g613
            conv => whnf
            exact ⟨_, _, [some 128, some 192], [], ⟨rfl, _, _, _, _, _, _, _, _, h, rfl, rfl⟩, ⟨⟨rfl, rfl⟩, ⟨rfl, ⟨rfl, rfl, rfl, trivial⟩, ⟨rfl, rfl, rfl, rfl, rfl, rfl, rfl, rfl, rfl, trivial⟩, trivial⟩, ⟨rfl, rfl⟩, ⟨rfl, rfl⟩, trivial⟩⟩
        · replace h := condT h
          refine LoopOk.step ?_
          conv => whnf
          refine splD (fun g628 => ?_) (fun g628 => ?_)
          · replace h := iteP h g628
            conv => whnf
            refine splT ?_
            conv => whnf
            refine splT ?_
            conv => whnf
            obtain ⟨g630, b629, e631, h⟩ := byteD_ex h
            refine Req.of g630 ?_
            refine Byte.of _ e631 ?_
            conv => whnf
            refine splD (fun g632 => ?_) (fun g632 => ?_)
            · replace h := iteP h g632
              conv => whnf
              refine Pick.no ?_
              conv => whnf
              obtain ⟨y633, e634, h⟩ := bind_ex h
              refine CallOk.of (spec_shWalk_step_ct e634) ?_
              conv => whnf
              refine spl (fun g635 => ?_) (fun g635 => ?_)
              · replace h := iteT h g635
                conv => whnf
                refine spl (fun g636 => ?_) (fun g636 => ?_)
                · replace h := iteT h g636
                  conv => whnf
                  refine CutK.go ?_
                  conv => whnf
                  exact LoopOk.back (spec_shValue_l0_3_ct  n _ _ _ _ _ _ _ _ _ h) [some 128, some 192] [] ⟨⟨rfl, rfl⟩, ⟨rfl, ⟨rfl, rfl, rfl, trivial⟩, ⟨rfl, rfl, rfl, rfl, rfl, rfl, rfl, rfl, rfl, trivial⟩, trivial⟩, rfl, ⟨rfl, rfl⟩, ⟨rfl, rfl⟩, rfl, trivial⟩
                · replace h := iteF h g636
                  conv => whnf
                  refine CutK.go ?_
                  conv => whnf
                  exact LoopOk.back (spec_shValue_l0_3_ct  n _ _ _ _ _ _ _ _ _ h) [some 128, some 192] [] ⟨⟨rfl, rfl⟩, ⟨rfl, ⟨rfl, rfl, rfl, trivial⟩, ⟨rfl, rfl, rfl, rfl, rfl, rfl, rfl, rfl, rfl, trivial⟩, trivial⟩, rfl, ⟨rfl, rfl⟩, ⟨rfl, rfl⟩, rfl, trivial⟩
              · replace h := iteF h g635
                conv => whnf
                refine spl (fun g637 => ?_) (fun g637 => ?_)
                · replace h := iteT h g637
                  conv => whnf
                  refine CutK.go ?_
                  conv => whnf
                  exact LoopOk.back (spec_shValue_l0_3_ct  n _ _ _ _ _ _ _ _ _ h) [some 128, some 192] [] ⟨⟨rfl, rfl⟩, ⟨rfl, ⟨rfl, rfl, rfl, trivial⟩, ⟨rfl, rfl, rfl, rfl, rfl, rfl, rfl, rfl, rfl, trivial⟩, trivial⟩, rfl, ⟨rfl, rfl⟩, ⟨rfl, rfl⟩, rfl, trivial⟩
                · replace h := iteF h g637
                  conv => whnf
                  refine CutK.go ?_
                  conv => whnf
                  exact LoopOk.back (spec_shValue_l0_3_ct  n _ _ _ _ _ _ _ _ _ h) [some 128, some 192] [] ⟨⟨rfl, rfl⟩, ⟨rfl, ⟨rfl, rfl, rfl, trivial⟩, ⟨rfl, rfl, rfl, rfl, rfl, rfl, rfl, rfl, rfl, trivial⟩, trivial⟩, rfl, ⟨rfl, rfl⟩, ⟨rfl, rfl⟩, rfl, trivial⟩
            · replace h := iteN h g632
              conv => whnf
              refine Pick.no ?_
              conv => whnf
              obtain ⟨y638, e639, h⟩ := bind_ex h
              refine CallOk.of (spec_shWalk_step_ct e639) ?_
              conv => whnf
              refine spl (fun g640 => ?_) (fun g640 => ?_)
              · replace h := iteT h g640
                conv => whnf
                refine spl (fun g641 => ?_) (fun g641 => ?_)
                · replace h := iteT h g641
                  conv => whnf
                  refine CutK.go ?_
                  conv => whnf
                  exact LoopOk.back (spec_shValue_l0_3_ct  n _ _ _ _ _ _ _ _ _ h) [some 128, some 192] [] ⟨⟨rfl, rfl⟩, ⟨rfl, ⟨rfl, rfl, rfl, trivial⟩, ⟨rfl, rfl, rfl, rfl, rfl, rfl, rfl, rfl, rfl, trivial⟩, trivial⟩, rfl, ⟨rfl, rfl⟩, ⟨rfl, rfl⟩, rfl, trivial⟩
                · replace h := iteF h g641
                  conv => whnf
                  refine CutK.go ?_
                  conv => whnf
                  exact LoopOk.back (spec_shValue_l0_3_ct  n _ _ _ _ _ _ _ _ _ h) [some 128, some 192] [] ⟨⟨rfl, rfl⟩, ⟨rfl, ⟨rfl, rfl, rfl, trivial⟩, ⟨rfl, rfl, rfl, rfl, rfl, rfl, rfl, rfl, rfl, trivial⟩, trivial⟩, rfl, ⟨rfl, rfl⟩, ⟨rfl, rfl⟩, rfl, trivial⟩
              · replace h := iteF h g640
                conv => whnf
                refine spl (fun g642 => ?_) (fun g642 => ?_)
                · replace h := iteT h g642
                  conv => whnf
                  refine CutK.go ?_
                  conv => whnf
                  exact LoopOk.back (spec_shValue_l0_3_ct  n _ _ _ _ _ _ _ _ _ h) [some 128, some 192] [] ⟨⟨rfl, rfl⟩, ⟨rfl, ⟨rfl, rfl, rfl, trivial⟩, ⟨rfl, rfl, rfl, rfl, rfl, rfl, rfl, rfl, rfl, trivial⟩, trivial⟩, rfl, ⟨rfl, rfl⟩, ⟨rfl, rfl⟩, rfl, trivial⟩
                · replace h := iteF h g642
                  conv => whnf
                  refine CutK.go ?_
                  conv => whnf
                  exact LoopOk.back (spec_shValue_l0_3_ct  n _ _ _ _ _ _ _ _ _ h) [some 128, some 192] [] ⟨⟨rfl, rfl⟩, ⟨rfl, ⟨rfl, rfl, rfl, trivial⟩, ⟨rfl, rfl, rfl, rfl, rfl, rfl, rfl, rfl, rfl, trivial⟩, trivial⟩, rfl, ⟨rfl, rfl⟩, ⟨rfl, rfl⟩, rfl, trivial⟩
          · replace h := iteN h g628
            conv => whnf
            exact ⟨_, _, [some 128, some 192], [], ⟨rfl, _, _, _, _, _, _, _, _, h, rfl, rfl⟩, ⟨⟨rfl, rfl⟩, ⟨rfl, ⟨rfl, rfl, rfl, trivial⟩, ⟨rfl, rfl, rfl, rfl, rfl, rfl, rfl, rfl, rfl, trivial⟩, trivial⟩, ⟨rfl, rfl⟩, ⟨rfl, rfl⟩, trivial⟩⟩
def spec_shValue_l0_4 (k : Nat) (a1 : ByteArray) (K0 : Int → Int → Int → Int → Int → Int → Bool → Bool → Option (Int × Int)) : Nat → Int → Int → Int → Int → Int → Int → Int → Bool → Bool → Option (Int × Int)
  | 0, _, _, _, _, _, _, _, _, _ => none
  | n + 1, v652, v653, v654, v655, v656, v657, v658, v659, v660 => (cond v659 (cond v660 (if v652 < (a1.size : Int) then (byteD a1 v652 fun b841 => (if (b841.toNat : Int) = (43 : Int) then ((spec_shWalk_step k v653 v654 v655 v656 v657 v658 true true true).bind fun y845 => (if y845.2.2.2.2.2.2.1 = true then (if y845.2.2.2.2.2.2.2 = true then (spec_shValue_l0_4 k a1 K0 n (IntKind.i64.wrap (v652 + 1)) y845.1 y845.2.1 y845.2.2.1 y845.2.2.2.1 y845.2.2.2.2.1 y845.2.2.2.2.2.1 true true) else (spec_shValue_l0_4 k a1 K0 n (IntKind.i64.wrap (v652 + 1)) y845.1 y845.2.1 y845.2.2.1 y845.2.2.2.1 y845.2.2.2.2.1 y845.2.2.2.2.2.1 true false)) else (if y845.2.2.2.2.2.2.2 = true then (spec_shValue_l0_4 k a1 K0 n (IntKind.i64.wrap (v652 + 1)) y845.1 y845.2.1 y845.2.2.1 y845.2.2.2.1 y845.2.2.2.2.1 y845.2.2.2.2.2.1 false true) else (spec_shValue_l0_4 k a1 K0 n (IntKind.i64.wrap (v652 + 1)) y845.1 y845.2.1 y845.2.2.1 y845.2.2.2.1 y845.2.2.2.2.1 y845.2.2.2.2.2.1 false false)))) else ((spec_shWalk_step k v653 v654 v655 v656 v657 v658 true true false).bind fun y850 => (if y850.2.2.2.2.2.2.1 = true then (if y850.2.2.2.2.2.2.2 = true then (spec_shValue_l0_4 k a1 K0 n (IntKind.i64.wrap (v652 + 1)) y850.1 y850.2.1 y850.2.2.1 y850.2.2.2.1 y850.2.2.2.2.1 y850.2.2.2.2.2.1 true true) else (spec_shValue_l0_4 k a1 K0 n (IntKind.i64.wrap (v652 + 1)) y850.1 y850.2.1 y850.2.2.1 y850.2.2.2.1 y850.2.2.2.2.1 y850.2.2.2.2.2.1 true false)) else (if y850.2.2.2.2.2.2.2 = true then (spec_shValue_l0_4 k a1 K0 n (IntKind.i64.wrap (v652 + 1)) y850.1 y850.2.1 y850.2.2.1 y850.2.2.2.1 y850.2.2.2.2.1 y850.2.2.2.2.2.1 false true) else (spec_shValue_l0_4 k a1 K0 n (IntKind.i64.wrap (v652 + 1)) y850.1 y850.2.1 y850.2.2.1 y850.2.2.2.1 y850.2.2.2.2.1 y850.2.2.2.2.2.1 false false)))))) else (K0 v653 v654 v655 v656 v657 v658 true true)) (if v652 < (a1.size : Int) then (byteD a1 v652 fun b826 => (if (b826.toNat : Int) = (43 : Int) then ((spec_shWalk_step k v653 v654 v655 v656 v657 v658 true false true).bind fun y830 => (if y830.2.2.2.2.2.2.1 = true then (if y830.2.2.2.2.2.2.2 = true then (spec_shValue_l0_4 k a1 K0 n (IntKind.i64.wrap (v652 + 1)) y830.1 y830.2.1 y830.2.2.1 y830.2.2.2.1 y830.2.2.2.2.1 y830.2.2.2.2.2.1 true true) else (spec_shValue_l0_4 k a1 K0 n (IntKind.i64.wrap (v652 + 1)) y830.1 y830.2.1 y830.2.2.1 y830.2.2.2.1 y830.2.2.2.2.1 y830.2.2.2.2.2.1 true false)) else (if y830.2.2.2.2.2.2.2 = true then (spec_shValue_l0_4 k a1 K0 n (IntKind.i64.wrap (v652 + 1)) y830.1 y830.2.1 y830.2.2.1 y830.2.2.2.1 y830.2.2.2.2.1 y830.2.2.2.2.2.1 false true) else (spec_shValue_l0_4 k a1 K0 n (IntKind.i64.wrap (v652 + 1)) y830.1 y830.2.1 y830.2.2.1 y830.2.2.2.1 y830.2.2.2.2.1 y830.2.2.2.2.2.1 false false)))) else ((spec_shWalk_step k v653 v654 v655 v656 v657 v658 true false false).bind fun y835 => (if y835.2.2.2.2.2.2.1 = true then (if y835.2.2.2.2.2.2.2 = true then (spec_shValue_l0_4 k a1 K0 n (IntKind.i64.wrap (v652 + 1)) y835.1 y835.2.1 y835.2.2.1 y835.2.2.2.1 y835.2.2.2.2.1 y835.2.2.2.2.2.1 true true) else (spec_shValue_l0_4 k a1 K0 n (IntKind.i64.wrap (v652 + 1)) y835.1 y835.2.1 y835.2.2.1 y835.2.2.2.1 y835.2.2.2.2.1 y835.2.2.2.2.2.1 true false)) else (if y835.2.2.2.2.2.2.2 = true then (spec_shValue_l0_4 k a1 K0 n (IntKind.i64.wrap (v652 + 1)) y835.1 y835.2.1 y835.2.2.1 y835.2.2.2.1 y835.2.2.2.2.1 y835.2.2.2.2.2.1 false true) else (spec_shValue_l0_4 k a1 K0 n (IntKind.i64.wrap (v652 + 1)) y835.1 y835.2.1 y835.2.2.1 y835.2.2.2.1 y835.2.2.2.2.1 y835.2.2.2.2.2.1 false false)))))) else (K0 v653 v654 v655 v656 v657 v658 false true))) (cond v660 (if v652 < (a1.size : Int) then (byteD a1 v652 fun b811 => (if (b811.toNat : Int) = (43 : Int) then ((spec_shWalk_step k v653 v654 v655 v656 v657 v658 false true true).bind fun y815 => (if y815.2.2.2.2.2.2.1 = true then (if y815.2.2.2.2.2.2.2 = true then (spec_shValue_l0_4 k a1 K0 n (IntKind.i64.wrap (v652 + 1)) y815.1 y815.2.1 y815.2.2.1 y815.2.2.2.1 y815.2.2.2.2.1 y815.2.2.2.2.2.1 true true) else (spec_shValue_l0_4 k a1 K0 n (IntKind.i64.wrap (v652 + 1)) y815.1 y815.2.1 y815.2.2.1 y815.2.2.2.1 y815.2.2.2.2.1 y815.2.2.2.2.2.1 true false)) else (if y815.2.2.2.2.2.2.2 = true then (spec_shValue_l0_4 k a1 K0 n (IntKind.i64.wrap (v652 + 1)) y815.1 y815.2.1 y815.2.2.1 y815.2.2.2.1 y815.2.2.2.2.1 y815.2.2.2.2.2.1 false true) else (spec_shValue_l0_4 k a1 K0 n (IntKind.i64.wrap (v652 + 1)) y815.1 y815.2.1 y815.2.2.1 y815.2.2.2.1 y815.2.2.2.2.1 y815.2.2.2.2.2.1 false false)))) else ((spec_shWalk_step k v653 v654 v655 v656 v657 v658 false true false).bind fun y820 => (if y820.2.2.2.2.2.2.1 = true then (if y820.2.2.2.2.2.2.2 = true then (spec_shValue_l0_4 k a1 K0 n (IntKind.i64.wrap (v652 + 1)) y820.1 y820.2.1 y820.2.2.1 y820.2.2.2.1 y820.2.2.2.2.1 y820.2.2.2.2.2.1 true true) else (spec_shValue_l0_4 k a1 K0 n (IntKind.i64.wrap (v652 + 1)) y820.1 y820.2.1 y820.2.2.1 y820.2.2.2.1 y820.2.2.2.2.1 y820.2.2.2.2.2.1 true false)) else (if y820.2.2.2.2.2.2.2 = true then (spec_shValue_l0_4 k a1 K0 n (IntKind.i64.wrap (v652 + 1)) y820.1 y820.2.1 y820.2.2.1 y820.2.2.2.1 y820.2.2.2.2.1 y820.2.2.2.2.2.1 false true) else (spec_shValue_l0_4 k a1 K0 n (IntKind.i64.wrap (v652 + 1)) y820.1 y820.2.1 y820.2.2.1 y820.2.2.2.1 y820.2.2.2.2.1 y820.2.2.2.2.2.1 false false)))))) else (K0 v653 v654 v655 v656 v657 v658 true false)) (if v652 < (a1.size : Int) then (byteD a1 v652 fun b796 => (if (b796.toNat : Int) = (43 : Int) then ((spec_shWalk_step k v653 v654 v655 v656 v657 v658 false false true).bind fun y800 => (if y800.2.2.2.2.2.2.1 = true then (if y800.2.2.2.2.2.2.2 = true then (spec_shValue_l0_4 k a1 K0 n (IntKind.i64.wrap (v652 + 1)) y800.1 y800.2.1 y800.2.2.1 y800.2.2.2.1 y800.2.2.2.2.1 y800.2.2.2.2.2.1 true true) else (spec_shValue_l0_4 k a1 K0 n (IntKind.i64.wrap (v652 + 1)) y800.1 y800.2.1 y800.2.2.1 y800.2.2.2.1 y800.2.2.2.2.1 y800.2.2.2.2.2.1 true false)) else (if y800.2.2.2.2.2.2.2 = true then (spec_shValue_l0_4 k a1 K0 n (IntKind.i64.wrap (v652 + 1)) y800.1 y800.2.1 y800.2.2.1 y800.2.2.2.1 y800.2.2.2.2.1 y800.2.2.2.2.2.1 false true) else (spec_shValue_l0_4 k a1 K0 n (IntKind.i64.wrap (v652 + 1)) y800.1 y800.2.1 y800.2.2.1 y800.2.2.2.1 y800.2.2.2.2.1 y800.2.2.2.2.2.1 false false)))) else ((spec_shWalk_step k v653 v654 v655 v656 v657 v658 false false false).bind fun y805 => (if y805.2.2.2.2.2.2.1 = true then (if y805.2.2.2.2.2.2.2 = true then (spec_shValue_l0_4 k a1 K0 n (IntKind.i64.wrap (v652 + 1)) y805.1 y805.2.1 y805.2.2.1 y805.2.2.2.1 y805.2.2.2.2.1 y805.2.2.2.2.2.1 true true) else (spec_shValue_l0_4 k a1 K0 n (IntKind.i64.wrap (v652 + 1)) y805.1 y805.2.1 y805.2.2.1 y805.2.2.2.1 y805.2.2.2.2.1 y805.2.2.2.2.2.1 true false)) else (if y805.2.2.2.2.2.2.2 = true then (spec_shValue_l0_4 k a1 K0 n (IntKind.i64.wrap (v652 + 1)) y805.1 y805.2.1 y805.2.2.1 y805.2.2.2.1 y805.2.2.2.2.1 y805.2.2.2.2.2.1 false true) else (spec_shValue_l0_4 k a1 K0 n (IntKind.i64.wrap (v652 + 1)) y805.1 y805.2.1 y805.2.2.1 y805.2.2.2.1 y805.2.2.2.2.1 y805.2.2.2.2.2.1 false false)))))) else (K0 v653 v654 v655 v656 v657 v658 false false))))
set_option maxHeartbeats 4000000 in
set_option maxRecDepth 100000 in
theorem spec_shValue_l0_4_ct {k : Nat} {a1 : ByteArray} {K0 : Int → Int → Int → Int → Int → Int → Bool → Bool → Option (Int × Int)} {r : Int × Int} : ∀ (n : Nat) (v652 : Int) (v653 : Int) (v654 : Int) (v655 : Int) (v656 : Int) (v657 : Int) (v658 : Int) (v659 : Bool) (v660 : Bool), spec_shValue_l0_4 k a1 K0 n v652 v653 v654 v655 v656 v657 v658 v659 v660 = some r → LoopOk prog 0 (lp f118 0) (mk 20 [(0, .d (D.str a1)), (2, .ptr 128 0), (3, .ptr 192 0), (4, .d (D.int .i64 v652))] [(128, .box 28 [.d (D.int .i64 0), .d (D.int .i64 0)]), (192, .box 139 [.d (D.int .i64 v653), .d (D.int .i64 v654), .d (D.int .i64 v655), .d (D.int .i64 v656), .d (D.int .i64 v657), .d (D.int .i64 v658), .d (D.bool v659), .d (D.bool v660)])]) (LoopEnd prog f118 0 20 (.agg [.d (D.int .i64 r.1), .d (D.int .i64 r.2)]) (⟨[], []⟩) (fun i ts os => (i = 0 ∧ ∃ v682 : Int, ∃ v683 : Int, ∃ v684 : Int, ∃ v685 : Int, ∃ v686 : Int, ∃ v687 : Int, ∃ v703 : Bool, ∃ v719 : Bool, K0 v682 v683 v684 v685 v686 v687 v703 v719 = some r ∧ ts = [(2, .ptr 128 0), (3, .ptr 192 0)] ∧ os = [(128, .box 28 [.d (D.int .i64 0), .d (D.int .i64 0)]), (192, .box 139 [.d (D.int .i64 v682), .d (D.int .i64 v683), .d (D.int .i64 v684), .d (D.int .i64 v685), .d (D.int .i64 v686), .d (D.int .i64 v687), .d (D.bool v719), .d (D.bool v703)])])))
  | 0, _, _, _, _, _, _, _, _, _, h => by
      rw [spec_shValue_l0_4] at h; cases h
  | n + 1, v652, v653, v654, v655, v656, v657, v658, v659, v660, h => by
      rw [spec_shValue_l0_4] at h
      cases v659
      · replace h := condF h
        cases v660
        · replace h := condF h
          refine LoopOk.step ?_
          conv => whnf
          refine splD (fun g795 => ?_) (fun g795 => ?_)
          · replace h := iteP h g795
            conv => whnf
            refine splF ?_
            conv => whnf
            refine splF ?_
            conv => whnf
            obtain ⟨g797, b796, e798, h⟩ := byteD_ex h
            refine Req.of g797 ?_
            refine Byte.of _ e798 ?_
            conv => whnf
            refine splD (fun g799 => ?_) (fun g799 => ?_)
            · replace h := iteP h g799
              conv => whnf
              refine Pick.no ?_
              conv => whnf
              obtain ⟨y800, e801, h⟩ := bind_ex h
              refine CallOk.of (spec_shWalk_step_ct e801) ?_
              conv => whnf
              refine spl (fun g802 => ?_) (fun g802 => ?_)
              · replace h := iteT h g802
                conv => whnf
                refine spl (fun g803 => ?_) (fun g803 => ?_)
                · replace h := iteT h g803
                  conv => whnf
                  refine CutK.go ?_
                  conv => whnf
                  exact LoopOk.back (spec_shValue_l0_4_ct  n _ _ _ _ _ _ _ _ _ h) [some 128, some 192] [] ⟨⟨rfl, rfl⟩, ⟨rfl, ⟨rfl, rfl, rfl, trivial⟩, ⟨rfl, rfl, rfl, rfl, rfl, rfl, rfl, rfl, rfl, trivial⟩, trivial⟩, rfl, ⟨rfl, rfl⟩, ⟨rfl, rfl⟩, rfl, trivial⟩
                · replace h := iteF h g803
                  conv => whnf
                  refine CutK.go ?_
                  conv => whnf
                  exact LoopOk.back (spec_shValue_l0_4_ct  n _ _ _ _ _ _ _ _ _ h) [some 128, some 192] [] ⟨⟨rfl, rfl⟩, ⟨rfl, ⟨rfl, rfl, rfl, trivial⟩, ⟨rfl, rfl, rfl, rfl, rfl, rfl, rfl, rfl, rfl, trivial⟩, trivial⟩, rfl, ⟨rfl, rfl⟩, ⟨rfl, rfl⟩, rfl, trivial⟩
              · replace h := iteF h g802
                conv => whnf
                refine spl (fun g804 => ?_) (fun g804 => ?_)
                · replace h := iteT h g804
                  conv => whnf
                  refine CutK.go ?_
                  conv => whnf
                  exact LoopOk.back (spec_shValue_l0_4_ct  n _ _ _ _ _ _ _ _ _ h) [some 128, some 192] [] ⟨⟨rfl, rfl⟩, ⟨rfl, ⟨rfl, rfl, rfl, trivial⟩, ⟨rfl, rfl, rfl, rfl, rfl, rfl, rfl, rfl, rfl, trivial⟩, trivial⟩, rfl, ⟨rfl, rfl⟩, ⟨rfl, rfl⟩, rfl, trivial⟩
                · replace h := iteF h g804
                  conv => whnf
                  refine CutK.go ?_
                  conv => whnf
                  exact LoopOk.back (spec_shValue_l0_4_ct  n _ _ _ _ _ _ _ _ _ h) [some 128, some 192] [] ⟨⟨rfl, rfl⟩, ⟨rfl, ⟨rfl, rfl, rfl, trivial⟩, ⟨rfl, rfl, rfl, rfl, rfl, rfl, rfl, rfl, rfl, trivial⟩, trivial⟩, rfl, ⟨rfl, rfl⟩, ⟨rfl, rfl⟩, rfl, trivial⟩
            · replace h := iteN h g799
              conv => whnf
              refine Pick.no ?_
              conv => whnf
              obtain ⟨y805, e806, h⟩ := bind_ex h
              refine CallOk.of (spec_shWalk_step_ct e806) ?_
              conv => whnf
              refine spl (fun g807 => ?_) (fun g807 => ?_)
              · replace h := iteT h g807
                conv => whnf
                refine spl (fun g808 => ?_) (fun g808 => ?_)
                · replace h := iteT h g808
                  conv => whnf
                  refine CutK.go ?_
                  conv => whnf
                  exact LoopOk.back (spec_shValue_l0_4_ct  n _ _ _ _ _ _ _ _ _ h) [some 128, some 192] [] ⟨⟨rfl, rfl⟩, ⟨rfl, ⟨rfl, rfl, rfl, trivial⟩, ⟨rfl, rfl, rfl, rfl, rfl, rfl, rfl, rfl, rfl, trivial⟩, trivial⟩, rfl, ⟨rfl, rfl⟩, ⟨rfl, rfl⟩, rfl, trivial⟩
                · replace h := iteF h g808
                  conv => whnf
                  refine CutK.go ?_
                  conv => whnf
                  exact LoopOk.back (spec_shValue_l0_4_ct  n _ _ _ _ _ _ _ _ _ h) [some 128, some 192] [] ⟨⟨rfl, rfl⟩, ⟨rfl, ⟨rfl, rfl, rfl, trivial⟩, ⟨rfl, rfl, rfl, rfl, rfl, rfl, rfl, rfl, rfl, trivial⟩, trivial⟩, rfl, ⟨rfl, rfl⟩, ⟨rfl, rfl⟩, rfl, trivial⟩
              · replace h := iteF h g807
                conv => whnf
                refine spl (fun g809 => ?_) (fun g809 => ?_)
                · replace h := iteT h g809
                  conv => whnf
                  refine CutK.go ?_
                  conv => whnf
                  exact LoopOk.back (spec_shValue_l0_4_ct  n _ _ _ _ _ _ _ _ _ h) [some 128, some 192] [] ⟨⟨rfl, rfl⟩, ⟨rfl, ⟨rfl, rfl, rfl, trivial⟩, ⟨rfl, rfl, rfl, rfl, rfl, rfl, rfl, rfl, rfl, trivial⟩, trivial⟩, rfl, ⟨rfl, rfl⟩, ⟨rfl, rfl⟩, rfl, trivial⟩
                · replace h := iteF h g809
                  conv => whnf
                  refine CutK.go ?_
                  conv => whnf
                  exact LoopOk.back (spec_shValue_l0_4_ct  n _ _ _ _ _ _ _ _ _ h) [some 128, some 192] [] ⟨⟨rfl, rfl⟩, ⟨rfl, ⟨rfl, rfl, rfl, trivial⟩, ⟨rfl, rfl, rfl, rfl, rfl, rfl, rfl, rfl, rfl, trivial⟩, trivial⟩, rfl, ⟨rfl, rfl⟩, ⟨rfl, rfl⟩, rfl, trivial⟩
          · replace h := iteN h g795
            conv => whnf
            exact ⟨_, _, [some 128, some 192], [], ⟨rfl, _, _, _, _, _, _, _, _, h, rfl, rfl⟩, ⟨⟨rfl, rfl⟩, ⟨rfl, ⟨rfl, rfl, rfl, trivial⟩, ⟨rfl, rfl, rfl, rfl, rfl, rfl, rfl, rfl, rfl, trivial⟩, trivial⟩, ⟨rfl, rfl⟩, ⟨rfl, rfl⟩, trivial⟩⟩
        · replace h := condT h
          refine LoopOk.step ?_
          conv => whnf
          refine splD (fun g810 => ?_) (fun g810 => ?_)
          · replace h := iteP h g810
            conv => whnf
            refine splF ?_
            conv => whnf
            refine splT ?_
            conv => whnf
            obtain ⟨g812, b811, e813, h⟩ := byteD_ex h
            refine Req.of g812 ?_
            refine Byte.of _ e813 ?_
            conv => whnf
            refine splD (fun g814 => ?_) (fun g814 => ?_)
            · replace h := iteP h g814
              conv => whnf
              refine Pick.no ?_
              conv => whnf
              obtain ⟨y815, e816, h⟩ := bind_ex h
              refine CallOk.of (spec_shWalk_step_ct e816) ?_
              conv => whnf
              refine spl (fun g817 => ?_) (fun g817 => ?_)
              · replace h := iteT h g817
                conv => whnf
                refine spl (fun g818 => ?_) (fun g818 => ?_)
                · replace h := iteT h g818
                  conv => whnf
                  refine CutK.go ?_
                  conv => whnf
                  exact LoopOk.back (spec_shValue_l0_4_ct  n _ _ _ _ _ _ _ _ _ h) [some 128, some 192] [] ⟨⟨rfl, rfl⟩, ⟨rfl, ⟨rfl, rfl, rfl, trivial⟩, ⟨rfl, rfl, rfl, rfl, rfl, rfl, rfl, rfl, rfl, trivial⟩, trivial⟩, rfl, ⟨rfl, rfl⟩, ⟨rfl, rfl⟩, rfl, trivial⟩
                · replace h := iteF h g818
                  conv => whnf
                  refine CutK.go ?_
                  conv => whnf
                  exact LoopOk.back (spec_shValue_l0_4_ct  n _ _ _ _ _ _ _ _ _ h) [some 128, some 192] [] ⟨⟨rfl, rfl⟩, ⟨rfl, ⟨rfl, rfl, rfl, trivial⟩, ⟨rfl, rfl, rfl, rfl, rfl, rfl, rfl, rfl, rfl, trivial⟩, trivial⟩, rfl, ⟨rfl, rfl⟩, ⟨rfl, rfl⟩, rfl, trivial⟩
              · replace h := iteF h g817
                conv => whnf
                refine spl (fun g819 => ?_) (fun g819 => ?_)
                · replace h := iteT h g819
                  conv => whnf
                  refine CutK.go ?_
                  conv => whnf
                  exact LoopOk.back (spec_shValue_l0_4_ct  n _ _ _ _ _ _ _ _ _ h) [some 128, some 192] [] ⟨⟨rfl, rfl⟩, ⟨rfl, ⟨rfl, rfl, rfl, trivial⟩, ⟨rfl, rfl, rfl, rfl, rfl, rfl, rfl, rfl, rfl, trivial⟩, trivial⟩, rfl, ⟨rfl, rfl⟩, ⟨rfl, rfl⟩, rfl, trivial⟩
                · replace h := iteF h g819
                  conv => whnf
                  refine CutK.go ?_
                  conv => whnf
                  exact LoopOk.back (spec_shValue_l0_4_ct  n _ _ _ _ _ _ _ _ _ h) [some 128, some 192] [] ⟨⟨rfl, rfl⟩, ⟨rfl, ⟨rfl, rfl, rfl, trivial⟩, ⟨rfl, rfl, rfl, rfl, rfl, rfl, rfl, rfl, rfl, trivial⟩, trivial⟩, rfl, ⟨rfl, rfl⟩, ⟨rfl, rfl⟩, rfl, trivial⟩
            · replace h := iteN h g814
              conv => whnf
              refine Pick.no ?_
              conv => whnf
              obtain ⟨y820, e821, h⟩ := bind_ex h
              refine CallOk.of (spec_shWalk_step_ct e821) ?_
              conv => whnf
              refine spl (fun g822 => ?_) (fun g822 => ?_)
              · replace h := iteT h g822
                conv => whnf
                refine spl (fun g823 => ?_) (fun g823 => ?_)
                · replace h := iteT h g823
                  conv => whnf
                  refine CutK.go ?_
                  conv => whnf
                  exact LoopOk.back (spec_shValue_l0_4_ct  n _ _ _ _ _ _ _ _ _ h) [some 128, some 192] [] ⟨⟨rfl, rfl⟩, ⟨rfl, ⟨rfl, rfl, rfl, trivial⟩, ⟨rfl, rfl, rfl, rfl, rfl, rfl, rfl, rfl, rfl, trivial⟩, trivial⟩, rfl, ⟨rfl, rfl⟩, ⟨rfl, rfl⟩, rfl, trivial⟩
                · replace h := iteF h g823
                  conv => whnf
                  refine CutK.go ?_
                  conv => whnf
                  exact LoopOk.back (spec_shValue_l0_4_ct  n _ _ _ _ _ _ _ _ _ h) [some 128, some 192] [] ⟨⟨rfl, rfl⟩, ⟨rfl, ⟨rfl, rfl, rfl, trivial⟩, ⟨rfl, rfl, rfl, rfl, rfl, rfl, rfl, rfl, rfl, trivial⟩, trivial⟩, rfl, ⟨rfl, rfl⟩, ⟨rfl, rfl⟩, rfl, trivial⟩
              · replace h := iteF h g822
                conv => whnf
                refine spl (fun g824 => ?_) (fun g824 => ?_)
                · replace h := iteT h g824
                  conv => whnf
                  refine CutK.go ?_
                  conv => whnf
                  exact LoopOk.back (spec_shValue_l0_4_ct  n _ _ _ _ _ _ _ _ _ h) [some 128, some 192] [] ⟨⟨rfl, rfl⟩, ⟨rfl, ⟨rfl, rfl, rfl, trivial⟩, ⟨rfl, rfl, rfl, rfl, rfl, rfl, rfl, rfl, rfl, trivial⟩, trivial⟩, rfl, ⟨rfl, rfl⟩, ⟨rfl, rfl⟩, rfl, trivial⟩
                · replace h := iteF h g824
                  conv => whnf
                  refine CutK.go ?_
                  conv => whnf
                  exact LoopOk.back (spec_shValue_l0_4_ct  n _ _ _ _ _ _ _ _ _ h) [some 128, some 192] [] ⟨⟨rfl, rfl⟩, ⟨rfl, ⟨rfl, rfl, rfl, trivial⟩, ⟨rfl, rfl, rfl, rfl, rfl, rfl, rfl, rfl, rfl, trivial⟩, trivial⟩, rfl, ⟨rfl, rfl⟩, ⟨rfl, rfl⟩, rfl, trivial⟩
          · replace h := iteN h g810
            conv => whnf
            exact ⟨_, _, [some 128, some 192], [], ⟨rfl, _, _, _, _, _, _, _, _, h, rfl, rfl⟩, ⟨⟨rfl, rfl⟩, ⟨rfl, ⟨rfl, rfl, rfl, trivial⟩, ⟨rfl, rfl, rfl, rfl, rfl, rfl, rfl, rfl, rfl, trivial⟩, trivial⟩, ⟨rfl, rfl⟩, ⟨rfl, rfl⟩, trivial⟩⟩
      · replace h := condT h
        cases v660
        · replace h := condF h
          refine LoopOk.step ?_
          conv => whnf
          refine splD (fun g825 => ?_) (fun g825 => ?_)
          · replace h := iteP h g825
            conv => whnf
            refine splT ?_
            conv => whnf
            refine splF ?_
            conv => whnf
            obtain ⟨g827, b826, e828, h⟩ := byteD_ex h
            refine Req.of g827 ?_
            refine Byte.of _ e828 ?_
            conv => whnf
            refine splD (fun g829 => ?_) (fun g829 => ?_)
            · replace h := iteP h g829
              conv => whnf
              refine Pick.no ?_
              conv => whnf
              obtain ⟨y830, e831, h⟩ := bind_ex h
              refine CallOk.of (spec_shWalk_step_ct e831) ?_
              conv => whnf
              refine spl (fun g832 => ?_) (fun g832 => ?_)
              · replace h := iteT h g832
                conv => whnf
                refine spl (fun g833 => ?_) (fun g833 => ?_)
                · replace h := iteT h g833
                  conv => whnf
                  refine CutK.go ?_
                  conv => whnf
                  exact LoopOk.back (spec_shValue_l0_4_ct  n _ _ _ _ _ _ _ _ _ h) [some 128, some 192] [] ⟨⟨rfl, rfl⟩, ⟨rfl, ⟨rfl, rfl, rfl, trivial⟩, ⟨rfl, rfl, rfl, rfl, rfl, rfl, rfl, rfl, rfl, trivial⟩, trivial⟩, rfl, ⟨rfl, rfl⟩, ⟨rfl, rfl⟩, rfl, trivial⟩
                · replace h := iteF h g833
                  conv => whnf
                  refine CutK.go ?_
                  conv => whnf
                  exact LoopOk.back (spec_shValue_l0_4_ct  n _ _ _ _ _ _ _ _ _ h) [some 128, some 192] [] ⟨⟨rfl, rfl⟩, ⟨rfl, ⟨rfl, rfl, rfl, trivial⟩, ⟨rfl, rfl, rfl, rfl, rfl, rfl, rfl, rfl, rfl, trivial⟩, trivial⟩, rfl, ⟨rfl, rfl⟩, ⟨rfl, rfl⟩, rfl, trivial⟩
              · replace h := iteF h g832
                conv => whnf
                refine spl (fun g834 => ?_) (fun g834 => ?_)
                · replace h := iteT h g834
                  conv => whnf
                  refine CutK.go ?_
                  conv => whnf
                  exact LoopOk.back (spec_shValue_l0_4_ct  n _ _ _ _ _ _ _ _ _ h) [some 128, some 192] [] ⟨⟨rfl, rfl⟩, ⟨rfl, ⟨rfl, rfl, rfl, trivial⟩, ⟨rfl, rfl, rfl, rfl, rfl, rfl, rfl, rfl, rfl, trivial⟩, trivial⟩, rfl, ⟨rfl, rfl⟩, ⟨rfl, rfl⟩, rfl, trivial⟩
                · replace h := iteF h g834
                  conv => whnf
                  refine CutK.go ?_
                  conv => whnf
                  exact LoopOk.back (spec_shValue_l0_4_ct  n _ _ _ _ _ _ _ _ _ h) [some 128, some 192] [] ⟨⟨rfl, rfl⟩, ⟨rfl, ⟨rfl, rfl, rfl, trivial⟩, ⟨rfl, rfl, rfl, rfl, rfl, rfl, rfl, rfl, rfl, trivial⟩, trivial⟩, rfl, ⟨rfl, rfl⟩, ⟨rfl, rfl⟩, rfl, trivial⟩
            · replace h := iteN h g829
              conv => whnf
              refine Pick.no ?_
              conv => whnf
              obtain ⟨y835, e836, h⟩ := bind_ex h
              refine CallOk.of (spec_shWalk_step_ct e836) ?_
              conv => whnf
              refine spl (fun g837 => ?_) (fun g837 => ?_)
              · replace h := iteT h g837
                conv => whnf
                refine spl (fun g838 => ?_) (fun g838 => ?_)
                · replace h := iteT h g838
                  conv => whnf
                  refine CutK.go ?_
                  conv => whnf
                  exact LoopOk.back (spec_shValue_l0_4_ct  n _ _ _ _ _ _ _ _ _ h) [some 128, some 192] [] ⟨⟨rfl, rfl⟩, ⟨rfl, ⟨rfl, rfl, rfl, trivial⟩, ⟨rfl, rfl, rfl, rfl, rfl, rfl, rfl, rfl, rfl, trivial⟩, trivial⟩, rfl, ⟨rfl, rfl⟩, ⟨rfl, rfl⟩, rfl, trivial⟩
                · replace h := iteF h g838
                  conv => whnf
                  refine CutK.go ?_
                  conv => whnf
                  exact LoopOk.back (spec_shValue_l0_4_ct  n _ _ _ _ _ _ _ _ _ h) [some 128, some 192] [] ⟨⟨rfl, rfl⟩, ⟨rfl, ⟨rfl, rfl, rfl, trivial⟩, ⟨rfl, rfl, rfl, rfl, rfl, rfl, rfl, rfl, rfl, trivial⟩, trivial⟩, rfl, ⟨rfl, rfl⟩, ⟨rfl, rfl⟩, rfl, trivial⟩
              · replace h := iteF h g837
                conv => whnf
                refine spl (fun g839 => ?_) (fun g839 => ?_)
                · replace h := iteT h g839
                  conv => whnf
                  refine CutK.go ?_
                  conv => whnf
                  exact LoopOk.back (spec_shValue_l0_4_ct  n _ _ _ _ _ _ _ _ _ h) [some 128, some 192] [] ⟨⟨rfl, rfl⟩, ⟨rfl, ⟨rfl, rfl, rfl, trivial⟩, ⟨rfl, rfl, rfl, rfl, rfl, rfl, rfl, rfl, rfl, trivial⟩, trivial⟩, rfl, ⟨rfl, rfl⟩, ⟨rfl, rfl⟩, rfl, trivial⟩
                · replace h := iteF h g839
                  conv => whnf
                  refine CutK.go ?_
                  conv => whnf
                  exact LoopOk.back (spec_shValue_l0_4_ct  n _ _ _ _ _ _ _ _ _ h) [some 128, some 192] [] ⟨⟨rfl, rfl⟩, ⟨rfl, ⟨rfl, rfl, rfl, trivial⟩, ⟨rfl, rfl, rfl, rfl, rfl, rfl, rfl, rfl, rfl, trivial⟩, trivial⟩, rfl, ⟨rfl, rfl⟩, ⟨rfl, rfl⟩, rfl, trivial⟩
          · replace h := iteN h g825
            conv => whnf
            exact ⟨_, _, [some 128, some 192], [], ⟨rfl, _, _, _, _, _, _, _, _, h, rfl, rfl⟩, ⟨⟨rfl, rfl⟩, ⟨rfl, ⟨rfl, rfl, rfl, trivial⟩, ⟨rfl, rfl, rfl, rfl, rfl, rfl, rfl, rfl, rfl, trivial⟩, trivial⟩, ⟨rfl, rfl⟩, ⟨rfl, rfl⟩, trivial⟩⟩
        · replace h := condT h
          refine LoopOk.step ?_
          conv => whnf
          refine splD (fun g840 => ?_) (fun g840 => ?_)
          · replace h := iteP h g840
            conv => whnf
            refine splT ?_
            conv => whnf
            refine splT ?_
            conv => whnf
            obtain ⟨g842, b841, e843, h⟩ := byteD_ex h
            refine Req.of g842 ?_
            refine Byte.of _ e843 ?_
            conv => whnf
            refine splD (fun g844 => ?_) (fun g844 => ?_)
            · replace h := iteP h g844
              conv => whnf
              refine Pick.no ?_
              conv => whnf
              obtain ⟨y845, e846, h⟩ := bind_ex h
              refine CallOk.of (spec_shWalk_step_ct e846) ?_
              conv => whnf
              refine spl (fun g847 => ?_) (fun g847 => ?_)
              · replace h := iteT h g847
                conv => whnf
                refine spl (fun g848 => ?_) (fun g848 => ?_)
                · replace h := iteT h g848
                  conv => whnf
                  refine CutK.go ?_
                  conv => whnf
                  exact LoopOk.back (spec_shValue_l0_4_ct  n _ _ _ _ _ _ _ _ _ h) [some 128, some 192] [] ⟨⟨rfl, rfl⟩, ⟨rfl, ⟨rfl, rfl, rfl, trivial⟩, ⟨rfl, rfl, rfl, rfl, rfl, rfl, rfl, rfl, rfl, trivial⟩, trivial⟩, rfl, ⟨rfl, rfl⟩, ⟨rfl, rfl⟩, rfl, trivial⟩
                · replace h := iteF h g848
                  conv => whnf
                  refine CutK.go ?_
                  conv => whnf
                  exact LoopOk.back (spec_shValue_l0_4_ct  n _ _ _ _ _ _ _ _ _ h) [some 128, some 192] [] ⟨⟨rfl, rfl⟩, ⟨rfl, ⟨rfl, rfl, rfl, trivial⟩, ⟨rfl, rfl, rfl, rfl, rfl, rfl, rfl, rfl, rfl, trivial⟩, trivial⟩, rfl, ⟨rfl, rfl⟩, ⟨rfl, rfl⟩, rfl, trivial⟩
              · replace h := iteF h g847
                conv => whnf
                refine spl (fun g849 => ?_) (fun g849 => ?_)
                · replace h := iteT h g849
                  conv => whnf
                  refine CutK.go ?_
                  conv => whnf
                  exact LoopOk.back (spec_shValue_l0_4_ct  n _ _ _ _ _ _ _ _ _ h) [some 128, some 192] [] ⟨⟨rfl, rfl⟩, ⟨rfl, ⟨rfl, rfl, rfl, trivial⟩, ⟨rfl, rfl, rfl, rfl, rfl, rfl, rfl, rfl, rfl, trivial⟩, trivial⟩, rfl, ⟨rfl, rfl⟩, ⟨rfl, rfl⟩, rfl, trivial⟩
                · replace h := iteF h g849
                  conv => whnf
                  refine CutK.go ?_
                  conv => whnf
                  exact LoopOk.back (spec_shValue_l0_4_ct  n _ _ _ _ _ _ _ _ _ h) [some 128, some 192] [] ⟨⟨rfl, rfl⟩, ⟨rfl, ⟨rfl, rfl, rfl, trivial⟩, ⟨rfl, rfl, rfl, rfl, rfl, rfl, rfl, rfl, rfl, trivial⟩, trivial⟩, rfl, ⟨rfl, rfl⟩, ⟨rfl, rfl⟩, rfl, trivial⟩
            · replace h := iteN h g844
              conv => whnf
              refine Pick.no ?_
              conv => whnf
              obtain ⟨y850, e851, h⟩ := bind_ex h
              refine CallOk.of (spec_shWalk_step_ct e851) ?_
              conv => whnf
              refine spl (fun g852 => ?_) (fun g852 => ?_)
              · replace h := iteT h g852
                conv => whnf
                refine spl (fun g853 => ?_) (fun g853 => ?_)
                · replace h := iteT h g853
                  conv => whnf
                  refine CutK.go ?_
                  conv => whnf
                  exact LoopOk.back (spec_shValue_l0_4_ct  n _ _ _ _ _ _ _ _ _ h) [some 128, some 192] [] ⟨⟨rfl, rfl⟩, ⟨rfl, ⟨rfl, rfl, rfl, trivial⟩, ⟨rfl, rfl, rfl, rfl, rfl, rfl, rfl, rfl, rfl, trivial⟩, trivial⟩, rfl, ⟨rfl, rfl⟩, ⟨rfl, rfl⟩, rfl, trivial⟩
                · replace h := iteF h g853
                  conv => whnf
                  refine CutK.go ?_
                  conv => whnf
                  exact LoopOk.back (spec_shValue_l0_4_ct  n _ _ _ _ _ _ _ _ _ h) [some 128, some 192] [] ⟨⟨rfl, rfl⟩, ⟨rfl, ⟨rfl, rfl, rfl, trivial⟩, ⟨rfl, rfl, rfl, rfl, rfl, rfl, rfl, rfl, rfl, trivial⟩, trivial⟩, rfl, ⟨rfl, rfl⟩, ⟨rfl, rfl⟩, rfl, trivial⟩
              · replace h := iteF h g852
                conv => whnf
                refine spl (fun g854 => ?_) (fun g854 => ?_)
                · replace h := iteT h g854
                  conv => whnf
                  refine CutK.go ?_
                  conv => whnf
                  exact LoopOk.back (spec_shValue_l0_4_ct  n _ _ _ _ _ _ _ _ _ h) [some 128, some 192] [] ⟨⟨rfl, rfl⟩, ⟨rfl, ⟨rfl, rfl, rfl, trivial⟩, ⟨rfl, rfl, rfl, rfl, rfl, rfl, rfl, rfl, rfl, trivial⟩, trivial⟩, rfl, ⟨rfl, rfl⟩, ⟨rfl, rfl⟩, rfl, trivial⟩
                · replace h := iteF h g854
                  conv => whnf
                  refine CutK.go ?_
                  conv => whnf
                  exact LoopOk.back (spec_shValue_l0_4_ct  n _ _ _ _ _ _ _ _ _ h) [some 128, some 192] [] ⟨⟨rfl, rfl⟩, ⟨rfl, ⟨rfl, rfl, rfl, trivial⟩, ⟨rfl, rfl, rfl, rfl, rfl, rfl, rfl, rfl, rfl, trivial⟩, trivial⟩, rfl, ⟨rfl, rfl⟩, ⟨rfl, rfl⟩, rfl, trivial⟩
          · replace h := iteN h g840
            conv => whnf
            exact ⟨_, _, [some 128, some 192], [], ⟨rfl, _, _, _, _, _, _, _, _, h, rfl, rfl⟩, ⟨⟨rfl, rfl⟩, ⟨rfl, ⟨rfl, rfl, rfl, trivial⟩, ⟨rfl, rfl, rfl, rfl, rfl, rfl, rfl, rfl, rfl, trivial⟩, trivial⟩, ⟨rfl, rfl⟩, ⟨rfl, rfl⟩, trivial⟩⟩
def spec_shValue (k : Nat) (a1 : ByteArray) : Option (Int × Int) :=
  ((spec_shStart).bind fun y2 => (if y2.2.2.2.2.2.2.1 = true then (if y2.2.2.2.2.2.2.2 = true then (spec_shValue_l0 k a1 (fun (v45 : Int) (v46 : Int) (v47 : Int) (v48 : Int) (v49 : Int) (v50 : Int) (v51 : Bool) (v52 : Bool) => (cond v51 (cond v52 (some (v45, v46)) (some (v45, v46))) (cond v52 (some (v45, v46)) (some (v45, v46))))) k 0 y2.1 y2.2.1 y2.2.2.1 y2.2.2.2.1 y2.2.2.2.2.1 y2.2.2.2.2.2.1 true true) else (spec_shValue_l0_2 k a1 (fun (v257 : Int) (v258 : Int) (v259 : Int) (v260 : Int) (v261 : Int) (v262 : Int) (v263 : Bool) (v294 : Bool) => (cond v263 (cond v294 (some (v257, v258)) (some (v257, v258))) (cond v294 (some (v257, v258)) (some (v257, v258))))) k 0 y2.1 y2.2.1 y2.2.2.1 y2.2.2.2.1 y2.2.2.2.2.1 y2.2.2.2.2.2.1 false true)) else (if y2.2.2.2.2.2.2.2 = true then (spec_shValue_l0_3 k a1 (fun (v470 : Int) (v471 : Int) (v472 : Int) (v473 : Int) (v474 : Int) (v475 : Int) (v476 : Bool) (v507 : Bool) => (cond v476 (cond v507 (some (v470, v471)) (some (v470, v471))) (cond v507 (some (v470, v471)) (some (v470, v471))))) k 0 y2.1 y2.2.1 y2.2.2.1 y2.2.2.2.1 y2.2.2.2.2.1 y2.2.2.2.2.2.1 false true) else (spec_shValue_l0_4 k a1 (fun (v682 : Int) (v683 : Int) (v684 : Int) (v685 : Int) (v686 : Int) (v687 : Int) (v703 : Bool) (v719 : Bool) => (cond v703 (cond v719 (some (v682, v683)) (some (v682, v683))) (cond v719 (some (v682, v683)) (some (v682, v683))))) k 0 y2.1 y2.2.1 y2.2.2.1 y2.2.2.2.1 y2.2.2.2.2.1 y2.2.2.2.2.2.1 false false))))
set_option maxHeartbeats 4000000 in
set_option maxRecDepth 100000 in
theorem spec_shValue_ct {k : Nat} {a1 : ByteArray} {r : Int × Int} (h : spec_shValue k a1 = some r) : Ct prog 118 [.d (D.str a1)] (⟨[], []⟩) (.agg [.d (D.int .i64 r.1), .d (D.int .i64 r.2)]) (⟨[], []⟩) := by
  rw [spec_shValue] at h
  refine Ct.of (c := _) mixed func118 ⟨rfl, rfl, rfl⟩ ?_ rfl
  conv => whnf
  refine Pick.no ?_
  conv => whnf
  obtain ⟨y2, e3, h⟩ := bind_ex h
  refine CallOk.of (spec_shStart_ct e3) ?_
  conv => whnf
  refine spl (fun g4 => ?_) (fun g4 => ?_)
  · replace h := iteT h g4
    conv => whnf
    refine spl (fun g5 => ?_) (fun g5 => ?_)
    · replace h := iteT h g5
      conv => whnf
      refine CutK.go ?_
      conv => whnf
      refine LoopOk.into (spec_shValue_l0_ct  _ _ _ _ _ _ _ _ _ _ h) [some 128, some 192] [] ⟨⟨rfl, rfl⟩, ⟨rfl, ⟨rfl, rfl, rfl, trivial⟩, ⟨rfl, rfl, rfl, rfl, rfl, rfl, rfl, rfl, rfl, trivial⟩, trivial⟩, rfl, ⟨rfl, rfl⟩, ⟨rfl, rfl⟩, rfl, trivial⟩ ?_ (fun _ hs => hs)
      rintro i ts os ⟨rfl, v45, v46, v47, v48, v49, v50, v51, v52, h, rfl, rfl⟩
      cases v51
      · replace h := condF h
        cases v52
        · replace h := condF h
          conv => whnf
          refine CutK.go ?_
          conv => whnf
          cases h
          exact Done.of [] [] rfl rfl ⟨⟨rfl, rfl⟩, ⟨rfl, trivial⟩, ⟨rfl, rfl, trivial⟩, trivial⟩
        · replace h := condT h
          conv => whnf
          refine CutK.go ?_
          conv => whnf
          cases h
          exact Done.of [] [] rfl rfl ⟨⟨rfl, rfl⟩, ⟨rfl, trivial⟩, ⟨rfl, rfl, trivial⟩, trivial⟩
      · replace h := condT h
        cases v52
        · replace h := condF h
          conv => whnf
          refine CutK.go ?_
          conv => whnf
          cases h
          exact Done.of [] [] rfl rfl ⟨⟨rfl, rfl⟩, ⟨rfl, trivial⟩, ⟨rfl, rfl, trivial⟩, trivial⟩
        · replace h := condT h
          conv => whnf
          refine CutK.go ?_
          conv => whnf
          cases h
          exact Done.of [] [] rfl rfl ⟨⟨rfl, rfl⟩, ⟨rfl, trivial⟩, ⟨rfl, rfl, trivial⟩, trivial⟩
    · replace h := iteF h g5
      conv => whnf
      refine CutK.go ?_
      conv => whnf
      refine LoopOk.into (spec_shValue_l0_2_ct  _ _ _ _ _ _ _ _ _ _ h) [some 128, some 192] [] ⟨⟨rfl, rfl⟩, ⟨rfl, ⟨rfl, rfl, rfl, trivial⟩, ⟨rfl, rfl, rfl, rfl, rfl, rfl, rfl, rfl, rfl, trivial⟩, trivial⟩, rfl, ⟨rfl, rfl⟩, ⟨rfl, rfl⟩, rfl, trivial⟩ ?_ (fun _ hs => hs)
      rintro i ts os ⟨rfl, v257, v258, v259, v260, v261, v262, v263, v294, h, rfl, rfl⟩
      cases v263
      · replace h := condF h
        cases v294
        · replace h := condF h
          conv => whnf
          refine CutK.go ?_
          conv => whnf
          cases h
          exact Done.of [] [] rfl rfl ⟨⟨rfl, rfl⟩, ⟨rfl, trivial⟩, ⟨rfl, rfl, trivial⟩, trivial⟩
        · replace h := condT h
          conv => whnf
          refine CutK.go ?_
          conv => whnf
          cases h
          exact Done.of [] [] rfl rfl ⟨⟨rfl, rfl⟩, ⟨rfl, trivial⟩, ⟨rfl, rfl, trivial⟩, trivial⟩
      · replace h := condT h
        cases v294
        · replace h := condF h
          conv => whnf
          refine CutK.go ?_
          conv => whnf
          cases h
          exact Done.of [] [] rfl rfl ⟨⟨rfl, rfl⟩, ⟨rfl, trivial⟩, ⟨rfl, rfl, trivial⟩, trivial⟩
        · replace h := condT h
          conv => whnf
          refine CutK.go ?_
          conv => whnf
          cases h
          exact Done.of [] [] rfl rfl ⟨⟨rfl, rfl⟩, ⟨rfl, trivial⟩, ⟨rfl, rfl, trivial⟩, trivial⟩
  · replace h := iteF h g4
    conv => whnf
    refine spl (fun g430 => ?_) (fun g430 => ?_)
    · replace h := iteT h g430
      conv => whnf
      refine CutK.go ?_
      conv => whnf
      refine LoopOk.into (spec_shValue_l0_3_ct  _ _ _ _ _ _ _ _ _ _ h) [some 128, some 192] [] ⟨⟨rfl, rfl⟩, ⟨rfl, ⟨rfl, rfl, rfl, trivial⟩, ⟨rfl, rfl, rfl, rfl, rfl, rfl, rfl, rfl, rfl, trivial⟩, trivial⟩, rfl, ⟨rfl, rfl⟩, ⟨rfl, rfl⟩, rfl, trivial⟩ ?_ (fun _ hs => hs)
      rintro i ts os ⟨rfl, v470, v471, v472, v473, v474, v475, v476, v507, h, rfl, rfl⟩
      cases v476
      · replace h := condF h
        cases v507
        · replace h := condF h
          conv => whnf
          refine CutK.go ?_
          conv => whnf
          cases h
          exact Done.of [] [] rfl rfl ⟨⟨rfl, rfl⟩, ⟨rfl, trivial⟩, ⟨rfl, rfl, trivial⟩, trivial⟩
        · replace h := condT h
          conv => whnf
          refine CutK.go ?_
          conv => whnf
          cases h
          exact Done.of [] [] rfl rfl ⟨⟨rfl, rfl⟩, ⟨rfl, trivial⟩, ⟨rfl, rfl, trivial⟩, trivial⟩
      · replace h := condT h
        cases v507
        · replace h := condF h
          conv => whnf
          refine CutK.go ?_
          conv => whnf
          cases h
          exact Done.of [] [] rfl rfl ⟨⟨rfl, rfl⟩, ⟨rfl, trivial⟩, ⟨rfl, rfl, trivial⟩, trivial⟩
        · replace h := condT h
          conv => whnf
          refine CutK.go ?_
          conv => whnf
          cases h
          exact Done.of [] [] rfl rfl ⟨⟨rfl, rfl⟩, ⟨rfl, trivial⟩, ⟨rfl, rfl, trivial⟩, trivial⟩
    · replace h := iteF h g430
      conv => whnf
      refine CutK.go ?_
      conv => whnf
      refine LoopOk.into (spec_shValue_l0_4_ct  _ _ _ _ _ _ _ _ _ _ h) [some 128, some 192] [] ⟨⟨rfl, rfl⟩, ⟨rfl, ⟨rfl, rfl, rfl, trivial⟩, ⟨rfl, rfl, rfl, rfl, rfl, rfl, rfl, rfl, rfl, trivial⟩, trivial⟩, rfl, ⟨rfl, rfl⟩, ⟨rfl, rfl⟩, rfl, trivial⟩ ?_ (fun _ hs => hs)
      rintro i ts os ⟨rfl, v682, v683, v684, v685, v686, v687, v703, v719, h, rfl, rfl⟩
      cases v703
      · replace h := condF h
        cases v719
        · replace h := condF h
          conv => whnf
          refine CutK.go ?_
          conv => whnf
          cases h
          exact Done.of [] [] rfl rfl ⟨⟨rfl, rfl⟩, ⟨rfl, trivial⟩, ⟨rfl, rfl, trivial⟩, trivial⟩
        · replace h := condT h
          conv => whnf
          refine CutK.go ?_
          conv => whnf
          cases h
          exact Done.of [] [] rfl rfl ⟨⟨rfl, rfl⟩, ⟨rfl, trivial⟩, ⟨rfl, rfl, trivial⟩, trivial⟩
      · replace h := condT h
        cases v719
        · replace h := condF h
          conv => whnf
          refine CutK.go ?_
          conv => whnf
          cases h
          exact Done.of [] [] rfl rfl ⟨⟨rfl, rfl⟩, ⟨rfl, trivial⟩, ⟨rfl, rfl, trivial⟩, trivial⟩
        · replace h := condT h
          conv => whnf
          refine CutK.go ?_
          conv => whnf
          cases h
          exact Done.of [] [] rfl rfl ⟨⟨rfl, rfl⟩, ⟨rfl, trivial⟩, ⟨rfl, rfl, trivial⟩, trivial⟩

def spec_l1Cur_fraction (k : Nat) (a1 : Rw) (a2 : Int) (a3 : Int) : Option (Int × Int × Rw × Int × Int) :=
  ((spec_l1Cur_pick a1 a2 a3 8).bind fun y4 => (if y4.1 = (0 : Int) then ((spec_l1Cur_pick y4.2.1 y4.2.2.1 y4.2.2.2 41).bind fun y7 => ((spec_l1Cur_pick y7.2.1 y7.2.2.1 y7.2.2.2 30).bind fun y9 => ((spec_shMake k (IntKind.i64.wrap (y7.1 - 20)) (IntKind.i64.wrap (1 + y9.1))).bind fun y11 => some (y11.1, y11.2, y9.2.1, y9.2.2.1, y9.2.2.2)))) else (if y4.1 = (1 : Int) then ((spec_l1Cur_pick y4.2.1 y4.2.2.1 y4.2.2.2 9).bind fun y14 => ((spec_shInt (IntKind.i64.wrap (y14.1 - 4))).bind fun y16 => some (y16.1, y16.2, y14.2.1, y14.2.2.1, y14.2.2.2))) else (if y4.1 = (2 : Int) then ((spec_l1Cur_among y4.2.1 y4.2.2.1 y4.2.2.2 ([[D.int .i64 0], [D.int .i64 0], [D.int .i64 2], [D.int .i64 (-2)], [D.int .i64 1000000], [D.int .i64 (-999999)], [D.int .i64 (-9223372036854775808)], [D.int .i64 1000001]] : Rw)).bind fun y19 => ((spec_l1Cur_among y19.2.1 y19.2.2.1 y19.2.2.2 ([[D.int .i64 1], [D.int .i64 1], [D.int .i64 1], [D.int .i64 3], [D.int .i64 1000000], [D.int .i64 0], [D.int .i64 (-1)], [D.int .i64 1000001]] : Rw)).bind fun y21 => some (y19.1, y21.1, y21.2.1, y21.2.2.1, y21.2.2.2))) else (if y4.1 = (3 : Int) then ((spec_l1Cur_pick y4.2.1 y4.2.2.1 y4.2.2.2 2000).bind fun y24 => ((spec_l1Cur_pick y24.2.1 y24.2.2.1 y24.2.2.2 2000).bind fun y26 => ((spec_shMake k (IntKind.i64.wrap (y24.1 - 1000)) (IntKind.i64.wrap (1 + y26.1))).bind fun y28 => some (y28.1, y28.2, y26.2.1, y26.2.2.1, y26.2.2.2)))) else ((spec_l1Cur_among y4.2.1 y4.2.2.1 y4.2.2.2 ([[D.int .i64 2], [D.int .i64 4], [D.int .i64 8], [D.int .i64 20]] : Rw)).bind fun y30 => ((spec_l1Cur_word k y30.2.1 y30.2.2.1 y30.2.2.2 y30.1).bind fun y32 => ((spec_shValue k y32.1).bind fun y34 => some (y34.1, y34.2, y32.2.1, y32.2.2.1, y32.2.2.2)))))))))
set_option maxHeartbeats 4000000 in
set_option maxRecDepth 100000 in
theorem spec_l1Cur_fraction_ct {k : Nat} {a1 : Rw} {a2 : Int} {a3 : Int} {r : Int × Int × Rw × Int × Int} (h : spec_l1Cur_fraction k a1 a2 a3 = some r) : Ct prog 48 [.ptr 0 0] (⟨[(81, [.d (D.sl a1), .d (D.int .i64 a2), .d (D.int .u64 a3)])], []⟩) (.agg [.d (D.int .i64 r.1), .d (D.int .i64 r.2.1)]) (⟨[(81, [.d (D.sl r.2.2.1), .d (D.int .i64 r.2.2.2.1), .d (D.int .u64 r.2.2.2.2)])], []⟩) := by
  rw [spec_l1Cur_fraction] at h
  refine Ct.of (c := _) mixed func48 ⟨rfl, rfl, rfl⟩ ?_ rfl
  conv => whnf
  refine Pick.no ?_
  conv => whnf
  obtain ⟨y4, e5, h⟩ := bind_ex h
  refine CallOk.of (spec_l1Cur_pick_ct e5) ?_
  conv => whnf
  refine CutK.norm [0, 2, 4] [0, 128] ?_
  conv => whnf
  refine splD (fun g6 => ?_) (fun g6 => ?_)
  · replace h := iteP h g6
    conv => whnf
    refine Pick.no ?_
    conv => whnf
    obtain ⟨y7, e8, h⟩ := bind_ex h
    refine CallOk.of (spec_l1Cur_pick_ct e8) ?_
    conv => whnf
    refine Pick.no ?_
    conv => whnf
    obtain ⟨y9, e10, h⟩ := bind_ex h
    refine CallOk.of (spec_l1Cur_pick_ct e10) ?_
    conv => whnf
    refine Pick.no ?_
    conv => whnf
    obtain ⟨y11, e12, h⟩ := bind_ex h
    refine CallOk.of (spec_shMake_ct e12) ?_
    conv => whnf
    refine CutK.norm [2] [0, 128] ?_
    conv => whnf
    cases h
    exact Done.of [some 0] [] rfl rfl ⟨⟨rfl, rfl⟩, ⟨rfl, ⟨rfl, rfl, rfl, rfl, trivial⟩, trivial⟩, ⟨rfl, rfl, trivial⟩, trivial⟩
  · replace h := iteN h g6
    conv => whnf
    refine splD (fun g13 => ?_) (fun g13 => ?_)
    · replace h := iteP h g13
      conv => whnf
      refine Pick.no ?_
      conv => whnf
      obtain ⟨y14, e15, h⟩ := bind_ex h
      refine CallOk.of (spec_l1Cur_pick_ct e15) ?_
      conv => whnf
      refine Pick.no ?_
      conv => whnf
      obtain ⟨y16, e17, h⟩ := bind_ex h
      refine CallOk.of (spec_shInt_ct e17) ?_
      conv => whnf
      refine CutK.norm [2] [0, 128] ?_
      conv => whnf
      cases h
      exact Done.of [some 0] [] rfl rfl ⟨⟨rfl, rfl⟩, ⟨rfl, ⟨rfl, rfl, rfl, rfl, trivial⟩, trivial⟩, ⟨rfl, rfl, trivial⟩, trivial⟩
    · replace h := iteN h g13
      conv => whnf
      refine splD (fun g18 => ?_) (fun g18 => ?_)
      · replace h := iteP h g18
        conv => whnf
        refine Pick.no ?_
        conv => whnf
        refine Take.all (by first | rfl | exact List.length_append.symm | (simp; done) | omega) ?_
        conv => whnf
        obtain ⟨y19, e20, h⟩ := bind_ex h
        refine CallOk.of (spec_l1Cur_among_ct e20) ?_
        conv => whnf
        refine Pick.no ?_
        conv => whnf
        refine Take.all (by first | rfl | exact List.length_append.symm | (simp; done) | omega) ?_
        conv => whnf
        obtain ⟨y21, e22, h⟩ := bind_ex h
        refine CallOk.of (spec_l1Cur_among_ct e22) ?_
        conv => whnf
        refine CutK.norm [2] [0, 128] ?_
        conv => whnf
        cases h
        exact Done.of [some 0] [] rfl rfl ⟨⟨rfl, rfl⟩, ⟨rfl, ⟨rfl, rfl, rfl, rfl, trivial⟩, trivial⟩, ⟨rfl, rfl, trivial⟩, trivial⟩
      · replace h := iteN h g18
        conv => whnf
        refine splD (fun g23 => ?_) (fun g23 => ?_)
        · replace h := iteP h g23
          conv => whnf
          refine Pick.no ?_
          conv => whnf
          obtain ⟨y24, e25, h⟩ := bind_ex h
          refine CallOk.of (spec_l1Cur_pick_ct e25) ?_
          conv => whnf
          refine Pick.no ?_
          conv => whnf
          obtain ⟨y26, e27, h⟩ := bind_ex h
          refine CallOk.of (spec_l1Cur_pick_ct e27) ?_
          conv => whnf
          refine Pick.no ?_
          conv => whnf
          obtain ⟨y28, e29, h⟩ := bind_ex h
          refine CallOk.of (spec_shMake_ct e29) ?_
          conv => whnf
          refine CutK.norm [2] [0, 128] ?_
          conv => whnf
          cases h
          exact Done.of [some 0] [] rfl rfl ⟨⟨rfl, rfl⟩, ⟨rfl, ⟨rfl, rfl, rfl, rfl, trivial⟩, trivial⟩, ⟨rfl, rfl, trivial⟩, trivial⟩
        · replace h := iteN h g23
          conv => whnf
          refine CutK.norm [0, 2] [0, 128] ?_
          conv => whnf
          refine Pick.no ?_
          conv => whnf
          refine Take.all (by first | rfl | exact List.length_append.symm | (simp; done) | omega) ?_
          conv => whnf
          obtain ⟨y30, e31, h⟩ := bind_ex h
          refine CallOk.of (spec_l1Cur_among_ct e31) ?_
          conv => whnf
          refine Pick.no ?_
          conv => whnf
          obtain ⟨y32, e33, h⟩ := bind_ex h
          refine CallOk.of (spec_l1Cur_word_ct e33) ?_
          conv => whnf
          refine Pick.no ?_
          conv => whnf
          obtain ⟨y34, e35, h⟩ := bind_ex h
          refine CallOk.of (spec_shValue_ct e35) ?_
          conv => whnf
          refine CutK.norm [2] [0, 128] ?_
          conv => whnf
          cases h
          exact Done.of [some 0] [] rfl rfl ⟨⟨rfl, rfl⟩, ⟨rfl, ⟨rfl, rfl, rfl, rfl, trivial⟩, trivial⟩, ⟨rfl, rfl, trivial⟩, trivial⟩
end
end Go.Proofs.Try
