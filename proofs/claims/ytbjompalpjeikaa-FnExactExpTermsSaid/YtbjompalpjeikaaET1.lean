/- Printed by program (axgen): pure functions, and that the Go functions compute them. -/
import Derived.Test.YtbjompalpjeikaaET0
set_option linter.unusedVariables false
set_option linter.unusedSimpArgs false
namespace Go.Proofs.Try
open Go Go.AX
noncomputable section
def spec_suOwn_l0 (rec_spec_suOwn : Rw → Option Rw) (a1 : Rw) (K0 : Rw → Option Rw) : Rw → Rw → Option Rw
  | [], v11 => (K0 v11)
  | cs :: rest, v11 => (cell_sii cs fun x31 x32 x33 => ((rec_spec_suOwn x31).bind fun y35 => (if v11.length + 1 ≤ cap then (spec_suOwn_l0 rec_spec_suOwn a1 K0 rest (v11 ++ ([[D.sl y35, D.int .i64 x32, D.int .i64 x33]]))) else none)))
set_option maxRecDepth 100000 in
theorem spec_suOwn_l0_ct {rec_spec_suOwn : Rw → Option Rw} {a1 : Rw} {K0 : Rw → Option Rw} (hrec_spec_suOwn : ∀ (a1 : Rw) (r : Rw), rec_spec_suOwn a1 = some r → Ct prog 68 [.agg [.d (D.sl a1)]] (⟨[], []⟩) (.agg [.os 8 r.length]) (⟨[], [(116, true, r)]⟩)) {r : Rw} (hx : a1.length ≤ cap) : ∀ (rest : Rw) (v10n : Nat) (v11 : Rw), a1.drop v10n = rest → spec_suOwn_l0 rec_spec_suOwn a1 K0 rest v11 = some r → LoopOk prog 0 (lp f68 0) (mk 27 [(2, .ptr 128 0), (3, .ptr 192 0), (8, .d (D.sl a1)), (9, .d (D.int .i64 (a1.length : Int))), (10, .d (D.int .i64 (v10n : Int)))] [(128, .box 28 [.es]), (192, .box 28 [.os 64000 v11.length]), (64000, .arr 116 true v11)]) (LoopEnd prog f68 0 27 (.agg [.os 8 r.length]) (⟨[], [(116, true, r)]⟩) (fun i ts os => (i = 0 ∧ ∃ v21 : Rw, K0 v21 = some r ∧ ts = [(2, .ptr 128 0), (3, .ptr 192 0)] ∧ os = [(128, .box 28 [.es]), (192, .box 28 [.os 67001 v21.length]), (67001, .arr 116 true v21)])))
  | [], v10n, v11, hd, h => by
      rw [spec_suOwn_l0] at h
      have hn := drop_nil hd
      refine LoopOk.step ?_
      conv => whnf
      refine splD (fun g => absurd g hn) (fun _ => ?_)
      conv => whnf
      exact ⟨_, _, [some 128, some 192, some 64000], [], ⟨rfl, _, h, rfl, rfl⟩, ⟨⟨rfl, rfl⟩, ⟨rfl, ⟨rfl, trivial, trivial⟩, ⟨rfl, ⟨rfl, rfl⟩, trivial⟩, ⟨rfl, rfl, rows_same⟩, trivial⟩, ⟨rfl, rfl⟩, ⟨rfl, rfl⟩, trivial⟩⟩
  | cs :: rest, v10n, v11, hd, h => by
      rw [spec_suOwn_l0] at h
      obtain ⟨hrow, hd1, hlt⟩ := drop_cons hd
      refine LoopOk.step ?_
      conv => whnf
      refine splD (fun _ => ?_) (fun g => absurd hlt g)
      conv => whnf
      obtain ⟨x31, x32, x33, e34, h⟩ := cell_sii_ex h
      rw [e34] at hrow
      refine Req.of (Int.natCast_nonneg _) ?_
      refine Row.of _ hrow ?_
      conv => whnf
      refine Pick.no ?_
      conv => whnf
      obtain ⟨y35, e36, h⟩ := bind_ex h
      refine CallOk.of (hrec_spec_suOwn _ _ e36) ?_
      conv => whnf
      refine Take.all (rfl) ?_
      conv => whnf
      refine Take.all (rfl) ?_
      conv => whnf
      refine Take.all (by first | rfl | exact List.length_append.symm | (simp; done) | omega) ?_
      conv => whnf
      obtain ⟨g37, h⟩ := req_ex h
      refine Req.of (room (b := 40) (by decide) g37 (wide1 rfl wide0)) ?_
      conv => whnf
      refine CutK.go ?_
      conv => whnf
      exact LoopOk.back (spec_suOwn_l0_ct hrec_spec_suOwn hx rest (v10n + 1) _ hd1 h) [some 128, some 192, some 1472] [] ⟨⟨rfl, rfl⟩, ⟨rfl, ⟨rfl, trivial, trivial⟩, ⟨rfl, ⟨(by first | rfl | exact List.length_append.symm | (simp; done) | omega), rfl⟩, trivial⟩, ⟨rfl, rfl, rows_same⟩, trivial⟩, ⟨rfl, rfl⟩, ⟨rfl, rfl⟩, rfl, rfl, i64eq (wrap_up hlt hx), trivial⟩
def spec_suOwn_b (rec_spec_suOwn : Rw → Option Rw) (a1 : Rw) : Option Rw :=
  (if a1.length ≤ cap then (spec_suOwn_l0 rec_spec_suOwn a1 (fun (v21 : Rw) => some v21) a1 ([] : Rw)) else none)
set_option maxHeartbeats 4000000 in
set_option maxRecDepth 100000 in
theorem spec_suOwn_b_ct {rec_spec_suOwn : Rw → Option Rw} (hrec_spec_suOwn : ∀ (a1 : Rw) (r : Rw), rec_spec_suOwn a1 = some r → Ct prog 68 [.agg [.d (D.sl a1)]] (⟨[], []⟩) (.agg [.os 8 r.length]) (⟨[], [(116, true, r)]⟩)) {a1 : Rw} {r : Rw} (h : spec_suOwn_b rec_spec_suOwn a1 = some r) : Ct prog 68 [.agg [.d (D.sl a1)]] (⟨[], []⟩) (.agg [.os 8 r.length]) (⟨[], [(116, true, r)]⟩) := by
  rw [spec_suOwn_b] at h
  refine Ct.of (c := _) mixed func68 ⟨rfl, rfl, rfl⟩ ?_ rfl
  conv => whnf
  obtain ⟨g38, h⟩ := req_ex h
  refine LoopOk.into (spec_suOwn_l0_ct hrec_spec_suOwn g38 _ _ _ rfl h) [some 128, some 192, none] [] ⟨⟨rfl, rfl⟩, ⟨rfl, ⟨rfl, trivial, trivial⟩, ⟨rfl, ⟨rfl, rfl⟩, trivial⟩, rfl, trivial⟩, ⟨rfl, rfl⟩, ⟨rfl, rfl⟩, rfl, rfl, rfl, trivial⟩ ?_ (fun _ hs => hs)
  rintro i ts os ⟨rfl, v21, h, rfl, rfl⟩
  conv => whnf
  refine CutK.go ?_
  conv => whnf
  cases h
  exact Done.of [some 67001] [] rfl rfl ⟨⟨rfl, rfl⟩, ⟨rfl, ⟨rfl, rfl, rows_same⟩, trivial⟩, ⟨⟨rfl, rfl⟩, trivial⟩, trivial⟩
def spec_suOwn : Nat → Rw → Option Rw
  | 0, _ => none
  | k + 1, a1 => spec_suOwn_b (spec_suOwn k) a1
theorem spec_suOwn_ct' : ∀ (k : Nat) (a1 : Rw) (r : Rw), spec_suOwn k a1 = some r → Ct prog 68 [.agg [.d (D.sl a1)]] (⟨[], []⟩) (.agg [.os 8 r.length]) (⟨[], [(116, true, r)]⟩)
  | 0, _, _, h => by rw [spec_suOwn] at h; cases h
  | k + 1, _, _, h => by rw [spec_suOwn] at h; exact spec_suOwn_b_ct (spec_suOwn_ct' k) h
theorem spec_suOwn_ct {k : Nat} {a1 : Rw} {r : Rw} (h : spec_suOwn k a1 = some r) : Ct prog 68 [.agg [.d (D.sl a1)]] (⟨[], []⟩) (.agg [.os 8 r.length]) (⟨[], [(116, true, r)]⟩) := spec_suOwn_ct' k _ _ h

def spec_suIf (k : Nat) (a1 : Rw) : Option (Rw × Bool) :=
  ((spec_suGood k a1).bind fun y2 => (if y2 = true then ((spec_suOwn k a1).bind fun y5 => some (y5, true)) else some (([] : Rw), false)))
set_option maxHeartbeats 4000000 in
set_option maxRecDepth 100000 in
theorem spec_suIf_ct {k : Nat} {a1 : Rw} {r : Rw × Bool} (h : spec_suIf k a1 = some r) : Ct prog 171 [.agg [.d (D.sl a1)]] (⟨[], []⟩) (.tup [.agg [.os 8 r.1.length], .d (D.bool r.2)]) (⟨[], [(116, true, r.1)]⟩) := by
  rw [spec_suIf] at h
  refine Ct.of (c := _) mixed func171 ⟨rfl, rfl, rfl⟩ ?_ rfl
  conv => whnf
  refine Pick.no ?_
  conv => whnf
  obtain ⟨y2, e3, h⟩ := bind_ex h
  refine CallOk.of (spec_suGood_ct e3) ?_
  conv => whnf
  refine spl (fun g4 => ?_) (fun g4 => ?_)
  · replace h := iteT h g4
    conv => whnf
    refine CutK.go ?_
    conv => whnf
    refine CutK.go ?_
    conv => whnf
    refine Pick.no ?_
    conv => whnf
    obtain ⟨y5, e6, h⟩ := bind_ex h
    refine CallOk.of (spec_suOwn_ct e6) ?_
    conv => whnf
    refine CutK.go ?_
    conv => whnf
    cases h
    exact Done.of [some 576] [] rfl rfl ⟨⟨rfl, rfl⟩, ⟨rfl, ⟨rfl, rfl, rows_same⟩, trivial⟩, ⟨⟨⟨rfl, rfl⟩, trivial⟩, rfl, trivial⟩, trivial⟩
  · replace h := iteF h g4
    conv => whnf
    refine CutK.go ?_
    conv => whnf
    cases h
    exact Done.of [none] [] rfl rfl ⟨⟨rfl, rfl⟩, ⟨rfl, rfl, trivial⟩, ⟨⟨⟨rfl, rfl⟩, trivial⟩, rfl, trivial⟩, trivial⟩

def spec_shMake (k : Nat) (a1 : Int) (a2 : Int) : Option (Int × Int) :=
  ((spec_shGcd k a1 a2).bind fun y3 => (if a2 < (0 : Int) then (if (IntKind.i64.wrap (0 - y3)) ≠ 0 then some (IntKind.i64.wrap (a1.tdiv (IntKind.i64.wrap (0 - y3))), IntKind.i64.wrap (a2.tdiv (IntKind.i64.wrap (0 - y3)))) else none) else (if y3 ≠ 0 then some (IntKind.i64.wrap (a1.tdiv y3), IntKind.i64.wrap (a2.tdiv y3)) else none)))
set_option maxHeartbeats 4000000 in
set_option maxRecDepth 100000 in
theorem spec_shMake_ct {k : Nat} {a1 : Int} {a2 : Int} {r : Int × Int} (h : spec_shMake k a1 a2 = some r) : Ct prog 141 [.d (D.int .i64 a1), .d (D.int .i64 a2)] (⟨[], []⟩) (.agg [.d (D.int .i64 r.1), .d (D.int .i64 r.2)]) (⟨[], []⟩) := by
  rw [spec_shMake] at h
  refine Ct.of (c := _) mixed func141 ⟨rfl, rfl, rfl⟩ ?_ rfl
  conv => whnf
  refine Pick.no ?_
  conv => whnf
  obtain ⟨y3, e4, h⟩ := bind_ex h
  refine CallOk.of (spec_shGcd_ct e4) ?_
  conv => whnf
  refine CutK.go ?_
  conv => whnf
  refine splD (fun g5 => ?_) (fun g5 => ?_)
  · replace h := iteP h g5
    conv => whnf
    obtain ⟨g6, h⟩ := req_ex h
    refine Req.of g6 ?_
    conv => whnf
    refine Req.of g6 ?_
    conv => whnf
    cases h
    exact Done.of [] [] rfl rfl ⟨⟨rfl, rfl⟩, ⟨rfl, trivial⟩, ⟨rfl, rfl, trivial⟩, trivial⟩
  · replace h := iteN h g5
    conv => whnf
    obtain ⟨g7, h⟩ := req_ex h
    refine Req.of g7 ?_
    conv => whnf
    refine Req.of g7 ?_
    conv => whnf
    cases h
    exact Done.of [] [] rfl rfl ⟨⟨rfl, rfl⟩, ⟨rfl, trivial⟩, ⟨rfl, rfl, trivial⟩, trivial⟩

def spec_shAdd (k : Nat) (a1 : Int) (a2 : Int) (a3 : Int) (a4 : Int) : Option (Int × Int) :=
  ((spec_shMake k (IntKind.i64.wrap ((IntKind.i64.wrap (a1 * a4)) + (IntKind.i64.wrap (a3 * a2)))) (IntKind.i64.wrap (a2 * a4))).bind fun y5 => some (y5.1, y5.2))
set_option maxHeartbeats 4000000 in
set_option maxRecDepth 100000 in
theorem spec_shAdd_ct {k : Nat} {a1 : Int} {a2 : Int} {a3 : Int} {a4 : Int} {r : Int × Int} (h : spec_shAdd k a1 a2 a3 a4 = some r) : Ct prog 183 [.agg [.d (D.int .i64 a1), .d (D.int .i64 a2)], .agg [.d (D.int .i64 a3), .d (D.int .i64 a4)]] (⟨[], []⟩) (.agg [.d (D.int .i64 r.1), .d (D.int .i64 r.2)]) (⟨[], []⟩) := by
  rw [spec_shAdd] at h
  refine Ct.of (c := _) mixed func183 ⟨rfl, rfl, rfl⟩ ?_ rfl
  conv => whnf
  refine Pick.no ?_
  conv => whnf
  obtain ⟨y5, e6, h⟩ := bind_ex h
  refine CallOk.of (spec_shMake_ct e6) ?_
  conv => whnf
  refine CutK.go ?_
  conv => whnf
  cases h
  exact Done.of [] [] rfl rfl ⟨⟨rfl, rfl⟩, ⟨rfl, trivial⟩, ⟨rfl, rfl, trivial⟩, trivial⟩

def spec_suTerm  (a1 : Rw) (a2 : Int) (a3 : Int) : Option Rw :=
  (if a2 = (0 : Int) then some ([] : Rw) else some ([[D.sl a1, D.int .i64 a2, D.int .i64 a3]] : Rw))
set_option maxHeartbeats 4000000 in
set_option maxRecDepth 100000 in
theorem spec_suTerm_ct  {a1 : Rw} {a2 : Int} {a3 : Int} {r : Rw} (h : spec_suTerm a1 a2 a3 = some r) : Ct prog 148 [.agg [.d (D.sl a1)], .agg [.d (D.int .i64 a2), .d (D.int .i64 a3)]] (⟨[], []⟩) (.agg [.os 8 r.length]) (⟨[], [(116, false, r)]⟩) := by
  rw [spec_suTerm] at h
  refine Ct.of (c := _) mixed func148 ⟨rfl, rfl, rfl⟩ ?_ rfl
  conv => whnf
  refine splD (fun g4 => ?_) (fun g4 => ?_)
  · replace h := iteP h g4
    conv => whnf
    cases h
    exact Done.of [none] [] rfl rfl ⟨⟨rfl, rfl⟩, ⟨rfl, rfl, trivial⟩, ⟨⟨rfl, rfl⟩, trivial⟩, trivial⟩
  · replace h := iteN h g4
    conv => whnf
    cases h
    exact Done.of [some 768] [] rfl rfl ⟨⟨rfl, rfl⟩, ⟨rfl, ⟨rfl, rfl, rows_same⟩, trivial⟩, ⟨⟨(by first | rfl | exact List.length_append.symm | (simp; done) | omega), rfl⟩, trivial⟩, trivial⟩

def spec_suPut_p4 (a2 : Rw) (a3 : Int) (a4 : Int) (o89 : Rw) (v90 : Bool) : Option (Rw × Bool) :=
  (cond v90 (some (o89, true)) (if o89.length + 1 ≤ cap then some (o89 ++ ([[D.sl a2, D.int .i64 a3, D.int .i64 a4]]), true) else none))
set_option maxHeartbeats 4000000 in
set_option maxRecDepth 100000 in
theorem spec_suPut_p4_ct {a2 : Rw} {a3 : Int} {a4 : Int} {o89 : Rw} {v90 : Bool} {r : Rw × Bool} (h : spec_suPut_p4 a2 a3 a4 o89 v90 = some r) : X prog 0 (tlF f145 4) (mk 73 [(3, .ptr 192 0), (4, .ptr 256 0), (6, .ptr 384 0), (7, .d (D.bool v90))] [(192, .box 116 [.d (D.sl a2), .d (D.int .i64 a3), .d (D.int .i64 a4)]), (256, .box 28 [.es]), (384, .box 28 [.os 1084000 o89.length]), (1084000, .arr 116 false o89)]) (finK prog f145 0 (.tup [.agg [.os 8 r.1.length], .d (D.bool r.2)]) (⟨[], [(116, false, r.1)]⟩)) := by
  rw [spec_suPut_p4] at h
  cases v90
  · replace h := condF h
    conv => whnf
    refine Take.all (rfl) ?_
    conv => whnf
    refine Take.all (by first | rfl | exact List.length_append.symm | (simp; done) | omega) ?_
    conv => whnf
    obtain ⟨g92, h⟩ := req_ex h
    refine Req.of (room (b := 40) (by decide) g92 (wide1 rfl wide0)) ?_
    conv => whnf
    cases h
    exact Done.of [some 4480] [] rfl rfl ⟨⟨rfl, rfl⟩, ⟨rfl, ⟨rfl, rfl, rows_same⟩, trivial⟩, ⟨⟨⟨(by first | rfl | exact List.length_append.symm | (simp; done) | omega), rfl⟩, trivial⟩, rfl, trivial⟩, trivial⟩
  · replace h := condT h
    conv => whnf
    cases h
    exact Done.of [some 1084000] [] rfl rfl ⟨⟨rfl, rfl⟩, ⟨rfl, ⟨rfl, rfl, rows_same⟩, trivial⟩, ⟨⟨⟨rfl, rfl⟩, trivial⟩, rfl, trivial⟩, trivial⟩
def spec_suPut_l0 (k : Nat) (a1 : Rw) (a2 : Rw) (a3 : Int) (a4 : Int) (K0 : Rw → Bool → Option (Rw × Bool)) : Rw → Bool → Rw → Option (Rw × Bool)
  | [], v111, v113 => (cond v111 (K0 v113 true) (K0 v113 false))
  | cs :: rest, v111, v113 => (cond v111 (cell_sii cs fun x196 x197 x198 => ((spec_suCmp k x196 a2).bind fun y200 => (if v113.length + 1 ≤ cap then (spec_suPut_l0 k a1 a2 a3 a4 K0 rest true (v113 ++ ([[D.sl x196, D.int .i64 x197, D.int .i64 x198]]))) else none))) (cell_sii cs fun x177 x178 x179 => ((spec_suCmp k x177 a2).bind fun y181 => (if y181 ≤ (0 : Int) then (if y181 = (0 : Int) then ((spec_shAdd k x178 x179 a3 a4).bind fun y185 => ((spec_shGood k y185.1 y185.2).bind fun y187 => (if y187 = true then ((spec_suTerm a2 y185.1 y185.2).bind fun y190 => (if v113.length + y190.length ≤ cap ∧ (∀ cs ∈ y190, cs.length = 3) then (spec_suPut_l0 k a1 a2 a3 a4 K0 rest true (v113 ++ y190)) else none)) else some (([] : Rw), false)))) else (if v113.length + 1 ≤ cap then (if (v113 ++ ([[D.sl a2, D.int .i64 a3, D.int .i64 a4]])).length + 1 ≤ cap then (spec_suPut_l0 k a1 a2 a3 a4 K0 rest true ((v113 ++ ([[D.sl a2, D.int .i64 a3, D.int .i64 a4]])) ++ ([[D.sl x177, D.int .i64 x178, D.int .i64 x179]]))) else none) else none)) else (if v113.length + 1 ≤ cap then (spec_suPut_l0 k a1 a2 a3 a4 K0 rest false (v113 ++ ([[D.sl x177, D.int .i64 x178, D.int .i64 x179]]))) else none)))))
set_option maxRecDepth 100000 in
theorem spec_suPut_l0_ct {k : Nat} {a1 : Rw} {a2 : Rw} {a3 : Int} {a4 : Int} {K0 : Rw → Bool → Option (Rw × Bool)} {r : Rw × Bool} (hx : a1.length ≤ cap) : ∀ (rest : Rw) (v112n : Nat) (v111 : Bool) (v113 : Rw), a1.drop v112n = rest → spec_suPut_l0 k a1 a2 a3 a4 K0 rest v111 v113 = some r → LoopOk prog 0 (lp f145 0) (mk 73 [(3, .ptr 192 0), (4, .ptr 256 0), (6, .ptr 384 0), (7, .d (D.bool v111)), (14, .d (D.sl a1)), (15, .d (D.int .i64 (a1.length : Int))), (16, .d (D.int .i64 (v112n : Int)))] [(192, .box 116 [.d (D.sl a2), .d (D.int .i64 a3), .d (D.int .i64 a4)]), (256, .box 28 [.es]), (384, .box 28 [.os 64000 v113.length]), (64000, .arr 116 false v113)]) (LoopEnd prog f145 0 73 (.tup [.agg [.os 8 r.1.length], .d (D.bool r.2)]) (⟨[], [(116, false, r.1)]⟩) (fun i ts os => (i = 0 ∧ ∃ v136 : Rw, ∃ v146 : Bool, K0 v136 v146 = some r ∧ ts = [(3, .ptr 192 0), (4, .ptr 256 0), (6, .ptr 384 0), (7, .d (D.bool v146))] ∧ os = [(192, .box 116 [.d (D.sl a2), .d (D.int .i64 a3), .d (D.int .i64 a4)]), (256, .box 28 [.es]), (384, .box 28 [.os 67001 v136.length]), (67001, .arr 116 false v136)])))
  | [], v112n, v111, v113, hd, h => by
      rw [spec_suPut_l0] at h
      have hn := drop_nil hd
      cases v111
      · replace h := condF h
        refine LoopOk.step ?_
        conv => whnf
        refine splD (fun g => absurd g hn) (fun _ => ?_)
        conv => whnf
        exact ⟨_, _, [some 192, some 256, some 384, some 64000], [], ⟨rfl, _, _, h, rfl, rfl⟩, ⟨⟨rfl, rfl⟩, ⟨rfl, ⟨rfl, rfl, rfl, rfl, trivial⟩, ⟨rfl, trivial, trivial⟩, ⟨rfl, ⟨rfl, rfl⟩, trivial⟩, ⟨rfl, rfl, rows_same⟩, trivial⟩, ⟨rfl, rfl⟩, ⟨rfl, rfl⟩, ⟨rfl, rfl⟩, rfl, trivial⟩⟩
      · replace h := condT h
        refine LoopOk.step ?_
        conv => whnf
        refine splD (fun g => absurd g hn) (fun _ => ?_)
        conv => whnf
        exact ⟨_, _, [some 192, some 256, some 384, some 64000], [], ⟨rfl, _, _, h, rfl, rfl⟩, ⟨⟨rfl, rfl⟩, ⟨rfl, ⟨rfl, rfl, rfl, rfl, trivial⟩, ⟨rfl, trivial, trivial⟩, ⟨rfl, ⟨rfl, rfl⟩, trivial⟩, ⟨rfl, rfl, rows_same⟩, trivial⟩, ⟨rfl, rfl⟩, ⟨rfl, rfl⟩, ⟨rfl, rfl⟩, rfl, trivial⟩⟩
  | cs :: rest, v112n, v111, v113, hd, h => by
      rw [spec_suPut_l0] at h
      obtain ⟨hrow, hd1, hlt⟩ := drop_cons hd
      cases v111
      · replace h := condF h
        refine LoopOk.step ?_
        conv => whnf
        refine splD (fun _ => ?_) (fun g => absurd hlt g)
        conv => whnf
        obtain ⟨x177, x178, x179, e180, h⟩ := cell_sii_ex h
        rw [e180] at hrow
        refine Req.of (Int.natCast_nonneg _) ?_
        refine Row.of _ hrow ?_
        conv => whnf
        refine Pick.no ?_
        conv => whnf
        obtain ⟨y181, e182, h⟩ := bind_ex h
        refine CallOk.of (spec_suCmp_ct e182) ?_
        conv => whnf
        refine CutK.norm [3, 4, 6, 7, 9, 10, 14, 15, 16] [192, 256, 384, 576, 64000] ?_
        conv => whnf
        refine splD (fun g183 => ?_) (fun g183 => ?_)
        · replace h := iteP h g183
          conv => whnf
          refine splD (fun g184 => ?_) (fun g184 => ?_)
          · replace h := iteP h g184
            conv => whnf
            refine Pick.no ?_
            conv => whnf
            obtain ⟨y185, e186, h⟩ := bind_ex h
            refine CallOk.of (spec_shAdd_ct e186) ?_
            conv => whnf
            refine CutK.norm [3, 4, 6, 7, 11, 14, 15, 16] [192, 256, 384, 704, 64000] ?_
            conv => whnf
            refine Pick.no ?_
            conv => whnf
            obtain ⟨y187, e188, h⟩ := bind_ex h
            refine CallOk.of (spec_shGood_ct e188) ?_
            conv => whnf
            refine spl (fun g189 => ?_) (fun g189 => ?_)
            · replace h := iteT h g189
              conv => whnf
              refine CutK.norm [3, 4, 6, 7, 11, 14, 15, 16, 40] [192, 256, 384, 704, 64000] ?_
              conv => whnf
              refine CutK.norm [3, 4, 6, 7, 11, 14, 15, 16] [192, 256, 384, 704, 64000] ?_
              conv => whnf
              refine Pick.no ?_
              conv => whnf
              obtain ⟨y190, e191, h⟩ := bind_ex h
              refine CallOk.of (spec_suTerm_ct e191) ?_
              conv => whnf
              refine Take.all (rfl) ?_
              conv => whnf
              refine Take.all (rfl) ?_
              conv => whnf
              obtain ⟨g192, h⟩ := req_ex h
              refine Req.of (room (b := 40) (by decide) g192.1 g192.2) ?_
              conv => whnf
              refine CutK.norm [3, 4, 6, 7, 14, 15, 16] [192, 256, 384, 3136] ?_
              conv => whnf
              refine CutK.norm [3, 4, 6, 7, 14, 15, 16] [192, 256, 384, 3136] ?_
              conv => whnf
              exact LoopOk.back (spec_suPut_l0_ct hx rest (v112n + 1) _ _ hd1 h) [some 192, some 256, some 384, some 3136] [] ⟨⟨rfl, rfl⟩, ⟨rfl, ⟨rfl, rfl, rfl, rfl, trivial⟩, ⟨rfl, trivial, trivial⟩, ⟨rfl, ⟨(by first | rfl | exact List.length_append.symm | (simp; done) | omega), rfl⟩, trivial⟩, ⟨rfl, rfl, rows_same⟩, trivial⟩, ⟨rfl, rfl⟩, ⟨rfl, rfl⟩, ⟨rfl, rfl⟩, rfl, rfl, rfl, i64eq (wrap_up hlt hx), trivial⟩
            · replace h := iteF h g189
              conv => whnf
              refine CutK.norm [3, 4, 6, 7, 11, 14, 15, 16, 40] [192, 256, 384, 704, 64000] ?_
              conv => whnf
              cases h
              exact Done.of [none] [] rfl rfl ⟨⟨rfl, rfl⟩, ⟨rfl, rfl, trivial⟩, ⟨⟨⟨rfl, rfl⟩, trivial⟩, rfl, trivial⟩, trivial⟩
          · replace h := iteN h g184
            conv => whnf
            refine CutK.norm [3, 4, 6, 7, 9, 14, 15, 16] [192, 256, 384, 576, 64000] ?_
            conv => whnf
            refine Take.all (rfl) ?_
            conv => whnf
            refine Take.all (by first | rfl | exact List.length_append.symm | (simp; done) | omega) ?_
            conv => whnf
            obtain ⟨g193, h⟩ := req_ex h
            refine Req.of (room (b := 40) (by decide) g193 (wide1 rfl wide0)) ?_
            conv => whnf
            refine CutK.norm [3, 4, 6, 7, 9, 14, 15, 16] [192, 256, 384, 576, 3520] ?_
            conv => whnf
            refine Take.all (by first | rfl | exact List.length_append.symm | (simp; done) | omega) ?_
            conv => whnf
            refine Take.all (by first | rfl | exact List.length_append.symm | (simp; done) | omega) ?_
            conv => whnf
            obtain ⟨g194, h⟩ := req_ex h
            refine Req.of (room (b := 40) (by decide) g194 (wide1 rfl wide0)) ?_
            conv => whnf
            refine CutK.norm [3, 4, 6, 7, 14, 15, 16] [192, 256, 384, 3904] ?_
            conv => whnf
            exact LoopOk.back (spec_suPut_l0_ct hx rest (v112n + 1) _ _ hd1 h) [some 192, some 256, some 384, some 3904] [] ⟨⟨rfl, rfl⟩, ⟨rfl, ⟨rfl, rfl, rfl, rfl, trivial⟩, ⟨rfl, trivial, trivial⟩, ⟨rfl, ⟨(by first | rfl | exact List.length_append.symm | (simp; done) | omega), rfl⟩, trivial⟩, ⟨rfl, rfl, rows_same⟩, trivial⟩, ⟨rfl, rfl⟩, ⟨rfl, rfl⟩, ⟨rfl, rfl⟩, rfl, rfl, rfl, i64eq (wrap_up hlt hx), trivial⟩
        · replace h := iteN h g183
          conv => whnf
          refine CutK.norm [3, 4, 6, 7, 9, 14, 15, 16] [192, 256, 384, 576, 64000] ?_
          conv => whnf
          refine Take.all (rfl) ?_
          conv => whnf
          refine Take.all (by first | rfl | exact List.length_append.symm | (simp; done) | omega) ?_
          conv => whnf
          obtain ⟨g195, h⟩ := req_ex h
          refine Req.of (room (b := 40) (by decide) g195 (wide1 rfl wide0)) ?_
          conv => whnf
          refine CutK.norm [3, 4, 6, 7, 14, 15, 16] [192, 256, 384, 3904] ?_
          conv => whnf
          exact LoopOk.back (spec_suPut_l0_ct hx rest (v112n + 1) _ _ hd1 h) [some 192, some 256, some 384, some 3904] [] ⟨⟨rfl, rfl⟩, ⟨rfl, ⟨rfl, rfl, rfl, rfl, trivial⟩, ⟨rfl, trivial, trivial⟩, ⟨rfl, ⟨(by first | rfl | exact List.length_append.symm | (simp; done) | omega), rfl⟩, trivial⟩, ⟨rfl, rfl, rows_same⟩, trivial⟩, ⟨rfl, rfl⟩, ⟨rfl, rfl⟩, ⟨rfl, rfl⟩, rfl, rfl, rfl, i64eq (wrap_up hlt hx), trivial⟩
      · replace h := condT h
        refine LoopOk.step ?_
        conv => whnf
        refine splD (fun _ => ?_) (fun g => absurd hlt g)
        conv => whnf
        obtain ⟨x196, x197, x198, e199, h⟩ := cell_sii_ex h
        rw [e199] at hrow
        refine Req.of (Int.natCast_nonneg _) ?_
        refine Row.of _ hrow ?_
        conv => whnf
        refine Pick.no ?_
        conv => whnf
        obtain ⟨y200, e201, h⟩ := bind_ex h
        refine CallOk.of (spec_suCmp_ct e201) ?_
        conv => whnf
        refine CutK.norm [3, 4, 6, 7, 9, 10, 14, 15, 16] [192, 256, 384, 576, 64000] ?_
        conv => whnf
        refine CutK.norm [3, 4, 6, 7, 9, 14, 15, 16] [192, 256, 384, 576, 64000] ?_
        conv => whnf
        refine Take.all (rfl) ?_
        conv => whnf
        refine Take.all (by first | rfl | exact List.length_append.symm | (simp; done) | omega) ?_
        conv => whnf
        obtain ⟨g202, h⟩ := req_ex h
        refine Req.of (room (b := 40) (by decide) g202 (wide1 rfl wide0)) ?_
        conv => whnf
        refine CutK.norm [3, 4, 6, 7, 14, 15, 16] [192, 256, 384, 3904] ?_
        conv => whnf
        exact LoopOk.back (spec_suPut_l0_ct hx rest (v112n + 1) _ _ hd1 h) [some 192, some 256, some 384, some 3904] [] ⟨⟨rfl, rfl⟩, ⟨rfl, ⟨rfl, rfl, rfl, rfl, trivial⟩, ⟨rfl, trivial, trivial⟩, ⟨rfl, ⟨(by first | rfl | exact List.length_append.symm | (simp; done) | omega), rfl⟩, trivial⟩, ⟨rfl, rfl, rows_same⟩, trivial⟩, ⟨rfl, rfl⟩, ⟨rfl, rfl⟩, ⟨rfl, rfl⟩, rfl, rfl, rfl, i64eq (wrap_up hlt hx), trivial⟩
def spec_suPut (k : Nat) (a1 : Rw) (a2 : Rw) (a3 : Int) (a4 : Int) : Option (Rw × Bool) :=
  (if a1.length ≤ cap then (spec_suPut_l0 k a1 a2 a3 a4 (fun (v136 : Rw) (v146 : Bool) => (cond v146 (spec_suPut_p4 a2 a3 a4 v136 true) (spec_suPut_p4 a2 a3 a4 v136 false))) a1 false ([] : Rw)) else none)
set_option maxHeartbeats 4000000 in
set_option maxRecDepth 100000 in
theorem spec_suPut_ct {k : Nat} {a1 : Rw} {a2 : Rw} {a3 : Int} {a4 : Int} {r : Rw × Bool} (h : spec_suPut k a1 a2 a3 a4 = some r) : Ct prog 145 [.agg [.d (D.sl a1)], .agg [.d (D.sl a2), .d (D.int .i64 a3), .d (D.int .i64 a4)]] (⟨[], []⟩) (.tup [.agg [.os 8 r.1.length], .d (D.bool r.2)]) (⟨[], [(116, false, r.1)]⟩) := by
  rw [spec_suPut] at h
  refine Ct.of (c := _) mixed func145 ⟨rfl, rfl, rfl⟩ ?_ rfl
  conv => whnf
  obtain ⟨g203, h⟩ := req_ex h
  refine LoopOk.into (spec_suPut_l0_ct  g203 _ _ _ _ rfl h) [some 192, some 256, some 384, none] [] ⟨⟨rfl, rfl⟩, ⟨rfl, ⟨rfl, rfl, rfl, rfl, trivial⟩, ⟨rfl, trivial, trivial⟩, ⟨rfl, ⟨rfl, rfl⟩, trivial⟩, rfl, trivial⟩, ⟨rfl, rfl⟩, ⟨rfl, rfl⟩, ⟨rfl, rfl⟩, rfl, rfl, rfl, rfl, trivial⟩ ?_ (fun _ hs => hs)
  rintro i ts os ⟨rfl, v136, v146, h, rfl, rfl⟩
  cases v146
  · replace h := condF h
    conv => whnf
    exact CutK.piece (spec_suPut_p4_ct  h) [some 192, some 256, some 384, some 67001] [] ⟨⟨rfl, rfl⟩, ⟨rfl, ⟨rfl, rfl, rfl, rfl, trivial⟩, ⟨rfl, trivial, trivial⟩, ⟨rfl, ⟨rfl, rfl⟩, trivial⟩, ⟨rfl, rfl, rows_same⟩, trivial⟩, ⟨rfl, rfl⟩, ⟨rfl, rfl⟩, ⟨rfl, rfl⟩, rfl, trivial⟩
  · replace h := condT h
    conv => whnf
    exact CutK.piece (spec_suPut_p4_ct  h) [some 192, some 256, some 384, some 67001] [] ⟨⟨rfl, rfl⟩, ⟨rfl, ⟨rfl, rfl, rfl, rfl, trivial⟩, ⟨rfl, trivial, trivial⟩, ⟨rfl, ⟨rfl, rfl⟩, trivial⟩, ⟨rfl, rfl, rows_same⟩, trivial⟩, ⟨rfl, rfl⟩, ⟨rfl, rfl⟩, ⟨rfl, rfl⟩, rfl, trivial⟩

def spec_suPlus_l0 (k : Nat) (a2 : Rw) (K0 : Rw → Option (Rw × Bool)) : Rw → Rw → Option (Rw × Bool)
  | [], v13 => (K0 v13)
  | cs :: rest, v13 => (cell_sii cs fun x33 x34 x35 => ((spec_suPut k v13 x33 x34 x35).bind fun y37 => (if y37.2 = true then (spec_suPlus_l0 k a2 K0 rest y37.1) else some (([] : Rw), false))))
set_option maxRecDepth 100000 in
theorem spec_suPlus_l0_ct {k : Nat} {a2 : Rw} {K0 : Rw → Option (Rw × Bool)} {r : Rw × Bool} (hx : a2.length ≤ cap) : ∀ (rest : Rw) (v12n : Nat) (v13 : Rw), a2.drop v12n = rest → spec_suPlus_l0 k a2 K0 rest v13 = some r → LoopOk prog 0 (lp f172 0) (mk 29 [(4, .ptr 256 0), (6, .ptr 384 0), (12, .d (D.sl a2)), (13, .d (D.int .i64 (a2.length : Int))), (14, .d (D.int .i64 (v12n : Int)))] [(256, .box 28 [.es]), (384, .box 28 [.d (D.sl v13)])]) (LoopEnd prog f172 0 29 (.tup [.agg [.d (D.sl r.1)], .d (D.bool r.2)]) (⟨[], []⟩) (fun i ts os => (i = 0 ∧ ∃ v23 : Rw, K0 v23 = some r ∧ ts = [(4, .ptr 256 0), (6, .ptr 384 0)] ∧ os = [(256, .box 28 [.es]), (384, .box 28 [.d (D.sl v23)])])))
  | [], v12n, v13, hd, h => by
      rw [spec_suPlus_l0] at h
      have hn := drop_nil hd
      refine LoopOk.step ?_
      conv => whnf
      refine splD (fun g => absurd g hn) (fun _ => ?_)
      conv => whnf
      exact ⟨_, _, [some 256, some 384], [], ⟨rfl, _, h, rfl, rfl⟩, ⟨⟨rfl, rfl⟩, ⟨rfl, ⟨rfl, trivial, trivial⟩, ⟨rfl, rfl, trivial⟩, trivial⟩, ⟨rfl, rfl⟩, ⟨rfl, rfl⟩, trivial⟩⟩
  | cs :: rest, v12n, v13, hd, h => by
      rw [spec_suPlus_l0] at h
      obtain ⟨hrow, hd1, hlt⟩ := drop_cons hd
      refine LoopOk.step ?_
      conv => whnf
      refine splD (fun _ => ?_) (fun g => absurd hlt g)
      conv => whnf
      obtain ⟨x33, x34, x35, e36, h⟩ := cell_sii_ex h
      rw [e36] at hrow
      refine Req.of (Int.natCast_nonneg _) ?_
      refine Row.of _ hrow ?_
      conv => whnf
      refine Pick.no ?_
      conv => whnf
      obtain ⟨y37, e38, h⟩ := bind_ex h
      refine CallOk.of (spec_suPut_ct e38) ?_
      conv => whnf
      refine spl (fun g39 => ?_) (fun g39 => ?_)
      · replace h := iteT h g39
        conv => whnf
        refine CutK.go ?_
        conv => whnf
        refine CutK.go ?_
        conv => whnf
        exact LoopOk.back (spec_suPlus_l0_ct hx rest (v12n + 1) _ hd1 h) [some 256, some 384] [1344] ⟨⟨rfl, rfl⟩, ⟨rfl, ⟨rfl, trivial, trivial⟩, ⟨rfl, ⟨rfl, Nat.le_of_eq rfl, eq_take rfl⟩, trivial⟩, trivial⟩, ⟨rfl, rfl⟩, ⟨rfl, rfl⟩, rfl, rfl, i64eq (wrap_up hlt hx), trivial⟩
      · replace h := iteF h g39
        conv => whnf
        refine CutK.go ?_
        conv => whnf
        cases h
        exact Done.of [] [] rfl rfl ⟨⟨rfl, rfl⟩, ⟨rfl, trivial⟩, ⟨⟨rfl, trivial⟩, rfl, trivial⟩, trivial⟩
def spec_suPlus (k : Nat) (a1 : Rw) (a2 : Rw) : Option (Rw × Bool) :=
  (if a2.length ≤ cap then (spec_suPlus_l0 k a2 (fun (v23 : Rw) => some (v23, true)) a2 a1) else none)
set_option maxHeartbeats 4000000 in
set_option maxRecDepth 100000 in
theorem spec_suPlus_ct {k : Nat} {a1 : Rw} {a2 : Rw} {r : Rw × Bool} (h : spec_suPlus k a1 a2 = some r) : Ct prog 172 [.agg [.d (D.sl a1)], .agg [.d (D.sl a2)]] (⟨[], []⟩) (.tup [.agg [.d (D.sl r.1)], .d (D.bool r.2)]) (⟨[], []⟩) := by
  rw [spec_suPlus] at h
  refine Ct.of (c := _) mixed func172 ⟨rfl, rfl, rfl⟩ ?_ rfl
  conv => whnf
  obtain ⟨g40, h⟩ := req_ex h
  refine LoopOk.into (spec_suPlus_l0_ct  g40 _ _ _ rfl h) [some 256, some 384] [] ⟨⟨rfl, rfl⟩, ⟨rfl, ⟨rfl, trivial, trivial⟩, ⟨rfl, rfl, trivial⟩, trivial⟩, ⟨rfl, rfl⟩, ⟨rfl, rfl⟩, rfl, rfl, rfl, trivial⟩ ?_ (fun _ hs => hs)
  rintro i ts os ⟨rfl, v23, h, rfl, rfl⟩
  conv => whnf
  refine CutK.go ?_
  conv => whnf
  cases h
  exact Done.of [] [] rfl rfl ⟨⟨rfl, rfl⟩, ⟨rfl, trivial⟩, ⟨⟨rfl, trivial⟩, rfl, trivial⟩, trivial⟩

def spec_suSum (k : Nat) (a1 : Rw) (a2 : Rw) : Option (Rw × Bool) :=
  ((spec_suPlus k a1 a2).bind fun y3 => (if y3.2 = true then ((spec_suIf k y3.1).bind fun y6 => (if y6.2 = true then some (y6.1, true) else some (y6.1, false))) else some (([] : Rw), false)))
set_option maxHeartbeats 4000000 in
set_option maxRecDepth 100000 in
theorem spec_suSum_ct {k : Nat} {a1 : Rw} {a2 : Rw} {r : Rw × Bool} (h : spec_suSum k a1 a2 = some r) : Ct prog 117 [.agg [.d (D.sl a1)], .agg [.d (D.sl a2)]] (⟨[], []⟩) (.tup [.agg [.os 8 r.1.length], .d (D.bool r.2)]) (⟨[], [(116, true, r.1)]⟩) := by
  rw [spec_suSum] at h
  refine Ct.of (c := _) mixed func117 ⟨rfl, rfl, rfl⟩ ?_ rfl
  conv => whnf
  refine Pick.no ?_
  conv => whnf
  obtain ⟨y3, e4, h⟩ := bind_ex h
  refine CallOk.of (spec_suPlus_ct e4) ?_
  conv => whnf
  refine spl (fun g5 => ?_) (fun g5 => ?_)
  · replace h := iteT h g5
    conv => whnf
    refine CutK.go ?_
    conv => whnf
    refine Pick.no ?_
    conv => whnf
    obtain ⟨y6, e7, h⟩ := bind_ex h
    refine CallOk.of (spec_suIf_ct e7) ?_
    conv => whnf
    refine spl (fun g8 => ?_) (fun g8 => ?_)
    · replace h := iteT h g8
      conv => whnf
      refine CutK.go ?_
      conv => whnf
      cases h
      exact Done.of [some 1152] [] rfl rfl ⟨⟨rfl, rfl⟩, ⟨rfl, ⟨rfl, rfl, rows_same⟩, trivial⟩, ⟨⟨⟨rfl, rfl⟩, trivial⟩, rfl, trivial⟩, trivial⟩
    · replace h := iteF h g8
      conv => whnf
      refine CutK.go ?_
      conv => whnf
      cases h
      exact Done.of [some 1152] [] rfl rfl ⟨⟨rfl, rfl⟩, ⟨rfl, ⟨rfl, rfl, rows_same⟩, trivial⟩, ⟨⟨⟨rfl, rfl⟩, trivial⟩, rfl, trivial⟩, trivial⟩
  · replace h := iteF h g5
    conv => whnf
    refine CutK.go ?_
    conv => whnf
    cases h
    exact Done.of [none] [] rfl rfl ⟨⟨rfl, rfl⟩, ⟨rfl, rfl, trivial⟩, ⟨⟨⟨rfl, rfl⟩, trivial⟩, rfl, trivial⟩, trivial⟩

def spec_shMul (k : Nat) (a1 : Int) (a2 : Int) (a3 : Int) (a4 : Int) : Option (Int × Int) :=
  ((spec_shMake k (IntKind.i64.wrap (a1 * a3)) (IntKind.i64.wrap (a2 * a4))).bind fun y5 => some (y5.1, y5.2))
set_option maxHeartbeats 4000000 in
set_option maxRecDepth 100000 in
theorem spec_shMul_ct {k : Nat} {a1 : Int} {a2 : Int} {a3 : Int} {a4 : Int} {r : Int × Int} (h : spec_shMul k a1 a2 a3 a4 = some r) : Ct prog 190 [.agg [.d (D.int .i64 a1), .d (D.int .i64 a2)], .agg [.d (D.int .i64 a3), .d (D.int .i64 a4)]] (⟨[], []⟩) (.agg [.d (D.int .i64 r.1), .d (D.int .i64 r.2)]) (⟨[], []⟩) := by
  rw [spec_shMul] at h
  refine Ct.of (c := _) mixed func190 ⟨rfl, rfl, rfl⟩ ?_ rfl
  conv => whnf
  refine Pick.no ?_
  conv => whnf
  obtain ⟨y5, e6, h⟩ := bind_ex h
  refine CallOk.of (spec_shMake_ct e6) ?_
  conv => whnf
  refine CutK.go ?_
  conv => whnf
  cases h
  exact Done.of [] [] rfl rfl ⟨⟨rfl, rfl⟩, ⟨rfl, trivial⟩, ⟨rfl, rfl, trivial⟩, trivial⟩

def spec_suTimesTerm (k : Nat) (a1 : Rw) (a2 : Int) (a3 : Int) (a4 : Rw) (a5 : Int) (a6 : Int) : Option (Rw × Int × Int × Bool) :=
  ((spec_suSum k a1 a4).bind fun y7 => (if y7.2 = true then ((spec_shMul k a2 a3 a5 a6).bind fun y10 => ((spec_shGood k y10.1 y10.2).bind fun y12 => (if y12 = true then some (y7.1, y10.1, y10.2, true) else some (y7.1, y10.1, y10.2, false)))) else ((spec_shMul k a2 a3 a5 a6).bind fun y15 => some (y7.1, y15.1, y15.2, false))))
set_option maxHeartbeats 4000000 in
set_option maxRecDepth 100000 in
theorem spec_suTimesTerm_ct {k : Nat} {a1 : Rw} {a2 : Int} {a3 : Int} {a4 : Rw} {a5 : Int} {a6 : Int} {r : Rw × Int × Int × Bool} (h : spec_suTimesTerm k a1 a2 a3 a4 a5 a6 = some r) : Ct prog 170 [.agg [.d (D.sl a1), .d (D.int .i64 a2), .d (D.int .i64 a3)], .agg [.d (D.sl a4), .d (D.int .i64 a5), .d (D.int .i64 a6)]] (⟨[], []⟩) (.tup [.agg [.os 8 r.1.length, .d (D.int .i64 r.2.1), .d (D.int .i64 r.2.2.1)], .d (D.bool r.2.2.2)]) (⟨[], [(116, true, r.1)]⟩) := by
  rw [spec_suTimesTerm] at h
  refine Ct.of (c := _) mixed func170 ⟨rfl, rfl, rfl⟩ ?_ rfl
  conv => whnf
  refine Pick.no ?_
  conv => whnf
  obtain ⟨y7, e8, h⟩ := bind_ex h
  refine CallOk.of (spec_suSum_ct e8) ?_
  conv => whnf
  refine spl (fun g9 => ?_) (fun g9 => ?_)
  · replace h := iteT h g9
    conv => whnf
    refine CutK.go ?_
    conv => whnf
    refine Pick.no ?_
    conv => whnf
    obtain ⟨y10, e11, h⟩ := bind_ex h
    refine CallOk.of (spec_shMul_ct e11) ?_
    conv => whnf
    refine CutK.go ?_
    conv => whnf
    refine Pick.no ?_
    conv => whnf
    obtain ⟨y12, e13, h⟩ := bind_ex h
    refine CallOk.of (spec_shGood_ct e13) ?_
    conv => whnf
    refine spl (fun g14 => ?_) (fun g14 => ?_)
    · replace h := iteT h g14
      conv => whnf
      refine CutK.go ?_
      conv => whnf
      cases h
      exact Done.of [some 896] [] rfl rfl ⟨⟨rfl, rfl⟩, ⟨rfl, ⟨rfl, rfl, rows_same⟩, trivial⟩, ⟨⟨⟨rfl, rfl⟩, rfl, rfl, trivial⟩, rfl, trivial⟩, trivial⟩
    · replace h := iteF h g14
      conv => whnf
      refine CutK.go ?_
      conv => whnf
      cases h
      exact Done.of [some 896] [] rfl rfl ⟨⟨rfl, rfl⟩, ⟨rfl, ⟨rfl, rfl, rows_same⟩, trivial⟩, ⟨⟨⟨rfl, rfl⟩, rfl, rfl, trivial⟩, rfl, trivial⟩, trivial⟩
  · replace h := iteF h g9
    conv => whnf
    refine CutK.go ?_
    conv => whnf
    refine Pick.no ?_
    conv => whnf
    obtain ⟨y15, e16, h⟩ := bind_ex h
    refine CallOk.of (spec_shMul_ct e16) ?_
    conv => whnf
    refine CutK.go ?_
    conv => whnf
    refine CutK.go ?_
    conv => whnf
    cases h
    exact Done.of [some 896] [] rfl rfl ⟨⟨rfl, rfl⟩, ⟨rfl, ⟨rfl, rfl, rows_same⟩, trivial⟩, ⟨⟨⟨rfl, rfl⟩, rfl, rfl, trivial⟩, rfl, trivial⟩, trivial⟩

def spec_suProduct_p4 (o145 : Rw) (v146 : Bool) : Option (Rw × Bool) :=
  (cond v146 (some (o145, true)) (some (o145, false)))
set_option maxHeartbeats 4000000 in
set_option maxRecDepth 100000 in
theorem spec_suProduct_p4_ct {o145 : Rw} {v146 : Bool} {r : Rw × Bool} (h : spec_suProduct_p4 o145 v146 = some r) : X prog 0 (tlF f116 4) (mk 55 [(4, .ptr 256 0), (5, .d (D.bool v146))] [(256, .box 28 [.os 1084000 o145.length]), (1084000, .arr 116 true o145)]) (finK prog f116 0 (.tup [.agg [.os 8 r.1.length], .d (D.bool r.2)]) (⟨[], [(116, true, r.1)]⟩)) := by
  rw [spec_suProduct_p4] at h
  cases v146
  · replace h := condF h
    conv => whnf
    cases h
    exact Done.of [some 1084000] [] rfl rfl ⟨⟨rfl, rfl⟩, ⟨rfl, ⟨rfl, rfl, rows_same⟩, trivial⟩, ⟨⟨⟨rfl, rfl⟩, trivial⟩, rfl, trivial⟩, trivial⟩
  · replace h := condT h
    conv => whnf
    cases h
    exact Done.of [some 1084000] [] rfl rfl ⟨⟨rfl, rfl⟩, ⟨rfl, ⟨rfl, rfl, rows_same⟩, trivial⟩, ⟨⟨⟨rfl, rfl⟩, trivial⟩, rfl, trivial⟩, trivial⟩
def spec_suProduct_p3 (k : Nat) (o141 : Rw) : Option (Rw × Bool) :=
  ((spec_suIf k o141).bind fun y147 => (if y147.2 = true then (spec_suProduct_p4 y147.1 true) else (spec_suProduct_p4 y147.1 false)))
set_option maxHeartbeats 4000000 in
set_option maxRecDepth 100000 in
theorem spec_suProduct_p3_ct {k : Nat} {o141 : Rw} {r : Rw × Bool} (h : spec_suProduct_p3 k o141 = some r) : X prog 0 (tlF f116 3) (mk 55 [(4, .ptr 256 0), (6, .ptr 384 0)] [(256, .box 28 [.es]), (384, .box 28 [.os 1079000 o141.length]), (1079000, .arr 116 false o141)]) (finK prog f116 0 (.tup [.agg [.os 8 r.1.length], .d (D.bool r.2)]) (⟨[], [(116, true, r.1)]⟩)) := by
  rw [spec_suProduct_p3] at h
  conv => whnf
  refine Pick.no ?_
  conv => whnf
  refine Take.all (rfl) ?_
  conv => whnf
  obtain ⟨y147, e148, h⟩ := bind_ex h
  refine CallOk.of (spec_suIf_ct e148) ?_
  conv => whnf
  refine spl (fun g149 => ?_) (fun g149 => ?_)
  · replace h := iteT h g149
    conv => whnf
    exact CutK.piece (spec_suProduct_p4_ct  h) [some 256, some 3328] [] ⟨⟨rfl, rfl⟩, ⟨rfl, ⟨rfl, ⟨rfl, rfl⟩, trivial⟩, ⟨rfl, rfl, rows_same⟩, trivial⟩, ⟨rfl, rfl⟩, rfl, trivial⟩
  · replace h := iteF h g149
    conv => whnf
    exact CutK.piece (spec_suProduct_p4_ct  h) [some 256, some 3328] [] ⟨⟨rfl, rfl⟩, ⟨rfl, ⟨rfl, ⟨rfl, rfl⟩, trivial⟩, ⟨rfl, rfl, rows_same⟩, trivial⟩, ⟨rfl, rfl⟩, rfl, trivial⟩
def spec_suProduct_l1 (k : Nat) (a1 : Rw) (a2 : Rw) (v195n : Nat) (x288 : Rw) (x289 : Int) (x290 : Int) (K2 : Rw → Option (Rw × Bool)) : Rw → Rw → Option (Rw × Bool)
  | [], v305 => (K2 v305)
  | cs :: rest, v305 => (cell_sii cs fun x331 x332 x333 => ((spec_suTimesTerm k x288 x289 x290 x331 x332 x333).bind fun y335 => (if y335.2.2.2 = true then ((spec_suPut k v305 y335.1 y335.2.1 y335.2.2.1).bind fun y338 => (if y338.2 = true then (spec_suProduct_l1 k a1 a2 v195n x288 x289 x290 K2 rest y338.1) else some (([] : Rw), false))) else some (([] : Rw), false))))
set_option maxRecDepth 100000 in
theorem spec_suProduct_l1_ct {k : Nat} {a1 : Rw} {a2 : Rw} {v195n : Nat} {x288 : Rw} {x289 : Int} {x290 : Int} {K2 : Rw → Option (Rw × Bool)} {r : Rw × Bool} (hx : a2.length ≤ cap) : ∀ (rest : Rw) (v304n : Nat) (v305 : Rw), a2.drop v304n = rest → spec_suProduct_l1 k a1 a2 v195n x288 x289 x290 K2 rest v305 = some r → LoopOk prog 0 (lp f116 1) (mk 55 [(3, .ptr 192 0), (4, .ptr 256 0), (6, .ptr 384 0), (8, .ptr 512 0), (17, .d (D.sl a1)), (18, .d (D.int .i64 (a1.length : Int))), (19, .d (D.int .i64 (v195n : Int))), (24, .d (D.sl a2)), (25, .d (D.int .i64 (a2.length : Int))), (26, .d (D.int .i64 (v304n : Int)))] [(192, .box 28 [.d (D.sl a2)]), (256, .box 28 [.es]), (384, .box 28 [.os 76800 v305.length]), (512, .box 116 [.d (D.sl x288), .d (D.int .i64 x289), .d (D.int .i64 x290)]), (76800, .arr 116 false v305)]) (LoopEnd prog f116 0 55 (.tup [.agg [.os 8 r.1.length], .d (D.bool r.2)]) (⟨[], [(116, true, r.1)]⟩) (fun i ts os => (i = 2 ∧ ∃ v318 : Rw, K2 v318 = some r ∧ ts = [(3, .ptr 192 0), (4, .ptr 256 0), (6, .ptr 384 0), (17, .d (D.sl a1)), (18, .d (D.int .i64 (a1.length : Int))), (19, .d (D.int .i64 (v195n : Int)))] ∧ os = [(192, .box 28 [.d (D.sl a2)]), (256, .box 28 [.es]), (384, .box 28 [.os 79801 v318.length]), (79801, .arr 116 false v318)])))
  | [], v304n, v305, hd, h => by
      rw [spec_suProduct_l1] at h
      have hn := drop_nil hd
      refine LoopOk.step ?_
      conv => whnf
      refine splD (fun g => absurd g hn) (fun _ => ?_)
      conv => whnf
      exact ⟨_, _, [some 192, some 256, some 384, some 76800], [], ⟨rfl, _, h, rfl, rfl⟩, ⟨⟨rfl, rfl⟩, ⟨rfl, ⟨rfl, rfl, trivial⟩, ⟨rfl, trivial, trivial⟩, ⟨rfl, ⟨rfl, rfl⟩, trivial⟩, ⟨rfl, rfl, rows_same⟩, trivial⟩, ⟨rfl, rfl⟩, ⟨rfl, rfl⟩, ⟨rfl, rfl⟩, rfl, rfl, rfl, trivial⟩⟩
  | cs :: rest, v304n, v305, hd, h => by
      rw [spec_suProduct_l1] at h
      obtain ⟨hrow, hd1, hlt⟩ := drop_cons hd
      refine LoopOk.step ?_
      conv => whnf
      refine splD (fun _ => ?_) (fun g => absurd hlt g)
      conv => whnf
      obtain ⟨x331, x332, x333, e334, h⟩ := cell_sii_ex h
      rw [e334] at hrow
      refine Req.of (Int.natCast_nonneg _) ?_
      refine Row.of _ hrow ?_
      conv => whnf
      refine Pick.no ?_
      conv => whnf
      obtain ⟨y335, e336, h⟩ := bind_ex h
      refine CallOk.of (spec_suTimesTerm_ct e336) ?_
      conv => whnf
      refine spl (fun g337 => ?_) (fun g337 => ?_)
      · replace h := iteT h g337
        conv => whnf
        refine CutK.norm [3, 4, 6, 8, 11, 12, 17, 18, 19, 24, 25, 26] [192, 256, 384, 512, 704, 2112, 76800] ?_
        conv => whnf
        refine Pick.no ?_
        conv => whnf
        refine Take.all (rfl) ?_
        conv => whnf
        refine Take.all (rfl) ?_
        conv => whnf
        obtain ⟨y338, e339, h⟩ := bind_ex h
        refine CallOk.of (spec_suPut_ct e339) ?_
        conv => whnf
        refine spl (fun g340 => ?_) (fun g340 => ?_)
        · replace h := iteT h g340
          conv => whnf
          refine CutK.norm [3, 4, 6, 8, 13, 14, 17, 18, 19, 24, 25, 26] [192, 256, 384, 512, 832, 2688, 76800] ?_
          conv => whnf
          refine CutK.norm [3, 4, 6, 8, 17, 18, 19, 24, 25, 26] [192, 256, 384, 512, 2688] ?_
          conv => whnf
          exact LoopOk.back (spec_suProduct_l1_ct hx rest (v304n + 1) _ hd1 h) [some 192, some 256, some 384, some 512, some 2688] [] ⟨⟨rfl, rfl⟩, ⟨rfl, ⟨rfl, rfl, trivial⟩, ⟨rfl, trivial, trivial⟩, ⟨rfl, ⟨rfl, rfl⟩, trivial⟩, ⟨rfl, rfl, rfl, rfl, trivial⟩, ⟨rfl, rfl, rows_same⟩, trivial⟩, ⟨rfl, rfl⟩, ⟨rfl, rfl⟩, ⟨rfl, rfl⟩, ⟨rfl, rfl⟩, rfl, rfl, rfl, rfl, rfl, i64eq (wrap_up hlt hx), trivial⟩
        · replace h := iteF h g340
          conv => whnf
          refine CutK.norm [3, 4, 6, 8, 13, 14, 17, 18, 19, 24, 25, 26] [192, 256, 384, 512, 832, 2688, 76800] ?_
          conv => whnf
          cases h
          exact Done.of [none] [] rfl rfl ⟨⟨rfl, rfl⟩, ⟨rfl, rfl, trivial⟩, ⟨⟨⟨rfl, rfl⟩, trivial⟩, rfl, trivial⟩, trivial⟩
      · replace h := iteF h g337
        conv => whnf
        refine CutK.norm [3, 4, 6, 8, 11, 12, 17, 18, 19, 24, 25, 26] [192, 256, 384, 512, 704, 2112, 76800] ?_
        conv => whnf
        cases h
        exact Done.of [none] [] rfl rfl ⟨⟨rfl, rfl⟩, ⟨rfl, rfl, trivial⟩, ⟨⟨⟨rfl, rfl⟩, trivial⟩, rfl, trivial⟩, trivial⟩
def spec_suProduct_l0 (k : Nat) (a1 : Rw) (a2 : Rw) (K0 : Rw → Option (Rw × Bool)) : Rw → Nat → Rw → Option (Rw × Bool)
  | [], v195n, v196 => (K0 v196)
  | cs :: rest, v195n, v196 => (cell_sii cs fun x288 x289 x290 => (if a2.length ≤ cap then (spec_suProduct_l1 k a1 a2 v195n x288 x289 x290 (fun (v318 : Rw) => (spec_suProduct_l0 k a1 a2 K0 rest (v195n + 1) v318)) a2 v196) else none))
set_option maxRecDepth 100000 in
theorem spec_suProduct_l0_ct {k : Nat} {a1 : Rw} {a2 : Rw} {K0 : Rw → Option (Rw × Bool)} {r : Rw × Bool} (hx : a1.length ≤ cap) : ∀ (rest : Rw) (v195n : Nat) (v196 : Rw), a1.drop v195n = rest → spec_suProduct_l0 k a1 a2 K0 rest v195n v196 = some r → LoopOk prog 0 (lp f116 0) (mk 55 [(3, .ptr 192 0), (4, .ptr 256 0), (6, .ptr 384 0), (17, .d (D.sl a1)), (18, .d (D.int .i64 (a1.length : Int))), (19, .d (D.int .i64 (v195n : Int)))] [(192, .box 28 [.d (D.sl a2)]), (256, .box 28 [.es]), (384, .box 28 [.os 64000 v196.length]), (64000, .arr 116 false v196)]) (LoopEnd prog f116 0 55 (.tup [.agg [.os 8 r.1.length], .d (D.bool r.2)]) (⟨[], [(116, true, r.1)]⟩) (fun i ts os => (i = 0 ∧ ∃ v242 : Rw, K0 v242 = some r ∧ ts = [(4, .ptr 256 0), (6, .ptr 384 0)] ∧ os = [(256, .box 28 [.es]), (384, .box 28 [.os 67001 v242.length]), (67001, .arr 116 false v242)])))
  | [], v195n, v196, hd, h => by
      rw [spec_suProduct_l0] at h
      have hn := drop_nil hd
      refine LoopOk.step ?_
      conv => whnf
      refine splD (fun g => absurd g hn) (fun _ => ?_)
      conv => whnf
      exact ⟨_, _, [some 256, some 384, some 64000], [], ⟨rfl, _, h, rfl, rfl⟩, ⟨⟨rfl, rfl⟩, ⟨rfl, ⟨rfl, trivial, trivial⟩, ⟨rfl, ⟨rfl, rfl⟩, trivial⟩, ⟨rfl, rfl, rows_same⟩, trivial⟩, ⟨rfl, rfl⟩, ⟨rfl, rfl⟩, trivial⟩⟩
  | cs :: rest, v195n, v196, hd, h => by
      rw [spec_suProduct_l0] at h
      obtain ⟨hrow, hd1, hlt⟩ := drop_cons hd
      refine LoopOk.step ?_
      conv => whnf
      refine splD (fun _ => ?_) (fun g => absurd hlt g)
      conv => whnf
      obtain ⟨x288, x289, x290, e291, h⟩ := cell_sii_ex h
      rw [e291] at hrow
      refine Req.of (Int.natCast_nonneg _) ?_
      refine Row.of _ hrow ?_
      conv => whnf
      obtain ⟨g341, h⟩ := req_ex h
      refine LoopOk.into (spec_suProduct_l1_ct  g341 _ _ _ rfl h) [some 192, some 256, some 384, some 512, some 64000] [] ⟨⟨rfl, rfl⟩, ⟨rfl, ⟨rfl, rfl, trivial⟩, ⟨rfl, trivial, trivial⟩, ⟨rfl, ⟨rfl, rfl⟩, trivial⟩, ⟨rfl, rfl, rfl, rfl, trivial⟩, ⟨rfl, rfl, rows_same⟩, trivial⟩, ⟨rfl, rfl⟩, ⟨rfl, rfl⟩, ⟨rfl, rfl⟩, ⟨rfl, rfl⟩, rfl, rfl, rfl, rfl, rfl, rfl, trivial⟩ ?_ (fun _ hs => hs)
      rintro i ts os ⟨rfl, v318, h, rfl, rfl⟩
      conv => whnf
      refine CutK.norm [3, 4, 6, 17, 18, 19] [192, 256, 384, 79801] ?_
      conv => whnf
      exact LoopOk.back (spec_suProduct_l0_ct hx rest (v195n + 1) _ hd1 h) [some 192, some 256, some 384, some 79801] [] ⟨⟨rfl, rfl⟩, ⟨rfl, ⟨rfl, rfl, trivial⟩, ⟨rfl, trivial, trivial⟩, ⟨rfl, ⟨rfl, rfl⟩, trivial⟩, ⟨rfl, rfl, rows_same⟩, trivial⟩, ⟨rfl, rfl⟩, ⟨rfl, rfl⟩, ⟨rfl, rfl⟩, rfl, rfl, i64eq (wrap_up hlt hx), trivial⟩
def spec_suProduct (k : Nat) (a1 : Rw) (a2 : Rw) : Option (Rw × Bool) :=
  (if a1.length ≤ cap then (spec_suProduct_l0 k a1 a2 (fun (v242 : Rw) => (spec_suProduct_p3 k v242)) a1 0 ([] : Rw)) else none)
set_option maxHeartbeats 4000000 in
set_option maxRecDepth 100000 in
theorem spec_suProduct_ct {k : Nat} {a1 : Rw} {a2 : Rw} {r : Rw × Bool} (h : spec_suProduct k a1 a2 = some r) : Ct prog 116 [.agg [.d (D.sl a1)], .agg [.d (D.sl a2)]] (⟨[], []⟩) (.tup [.agg [.os 8 r.1.length], .d (D.bool r.2)]) (⟨[], [(116, true, r.1)]⟩) := by
  rw [spec_suProduct] at h
  refine Ct.of (c := _) mixed func116 ⟨rfl, rfl, rfl⟩ ?_ rfl
  conv => whnf
  obtain ⟨g342, h⟩ := req_ex h
  refine LoopOk.into (spec_suProduct_l0_ct  g342 _ _ _ rfl h) [some 192, some 256, some 384, none] [] ⟨⟨rfl, rfl⟩, ⟨rfl, ⟨rfl, rfl, trivial⟩, ⟨rfl, trivial, trivial⟩, ⟨rfl, ⟨rfl, rfl⟩, trivial⟩, rfl, trivial⟩, ⟨rfl, rfl⟩, ⟨rfl, rfl⟩, ⟨rfl, rfl⟩, rfl, rfl, rfl, trivial⟩ ?_ (fun _ hs => hs)
  rintro i ts os ⟨rfl, v242, h, rfl, rfl⟩
  conv => whnf
  exact CutK.piece (spec_suProduct_p3_ct  h) [some 256, some 384, some 67001] [] ⟨⟨rfl, rfl⟩, ⟨rfl, ⟨rfl, trivial, trivial⟩, ⟨rfl, ⟨rfl, rfl⟩, trivial⟩, ⟨rfl, rfl, rows_same⟩, trivial⟩, ⟨rfl, rfl⟩, ⟨rfl, rfl⟩, trivial⟩

def spec_seChecked_keep  (a1 : Bool) (a2 : Rw) (a3 : Bool) : Option (Rw × Bool) :=
  (cond a1 (cond a3 (some (([] : Rw), true)) (some (([] : Rw), true))) (cond a3 (some (a2, false)) (some (([] : Rw), true))))
set_option maxHeartbeats 4000000 in
set_option maxRecDepth 100000 in
theorem spec_seChecked_keep_ct  {a1 : Bool} {a2 : Rw} {a3 : Bool} {r : Rw × Bool} (h : spec_seChecked_keep a1 a2 a3 = some r) : Ct prog 115 [.ptr 0 0, .agg [.d (D.sl a2)], .d (D.bool a3)] (⟨[(77, [.d (D.bool a1)])], []⟩) (.agg [.d (D.sl r.1)]) (⟨[(77, [.d (D.bool r.2)])], []⟩) := by
  rw [spec_seChecked_keep] at h
  refine Ct.of (c := _) mixed func115 ⟨rfl, rfl, rfl⟩ ?_ rfl
  cases a1
  · replace h := condF h
    cases a3
    · replace h := condF h
      conv => whnf
      refine splF ?_
      conv => whnf
      refine splT ?_
      conv => whnf
      cases h
      exact Done.of [some 0] [] rfl rfl ⟨⟨rfl, rfl⟩, ⟨rfl, ⟨rfl, rfl, trivial⟩, trivial⟩, ⟨rfl, trivial⟩, trivial⟩
    · replace h := condT h
      conv => whnf
      refine splF ?_
      conv => whnf
      refine splF ?_
      conv => whnf
      cases h
      exact Done.of [some 0] [] rfl rfl ⟨⟨rfl, rfl⟩, ⟨rfl, ⟨rfl, rfl, trivial⟩, trivial⟩, ⟨rfl, trivial⟩, trivial⟩
  · replace h := condT h
    cases a3
    · replace h := condF h
      conv => whnf
      refine splT ?_
      conv => whnf
      refine splT ?_
      conv => whnf
      cases h
      exact Done.of [some 0] [] rfl rfl ⟨⟨rfl, rfl⟩, ⟨rfl, ⟨rfl, rfl, trivial⟩, trivial⟩, ⟨rfl, trivial⟩, trivial⟩
    · replace h := condT h
      conv => whnf
      refine splT ?_
      conv => whnf
      refine splT ?_
      conv => whnf
      cases h
      exact Done.of [some 0] [] rfl rfl ⟨⟨rfl, rfl⟩, ⟨rfl, ⟨rfl, rfl, trivial⟩, trivial⟩, ⟨rfl, trivial⟩, trivial⟩

def spec_seChecked_mul (k : Nat) (a1 : Bool) (a2 : Rw) (a3 : Rw) : Option (Rw × Bool) :=
  (cond a1 ((spec_suProduct k a2 a3).bind fun y11 => (if y11.2 = true then ((spec_seChecked_keep true y11.1 true).bind fun y14 => some (y14.1, y14.2)) else ((spec_seChecked_keep true y11.1 false).bind fun y16 => some (y16.1, y16.2)))) ((spec_suProduct k a2 a3).bind fun y4 => (if y4.2 = true then ((spec_seChecked_keep false y4.1 true).bind fun y7 => some (y7.1, y7.2)) else ((spec_seChecked_keep false y4.1 false).bind fun y9 => some (y9.1, y9.2)))))
set_option maxHeartbeats 4000000 in
set_option maxRecDepth 100000 in
theorem spec_seChecked_mul_ct {k : Nat} {a1 : Bool} {a2 : Rw} {a3 : Rw} {r : Rw × Bool} (h : spec_seChecked_mul k a1 a2 a3 = some r) : Ct prog 51 [.ptr 0 0, .agg [.d (D.sl a2)], .agg [.d (D.sl a3)]] (⟨[(77, [.d (D.bool a1)])], []⟩) (.agg [.d (D.sl r.1)]) (⟨[(77, [.d (D.bool r.2)])], []⟩) := by
  rw [spec_seChecked_mul] at h
  refine Ct.of (c := _) mixed func51 ⟨rfl, rfl, rfl⟩ ?_ rfl
  cases a1
  · replace h := condF h
    conv => whnf
    refine Pick.no ?_
    conv => whnf
    obtain ⟨y4, e5, h⟩ := bind_ex h
    refine CallOk.of (spec_suProduct_ct e5) ?_
    conv => whnf
    refine spl (fun g6 => ?_) (fun g6 => ?_)
    · replace h := iteT h g6
      conv => whnf
      refine Pick.no ?_
      conv => whnf
      refine Take.all (rfl) ?_
      conv => whnf
      obtain ⟨y7, e8, h⟩ := bind_ex h
      refine CallOk.of (spec_seChecked_keep_ct e8) ?_
      conv => whnf
      refine CutK.go ?_
      conv => whnf
      cases h
      exact Done.of [some 0] [] rfl rfl ⟨⟨rfl, rfl⟩, ⟨rfl, ⟨rfl, rfl, trivial⟩, trivial⟩, ⟨rfl, trivial⟩, trivial⟩
    · replace h := iteF h g6
      conv => whnf
      refine Pick.no ?_
      conv => whnf
      refine Take.all (rfl) ?_
      conv => whnf
      obtain ⟨y9, e10, h⟩ := bind_ex h
      refine CallOk.of (spec_seChecked_keep_ct e10) ?_
      conv => whnf
      refine CutK.go ?_
      conv => whnf
      cases h
      exact Done.of [some 0] [] rfl rfl ⟨⟨rfl, rfl⟩, ⟨rfl, ⟨rfl, rfl, trivial⟩, trivial⟩, ⟨rfl, trivial⟩, trivial⟩
  · replace h := condT h
    conv => whnf
    refine Pick.no ?_
    conv => whnf
    obtain ⟨y11, e12, h⟩ := bind_ex h
    refine CallOk.of (spec_suProduct_ct e12) ?_
    conv => whnf
    refine spl (fun g13 => ?_) (fun g13 => ?_)
    · replace h := iteT h g13
      conv => whnf
      refine Pick.no ?_
      conv => whnf
      refine Take.all (rfl) ?_
      conv => whnf
      obtain ⟨y14, e15, h⟩ := bind_ex h
      refine CallOk.of (spec_seChecked_keep_ct e15) ?_
      conv => whnf
      refine CutK.go ?_
      conv => whnf
      cases h
      exact Done.of [some 0] [] rfl rfl ⟨⟨rfl, rfl⟩, ⟨rfl, ⟨rfl, rfl, trivial⟩, trivial⟩, ⟨rfl, trivial⟩, trivial⟩
    · replace h := iteF h g13
      conv => whnf
      refine Pick.no ?_
      conv => whnf
      refine Take.all (rfl) ?_
      conv => whnf
      obtain ⟨y16, e17, h⟩ := bind_ex h
      refine CallOk.of (spec_seChecked_keep_ct e17) ?_
      conv => whnf
      refine CutK.go ?_
      conv => whnf
      cases h
      exact Done.of [some 0] [] rfl rfl ⟨⟨rfl, rfl⟩, ⟨rfl, ⟨rfl, rfl, trivial⟩, trivial⟩, ⟨rfl, trivial⟩, trivial⟩

def spec_suReal  (a1 : Int) (a2 : Int) : Option Rw :=
  ((spec_suTerm ([] : Rw) a1 a2).bind fun y3 => some y3)
set_option maxHeartbeats 4000000 in
set_option maxRecDepth 100000 in
theorem spec_suReal_ct  {a1 : Int} {a2 : Int} {r : Rw} (h : spec_suReal a1 a2 = some r) : Ct prog 95 [.agg [.d (D.int .i64 a1), .d (D.int .i64 a2)]] (⟨[], []⟩) (.agg [.os 8 r.length]) (⟨[], [(116, false, r)]⟩) := by
  rw [spec_suReal] at h
  refine Ct.of (c := _) mixed func95 ⟨rfl, rfl, rfl⟩ ?_ rfl
  conv => whnf
  refine Pick.no ?_
  conv => whnf
  obtain ⟨y3, e4, h⟩ := bind_ex h
  refine CallOk.of (spec_suTerm_ct e4) ?_
  conv => whnf
  refine CutK.go ?_
  conv => whnf
  cases h
  exact Done.of [some 320] [] rfl rfl ⟨⟨rfl, rfl⟩, ⟨rfl, ⟨rfl, rfl, rows_same⟩, trivial⟩, ⟨⟨rfl, rfl⟩, trivial⟩, trivial⟩

def spec_seChecked_scale (k : Nat) (a1 : Bool) (a2 : Rw) (a3 : Int) (a4 : Int) : Option (Rw × Bool) :=
  (cond a1 ((spec_suReal a3 a4).bind fun y14 => ((spec_suProduct k a2 y14).bind fun y16 => (if y16.2 = true then ((spec_seChecked_keep true y16.1 true).bind fun y19 => some (y19.1, y19.2)) else ((spec_seChecked_keep true y16.1 false).bind fun y21 => some (y21.1, y21.2))))) ((spec_suReal a3 a4).bind fun y5 => ((spec_suProduct k a2 y5).bind fun y7 => (if y7.2 = true then ((spec_seChecked_keep false y7.1 true).bind fun y10 => some (y10.1, y10.2)) else ((spec_seChecked_keep false y7.1 false).bind fun y12 => some (y12.1, y12.2))))))
set_option maxHeartbeats 4000000 in
set_option maxRecDepth 100000 in
theorem spec_seChecked_scale_ct {k : Nat} {a1 : Bool} {a2 : Rw} {a3 : Int} {a4 : Int} {r : Rw × Bool} (h : spec_seChecked_scale k a1 a2 a3 a4 = some r) : Ct prog 50 [.ptr 0 0, .agg [.d (D.sl a2)], .agg [.d (D.int .i64 a3), .d (D.int .i64 a4)]] (⟨[(77, [.d (D.bool a1)])], []⟩) (.agg [.d (D.sl r.1)]) (⟨[(77, [.d (D.bool r.2)])], []⟩) := by
  rw [spec_seChecked_scale] at h
  refine Ct.of (c := _) mixed func50 ⟨rfl, rfl, rfl⟩ ?_ rfl
  cases a1
  · replace h := condF h
    conv => whnf
    refine Pick.no ?_
    conv => whnf
    obtain ⟨y5, e6, h⟩ := bind_ex h
    refine CallOk.of (spec_suReal_ct e6) ?_
    conv => whnf
    refine Pick.no ?_
    conv => whnf
    refine Take.all (rfl) ?_
    conv => whnf
    obtain ⟨y7, e8, h⟩ := bind_ex h
    refine CallOk.of (spec_suProduct_ct e8) ?_
    conv => whnf
    refine spl (fun g9 => ?_) (fun g9 => ?_)
    · replace h := iteT h g9
      conv => whnf
      refine Pick.no ?_
      conv => whnf
      refine Take.all (rfl) ?_
      conv => whnf
      obtain ⟨y10, e11, h⟩ := bind_ex h
      refine CallOk.of (spec_seChecked_keep_ct e11) ?_
      conv => whnf
      refine CutK.go ?_
      conv => whnf
      cases h
      exact Done.of [some 0] [] rfl rfl ⟨⟨rfl, rfl⟩, ⟨rfl, ⟨rfl, rfl, trivial⟩, trivial⟩, ⟨rfl, trivial⟩, trivial⟩
    · replace h := iteF h g9
      conv => whnf
      refine Pick.no ?_
      conv => whnf
      refine Take.all (rfl) ?_
      conv => whnf
      obtain ⟨y12, e13, h⟩ := bind_ex h
      refine CallOk.of (spec_seChecked_keep_ct e13) ?_
      conv => whnf
      refine CutK.go ?_
      conv => whnf
      cases h
      exact Done.of [some 0] [] rfl rfl ⟨⟨rfl, rfl⟩, ⟨rfl, ⟨rfl, rfl, trivial⟩, trivial⟩, ⟨rfl, trivial⟩, trivial⟩
  · replace h := condT h
    conv => whnf
    refine Pick.no ?_
    conv => whnf
    obtain ⟨y14, e15, h⟩ := bind_ex h
    refine CallOk.of (spec_suReal_ct e15) ?_
    conv => whnf
    refine Pick.no ?_
    conv => whnf
    refine Take.all (rfl) ?_
    conv => whnf
    obtain ⟨y16, e17, h⟩ := bind_ex h
    refine CallOk.of (spec_suProduct_ct e17) ?_
    conv => whnf
    refine spl (fun g18 => ?_) (fun g18 => ?_)
    · replace h := iteT h g18
      conv => whnf
      refine Pick.no ?_
      conv => whnf
      refine Take.all (rfl) ?_
      conv => whnf
      obtain ⟨y19, e20, h⟩ := bind_ex h
      refine CallOk.of (spec_seChecked_keep_ct e20) ?_
      conv => whnf
      refine CutK.go ?_
      conv => whnf
      cases h
      exact Done.of [some 0] [] rfl rfl ⟨⟨rfl, rfl⟩, ⟨rfl, ⟨rfl, rfl, trivial⟩, trivial⟩, ⟨rfl, trivial⟩, trivial⟩
    · replace h := iteF h g18
      conv => whnf
      refine Pick.no ?_
      conv => whnf
      refine Take.all (rfl) ?_
      conv => whnf
      obtain ⟨y21, e22, h⟩ := bind_ex h
      refine CallOk.of (spec_seChecked_keep_ct e22) ?_
      conv => whnf
      refine CutK.go ?_
      conv => whnf
      cases h
      exact Done.of [some 0] [] rfl rfl ⟨⟨rfl, rfl⟩, ⟨rfl, ⟨rfl, rfl, trivial⟩, trivial⟩, ⟨rfl, trivial⟩, trivial⟩

def spec_seChecked_add (k : Nat) (a1 : Bool) (a2 : Rw) (a3 : Rw) : Option (Rw × Bool) :=
  (cond a1 ((spec_suSum k a2 a3).bind fun y11 => (if y11.2 = true then ((spec_seChecked_keep true y11.1 true).bind fun y14 => some (y14.1, y14.2)) else ((spec_seChecked_keep true y11.1 false).bind fun y16 => some (y16.1, y16.2)))) ((spec_suSum k a2 a3).bind fun y4 => (if y4.2 = true then ((spec_seChecked_keep false y4.1 true).bind fun y7 => some (y7.1, y7.2)) else ((spec_seChecked_keep false y4.1 false).bind fun y9 => some (y9.1, y9.2)))))
set_option maxHeartbeats 4000000 in
set_option maxRecDepth 100000 in
theorem spec_seChecked_add_ct {k : Nat} {a1 : Bool} {a2 : Rw} {a3 : Rw} {r : Rw × Bool} (h : spec_seChecked_add k a1 a2 a3 = some r) : Ct prog 52 [.ptr 0 0, .agg [.d (D.sl a2)], .agg [.d (D.sl a3)]] (⟨[(77, [.d (D.bool a1)])], []⟩) (.agg [.d (D.sl r.1)]) (⟨[(77, [.d (D.bool r.2)])], []⟩) := by
  rw [spec_seChecked_add] at h
  refine Ct.of (c := _) mixed func52 ⟨rfl, rfl, rfl⟩ ?_ rfl
  cases a1
  · replace h := condF h
    conv => whnf
    refine Pick.no ?_
    conv => whnf
    obtain ⟨y4, e5, h⟩ := bind_ex h
    refine CallOk.of (spec_suSum_ct e5) ?_
    conv => whnf
    refine spl (fun g6 => ?_) (fun g6 => ?_)
    · replace h := iteT h g6
      conv => whnf
      refine Pick.no ?_
      conv => whnf
      refine Take.all (rfl) ?_
      conv => whnf
      obtain ⟨y7, e8, h⟩ := bind_ex h
      refine CallOk.of (spec_seChecked_keep_ct e8) ?_
      conv => whnf
      refine CutK.go ?_
      conv => whnf
      cases h
      exact Done.of [some 0] [] rfl rfl ⟨⟨rfl, rfl⟩, ⟨rfl, ⟨rfl, rfl, trivial⟩, trivial⟩, ⟨rfl, trivial⟩, trivial⟩
    · replace h := iteF h g6
      conv => whnf
      refine Pick.no ?_
      conv => whnf
      refine Take.all (rfl) ?_
      conv => whnf
      obtain ⟨y9, e10, h⟩ := bind_ex h
      refine CallOk.of (spec_seChecked_keep_ct e10) ?_
      conv => whnf
      refine CutK.go ?_
      conv => whnf
      cases h
      exact Done.of [some 0] [] rfl rfl ⟨⟨rfl, rfl⟩, ⟨rfl, ⟨rfl, rfl, trivial⟩, trivial⟩, ⟨rfl, trivial⟩, trivial⟩
  · replace h := condT h
    conv => whnf
    refine Pick.no ?_
    conv => whnf
    obtain ⟨y11, e12, h⟩ := bind_ex h
    refine CallOk.of (spec_suSum_ct e12) ?_
    conv => whnf
    refine spl (fun g13 => ?_) (fun g13 => ?_)
    · replace h := iteT h g13
      conv => whnf
      refine Pick.no ?_
      conv => whnf
      refine Take.all (rfl) ?_
      conv => whnf
      obtain ⟨y14, e15, h⟩ := bind_ex h
      refine CallOk.of (spec_seChecked_keep_ct e15) ?_
      conv => whnf
      refine CutK.go ?_
      conv => whnf
      cases h
      exact Done.of [some 0] [] rfl rfl ⟨⟨rfl, rfl⟩, ⟨rfl, ⟨rfl, rfl, trivial⟩, trivial⟩, ⟨rfl, trivial⟩, trivial⟩
    · replace h := iteF h g13
      conv => whnf
      refine Pick.no ?_
      conv => whnf
      refine Take.all (rfl) ?_
      conv => whnf
      obtain ⟨y16, e17, h⟩ := bind_ex h
      refine CallOk.of (spec_seChecked_keep_ct e17) ?_
      conv => whnf
      refine CutK.go ?_
      conv => whnf
      cases h
      exact Done.of [some 0] [] rfl rfl ⟨⟨rfl, rfl⟩, ⟨rfl, ⟨rfl, rfl, trivial⟩, trivial⟩, ⟨rfl, trivial⟩, trivial⟩

def spec_shInt  (a1 : Int) : Option (Int × Int) :=
  some (a1, 1)
set_option maxHeartbeats 4000000 in
set_option maxRecDepth 100000 in
theorem spec_shInt_ct  {a1 : Int} {r : Int × Int} (h : spec_shInt a1 = some r) : Ct prog 90 [.d (D.int .i64 a1)] (⟨[], []⟩) (.agg [.d (D.int .i64 r.1), .d (D.int .i64 r.2)]) (⟨[], []⟩) := by
  rw [spec_shInt] at h
  refine Ct.of (c := _) mixed func90 ⟨rfl, rfl, rfl⟩ ?_ rfl
  conv => whnf
  cases h
  exact Done.of [] [] rfl rfl ⟨⟨rfl, rfl⟩, ⟨rfl, trivial⟩, ⟨rfl, rfl, trivial⟩, trivial⟩

def spec_suInt  (a1 : Int) : Option Rw :=
  ((spec_shInt a1).bind fun y2 => ((spec_suReal y2.1 y2.2).bind fun y4 => some y4))
set_option maxHeartbeats 4000000 in
set_option maxRecDepth 100000 in
theorem spec_suInt_ct  {a1 : Int} {r : Rw} (h : spec_suInt a1 = some r) : Ct prog 49 [.d (D.int .i64 a1)] (⟨[], []⟩) (.agg [.os 8 r.length]) (⟨[], [(116, false, r)]⟩) := by
  rw [spec_suInt] at h
  refine Ct.of (c := _) mixed func49 ⟨rfl, rfl, rfl⟩ ?_ rfl
  conv => whnf
  refine Pick.no ?_
  conv => whnf
  obtain ⟨y2, e3, h⟩ := bind_ex h
  refine CallOk.of (spec_shInt_ct e3) ?_
  conv => whnf
  refine Pick.no ?_
  conv => whnf
  obtain ⟨y4, e5, h⟩ := bind_ex h
  refine CallOk.of (spec_suReal_ct e5) ?_
  conv => whnf
  refine CutK.go ?_
  conv => whnf
  cases h
  exact Done.of [some 320] [] rfl rfl ⟨⟨rfl, rfl⟩, ⟨rfl, ⟨rfl, rfl, rows_same⟩, trivial⟩, ⟨⟨rfl, rfl⟩, trivial⟩, trivial⟩

def spec_suParts_p4 (o49 : Rw) (o50 : Rw) (o51 : Int) (o52 : Int) : Option (Rw × Int × Int × Rw) :=
  some (o49, o51, o52, o50)
set_option maxHeartbeats 4000000 in
set_option maxRecDepth 100000 in
theorem spec_suParts_p4_ct {o49 : Rw} {o50 : Rw} {o51 : Int} {o52 : Int} {r : Rw × Int × Int × Rw} (h : spec_suParts_p4 o49 o50 o51 o52 = some r) : X prog 0 (tlF f113 4) (mk 47 [(2, .ptr 128 0), (3, .ptr 192 0), (4, .ptr 256 0), (5, .ptr 320 0), (6, .ptr 384 0), (7, .ptr 448 0)] [(128, .box 28 [.es]), (192, .box 61 [.d (D.int .i64 0), .d (D.int .i64 0)]), (256, .box 28 [.es]), (320, .box 28 [.os 1084000 o49.length]), (384, .box 28 [.os 1084001 o50.length]), (448, .box 61 [.d (D.int .i64 o51), .d (D.int .i64 o52)]), (1084000, .arr 116 false o49), (1084001, .arr 116 false o50)]) (finK prog f113 0 (.tup [.agg [.os 8 r.1.length], .agg [.d (D.int .i64 r.2.1), .d (D.int .i64 r.2.2.1)], .agg [.os 9 r.2.2.2.length]]) (⟨[], [(116, false, r.1), (116, false, r.2.2.2)]⟩)) := by
  rw [spec_suParts_p4] at h
  conv => whnf
  cases h
  exact Done.of [some 1084000, some 1084001] [] rfl rfl ⟨⟨rfl, rfl⟩, ⟨rfl, ⟨rfl, rfl, rows_same⟩, ⟨rfl, rfl, rows_same⟩, trivial⟩, ⟨⟨⟨rfl, rfl⟩, trivial⟩, ⟨rfl, rfl, trivial⟩, ⟨⟨rfl, rfl⟩, trivial⟩, trivial⟩, trivial⟩
def spec_suParts_l0 (a1 : Rw) (K0 : Rw → Rw → Int → Int → Option (Rw × Int × Int × Rw)) : Rw → Rw → Rw → Int → Int → Option (Rw × Int × Int × Rw)
  | [], v63, v65, v66, v67 => (K0 v63 v65 v66 v67)
  | cs :: rest, v63, v65, v66, v67 => (cell_sii cs fun x96 x97 x98 => ((spec_suSign x96).bind fun y100 => (if (0 : Int) < y100 then (if v63.length + 1 ≤ cap then (spec_suParts_l0 a1 K0 rest (v63 ++ ([[D.sl x96, D.int .i64 x97, D.int .i64 x98]])) v65 v66 v67) else none) else (if y100 < (0 : Int) then (if v65.length + 1 ≤ cap then (spec_suParts_l0 a1 K0 rest v63 (v65 ++ ([[D.sl x96, D.int .i64 x97, D.int .i64 x98]])) v66 v67) else none) else (spec_suParts_l0 a1 K0 rest v63 v65 x97 x98)))))
set_option maxRecDepth 100000 in
theorem spec_suParts_l0_ct {a1 : Rw} {K0 : Rw → Rw → Int → Int → Option (Rw × Int × Int × Rw)} {r : Rw × Int × Int × Rw} (hx : a1.length ≤ cap) : ∀ (rest : Rw) (v62n : Nat) (v63 : Rw) (v65 : Rw) (v66 : Int) (v67 : Int), a1.drop v62n = rest → spec_suParts_l0 a1 K0 rest v63 v65 v66 v67 = some r → LoopOk prog 0 (lp f113 0) (mk 47 [(2, .ptr 128 0), (3, .ptr 192 0), (4, .ptr 256 0), (5, .ptr 320 0), (6, .ptr 384 0), (7, .ptr 448 0), (13, .d (D.sl a1)), (14, .d (D.int .i64 (a1.length : Int))), (15, .d (D.int .i64 (v62n : Int)))] [(128, .box 28 [.es]), (192, .box 61 [.d (D.int .i64 0), .d (D.int .i64 0)]), (256, .box 28 [.es]), (320, .box 28 [.os 64000 v63.length]), (384, .box 28 [.os 64001 v65.length]), (448, .box 61 [.d (D.int .i64 v66), .d (D.int .i64 v67)]), (64000, .arr 116 false v63), (64001, .arr 116 false v65)]) (LoopEnd prog f113 0 47 (.tup [.agg [.os 8 r.1.length], .agg [.d (D.int .i64 r.2.1), .d (D.int .i64 r.2.2.1)], .agg [.os 9 r.2.2.2.length]]) (⟨[], [(116, false, r.1), (116, false, r.2.2.2)]⟩) (fun i ts os => (i = 0 ∧ ∃ v80 : Rw, ∃ v81 : Rw, ∃ v82 : Int, ∃ v83 : Int, K0 v80 v81 v82 v83 = some r ∧ ts = [(2, .ptr 128 0), (3, .ptr 192 0), (4, .ptr 256 0), (5, .ptr 320 0), (6, .ptr 384 0), (7, .ptr 448 0)] ∧ os = [(128, .box 28 [.es]), (192, .box 61 [.d (D.int .i64 0), .d (D.int .i64 0)]), (256, .box 28 [.es]), (320, .box 28 [.os 67002 v80.length]), (384, .box 28 [.os 67003 v81.length]), (448, .box 61 [.d (D.int .i64 v82), .d (D.int .i64 v83)]), (67002, .arr 116 false v80), (67003, .arr 116 false v81)])))
  | [], v62n, v63, v65, v66, v67, hd, h => by
      rw [spec_suParts_l0] at h
      have hn := drop_nil hd
      refine LoopOk.step ?_
      conv => whnf
      refine splD (fun g => absurd g hn) (fun _ => ?_)
      conv => whnf
      exact ⟨_, _, [some 128, some 192, some 256, some 320, some 384, some 448, some 64000, some 64001], [], ⟨rfl, _, _, _, _, h, rfl, rfl⟩, ⟨⟨rfl, rfl⟩, ⟨rfl, ⟨rfl, trivial, trivial⟩, ⟨rfl, rfl, rfl, trivial⟩, ⟨rfl, trivial, trivial⟩, ⟨rfl, ⟨rfl, rfl⟩, trivial⟩, ⟨rfl, ⟨rfl, rfl⟩, trivial⟩, ⟨rfl, rfl, rfl, trivial⟩, ⟨rfl, rfl, rows_same⟩, ⟨rfl, rfl, rows_same⟩, trivial⟩, ⟨rfl, rfl⟩, ⟨rfl, rfl⟩, ⟨rfl, rfl⟩, ⟨rfl, rfl⟩, ⟨rfl, rfl⟩, ⟨rfl, rfl⟩, trivial⟩⟩
  | cs :: rest, v62n, v63, v65, v66, v67, hd, h => by
      rw [spec_suParts_l0] at h
      obtain ⟨hrow, hd1, hlt⟩ := drop_cons hd
      refine LoopOk.step ?_
      conv => whnf
      refine splD (fun _ => ?_) (fun g => absurd hlt g)
      conv => whnf
      obtain ⟨x96, x97, x98, e99, h⟩ := cell_sii_ex h
      rw [e99] at hrow
      refine Req.of (Int.natCast_nonneg _) ?_
      refine Row.of _ hrow ?_
      conv => whnf
      refine Pick.no ?_
      conv => whnf
      obtain ⟨y100, e101, h⟩ := bind_ex h
      refine CallOk.of (spec_suSign_ct e101) ?_
      conv => whnf
      refine CutK.norm [2, 3, 4, 5, 6, 7, 9, 10, 13, 14, 15] [128, 192, 256, 320, 384, 448, 576, 64000, 64001] ?_
      conv => whnf
      refine splD (fun g102 => ?_) (fun g102 => ?_)
      · replace h := iteP h g102
        conv => whnf
        refine Take.all (rfl) ?_
        conv => whnf
        refine Take.all (by first | rfl | exact List.length_append.symm | (simp; done) | omega) ?_
        conv => whnf
        obtain ⟨g103, h⟩ := req_ex h
        refine Req.of (room (b := 40) (by decide) g103 (wide1 rfl wide0)) ?_
        conv => whnf
        refine CutK.norm [2, 3, 4, 5, 6, 7, 13, 14, 15] [128, 192, 256, 320, 384, 448, 2048, 64001] ?_
        conv => whnf
        exact LoopOk.back (spec_suParts_l0_ct hx rest (v62n + 1) _ _ _ _ hd1 h) [some 128, some 192, some 256, some 320, some 384, some 448, some 2048, some 64001] [] ⟨⟨rfl, rfl⟩, ⟨rfl, ⟨rfl, trivial, trivial⟩, ⟨rfl, rfl, rfl, trivial⟩, ⟨rfl, trivial, trivial⟩, ⟨rfl, ⟨(by first | rfl | exact List.length_append.symm | (simp; done) | omega), rfl⟩, trivial⟩, ⟨rfl, ⟨rfl, rfl⟩, trivial⟩, ⟨rfl, rfl, rfl, trivial⟩, ⟨rfl, rfl, rows_same⟩, ⟨rfl, rfl, rows_same⟩, trivial⟩, ⟨rfl, rfl⟩, ⟨rfl, rfl⟩, ⟨rfl, rfl⟩, ⟨rfl, rfl⟩, ⟨rfl, rfl⟩, ⟨rfl, rfl⟩, rfl, rfl, i64eq (wrap_up hlt hx), trivial⟩
      · replace h := iteN h g102
        conv => whnf
        refine splD (fun g104 => ?_) (fun g104 => ?_)
        · replace h := iteP h g104
          conv => whnf
          refine Take.all (rfl) ?_
          conv => whnf
          refine Take.all (by first | rfl | exact List.length_append.symm | (simp; done) | omega) ?_
          conv => whnf
          obtain ⟨g105, h⟩ := req_ex h
          refine Req.of (room (b := 40) (by decide) g105 (wide1 rfl wide0)) ?_
          conv => whnf
          refine CutK.norm [2, 3, 4, 5, 6, 7, 13, 14, 15] [128, 192, 256, 320, 384, 448, 2624, 64000] ?_
          conv => whnf
          exact LoopOk.back (spec_suParts_l0_ct hx rest (v62n + 1) _ _ _ _ hd1 h) [some 128, some 192, some 256, some 320, some 384, some 448, some 64000, some 2624] [] ⟨⟨rfl, rfl⟩, ⟨rfl, ⟨rfl, trivial, trivial⟩, ⟨rfl, rfl, rfl, trivial⟩, ⟨rfl, trivial, trivial⟩, ⟨rfl, ⟨rfl, rfl⟩, trivial⟩, ⟨rfl, ⟨(by first | rfl | exact List.length_append.symm | (simp; done) | omega), rfl⟩, trivial⟩, ⟨rfl, rfl, rfl, trivial⟩, ⟨rfl, rfl, rows_same⟩, ⟨rfl, rfl, rows_same⟩, trivial⟩, ⟨rfl, rfl⟩, ⟨rfl, rfl⟩, ⟨rfl, rfl⟩, ⟨rfl, rfl⟩, ⟨rfl, rfl⟩, ⟨rfl, rfl⟩, rfl, rfl, i64eq (wrap_up hlt hx), trivial⟩
        · replace h := iteN h g104
          conv => whnf
          refine CutK.norm [2, 3, 4, 5, 6, 7, 13, 14, 15] [128, 192, 256, 320, 384, 448, 64000, 64001] ?_
          conv => whnf
          exact LoopOk.back (spec_suParts_l0_ct hx rest (v62n + 1) _ _ _ _ hd1 h) [some 128, some 192, some 256, some 320, some 384, some 448, some 64000, some 64001] [] ⟨⟨rfl, rfl⟩, ⟨rfl, ⟨rfl, trivial, trivial⟩, ⟨rfl, rfl, rfl, trivial⟩, ⟨rfl, trivial, trivial⟩, ⟨rfl, ⟨rfl, rfl⟩, trivial⟩, ⟨rfl, ⟨rfl, rfl⟩, trivial⟩, ⟨rfl, rfl, rfl, trivial⟩, ⟨rfl, rfl, rows_same⟩, ⟨rfl, rfl, rows_same⟩, trivial⟩, ⟨rfl, rfl⟩, ⟨rfl, rfl⟩, ⟨rfl, rfl⟩, ⟨rfl, rfl⟩, ⟨rfl, rfl⟩, ⟨rfl, rfl⟩, rfl, rfl, i64eq (wrap_up hlt hx), trivial⟩
def spec_suParts_p3 (a1 : Rw) (o4 : Int) (o5 : Int) : Option (Rw × Int × Int × Rw) :=
  (if a1.length ≤ cap then (spec_suParts_l0 a1 (fun (v80 : Rw) (v81 : Rw) (v82 : Int) (v83 : Int) => (spec_suParts_p4 v80 v81 v82 v83)) a1 ([] : Rw) ([] : Rw) o4 o5) else none)
set_option maxHeartbeats 4000000 in
set_option maxRecDepth 100000 in
theorem spec_suParts_p3_ct {a1 : Rw} {o4 : Int} {o5 : Int} {r : Rw × Int × Int × Rw} (h : spec_suParts_p3 a1 o4 o5 = some r) : X prog 0 (tlF f113 3) (mk 47 [(1, .ptr 64 0), (2, .ptr 128 0), (3, .ptr 192 0), (4, .ptr 256 0), (5, .ptr 320 0), (6, .ptr 384 0), (7, .ptr 448 0)] [(64, .box 28 [.d (D.sl a1)]), (128, .box 28 [.es]), (192, .box 61 [.d (D.int .i64 0), .d (D.int .i64 0)]), (256, .box 28 [.es]), (320, .box 28 [.es]), (384, .box 28 [.es]), (448, .box 61 [.d (D.int .i64 o4), .d (D.int .i64 o5)])]) (finK prog f113 0 (.tup [.agg [.os 8 r.1.length], .agg [.d (D.int .i64 r.2.1), .d (D.int .i64 r.2.2.1)], .agg [.os 9 r.2.2.2.length]]) (⟨[], [(116, false, r.1), (116, false, r.2.2.2)]⟩)) := by
  rw [spec_suParts_p3] at h
  conv => whnf
  obtain ⟨g106, h⟩ := req_ex h
  refine LoopOk.into (spec_suParts_l0_ct  g106 _ _ _ _ _ _ rfl h) [some 128, some 192, some 256, some 320, some 384, some 448, none, none] [] ⟨⟨rfl, rfl⟩, ⟨rfl, ⟨rfl, trivial, trivial⟩, ⟨rfl, rfl, rfl, trivial⟩, ⟨rfl, trivial, trivial⟩, ⟨rfl, ⟨rfl, rfl⟩, trivial⟩, ⟨rfl, ⟨rfl, rfl⟩, trivial⟩, ⟨rfl, rfl, rfl, trivial⟩, rfl, rfl, trivial⟩, ⟨rfl, rfl⟩, ⟨rfl, rfl⟩, ⟨rfl, rfl⟩, ⟨rfl, rfl⟩, ⟨rfl, rfl⟩, ⟨rfl, rfl⟩, rfl, rfl, rfl, trivial⟩ ?_ (fun _ hs => hs)
  rintro i ts os ⟨rfl, v80, v81, v82, v83, h, rfl, rfl⟩
  conv => whnf
  exact CutK.piece (spec_suParts_p4_ct  h) [some 128, some 192, some 256, some 320, some 384, some 448, some 67002, some 67003] [] ⟨⟨rfl, rfl⟩, ⟨rfl, ⟨rfl, trivial, trivial⟩, ⟨rfl, rfl, rfl, trivial⟩, ⟨rfl, trivial, trivial⟩, ⟨rfl, ⟨rfl, rfl⟩, trivial⟩, ⟨rfl, ⟨rfl, rfl⟩, trivial⟩, ⟨rfl, rfl, rfl, trivial⟩, ⟨rfl, rfl, rows_same⟩, ⟨rfl, rfl, rows_same⟩, trivial⟩, ⟨rfl, rfl⟩, ⟨rfl, rfl⟩, ⟨rfl, rfl⟩, ⟨rfl, rfl⟩, ⟨rfl, rfl⟩, ⟨rfl, rfl⟩, trivial⟩
def spec_suParts  (a1 : Rw) : Option (Rw × Int × Int × Rw) :=
  ((spec_shInt 0).bind fun y107 => (spec_suParts_p3 a1 y107.1 y107.2))
set_option maxHeartbeats 4000000 in
set_option maxRecDepth 100000 in
theorem spec_suParts_ct  {a1 : Rw} {r : Rw × Int × Int × Rw} (h : spec_suParts a1 = some r) : Ct prog 113 [.agg [.d (D.sl a1)]] (⟨[], []⟩) (.tup [.agg [.os 8 r.1.length], .agg [.d (D.int .i64 r.2.1), .d (D.int .i64 r.2.2.1)], .agg [.os 9 r.2.2.2.length]]) (⟨[], [(116, false, r.1), (116, false, r.2.2.2)]⟩) := by
  rw [spec_suParts] at h
  refine Ct.of (c := _) mixed func113 ⟨rfl, rfl, rfl⟩ ?_ rfl
  conv => whnf
  refine Pick.no ?_
  conv => whnf
  obtain ⟨y107, e108, h⟩ := bind_ex h
  refine CallOk.of (spec_shInt_ct e108) ?_
  conv => whnf
  exact CutK.piece (spec_suParts_p3_ct  h) [some 64, some 128, some 192, some 256, some 320, some 384, some 448] [] ⟨⟨rfl, rfl⟩, ⟨rfl, ⟨rfl, rfl, trivial⟩, ⟨rfl, trivial, trivial⟩, ⟨rfl, rfl, rfl, trivial⟩, ⟨rfl, trivial, trivial⟩, ⟨rfl, trivial, trivial⟩, ⟨rfl, trivial, trivial⟩, ⟨rfl, rfl, rfl, trivial⟩, trivial⟩, ⟨rfl, rfl⟩, ⟨rfl, rfl⟩, ⟨rfl, rfl⟩, ⟨rfl, rfl⟩, ⟨rfl, rfl⟩, ⟨rfl, rfl⟩, ⟨rfl, rfl⟩, trivial⟩

def spec_suZero  (a1 : Rw) : Option Bool :=
  (if (a1.length : Int) = (0 : Int) then some true else some false)
set_option maxHeartbeats 4000000 in
set_option maxRecDepth 100000 in
theorem spec_suZero_ct  {a1 : Rw} {r : Bool} (h : spec_suZero a1 = some r) : Ct prog 66 [.agg [.d (D.sl a1)]] (⟨[], []⟩) (.d (D.bool r)) (⟨[], []⟩) := by
  rw [spec_suZero] at h
  refine Ct.of (c := _) mixed func66 ⟨rfl, rfl, rfl⟩ ?_ rfl
  conv => whnf
  refine splD (fun g2 => ?_) (fun g2 => ?_)
  · replace h := iteP h g2
    conv => whnf
    cases h
    exact Done.of [] [] rfl rfl ⟨⟨rfl, rfl⟩, ⟨rfl, trivial⟩, rfl, trivial⟩
  · replace h := iteN h g2
    conv => whnf
    cases h
    exact Done.of [] [] rfl rfl ⟨⟨rfl, rfl⟩, ⟨rfl, trivial⟩, rfl, trivial⟩

def spec_seSmall  (a1 : Rw) : Option Bool :=
  ((spec_suParts a1).bind fun y2 => ((spec_suZero y2.1).bind fun y4 => (if y4 = true then (if y2.2.1 = (0 : Int) then some true else some false) else some false)))
set_option maxHeartbeats 4000000 in
set_option maxRecDepth 100000 in
theorem spec_seSmall_ct  {a1 : Rw} {r : Bool} (h : spec_seSmall a1 = some r) : Ct prog 47 [.agg [.d (D.sl a1)]] (⟨[], []⟩) (.d (D.bool r)) (⟨[], []⟩) := by
  rw [spec_seSmall] at h
  refine Ct.of (c := _) mixed func47 ⟨rfl, rfl, rfl⟩ ?_ rfl
  conv => whnf
  refine Pick.no ?_
  conv => whnf
  obtain ⟨y2, e3, h⟩ := bind_ex h
  refine CallOk.of (spec_suParts_ct e3) ?_
  conv => whnf
  refine CutK.go ?_
  conv => whnf
  refine Pick.no ?_
  conv => whnf
  refine Take.all (rfl) ?_
  conv => whnf
  obtain ⟨y4, e5, h⟩ := bind_ex h
  refine CallOk.of (spec_suZero_ct e5) ?_
  conv => whnf
  refine spl (fun g6 => ?_) (fun g6 => ?_)
  · replace h := iteT h g6
    conv => whnf
    refine splD (fun g7 => ?_) (fun g7 => ?_)
    · replace h := iteP h g7
      conv => whnf
      refine CutK.go ?_
      conv => whnf
      cases h
      exact Done.of [] [] rfl rfl ⟨⟨rfl, rfl⟩, ⟨rfl, trivial⟩, rfl, trivial⟩
    · replace h := iteN h g7
      conv => whnf
      refine CutK.go ?_
      conv => whnf
      cases h
      exact Done.of [] [] rfl rfl ⟨⟨rfl, rfl⟩, ⟨rfl, trivial⟩, rfl, trivial⟩
  · replace h := iteF h g6
    conv => whnf
    refine CutK.go ?_
    conv => whnf
    cases h
    exact Done.of [] [] rfl rfl ⟨⟨rfl, rfl⟩, ⟨rfl, trivial⟩, rfl, trivial⟩

def spec_seSteps  (a1 : Int) : Option Bool :=
  ((spec_l1In a1 0 12).bind fun y2 => (if y2 = true then some true else some false))
set_option maxHeartbeats 4000000 in
set_option maxRecDepth 100000 in
theorem spec_seSteps_ct  {a1 : Int} {r : Bool} (h : spec_seSteps a1 = some r) : Ct prog 48 [.d (D.int .i64 a1)] (⟨[], []⟩) (.d (D.bool r)) (⟨[], []⟩) := by
  rw [spec_seSteps] at h
  refine Ct.of (c := _) mixed func48 ⟨rfl, rfl, rfl⟩ ?_ rfl
  conv => whnf
  refine Pick.no ?_
  conv => whnf
  obtain ⟨y2, e3, h⟩ := bind_ex h
  refine CallOk.of (spec_l1In_ct e3) ?_
  conv => whnf
  refine spl (fun g4 => ?_) (fun g4 => ?_)
  · replace h := iteT h g4
    conv => whnf
    refine CutK.go ?_
    conv => whnf
    cases h
    exact Done.of [] [] rfl rfl ⟨⟨rfl, rfl⟩, ⟨rfl, trivial⟩, rfl, trivial⟩
  · replace h := iteF h g4
    conv => whnf
    refine CutK.go ?_
    conv => whnf
    cases h
    exact Done.of [] [] rfl rfl ⟨⟨rfl, rfl⟩, ⟨rfl, trivial⟩, rfl, trivial⟩

def spec_ExpTerms_p5 (o64 : Rw) (v65 : Bool) : Option (Rw × Bool) :=
  (cond v65 (some (o64, false)) (some (o64, true)))
set_option maxHeartbeats 4000000 in
set_option maxRecDepth 100000 in
theorem spec_ExpTerms_p5_ct {o64 : Rw} {v65 : Bool} {r : Rw × Bool} (h : spec_ExpTerms_p5 o64 v65 = some r) : X prog 0 (tlF f11 5) (mk 53 [(4, .ptr 256 0), (6, .ptr 1600 0), (7, .ptr 448 0)] [(256, .box 28 [.es]), (448, .box 28 [.d (D.sl o64)]), (1600, .box 77 [.d (D.bool v65)])]) (finK prog f11 0 (.tup [.agg [.d (D.sl r.1)], .d (D.bool r.2)]) (⟨[], []⟩)) := by
  rw [spec_ExpTerms_p5] at h
  cases v65
  · replace h := condF h
    conv => whnf
    refine splF ?_
    conv => whnf
    cases h
    exact Done.of [] [] rfl rfl ⟨⟨rfl, rfl⟩, ⟨rfl, trivial⟩, ⟨⟨rfl, trivial⟩, rfl, trivial⟩, trivial⟩
  · replace h := condT h
    conv => whnf
    refine splT ?_
    conv => whnf
    cases h
    exact Done.of [] [] rfl rfl ⟨⟨rfl, rfl⟩, ⟨rfl, trivial⟩, ⟨⟨rfl, trivial⟩, rfl, trivial⟩, trivial⟩
def spec_ExpTerms_l0 (k : Nat) (a1 : Rw) (a2 : Int) (K0 : Rw → Bool → Option (Rw × Bool)) : Nat → Int → Rw → Rw → Bool → Option (Rw × Bool)
  | 0, _, _, _, _ => none
  | n + 1, v69, v70, v71, v72 => (cond v72 (if v69 < a2 then (if (0 : Int) < v69 then ((spec_seChecked_mul k true v71 a1).bind fun y127 => ((spec_seChecked_scale k y127.2 y127.1 1 v69).bind fun y129 => ((spec_seChecked_add k y129.2 v70 y129.1).bind fun y131 => (spec_ExpTerms_l0 k a1 a2 K0 n (IntKind.i64.wrap (v69 + 1)) y131.1 y129.1 y131.2)))) else ((spec_seChecked_add k true v70 v71).bind fun y133 => (spec_ExpTerms_l0 k a1 a2 K0 n (IntKind.i64.wrap (v69 + 1)) y133.1 v71 y133.2))) else (K0 v70 true)) (if v69 < a2 then (if (0 : Int) < v69 then ((spec_seChecked_mul k false v71 a1).bind fun y117 => ((spec_seChecked_scale k y117.2 y117.1 1 v69).bind fun y119 => ((spec_seChecked_add k y119.2 v70 y119.1).bind fun y121 => (spec_ExpTerms_l0 k a1 a2 K0 n (IntKind.i64.wrap (v69 + 1)) y121.1 y119.1 y121.2)))) else ((spec_seChecked_add k false v70 v71).bind fun y123 => (spec_ExpTerms_l0 k a1 a2 K0 n (IntKind.i64.wrap (v69 + 1)) y123.1 v71 y123.2))) else (K0 v70 false)))
set_option maxRecDepth 100000 in
theorem spec_ExpTerms_l0_ct {k : Nat} {a1 : Rw} {a2 : Int} {K0 : Rw → Bool → Option (Rw × Bool)} {r : Rw × Bool} : ∀ (n : Nat) (v69 : Int) (v70 : Rw) (v71 : Rw) (v72 : Bool), spec_ExpTerms_l0 k a1 a2 K0 n v69 v70 v71 v72 = some r → LoopOk prog 0 (lp f11 0) (mk 53 [(1, .d (D.int .i64 a2)), (2, .ptr 128 0), (4, .ptr 256 0), (6, .ptr 1600 0), (7, .ptr 448 0), (8, .ptr 512 0), (9, .d (D.int .i64 v69))] [(128, .box 28 [.d (D.sl a1)]), (256, .box 28 [.es]), (448, .box 28 [.d (D.sl v70)]), (512, .box 28 [.d (D.sl v71)]), (1600, .box 77 [.d (D.bool v72)])]) (LoopEnd prog f11 0 53 (.tup [.agg [.d (D.sl r.1)], .d (D.bool r.2)]) (⟨[], []⟩) (fun i ts os => (i = 0 ∧ ∃ v83 : Rw, ∃ v94 : Bool, K0 v83 v94 = some r ∧ ts = [(4, .ptr 256 0), (6, .ptr 1600 0), (7, .ptr 448 0)] ∧ os = [(256, .box 28 [.es]), (448, .box 28 [.d (D.sl v83)]), (1600, .box 77 [.d (D.bool v94)])])))
  | 0, _, _, _, _, h => by
      rw [spec_ExpTerms_l0] at h; cases h
  | n + 1, v69, v70, v71, v72, h => by
      rw [spec_ExpTerms_l0] at h
      cases v72
      · replace h := condF h
        refine LoopOk.step ?_
        conv => whnf
        refine splD (fun g115 => ?_) (fun g115 => ?_)
        · replace h := iteP h g115
          conv => whnf
          refine splD (fun g116 => ?_) (fun g116 => ?_)
          · replace h := iteP h g116
            conv => whnf
            refine Pick.no ?_
            conv => whnf
            obtain ⟨y117, e118, h⟩ := bind_ex h
            refine CallOk.of (spec_seChecked_mul_ct e118) ?_
            conv => whnf
            refine Pick.no ?_
            conv => whnf
            obtain ⟨y119, e120, h⟩ := bind_ex h
            refine CallOk.of (spec_seChecked_scale_ct e120) ?_
            conv => whnf
            refine CutK.norm [1, 2, 4, 6, 7, 8, 9] [128, 256, 448, 512, 1600] ?_
            conv => whnf
            refine Pick.no ?_
            conv => whnf
            obtain ⟨y121, e122, h⟩ := bind_ex h
            refine CallOk.of (spec_seChecked_add_ct e122) ?_
            conv => whnf
            refine CutK.norm [1, 2, 4, 6, 7, 8, 9] [128, 256, 448, 512, 1600] ?_
            conv => whnf
            exact LoopOk.back (spec_ExpTerms_l0_ct  n _ _ _ _ h) [some 128, some 256, some 448, some 512, some 1600] [] ⟨⟨rfl, rfl⟩, ⟨rfl, ⟨rfl, rfl, trivial⟩, ⟨rfl, trivial, trivial⟩, ⟨rfl, rfl, trivial⟩, ⟨rfl, rfl, trivial⟩, ⟨rfl, rfl, trivial⟩, trivial⟩, rfl, ⟨rfl, rfl⟩, ⟨rfl, rfl⟩, ⟨rfl, rfl⟩, ⟨rfl, rfl⟩, ⟨rfl, rfl⟩, rfl, trivial⟩
          · replace h := iteN h g116
            conv => whnf
            refine CutK.norm [1, 2, 4, 6, 7, 8, 9] [128, 256, 448, 512, 1600] ?_
            conv => whnf
            refine Pick.no ?_
            conv => whnf
            obtain ⟨y123, e124, h⟩ := bind_ex h
            refine CallOk.of (spec_seChecked_add_ct e124) ?_
            conv => whnf
            refine CutK.norm [1, 2, 4, 6, 7, 8, 9] [128, 256, 448, 512, 1600] ?_
            conv => whnf
            exact LoopOk.back (spec_ExpTerms_l0_ct  n _ _ _ _ h) [some 128, some 256, some 448, some 512, some 1600] [] ⟨⟨rfl, rfl⟩, ⟨rfl, ⟨rfl, rfl, trivial⟩, ⟨rfl, trivial, trivial⟩, ⟨rfl, rfl, trivial⟩, ⟨rfl, rfl, trivial⟩, ⟨rfl, rfl, trivial⟩, trivial⟩, rfl, ⟨rfl, rfl⟩, ⟨rfl, rfl⟩, ⟨rfl, rfl⟩, ⟨rfl, rfl⟩, ⟨rfl, rfl⟩, rfl, trivial⟩
        · replace h := iteN h g115
          conv => whnf
          exact ⟨_, _, [some 256, some 448, some 1600], [], ⟨rfl, _, _, h, rfl, rfl⟩, ⟨⟨rfl, rfl⟩, ⟨rfl, ⟨rfl, trivial, trivial⟩, ⟨rfl, rfl, trivial⟩, ⟨rfl, rfl, trivial⟩, trivial⟩, ⟨rfl, rfl⟩, ⟨rfl, rfl⟩, ⟨rfl, rfl⟩, trivial⟩⟩
      · replace h := condT h
        refine LoopOk.step ?_
        conv => whnf
        refine splD (fun g125 => ?_) (fun g125 => ?_)
        · replace h := iteP h g125
          conv => whnf
          refine splD (fun g126 => ?_) (fun g126 => ?_)
          · replace h := iteP h g126
            conv => whnf
            refine Pick.no ?_
            conv => whnf
            obtain ⟨y127, e128, h⟩ := bind_ex h
            refine CallOk.of (spec_seChecked_mul_ct e128) ?_
            conv => whnf
            refine Pick.no ?_
            conv => whnf
            obtain ⟨y129, e130, h⟩ := bind_ex h
            refine CallOk.of (spec_seChecked_scale_ct e130) ?_
            conv => whnf
            refine CutK.norm [1, 2, 4, 6, 7, 8, 9] [128, 256, 448, 512, 1600] ?_
            conv => whnf
            refine Pick.no ?_
            conv => whnf
            obtain ⟨y131, e132, h⟩ := bind_ex h
            refine CallOk.of (spec_seChecked_add_ct e132) ?_
            conv => whnf
            refine CutK.norm [1, 2, 4, 6, 7, 8, 9] [128, 256, 448, 512, 1600] ?_
            conv => whnf
            exact LoopOk.back (spec_ExpTerms_l0_ct  n _ _ _ _ h) [some 128, some 256, some 448, some 512, some 1600] [] ⟨⟨rfl, rfl⟩, ⟨rfl, ⟨rfl, rfl, trivial⟩, ⟨rfl, trivial, trivial⟩, ⟨rfl, rfl, trivial⟩, ⟨rfl, rfl, trivial⟩, ⟨rfl, rfl, trivial⟩, trivial⟩, rfl, ⟨rfl, rfl⟩, ⟨rfl, rfl⟩, ⟨rfl, rfl⟩, ⟨rfl, rfl⟩, ⟨rfl, rfl⟩, rfl, trivial⟩
          · replace h := iteN h g126
            conv => whnf
            refine CutK.norm [1, 2, 4, 6, 7, 8, 9] [128, 256, 448, 512, 1600] ?_
            conv => whnf
            refine Pick.no ?_
            conv => whnf
            obtain ⟨y133, e134, h⟩ := bind_ex h
            refine CallOk.of (spec_seChecked_add_ct e134) ?_
            conv => whnf
            refine CutK.norm [1, 2, 4, 6, 7, 8, 9] [128, 256, 448, 512, 1600] ?_
            conv => whnf
            exact LoopOk.back (spec_ExpTerms_l0_ct  n _ _ _ _ h) [some 128, some 256, some 448, some 512, some 1600] [] ⟨⟨rfl, rfl⟩, ⟨rfl, ⟨rfl, rfl, trivial⟩, ⟨rfl, trivial, trivial⟩, ⟨rfl, rfl, trivial⟩, ⟨rfl, rfl, trivial⟩, ⟨rfl, rfl, trivial⟩, trivial⟩, rfl, ⟨rfl, rfl⟩, ⟨rfl, rfl⟩, ⟨rfl, rfl⟩, ⟨rfl, rfl⟩, ⟨rfl, rfl⟩, rfl, trivial⟩
        · replace h := iteN h g125
          conv => whnf
          exact ⟨_, _, [some 256, some 448, some 1600], [], ⟨rfl, _, _, h, rfl, rfl⟩, ⟨⟨rfl, rfl⟩, ⟨rfl, ⟨rfl, trivial, trivial⟩, ⟨rfl, rfl, trivial⟩, ⟨rfl, rfl, trivial⟩, trivial⟩, ⟨rfl, rfl⟩, ⟨rfl, rfl⟩, ⟨rfl, rfl⟩, trivial⟩⟩
def spec_ExpTerms_p4 (k : Nat) (a1 : Rw) (a2 : Int) (o14 : Rw) : Option (Rw × Bool) :=
  (spec_ExpTerms_l0 k a1 a2 (fun (v83 : Rw) (v94 : Bool) => (cond v94 (spec_ExpTerms_p5 v83 true) (spec_ExpTerms_p5 v83 false))) k 0 ([] : Rw) o14 false)
set_option maxHeartbeats 4000000 in
set_option maxRecDepth 100000 in
theorem spec_ExpTerms_p4_ct {k : Nat} {a1 : Rw} {a2 : Int} {o14 : Rw} {r : Rw × Bool} (h : spec_ExpTerms_p4 k a1 a2 o14 = some r) : X prog 0 (tlF f11 4) (mk 53 [(1, .d (D.int .i64 a2)), (2, .ptr 128 0), (4, .ptr 256 0), (6, .ptr 1600 0), (7, .ptr 448 0), (8, .ptr 512 0)] [(128, .box 28 [.d (D.sl a1)]), (256, .box 28 [.es]), (448, .box 28 [.es]), (512, .box 28 [.os 1084000 o14.length]), (1600, .box 77 [.d (D.bool false)]), (1084000, .arr 116 false o14)]) (finK prog f11 0 (.tup [.agg [.d (D.sl r.1)], .d (D.bool r.2)]) (⟨[], []⟩)) := by
  rw [spec_ExpTerms_p4] at h
  conv => whnf
  refine LoopOk.into (spec_ExpTerms_l0_ct  _ _ _ _ _ h) [some 128, some 256, some 448, some 512, some 1600] [1084000] ⟨⟨rfl, rfl⟩, ⟨rfl, ⟨rfl, rfl, trivial⟩, ⟨rfl, trivial, trivial⟩, ⟨rfl, rfl, trivial⟩, ⟨rfl, ⟨rfl, Nat.le_of_eq rfl, eq_take rfl⟩, trivial⟩, ⟨rfl, rfl, trivial⟩, trivial⟩, rfl, ⟨rfl, rfl⟩, ⟨rfl, rfl⟩, ⟨rfl, rfl⟩, ⟨rfl, rfl⟩, ⟨rfl, rfl⟩, rfl, trivial⟩ ?_ (fun _ hs => hs)
  rintro i ts os ⟨rfl, v83, v94, h, rfl, rfl⟩
  cases v94
  · replace h := condF h
    conv => whnf
    exact CutK.piece (spec_ExpTerms_p5_ct  h) [some 256, some 448, some 1600] [] ⟨⟨rfl, rfl⟩, ⟨rfl, ⟨rfl, trivial, trivial⟩, ⟨rfl, rfl, trivial⟩, ⟨rfl, rfl, trivial⟩, trivial⟩, ⟨rfl, rfl⟩, ⟨rfl, rfl⟩, ⟨rfl, rfl⟩, trivial⟩
  · replace h := condT h
    conv => whnf
    exact CutK.piece (spec_ExpTerms_p5_ct  h) [some 256, some 448, some 1600] [] ⟨⟨rfl, rfl⟩, ⟨rfl, ⟨rfl, trivial, trivial⟩, ⟨rfl, rfl, trivial⟩, ⟨rfl, rfl, trivial⟩, trivial⟩, ⟨rfl, rfl⟩, ⟨rfl, rfl⟩, ⟨rfl, rfl⟩, trivial⟩
def spec_ExpTerms_p2 (k : Nat) (a1 : Rw) (a2 : Int) : Option (Rw × Bool) :=
  ((spec_suInt 1).bind fun y135 => (spec_ExpTerms_p4 k a1 a2 y135))
set_option maxHeartbeats 4000000 in
set_option maxRecDepth 100000 in
theorem spec_ExpTerms_p2_ct {k : Nat} {a1 : Rw} {a2 : Int} {r : Rw × Bool} (h : spec_ExpTerms_p2 k a1 a2 = some r) : X prog 0 (tlF f11 2) (mk 53 [(1, .d (D.int .i64 a2)), (2, .ptr 128 0), (4, .ptr 256 0)] [(128, .box 28 [.d (D.sl a1)]), (256, .box 28 [.es])]) (finK prog f11 0 (.tup [.agg [.d (D.sl r.1)], .d (D.bool r.2)]) (⟨[], []⟩)) := by
  rw [spec_ExpTerms_p2] at h
  conv => whnf
  refine Pick.no ?_
  conv => whnf
  obtain ⟨y135, e136, h⟩ := bind_ex h
  refine CallOk.of (spec_suInt_ct e136) ?_
  conv => whnf
  exact CutK.piece (spec_ExpTerms_p4_ct  h) [some 128, some 256, some 448, some 512, some 1600, some 1728] [] ⟨⟨rfl, rfl⟩, ⟨rfl, ⟨rfl, rfl, trivial⟩, ⟨rfl, trivial, trivial⟩, ⟨rfl, trivial, trivial⟩, ⟨rfl, ⟨rfl, rfl⟩, trivial⟩, ⟨rfl, rfl, trivial⟩, ⟨rfl, rfl, rows_same⟩, trivial⟩, rfl, ⟨rfl, rfl⟩, ⟨rfl, rfl⟩, ⟨rfl, rfl⟩, ⟨rfl, rfl⟩, ⟨rfl, rfl⟩, trivial⟩
def spec_ExpTerms (k : Nat) (a1 : Rw) (a2 : Int) : Option (Rw × Bool) :=
  ((spec_suGood k a1).bind fun y137 => (if y137 = true then ((spec_seSmall a1).bind fun y140 => (if y140 = true then ((spec_seSteps a2).bind fun y143 => (if y143 = true then (spec_ExpTerms_p2 k a1 a2) else some (([] : Rw), false))) else some (([] : Rw), false))) else some (([] : Rw), false)))
set_option maxHeartbeats 4000000 in
set_option maxRecDepth 100000 in
theorem spec_ExpTerms_ct {k : Nat} {a1 : Rw} {a2 : Int} {r : Rw × Bool} (h : spec_ExpTerms k a1 a2 = some r) : Ct prog 11 [.agg [.d (D.sl a1)], .d (D.int .i64 a2)] (⟨[], []⟩) (.tup [.agg [.d (D.sl r.1)], .d (D.bool r.2)]) (⟨[], []⟩) := by
  rw [spec_ExpTerms] at h
  refine Ct.of (c := _) mixed func11 ⟨rfl, rfl, rfl⟩ ?_ rfl
  conv => whnf
  refine Pick.no ?_
  conv => whnf
  obtain ⟨y137, e138, h⟩ := bind_ex h
  refine CallOk.of (spec_suGood_ct e138) ?_
  conv => whnf
  refine spl (fun g139 => ?_) (fun g139 => ?_)
  · replace h := iteT h g139
    conv => whnf
    refine Pick.no ?_
    conv => whnf
    obtain ⟨y140, e141, h⟩ := bind_ex h
    refine CallOk.of (spec_seSmall_ct e141) ?_
    conv => whnf
    refine spl (fun g142 => ?_) (fun g142 => ?_)
    · replace h := iteT h g142
      conv => whnf
      refine Pick.no ?_
      conv => whnf
      obtain ⟨y143, e144, h⟩ := bind_ex h
      refine CallOk.of (spec_seSteps_ct e144) ?_
      conv => whnf
      refine spl (fun g145 => ?_) (fun g145 => ?_)
      · replace h := iteT h g145
        conv => whnf
        refine CutK.norm [1, 2, 4, 22] [128, 256] ?_
        conv => whnf
        exact CutK.piece (spec_ExpTerms_p2_ct  h) [some 128, some 256] [] ⟨⟨rfl, rfl⟩, ⟨rfl, ⟨rfl, rfl, trivial⟩, ⟨rfl, trivial, trivial⟩, trivial⟩, rfl, ⟨rfl, rfl⟩, ⟨rfl, rfl⟩, trivial⟩
      · replace h := iteF h g145
        conv => whnf
        refine CutK.norm [1, 2, 4, 22] [128, 256] ?_
        conv => whnf
        cases h
        exact Done.of [] [] rfl rfl ⟨⟨rfl, rfl⟩, ⟨rfl, trivial⟩, ⟨⟨rfl, trivial⟩, rfl, trivial⟩, trivial⟩
    · replace h := iteF h g142
      conv => whnf
      refine CutK.norm [1, 2, 4, 22] [128, 256] ?_
      conv => whnf
      cases h
      exact Done.of [] [] rfl rfl ⟨⟨rfl, rfl⟩, ⟨rfl, trivial⟩, ⟨⟨rfl, trivial⟩, rfl, trivial⟩, trivial⟩
  · replace h := iteF h g139
    conv => whnf
    refine CutK.norm [1, 2, 4, 22] [128, 256] ?_
    conv => whnf
    cases h
    exact Done.of [] [] rfl rfl ⟨⟨rfl, rfl⟩, ⟨rfl, trivial⟩, ⟨⟨rfl, trivial⟩, rfl, trivial⟩, trivial⟩

def laws_szSurrealTerm (rec_laws_szSurreal : Rw → Int → Option Int) (a1 : Rw) (a2 : Int) (a3 : Int) (a4 : Int) : Option Int :=
  ((rec_laws_szSurreal a1 a4).bind fun y5 => (if y5 < (0 : Int) then some (-1) else some y5))
set_option maxHeartbeats 4000000 in
set_option maxRecDepth 100000 in
theorem laws_szSurrealTerm_ct {rec_laws_szSurreal : Rw → Int → Option Int} (hrec_laws_szSurreal : ∀ (a1 : Rw) (a2 : Int) (r : Int), rec_laws_szSurreal a1 a2 = some r → Ct prog 10 [.agg [.d (D.sl a1)], .d (D.int .i64 a2)] (⟨[], []⟩) (.d (D.int .i64 r)) (⟨[], []⟩)) {a1 : Rw} {a2 : Int} {a3 : Int} {a4 : Int} {r : Int} (h : laws_szSurrealTerm rec_laws_szSurreal a1 a2 a3 a4 = some r) : Ct prog 110 [.agg [.d (D.sl a1), .d (D.int .i64 a2), .d (D.int .i64 a3)], .d (D.int .i64 a4)] (⟨[], []⟩) (.d (D.int .i64 r)) (⟨[], []⟩) := by
  rw [laws_szSurrealTerm] at h
  refine Ct.of (c := _) mixed func110 ⟨rfl, rfl, rfl⟩ ?_ rfl
  conv => whnf
  refine Pick.no ?_
  conv => whnf
  obtain ⟨y5, e6, h⟩ := bind_ex h
  refine CallOk.of (hrec_laws_szSurreal _ _ _ e6) ?_
  conv => whnf
  refine CutK.go ?_
  conv => whnf
  refine splD (fun g7 => ?_) (fun g7 => ?_)
  · replace h := iteP h g7
    conv => whnf
    cases h
    exact Done.of [] [] rfl rfl ⟨⟨rfl, rfl⟩, ⟨rfl, trivial⟩, rfl, trivial⟩
  · replace h := iteN h g7
    conv => whnf
    cases h
    exact Done.of [] [] rfl rfl ⟨⟨rfl, rfl⟩, ⟨rfl, trivial⟩, rfl, trivial⟩

def laws_szSurrealTermS_l0 (rec_laws_szSurreal : Rw → Int → Option Int) (a1 : Rw) (K0 : Int → Option Int) : Rw → Int → Option Int
  | [], v13 => (K0 v13)
  | cs :: rest, v13 => (cell_sii cs fun x34 x35 x36 => ((laws_szSurrealTerm rec_laws_szSurreal x34 x35 x36 v13).bind fun y38 => (if y38 < (0 : Int) then some (-1) else (laws_szSurrealTermS_l0 rec_laws_szSurreal a1 K0 rest y38))))
set_option maxRecDepth 100000 in
theorem laws_szSurrealTermS_l0_ct {rec_laws_szSurreal : Rw → Int → Option Int} {a1 : Rw} {K0 : Int → Option Int} (hrec_laws_szSurreal : ∀ (a1 : Rw) (a2 : Int) (r : Int), rec_laws_szSurreal a1 a2 = some r → Ct prog 10 [.agg [.d (D.sl a1)], .d (D.int .i64 a2)] (⟨[], []⟩) (.d (D.int .i64 r)) (⟨[], []⟩)) {r : Int} (hx : a1.length ≤ cap) : ∀ (rest : Rw) (v14n : Nat) (v13 : Int), a1.drop v14n = rest → laws_szSurrealTermS_l0 rec_laws_szSurreal a1 K0 rest v13 = some r → LoopOk prog 0 (lp f45 0) (mk 27 [(0, .d (D.sl a1)), (1, .d (D.int .i64 v13)), (5, .d (D.int .i64 (v14n : Int)))] []) (LoopEnd prog f45 0 27 (.d (D.int .i64 r)) (⟨[], []⟩) (fun i ts os => (i = 0 ∧ ∃ v24 : Int, K0 v24 = some r ∧ ts = [(1, .d (D.int .i64 v24))] ∧ os = [])))
  | [], v14n, v13, hd, h => by
      rw [laws_szSurrealTermS_l0] at h
      have hn := drop_nil hd
      refine LoopOk.step ?_
      conv => whnf
      refine splD (fun g => absurd g hn) (fun _ => ?_)
      conv => whnf
      exact ⟨_, _, [], [], ⟨rfl, _, h, rfl, rfl⟩, ⟨⟨rfl, rfl⟩, ⟨rfl, trivial⟩, rfl, trivial⟩⟩
  | cs :: rest, v14n, v13, hd, h => by
      rw [laws_szSurrealTermS_l0] at h
      obtain ⟨hrow, hd1, hlt⟩ := drop_cons hd
      refine LoopOk.step ?_
      conv => whnf
      refine splD (fun _ => ?_) (fun g => absurd hlt g)
      conv => whnf
      obtain ⟨x34, x35, x36, e37, h⟩ := cell_sii_ex h
      rw [e37] at hrow
      refine Req.of (Int.natCast_nonneg _) ?_
      refine Row.of _ hrow ?_
      conv => whnf
      refine Pick.no ?_
      conv => whnf
      obtain ⟨y38, e39, h⟩ := bind_ex h
      refine CallOk.of (laws_szSurrealTerm_ct hrec_laws_szSurreal e39) ?_
      conv => whnf
      refine CutK.go ?_
      conv => whnf
      refine splD (fun g40 => ?_) (fun g40 => ?_)
      · replace h := iteP h g40
        conv => whnf
        cases h
        exact Done.of [] [] rfl rfl ⟨⟨rfl, rfl⟩, ⟨rfl, trivial⟩, rfl, trivial⟩
      · replace h := iteN h g40
        conv => whnf
        refine CutK.go ?_
        conv => whnf
        exact LoopOk.back (laws_szSurrealTermS_l0_ct hrec_laws_szSurreal hx rest (v14n + 1) _ hd1 h) [] [] ⟨⟨rfl, rfl⟩, ⟨rfl, trivial⟩, rfl, rfl, i64eq (wrap_up hlt hx), trivial⟩
def laws_szSurrealTermS (rec_laws_szSurreal : Rw → Int → Option Int) (a1 : Rw) (a2 : Int) : Option Int :=
  (if (IntKind.i64.wrap (a2 - (a1.length : Int))) < (0 : Int) then some (-1) else (if a1.length ≤ cap then (laws_szSurrealTermS_l0 rec_laws_szSurreal a1 (fun (v24 : Int) => some v24) a1 (IntKind.i64.wrap (a2 - (a1.length : Int)))) else none))
set_option maxHeartbeats 4000000 in
set_option maxRecDepth 100000 in
theorem laws_szSurrealTermS_ct {rec_laws_szSurreal : Rw → Int → Option Int} (hrec_laws_szSurreal : ∀ (a1 : Rw) (a2 : Int) (r : Int), rec_laws_szSurreal a1 a2 = some r → Ct prog 10 [.agg [.d (D.sl a1)], .d (D.int .i64 a2)] (⟨[], []⟩) (.d (D.int .i64 r)) (⟨[], []⟩)) {a1 : Rw} {a2 : Int} {r : Int} (h : laws_szSurrealTermS rec_laws_szSurreal a1 a2 = some r) : Ct prog 45 [.d (D.sl a1), .d (D.int .i64 a2)] (⟨[], []⟩) (.d (D.int .i64 r)) (⟨[], []⟩) := by
  rw [laws_szSurrealTermS] at h
  refine Ct.of (c := _) mixed func45 ⟨rfl, rfl, rfl⟩ ?_ rfl
  conv => whnf
  refine splD (fun g3 => ?_) (fun g3 => ?_)
  · replace h := iteP h g3
    conv => whnf
    cases h
    exact Done.of [] [] rfl rfl ⟨⟨rfl, rfl⟩, ⟨rfl, trivial⟩, rfl, trivial⟩
  · replace h := iteN h g3
    conv => whnf
    obtain ⟨g41, h⟩ := req_ex h
    refine LoopOk.into (laws_szSurrealTermS_l0_ct hrec_laws_szSurreal g41 _ _ _ rfl h) [] [] ⟨⟨rfl, rfl⟩, ⟨rfl, trivial⟩, rfl, rfl, rfl, trivial⟩ ?_ (fun _ hs => hs)
    rintro i ts os ⟨rfl, v24, h, rfl, rfl⟩
    conv => whnf
    refine CutK.go ?_
    conv => whnf
    cases h
    exact Done.of [] [] rfl rfl ⟨⟨rfl, rfl⟩, ⟨rfl, trivial⟩, rfl, trivial⟩

def laws_szSurreal_b (rec_laws_szSurreal : Rw → Int → Option Int) (a1 : Rw) (a2 : Int) : Option Int :=
  ((laws_szSurrealTermS rec_laws_szSurreal a1 a2).bind fun y3 => (if y3 < (0 : Int) then some (-1) else some y3))
set_option maxHeartbeats 4000000 in
set_option maxRecDepth 100000 in
theorem laws_szSurreal_b_ct {rec_laws_szSurreal : Rw → Int → Option Int} (hrec_laws_szSurreal : ∀ (a1 : Rw) (a2 : Int) (r : Int), rec_laws_szSurreal a1 a2 = some r → Ct prog 10 [.agg [.d (D.sl a1)], .d (D.int .i64 a2)] (⟨[], []⟩) (.d (D.int .i64 r)) (⟨[], []⟩)) {a1 : Rw} {a2 : Int} {r : Int} (h : laws_szSurreal_b rec_laws_szSurreal a1 a2 = some r) : Ct prog 10 [.agg [.d (D.sl a1)], .d (D.int .i64 a2)] (⟨[], []⟩) (.d (D.int .i64 r)) (⟨[], []⟩) := by
  rw [laws_szSurreal_b] at h
  refine Ct.of (c := _) mixed func10 ⟨rfl, rfl, rfl⟩ ?_ rfl
  conv => whnf
  refine Pick.no ?_
  conv => whnf
  obtain ⟨y3, e4, h⟩ := bind_ex h
  refine CallOk.of (laws_szSurrealTermS_ct hrec_laws_szSurreal e4) ?_
  conv => whnf
  refine CutK.go ?_
  conv => whnf
  refine splD (fun g5 => ?_) (fun g5 => ?_)
  · replace h := iteP h g5
    conv => whnf
    cases h
    exact Done.of [] [] rfl rfl ⟨⟨rfl, rfl⟩, ⟨rfl, trivial⟩, rfl, trivial⟩
  · replace h := iteN h g5
    conv => whnf
    cases h
    exact Done.of [] [] rfl rfl ⟨⟨rfl, rfl⟩, ⟨rfl, trivial⟩, rfl, trivial⟩
def laws_szSurreal : Nat → Rw → Int → Option Int
  | 0, _, _ => none
  | k + 1, a1, a2 => laws_szSurreal_b (laws_szSurreal k) a1 a2
theorem laws_szSurreal_ct' : ∀ (k : Nat) (a1 : Rw) (a2 : Int) (r : Int), laws_szSurreal k a1 a2 = some r → Ct prog 10 [.agg [.d (D.sl a1)], .d (D.int .i64 a2)] (⟨[], []⟩) (.d (D.int .i64 r)) (⟨[], []⟩)
  | 0, _, _, _, h => by rw [laws_szSurreal] at h; cases h
  | k + 1, _, _, _, h => by rw [laws_szSurreal] at h; exact laws_szSurreal_b_ct (laws_szSurreal_ct' k) h
theorem laws_szSurreal_ct {k : Nat} {a1 : Rw} {a2 : Int} {r : Int} (h : laws_szSurreal k a1 a2 = some r) : Ct prog 10 [.agg [.d (D.sl a1)], .d (D.int .i64 a2)] (⟨[], []⟩) (.d (D.int .i64 r)) (⟨[], []⟩) := laws_szSurreal_ct' k _ _ _ h

def laws_FnExactExpTerms_p22 (o165 : Int) (o166 : Int) : Option Bool :=
  (if o166 < (0 : Int) then some false else (if o166 = o165 then some true else some false))
set_option maxHeartbeats 4000000 in
set_option maxRecDepth 100000 in
theorem laws_FnExactExpTerms_p22_ct {o165 : Int} {o166 : Int} {r : Bool} (h : laws_FnExactExpTerms_p22 o165 o166 = some r) : X prog 0 (tlF f3 22) (mk 101 [(12, .d (D.int .i64 o165)), (13, .d (D.int .i64 o166))] []) (finK prog f3 0 (.d (D.bool r)) (⟨[], []⟩)) := by
  rw [laws_FnExactExpTerms_p22] at h
  conv => whnf
  refine splD (fun g169 => ?_) (fun g169 => ?_)
  · replace h := iteP h g169
    conv => whnf
    cases h
    exact Done.of [] [] rfl rfl ⟨⟨rfl, rfl⟩, ⟨rfl, trivial⟩, rfl, trivial⟩
  · replace h := iteN h g169
    conv => whnf
    refine splN (fun g170 => ?_) (fun g170 => ?_)
    · replace h := iteN h g170
      conv => whnf
      cases h
      exact Done.of [] [] rfl rfl ⟨⟨rfl, rfl⟩, ⟨rfl, trivial⟩, rfl, trivial⟩
    · replace h := iteP h g170
      conv => whnf
      cases h
      exact Done.of [] [] rfl rfl ⟨⟨rfl, rfl⟩, ⟨rfl, trivial⟩, rfl, trivial⟩
def laws_FnExactExpTerms_p20 (k : Nat) (o152 : Int) (o153 : Rw) : Option Bool :=
  ((laws_heldSurreal k o153 1).bind fun y171 => (laws_FnExactExpTerms_p22 o152 y171))
set_option maxHeartbeats 4000000 in
set_option maxRecDepth 100000 in
theorem laws_FnExactExpTerms_p20_ct {k : Nat} {o152 : Int} {o153 : Rw} {r : Bool} (h : laws_FnExactExpTerms_p20 k o152 o153 = some r) : X prog 0 (tlF f3 20) (mk 101 [(9, .ptr 576 0), (12, .d (D.int .i64 o152))] [(576, .box 28 [.os 1164000 o153.length]), (1164000, .arr 116 true o153)]) (finK prog f3 0 (.d (D.bool r)) (⟨[], []⟩)) := by
  rw [laws_FnExactExpTerms_p20] at h
  conv => whnf
  refine Choice.old ?_
  conv => whnf
  refine Pick.no ?_
  conv => whnf
  refine Take.all (rfl) ?_
  conv => whnf
  obtain ⟨y171, e172, h⟩ := bind_ex h
  refine CallOk.of (laws_heldSurreal_ct e172) ?_
  conv => whnf
  exact CutK.piece (laws_FnExactExpTerms_p22_ct  h) [] [] ⟨⟨rfl, rfl⟩, ⟨rfl, trivial⟩, rfl, rfl, trivial⟩
def laws_FnExactExpTerms_p19 (k : Nat) (o136 : Int) (o137 : Rw) (o138 : Rw) (o139 : Rw) (v140 : Bool) (v148 : Bool) : Option Bool :=
  (cond v140 (cond v148 ((laws_eqSurreal k o139 o137).bind fun y182 => (if y182 = true then (laws_FnExactExpTerms_p20 k o136 o138) else some false)) ((laws_eqSurreal k o139 o137).bind fun y179 => (if y179 = true then some false else some false))) (cond v148 ((laws_eqSurreal k o139 o137).bind fun y176 => (if y176 = true then some false else some false)) ((laws_eqSurreal k o139 o137).bind fun y173 => (if y173 = true then (laws_FnExactExpTerms_p20 k o136 o138) else some false))))
set_option maxHeartbeats 4000000 in
set_option maxRecDepth 100000 in
theorem laws_FnExactExpTerms_p19_ct {k : Nat} {o136 : Int} {o137 : Rw} {o138 : Rw} {o139 : Rw} {v140 : Bool} {v148 : Bool} {r : Bool} (h : laws_FnExactExpTerms_p19 k o136 o137 o138 o139 v140 v148 = some r) : X prog 0 (tlF f3 19) (mk 101 [(6, .ptr 384 0), (7, .d (D.bool v148)), (9, .ptr 576 0), (12, .d (D.int .i64 o136)), (14, .ptr 896 0), (15, .d (D.bool v140))] [(384, .box 28 [.d (D.sl o137)]), (576, .box 28 [.os 1159000 o138.length]), (896, .box 28 [.os 1159001 o139.length]), (1159000, .arr 116 true o138), (1159001, .arr 116 true o139)]) (finK prog f3 0 (.d (D.bool r)) (⟨[], []⟩)) := by
  rw [laws_FnExactExpTerms_p19] at h
  cases v140
  · replace h := condF h
    cases v148
    · replace h := condF h
      conv => whnf
      refine Pick.no ?_
      conv => whnf
      refine Take.all (rfl) ?_
      conv => whnf
      obtain ⟨y173, e174, h⟩ := bind_ex h
      refine CallOk.of (laws_eqSurreal_ct e174) ?_
      conv => whnf
      refine spl (fun g175 => ?_) (fun g175 => ?_)
      · replace h := iteT h g175
        conv => whnf
        refine splF ?_
        conv => whnf
        refine CutK.norm [9, 12, 92] [576, 1159000] ?_
        conv => whnf
        exact CutK.piece (laws_FnExactExpTerms_p20_ct  h) [some 576, some 1159000] [] ⟨⟨rfl, rfl⟩, ⟨rfl, ⟨rfl, ⟨rfl, rfl⟩, trivial⟩, ⟨rfl, rfl, rows_same⟩, trivial⟩, ⟨rfl, rfl⟩, rfl, trivial⟩
      · replace h := iteF h g175
        conv => whnf
        refine CutK.norm [9, 12, 92] [576, 1159000] ?_
        conv => whnf
        cases h
        exact Done.of [] [] rfl rfl ⟨⟨rfl, rfl⟩, ⟨rfl, trivial⟩, rfl, trivial⟩
    · replace h := condT h
      conv => whnf
      refine Pick.no ?_
      conv => whnf
      refine Take.all (rfl) ?_
      conv => whnf
      obtain ⟨y176, e177, h⟩ := bind_ex h
      refine CallOk.of (laws_eqSurreal_ct e177) ?_
      conv => whnf
      refine spl (fun g178 => ?_) (fun g178 => ?_)
      · replace h := iteT h g178
        conv => whnf
        refine splT ?_
        conv => whnf
        refine CutK.norm [9, 12, 92] [576, 1159000] ?_
        conv => whnf
        cases h
        exact Done.of [] [] rfl rfl ⟨⟨rfl, rfl⟩, ⟨rfl, trivial⟩, rfl, trivial⟩
      · replace h := iteF h g178
        conv => whnf
        refine CutK.norm [9, 12, 92] [576, 1159000] ?_
        conv => whnf
        cases h
        exact Done.of [] [] rfl rfl ⟨⟨rfl, rfl⟩, ⟨rfl, trivial⟩, rfl, trivial⟩
  · replace h := condT h
    cases v148
    · replace h := condF h
      conv => whnf
      refine Pick.no ?_
      conv => whnf
      refine Take.all (rfl) ?_
      conv => whnf
      obtain ⟨y179, e180, h⟩ := bind_ex h
      refine CallOk.of (laws_eqSurreal_ct e180) ?_
      conv => whnf
      refine spl (fun g181 => ?_) (fun g181 => ?_)
      · replace h := iteT h g181
        conv => whnf
        refine splT ?_
        conv => whnf
        refine CutK.norm [9, 12, 92] [576, 1159000] ?_
        conv => whnf
        cases h
        exact Done.of [] [] rfl rfl ⟨⟨rfl, rfl⟩, ⟨rfl, trivial⟩, rfl, trivial⟩
      · replace h := iteF h g181
        conv => whnf
        refine CutK.norm [9, 12, 92] [576, 1159000] ?_
        conv => whnf
        cases h
        exact Done.of [] [] rfl rfl ⟨⟨rfl, rfl⟩, ⟨rfl, trivial⟩, rfl, trivial⟩
    · replace h := condT h
      conv => whnf
      refine Pick.no ?_
      conv => whnf
      refine Take.all (rfl) ?_
      conv => whnf
      obtain ⟨y182, e183, h⟩ := bind_ex h
      refine CallOk.of (laws_eqSurreal_ct e183) ?_
      conv => whnf
      refine spl (fun g184 => ?_) (fun g184 => ?_)
      · replace h := iteT h g184
        conv => whnf
        refine splF ?_
        conv => whnf
        refine CutK.norm [9, 12, 92] [576, 1159000] ?_
        conv => whnf
        exact CutK.piece (laws_FnExactExpTerms_p20_ct  h) [some 576, some 1159000] [] ⟨⟨rfl, rfl⟩, ⟨rfl, ⟨rfl, ⟨rfl, rfl⟩, trivial⟩, ⟨rfl, rfl, rows_same⟩, trivial⟩, ⟨rfl, rfl⟩, rfl, trivial⟩
      · replace h := iteF h g184
        conv => whnf
        refine CutK.norm [9, 12, 92] [576, 1159000] ?_
        conv => whnf
        cases h
        exact Done.of [] [] rfl rfl ⟨⟨rfl, rfl⟩, ⟨rfl, trivial⟩, rfl, trivial⟩
def laws_FnExactExpTerms_p16 (k : Nat) (a1 : Rw) (a2 : Int) (o122 : Int) (o123 : Int) (o124 : Rw) (o125 : Rw) (v128 : Bool) : Option Bool :=
  (cond v128 (if o123 < (0 : Int) then some false else (if o123 = o122 then ((laws_toSurreal k a1).bind fun y194 => ((impl_ExpTerms k y194 a2).bind fun y196 => (if y196.2 = true then (laws_FnExactExpTerms_p19 k o122 o124 o125 y196.1 true true) else (laws_FnExactExpTerms_p19 k o122 o124 o125 y196.1 false true)))) else some false)) (if o123 < (0 : Int) then some false else (if o123 = o122 then ((laws_toSurreal k a1).bind fun y187 => ((impl_ExpTerms k y187 a2).bind fun y189 => (if y189.2 = true then (laws_FnExactExpTerms_p19 k o122 o124 o125 y189.1 true false) else (laws_FnExactExpTerms_p19 k o122 o124 o125 y189.1 false false)))) else some false)))
set_option maxHeartbeats 4000000 in
set_option maxRecDepth 100000 in
theorem laws_FnExactExpTerms_p16_ct {k : Nat} {a1 : Rw} {a2 : Int} {o122 : Int} {o123 : Int} {o124 : Rw} {o125 : Rw} {v128 : Bool} {r : Bool} (h : laws_FnExactExpTerms_p16 k a1 a2 o122 o123 o124 o125 v128 = some r) : X prog 0 (tlF f3 16) (mk 101 [(1, .d (D.int .i64 a2)), (2, .ptr 128 0), (6, .ptr 384 0), (7, .d (D.bool v128)), (9, .ptr 576 0), (12, .d (D.int .i64 o122)), (13, .d (D.int .i64 o123))] [(128, .box 24 [.d (D.sl a1)]), (384, .box 28 [.d (D.sl o124)]), (576, .box 28 [.os 1144000 o125.length]), (1144000, .arr 116 true o125)]) (finK prog f3 0 (.d (D.bool r)) (⟨[], []⟩)) := by
  rw [laws_FnExactExpTerms_p16] at h
  cases v128
  · replace h := condF h
    conv => whnf
    refine splD (fun g185 => ?_) (fun g185 => ?_)
    · replace h := iteP h g185
      conv => whnf
      cases h
      exact Done.of [] [] rfl rfl ⟨⟨rfl, rfl⟩, ⟨rfl, trivial⟩, rfl, trivial⟩
    · replace h := iteN h g185
      conv => whnf
      refine splN (fun g186 => ?_) (fun g186 => ?_)
      · replace h := iteN h g186
        conv => whnf
        cases h
        exact Done.of [] [] rfl rfl ⟨⟨rfl, rfl⟩, ⟨rfl, trivial⟩, rfl, trivial⟩
      · replace h := iteP h g186
        conv => whnf
        refine Pick.no ?_
        conv => whnf
        obtain ⟨y187, e188, h⟩ := bind_ex h
        refine CallOk.of (laws_toSurreal_ct e188) ?_
        conv => whnf
        refine Choice.old ?_
        conv => whnf
        refine Pick.no ?_
        conv => whnf
        refine Take.all (rfl) ?_
        conv => whnf
        obtain ⟨y189, e190, h⟩ := bind_ex h
        refine CallOk.of (impl_ExpTerms_ct e190) ?_
        conv => whnf
        refine spl (fun g191 => ?_) (fun g191 => ?_)
        · replace h := iteT h g191
          conv => whnf
          exact CutK.piece (laws_FnExactExpTerms_p19_ct  h) [some 384, some 576, some 896, some 1144000, some 5184] [] ⟨⟨rfl, rfl⟩, ⟨rfl, ⟨rfl, rfl, trivial⟩, ⟨rfl, ⟨rfl, rfl⟩, trivial⟩, ⟨rfl, ⟨rfl, rfl⟩, trivial⟩, ⟨rfl, rfl, rows_same⟩, ⟨rfl, rfl, rows_same⟩, trivial⟩, ⟨rfl, rfl⟩, rfl, ⟨rfl, rfl⟩, rfl, ⟨rfl, rfl⟩, rfl, trivial⟩
        · replace h := iteF h g191
          conv => whnf
          exact CutK.piece (laws_FnExactExpTerms_p19_ct  h) [some 384, some 576, some 896, some 1144000, some 5184] [] ⟨⟨rfl, rfl⟩, ⟨rfl, ⟨rfl, rfl, trivial⟩, ⟨rfl, ⟨rfl, rfl⟩, trivial⟩, ⟨rfl, ⟨rfl, rfl⟩, trivial⟩, ⟨rfl, rfl, rows_same⟩, ⟨rfl, rfl, rows_same⟩, trivial⟩, ⟨rfl, rfl⟩, rfl, ⟨rfl, rfl⟩, rfl, ⟨rfl, rfl⟩, rfl, trivial⟩
  · replace h := condT h
    conv => whnf
    refine splD (fun g192 => ?_) (fun g192 => ?_)
    · replace h := iteP h g192
      conv => whnf
      cases h
      exact Done.of [] [] rfl rfl ⟨⟨rfl, rfl⟩, ⟨rfl, trivial⟩, rfl, trivial⟩
    · replace h := iteN h g192
      conv => whnf
      refine splN (fun g193 => ?_) (fun g193 => ?_)
      · replace h := iteN h g193
        conv => whnf
        cases h
        exact Done.of [] [] rfl rfl ⟨⟨rfl, rfl⟩, ⟨rfl, trivial⟩, rfl, trivial⟩
      · replace h := iteP h g193
        conv => whnf
        refine Pick.no ?_
        conv => whnf
        obtain ⟨y194, e195, h⟩ := bind_ex h
        refine CallOk.of (laws_toSurreal_ct e195) ?_
        conv => whnf
        refine Choice.old ?_
        conv => whnf
        refine Pick.no ?_
        conv => whnf
        refine Take.all (rfl) ?_
        conv => whnf
        obtain ⟨y196, e197, h⟩ := bind_ex h
        refine CallOk.of (impl_ExpTerms_ct e197) ?_
        conv => whnf
        refine spl (fun g198 => ?_) (fun g198 => ?_)
        · replace h := iteT h g198
          conv => whnf
          exact CutK.piece (laws_FnExactExpTerms_p19_ct  h) [some 384, some 576, some 896, some 1144000, some 5184] [] ⟨⟨rfl, rfl⟩, ⟨rfl, ⟨rfl, rfl, trivial⟩, ⟨rfl, ⟨rfl, rfl⟩, trivial⟩, ⟨rfl, ⟨rfl, rfl⟩, trivial⟩, ⟨rfl, rfl, rows_same⟩, ⟨rfl, rfl, rows_same⟩, trivial⟩, ⟨rfl, rfl⟩, rfl, ⟨rfl, rfl⟩, rfl, ⟨rfl, rfl⟩, rfl, trivial⟩
        · replace h := iteF h g198
          conv => whnf
          exact CutK.piece (laws_FnExactExpTerms_p19_ct  h) [some 384, some 576, some 896, some 1144000, some 5184] [] ⟨⟨rfl, rfl⟩, ⟨rfl, ⟨rfl, rfl, trivial⟩, ⟨rfl, ⟨rfl, rfl⟩, trivial⟩, ⟨rfl, ⟨rfl, rfl⟩, trivial⟩, ⟨rfl, rfl, rows_same⟩, ⟨rfl, rfl, rows_same⟩, trivial⟩, ⟨rfl, rfl⟩, rfl, ⟨rfl, rfl⟩, rfl, ⟨rfl, rfl⟩, rfl, trivial⟩
def laws_FnExactExpTerms_p14 (k : Nat) (a1 : Rw) (a2 : Int) (o113 : Int) (o114 : Rw) (o115 : Rw) (v119 : Bool) : Option Bool :=
  (cond v119 ((laws_heldSurreal k o115 1).bind fun y201 => (laws_FnExactExpTerms_p16 k a1 a2 o113 y201 o114 o115 true)) ((laws_heldSurreal k o115 1).bind fun y199 => (laws_FnExactExpTerms_p16 k a1 a2 o113 y199 o114 o115 false)))
set_option maxHeartbeats 4000000 in
set_option maxRecDepth 100000 in
theorem laws_FnExactExpTerms_p14_ct {k : Nat} {a1 : Rw} {a2 : Int} {o113 : Int} {o114 : Rw} {o115 : Rw} {v119 : Bool} {r : Bool} (h : laws_FnExactExpTerms_p14 k a1 a2 o113 o114 o115 v119 = some r) : X prog 0 (tlF f3 14) (mk 101 [(1, .d (D.int .i64 a2)), (2, .ptr 128 0), (6, .ptr 384 0), (7, .d (D.bool v119)), (9, .ptr 576 0), (12, .d (D.int .i64 o113))] [(128, .box 24 [.d (D.sl a1)]), (384, .box 28 [.d (D.sl o114)]), (576, .box 28 [.os 1134000 o115.length]), (1134000, .arr 116 true o115)]) (finK prog f3 0 (.d (D.bool r)) (⟨[], []⟩)) := by
  rw [laws_FnExactExpTerms_p14] at h
  cases v119
  · replace h := condF h
    conv => whnf
    refine Choice.old ?_
    conv => whnf
    refine Pick.no ?_
    conv => whnf
    refine Take.all (rfl) ?_
    conv => whnf
    obtain ⟨y199, e200, h⟩ := bind_ex h
    refine CallOk.of (laws_heldSurreal_ct e200) ?_
    conv => whnf
    exact CutK.piece (laws_FnExactExpTerms_p16_ct  h) [some 128, some 384, some 576, some 1134000] [] ⟨⟨rfl, rfl⟩, ⟨rfl, ⟨rfl, rfl, trivial⟩, ⟨rfl, rfl, trivial⟩, ⟨rfl, ⟨rfl, rfl⟩, trivial⟩, ⟨rfl, rfl, rows_same⟩, trivial⟩, rfl, ⟨rfl, rfl⟩, ⟨rfl, rfl⟩, rfl, ⟨rfl, rfl⟩, rfl, rfl, trivial⟩
  · replace h := condT h
    conv => whnf
    refine Choice.old ?_
    conv => whnf
    refine Pick.no ?_
    conv => whnf
    refine Take.all (rfl) ?_
    conv => whnf
    obtain ⟨y201, e202, h⟩ := bind_ex h
    refine CallOk.of (laws_heldSurreal_ct e202) ?_
    conv => whnf
    exact CutK.piece (laws_FnExactExpTerms_p16_ct  h) [some 128, some 384, some 576, some 1134000] [] ⟨⟨rfl, rfl⟩, ⟨rfl, ⟨rfl, rfl, trivial⟩, ⟨rfl, rfl, trivial⟩, ⟨rfl, ⟨rfl, rfl⟩, trivial⟩, ⟨rfl, rfl, rows_same⟩, trivial⟩, rfl, ⟨rfl, rfl⟩, ⟨rfl, rfl⟩, rfl, ⟨rfl, rfl⟩, rfl, rfl, trivial⟩
def laws_FnExactExpTerms_p12 (k : Nat) (a1 : Rw) (a2 : Int) (o95 : Rw) (o96 : Rw) (v109 : Bool) : Option Bool :=
  (cond v109 ((laws_markSurreal k o96 1).bind fun y206 => (if y206.2.length = o96.length then (laws_FnExactExpTerms_p14 k a1 a2 y206.1 o95 y206.2 true) else none)) ((laws_markSurreal k o96 1).bind fun y203 => (if y203.2.length = o96.length then (laws_FnExactExpTerms_p14 k a1 a2 y203.1 o95 y203.2 false) else none)))
set_option maxHeartbeats 4000000 in
set_option maxRecDepth 100000 in
theorem laws_FnExactExpTerms_p12_ct {k : Nat} {a1 : Rw} {a2 : Int} {o95 : Rw} {o96 : Rw} {v109 : Bool} {r : Bool} (h : laws_FnExactExpTerms_p12 k a1 a2 o95 o96 v109 = some r) : X prog 0 (tlF f3 12) (mk 101 [(1, .d (D.int .i64 a2)), (2, .ptr 128 0), (6, .ptr 384 0), (7, .d (D.bool v109)), (9, .ptr 576 0)] [(128, .box 24 [.d (D.sl a1)]), (384, .box 28 [.d (D.sl o95)]), (576, .box 28 [.os 1124000 o96.length]), (1124000, .arr 116 true o96)]) (finK prog f3 0 (.d (D.bool r)) (⟨[], []⟩)) := by
  rw [laws_FnExactExpTerms_p12] at h
  cases v109
  · replace h := condF h
    conv => whnf
    refine Choice.new ?_
    conv => whnf
    refine Req.of (rfl) ?_
    conv => whnf
    obtain ⟨y203, e204, h⟩ := bind_ex h
    refine MarkOk.of (laws_markSurreal_ct e204) ?_
    conv => whnf
    obtain ⟨g205, h⟩ := req_ex h
    exact CutK.piece (laws_FnExactExpTerms_p14_ct  h) [some 128, some 384, some 576, some 1124000] [] ⟨⟨rfl, rfl⟩, ⟨rfl, ⟨rfl, rfl, trivial⟩, ⟨rfl, rfl, trivial⟩, ⟨rfl, ⟨(by first | rfl | exact List.length_append.symm | (simp; done) | omega), rfl⟩, trivial⟩, ⟨rfl, rfl, rows_same⟩, trivial⟩, rfl, ⟨rfl, rfl⟩, ⟨rfl, rfl⟩, rfl, ⟨rfl, rfl⟩, rfl, trivial⟩
  · replace h := condT h
    conv => whnf
    refine Choice.new ?_
    conv => whnf
    refine Req.of (rfl) ?_
    conv => whnf
    obtain ⟨y206, e207, h⟩ := bind_ex h
    refine MarkOk.of (laws_markSurreal_ct e207) ?_
    conv => whnf
    obtain ⟨g208, h⟩ := req_ex h
    exact CutK.piece (laws_FnExactExpTerms_p14_ct  h) [some 128, some 384, some 576, some 1124000] [] ⟨⟨rfl, rfl⟩, ⟨rfl, ⟨rfl, rfl, trivial⟩, ⟨rfl, rfl, trivial⟩, ⟨rfl, ⟨(by first | rfl | exact List.length_append.symm | (simp; done) | omega), rfl⟩, trivial⟩, ⟨rfl, rfl, rows_same⟩, trivial⟩, rfl, ⟨rfl, rfl⟩, ⟨rfl, rfl⟩, rfl, ⟨rfl, rfl⟩, rfl, trivial⟩
def laws_FnExactExpTerms_p11 (k : Nat) (a1 : Rw) (a2 : Int) (o77 : Int) (o78 : Rw) (o79 : Rw) (v83 : Bool) (v87 : Bool) : Option Bool :=
  (cond v83 (cond v87 (if o77 < (0 : Int) then some false else ((laws_eqSurreal k o79 o78).bind fun y222 => (if y222 = true then (laws_FnExactExpTerms_p12 k a1 a2 o78 o79 true) else some false))) (if o77 < (0 : Int) then some false else ((laws_eqSurreal k o79 o78).bind fun y218 => (if y218 = true then some false else some false)))) (cond v87 (if o77 < (0 : Int) then some false else ((laws_eqSurreal k o79 o78).bind fun y214 => (if y214 = true then some false else some false))) (if o77 < (0 : Int) then some false else ((laws_eqSurreal k o79 o78).bind fun y210 => (if y210 = true then (laws_FnExactExpTerms_p12 k a1 a2 o78 o79 false) else some false)))))
set_option maxHeartbeats 4000000 in
set_option maxRecDepth 100000 in
theorem laws_FnExactExpTerms_p11_ct {k : Nat} {a1 : Rw} {a2 : Int} {o77 : Int} {o78 : Rw} {o79 : Rw} {v83 : Bool} {v87 : Bool} {r : Bool} (h : laws_FnExactExpTerms_p11 k a1 a2 o77 o78 o79 v83 v87 = some r) : X prog 0 (tlF f3 11) (mk 101 [(1, .d (D.int .i64 a2)), (2, .ptr 128 0), (6, .ptr 384 0), (7, .d (D.bool v83)), (9, .ptr 576 0), (10, .d (D.bool v87)), (11, .d (D.int .i64 o77))] [(128, .box 24 [.d (D.sl a1)]), (384, .box 28 [.d (D.sl o78)]), (576, .box 28 [.os 1119000 o79.length]), (1119000, .arr 116 true o79)]) (finK prog f3 0 (.d (D.bool r)) (⟨[], []⟩)) := by
  rw [laws_FnExactExpTerms_p11] at h
  cases v83
  · replace h := condF h
    cases v87
    · replace h := condF h
      conv => whnf
      refine splD (fun g209 => ?_) (fun g209 => ?_)
      · replace h := iteP h g209
        conv => whnf
        refine CutK.norm [1, 2, 6, 7, 9, 65] [128, 384, 576, 1119000] ?_
        conv => whnf
        cases h
        exact Done.of [] [] rfl rfl ⟨⟨rfl, rfl⟩, ⟨rfl, trivial⟩, rfl, trivial⟩
      · replace h := iteN h g209
        conv => whnf
        refine Pick.no ?_
        conv => whnf
        refine Take.all (rfl) ?_
        conv => whnf
        obtain ⟨y210, e211, h⟩ := bind_ex h
        refine CallOk.of (laws_eqSurreal_ct e211) ?_
        conv => whnf
        refine spl (fun g212 => ?_) (fun g212 => ?_)
        · replace h := iteT h g212
          conv => whnf
          refine splF ?_
          conv => whnf
          refine CutK.norm [1, 2, 6, 7, 9, 65] [128, 384, 576, 1119000] ?_
          conv => whnf
          exact CutK.piece (laws_FnExactExpTerms_p12_ct  h) [some 128, some 384, some 576, some 1119000] [] ⟨⟨rfl, rfl⟩, ⟨rfl, ⟨rfl, rfl, trivial⟩, ⟨rfl, rfl, trivial⟩, ⟨rfl, ⟨rfl, rfl⟩, trivial⟩, ⟨rfl, rfl, rows_same⟩, trivial⟩, rfl, ⟨rfl, rfl⟩, ⟨rfl, rfl⟩, rfl, ⟨rfl, rfl⟩, trivial⟩
        · replace h := iteF h g212
          conv => whnf
          refine CutK.norm [1, 2, 6, 7, 9, 65] [128, 384, 576, 1119000] ?_
          conv => whnf
          cases h
          exact Done.of [] [] rfl rfl ⟨⟨rfl, rfl⟩, ⟨rfl, trivial⟩, rfl, trivial⟩
    · replace h := condT h
      conv => whnf
      refine splD (fun g213 => ?_) (fun g213 => ?_)
      · replace h := iteP h g213
        conv => whnf
        refine CutK.norm [1, 2, 6, 7, 9, 65] [128, 384, 576, 1119000] ?_
        conv => whnf
        cases h
        exact Done.of [] [] rfl rfl ⟨⟨rfl, rfl⟩, ⟨rfl, trivial⟩, rfl, trivial⟩
      · replace h := iteN h g213
        conv => whnf
        refine Pick.no ?_
        conv => whnf
        refine Take.all (rfl) ?_
        conv => whnf
        obtain ⟨y214, e215, h⟩ := bind_ex h
        refine CallOk.of (laws_eqSurreal_ct e215) ?_
        conv => whnf
        refine spl (fun g216 => ?_) (fun g216 => ?_)
        · replace h := iteT h g216
          conv => whnf
          refine splT ?_
          conv => whnf
          refine CutK.norm [1, 2, 6, 7, 9, 65] [128, 384, 576, 1119000] ?_
          conv => whnf
          cases h
          exact Done.of [] [] rfl rfl ⟨⟨rfl, rfl⟩, ⟨rfl, trivial⟩, rfl, trivial⟩
        · replace h := iteF h g216
          conv => whnf
          refine CutK.norm [1, 2, 6, 7, 9, 65] [128, 384, 576, 1119000] ?_
          conv => whnf
          cases h
          exact Done.of [] [] rfl rfl ⟨⟨rfl, rfl⟩, ⟨rfl, trivial⟩, rfl, trivial⟩
  · replace h := condT h
    cases v87
    · replace h := condF h
      conv => whnf
      refine splD (fun g217 => ?_) (fun g217 => ?_)
      · replace h := iteP h g217
        conv => whnf
        refine CutK.norm [1, 2, 6, 7, 9, 65] [128, 384, 576, 1119000] ?_
        conv => whnf
        cases h
        exact Done.of [] [] rfl rfl ⟨⟨rfl, rfl⟩, ⟨rfl, trivial⟩, rfl, trivial⟩
      · replace h := iteN h g217
        conv => whnf
        refine Pick.no ?_
        conv => whnf
        refine Take.all (rfl) ?_
        conv => whnf
        obtain ⟨y218, e219, h⟩ := bind_ex h
        refine CallOk.of (laws_eqSurreal_ct e219) ?_
        conv => whnf
        refine spl (fun g220 => ?_) (fun g220 => ?_)
        · replace h := iteT h g220
          conv => whnf
          refine splT ?_
          conv => whnf
          refine CutK.norm [1, 2, 6, 7, 9, 65] [128, 384, 576, 1119000] ?_
          conv => whnf
          cases h
          exact Done.of [] [] rfl rfl ⟨⟨rfl, rfl⟩, ⟨rfl, trivial⟩, rfl, trivial⟩
        · replace h := iteF h g220
          conv => whnf
          refine CutK.norm [1, 2, 6, 7, 9, 65] [128, 384, 576, 1119000] ?_
          conv => whnf
          cases h
          exact Done.of [] [] rfl rfl ⟨⟨rfl, rfl⟩, ⟨rfl, trivial⟩, rfl, trivial⟩
    · replace h := condT h
      conv => whnf
      refine splD (fun g221 => ?_) (fun g221 => ?_)
      · replace h := iteP h g221
        conv => whnf
        refine CutK.norm [1, 2, 6, 7, 9, 65] [128, 384, 576, 1119000] ?_
        conv => whnf
        cases h
        exact Done.of [] [] rfl rfl ⟨⟨rfl, rfl⟩, ⟨rfl, trivial⟩, rfl, trivial⟩
      · replace h := iteN h g221
        conv => whnf
        refine Pick.no ?_
        conv => whnf
        refine Take.all (rfl) ?_
        conv => whnf
        obtain ⟨y222, e223, h⟩ := bind_ex h
        refine CallOk.of (laws_eqSurreal_ct e223) ?_
        conv => whnf
        refine spl (fun g224 => ?_) (fun g224 => ?_)
        · replace h := iteT h g224
          conv => whnf
          refine splF ?_
          conv => whnf
          refine CutK.norm [1, 2, 6, 7, 9, 65] [128, 384, 576, 1119000] ?_
          conv => whnf
          exact CutK.piece (laws_FnExactExpTerms_p12_ct  h) [some 128, some 384, some 576, some 1119000] [] ⟨⟨rfl, rfl⟩, ⟨rfl, ⟨rfl, rfl, trivial⟩, ⟨rfl, rfl, trivial⟩, ⟨rfl, ⟨rfl, rfl⟩, trivial⟩, ⟨rfl, rfl, rows_same⟩, trivial⟩, rfl, ⟨rfl, rfl⟩, ⟨rfl, rfl⟩, rfl, ⟨rfl, rfl⟩, trivial⟩
        · replace h := iteF h g224
          conv => whnf
          refine CutK.norm [1, 2, 6, 7, 9, 65] [128, 384, 576, 1119000] ?_
          conv => whnf
          cases h
          exact Done.of [] [] rfl rfl ⟨⟨rfl, rfl⟩, ⟨rfl, trivial⟩, rfl, trivial⟩
def laws_FnExactExpTerms_p9 (k : Nat) (a1 : Rw) (a2 : Int) (o54 : Rw) (o55 : Rw) (o56 : Rw) (v62 : Bool) (v68 : Bool) : Option Bool :=
  (cond v62 (cond v68 ((laws_markSurreal k o55 1).bind fun y234 => (if y234.2.length = o55.length then (laws_FnExactExpTerms_p11 k a1 a2 y234.1 o54 o56 true true) else none)) ((laws_markSurreal k o55 1).bind fun y231 => (if y231.2.length = o55.length then (laws_FnExactExpTerms_p11 k a1 a2 y231.1 o54 o56 false true) else none))) (cond v68 ((laws_markSurreal k o55 1).bind fun y228 => (if y228.2.length = o55.length then (laws_FnExactExpTerms_p11 k a1 a2 y228.1 o54 o56 true false) else none)) ((laws_markSurreal k o55 1).bind fun y225 => (if y225.2.length = o55.length then (laws_FnExactExpTerms_p11 k a1 a2 y225.1 o54 o56 false false) else none))))
set_option maxHeartbeats 4000000 in
set_option maxRecDepth 100000 in
theorem laws_FnExactExpTerms_p9_ct {k : Nat} {a1 : Rw} {a2 : Int} {o54 : Rw} {o55 : Rw} {o56 : Rw} {v62 : Bool} {v68 : Bool} {r : Bool} (h : laws_FnExactExpTerms_p9 k a1 a2 o54 o55 o56 v62 v68 = some r) : X prog 0 (tlF f3 9) (mk 101 [(1, .d (D.int .i64 a2)), (2, .ptr 128 0), (6, .ptr 384 0), (7, .d (D.bool v68)), (8, .ptr 512 0), (9, .ptr 576 0), (10, .d (D.bool v62))] [(128, .box 24 [.d (D.sl a1)]), (384, .box 28 [.d (D.sl o54)]), (512, .box 28 [.os 1109000 o55.length]), (576, .box 28 [.os 1109001 o56.length]), (1109000, .arr 116 true o55), (1109001, .arr 116 true o56)]) (finK prog f3 0 (.d (D.bool r)) (⟨[], []⟩)) := by
  rw [laws_FnExactExpTerms_p9] at h
  cases v62
  · replace h := condF h
    cases v68
    · replace h := condF h
      conv => whnf
      refine Choice.new ?_
      conv => whnf
      refine Req.of (rfl) ?_
      conv => whnf
      obtain ⟨y225, e226, h⟩ := bind_ex h
      refine MarkOk.of (laws_markSurreal_ct e226) ?_
      conv => whnf
      obtain ⟨g227, h⟩ := req_ex h
      exact CutK.piece (laws_FnExactExpTerms_p11_ct  h) [some 128, some 384, some 576, some 1109001] [] ⟨⟨rfl, rfl⟩, ⟨rfl, ⟨rfl, rfl, trivial⟩, ⟨rfl, rfl, trivial⟩, ⟨rfl, ⟨rfl, rfl⟩, trivial⟩, ⟨rfl, rfl, rows_same⟩, trivial⟩, rfl, ⟨rfl, rfl⟩, ⟨rfl, rfl⟩, rfl, ⟨rfl, rfl⟩, rfl, rfl, trivial⟩
    · replace h := condT h
      conv => whnf
      refine Choice.new ?_
      conv => whnf
      refine Req.of (rfl) ?_
      conv => whnf
      obtain ⟨y228, e229, h⟩ := bind_ex h
      refine MarkOk.of (laws_markSurreal_ct e229) ?_
      conv => whnf
      obtain ⟨g230, h⟩ := req_ex h
      exact CutK.piece (laws_FnExactExpTerms_p11_ct  h) [some 128, some 384, some 576, some 1109001] [] ⟨⟨rfl, rfl⟩, ⟨rfl, ⟨rfl, rfl, trivial⟩, ⟨rfl, rfl, trivial⟩, ⟨rfl, ⟨rfl, rfl⟩, trivial⟩, ⟨rfl, rfl, rows_same⟩, trivial⟩, rfl, ⟨rfl, rfl⟩, ⟨rfl, rfl⟩, rfl, ⟨rfl, rfl⟩, rfl, rfl, trivial⟩
  · replace h := condT h
    cases v68
    · replace h := condF h
      conv => whnf
      refine Choice.new ?_
      conv => whnf
      refine Req.of (rfl) ?_
      conv => whnf
      obtain ⟨y231, e232, h⟩ := bind_ex h
      refine MarkOk.of (laws_markSurreal_ct e232) ?_
      conv => whnf
      obtain ⟨g233, h⟩ := req_ex h
      exact CutK.piece (laws_FnExactExpTerms_p11_ct  h) [some 128, some 384, some 576, some 1109001] [] ⟨⟨rfl, rfl⟩, ⟨rfl, ⟨rfl, rfl, trivial⟩, ⟨rfl, rfl, trivial⟩, ⟨rfl, ⟨rfl, rfl⟩, trivial⟩, ⟨rfl, rfl, rows_same⟩, trivial⟩, rfl, ⟨rfl, rfl⟩, ⟨rfl, rfl⟩, rfl, ⟨rfl, rfl⟩, rfl, rfl, trivial⟩
    · replace h := condT h
      conv => whnf
      refine Choice.new ?_
      conv => whnf
      refine Req.of (rfl) ?_
      conv => whnf
      obtain ⟨y234, e235, h⟩ := bind_ex h
      refine MarkOk.of (laws_markSurreal_ct e235) ?_
      conv => whnf
      obtain ⟨g236, h⟩ := req_ex h
      exact CutK.piece (laws_FnExactExpTerms_p11_ct  h) [some 128, some 384, some 576, some 1109001] [] ⟨⟨rfl, rfl⟩, ⟨rfl, ⟨rfl, rfl, trivial⟩, ⟨rfl, rfl, trivial⟩, ⟨rfl, ⟨rfl, rfl⟩, trivial⟩, ⟨rfl, rfl, rows_same⟩, trivial⟩, rfl, ⟨rfl, rfl⟩, ⟨rfl, rfl⟩, rfl, ⟨rfl, rfl⟩, rfl, rfl, trivial⟩
def laws_FnExactExpTerms_p8 (k : Nat) (a1 : Rw) (a2 : Int) (o35 : Rw) (o36 : Rw) (o37 : Rw) (v47 : Bool) (v48 : Bool) : Option Bool :=
  (cond v47 (cond v48 ((laws_toSurreal k a1).bind fun y252 => ((laws_eqSurreal k o36 y252).bind fun y254 => (if y254 = true then (laws_FnExactExpTerms_p9 k a1 a2 o35 o36 o37 true true) else some false))) ((laws_toSurreal k a1).bind fun y247 => ((laws_eqSurreal k o36 y247).bind fun y249 => (if y249 = true then (laws_FnExactExpTerms_p9 k a1 a2 o35 o36 o37 false true) else some false)))) (cond v48 ((laws_toSurreal k a1).bind fun y242 => ((laws_eqSurreal k o36 y242).bind fun y244 => (if y244 = true then (laws_FnExactExpTerms_p9 k a1 a2 o35 o36 o37 true false) else some false))) ((laws_toSurreal k a1).bind fun y237 => ((laws_eqSurreal k o36 y237).bind fun y239 => (if y239 = true then (laws_FnExactExpTerms_p9 k a1 a2 o35 o36 o37 false false) else some false)))))
set_option maxHeartbeats 4000000 in
set_option maxRecDepth 100000 in
theorem laws_FnExactExpTerms_p8_ct {k : Nat} {a1 : Rw} {a2 : Int} {o35 : Rw} {o36 : Rw} {o37 : Rw} {v47 : Bool} {v48 : Bool} {r : Bool} (h : laws_FnExactExpTerms_p8 k a1 a2 o35 o36 o37 v47 v48 = some r) : X prog 0 (tlF f3 8) (mk 101 [(1, .d (D.int .i64 a2)), (2, .ptr 128 0), (6, .ptr 384 0), (7, .d (D.bool v47)), (8, .ptr 512 0), (9, .ptr 576 0), (10, .d (D.bool v48))] [(128, .box 24 [.d (D.sl a1)]), (384, .box 28 [.d (D.sl o35)]), (512, .box 28 [.os 1104000 o36.length]), (576, .box 28 [.os 1104001 o37.length]), (1104000, .arr 116 true o36), (1104001, .arr 116 true o37)]) (finK prog f3 0 (.d (D.bool r)) (⟨[], []⟩)) := by
  rw [laws_FnExactExpTerms_p8] at h
  cases v47
  · replace h := condF h
    cases v48
    · replace h := condF h
      conv => whnf
      refine Pick.no ?_
      conv => whnf
      obtain ⟨y237, e238, h⟩ := bind_ex h
      refine CallOk.of (laws_toSurreal_ct e238) ?_
      conv => whnf
      refine Pick.no ?_
      conv => whnf
      refine Take.all (rfl) ?_
      conv => whnf
      refine Take.all (rfl) ?_
      conv => whnf
      obtain ⟨y239, e240, h⟩ := bind_ex h
      refine CallOk.of (laws_eqSurreal_ct e240) ?_
      conv => whnf
      refine spl (fun g241 => ?_) (fun g241 => ?_)
      · replace h := iteT h g241
        conv => whnf
        refine CutK.norm [1, 2, 6, 7, 8, 9, 10, 49] [128, 384, 512, 576, 1104000, 1104001] ?_
        conv => whnf
        exact CutK.piece (laws_FnExactExpTerms_p9_ct  h) [some 128, some 384, some 512, some 576, some 1104000, some 1104001] [] ⟨⟨rfl, rfl⟩, ⟨rfl, ⟨rfl, rfl, trivial⟩, ⟨rfl, rfl, trivial⟩, ⟨rfl, ⟨rfl, rfl⟩, trivial⟩, ⟨rfl, ⟨rfl, rfl⟩, trivial⟩, ⟨rfl, rfl, rows_same⟩, ⟨rfl, rfl, rows_same⟩, trivial⟩, rfl, ⟨rfl, rfl⟩, ⟨rfl, rfl⟩, rfl, ⟨rfl, rfl⟩, ⟨rfl, rfl⟩, rfl, trivial⟩
      · replace h := iteF h g241
        conv => whnf
        refine CutK.norm [1, 2, 6, 7, 8, 9, 10, 49] [128, 384, 512, 576, 1104000, 1104001] ?_
        conv => whnf
        cases h
        exact Done.of [] [] rfl rfl ⟨⟨rfl, rfl⟩, ⟨rfl, trivial⟩, rfl, trivial⟩
    · replace h := condT h
      conv => whnf
      refine Pick.no ?_
      conv => whnf
      obtain ⟨y242, e243, h⟩ := bind_ex h
      refine CallOk.of (laws_toSurreal_ct e243) ?_
      conv => whnf
      refine Pick.no ?_
      conv => whnf
      refine Take.all (rfl) ?_
      conv => whnf
      refine Take.all (rfl) ?_
      conv => whnf
      obtain ⟨y244, e245, h⟩ := bind_ex h
      refine CallOk.of (laws_eqSurreal_ct e245) ?_
      conv => whnf
      refine spl (fun g246 => ?_) (fun g246 => ?_)
      · replace h := iteT h g246
        conv => whnf
        refine CutK.norm [1, 2, 6, 7, 8, 9, 10, 49] [128, 384, 512, 576, 1104000, 1104001] ?_
        conv => whnf
        exact CutK.piece (laws_FnExactExpTerms_p9_ct  h) [some 128, some 384, some 512, some 576, some 1104000, some 1104001] [] ⟨⟨rfl, rfl⟩, ⟨rfl, ⟨rfl, rfl, trivial⟩, ⟨rfl, rfl, trivial⟩, ⟨rfl, ⟨rfl, rfl⟩, trivial⟩, ⟨rfl, ⟨rfl, rfl⟩, trivial⟩, ⟨rfl, rfl, rows_same⟩, ⟨rfl, rfl, rows_same⟩, trivial⟩, rfl, ⟨rfl, rfl⟩, ⟨rfl, rfl⟩, rfl, ⟨rfl, rfl⟩, ⟨rfl, rfl⟩, rfl, trivial⟩
      · replace h := iteF h g246
        conv => whnf
        refine CutK.norm [1, 2, 6, 7, 8, 9, 10, 49] [128, 384, 512, 576, 1104000, 1104001] ?_
        conv => whnf
        cases h
        exact Done.of [] [] rfl rfl ⟨⟨rfl, rfl⟩, ⟨rfl, trivial⟩, rfl, trivial⟩
  · replace h := condT h
    cases v48
    · replace h := condF h
      conv => whnf
      refine Pick.no ?_
      conv => whnf
      obtain ⟨y247, e248, h⟩ := bind_ex h
      refine CallOk.of (laws_toSurreal_ct e248) ?_
      conv => whnf
      refine Pick.no ?_
      conv => whnf
      refine Take.all (rfl) ?_
      conv => whnf
      refine Take.all (rfl) ?_
      conv => whnf
      obtain ⟨y249, e250, h⟩ := bind_ex h
      refine CallOk.of (laws_eqSurreal_ct e250) ?_
      conv => whnf
      refine spl (fun g251 => ?_) (fun g251 => ?_)
      · replace h := iteT h g251
        conv => whnf
        refine CutK.norm [1, 2, 6, 7, 8, 9, 10, 49] [128, 384, 512, 576, 1104000, 1104001] ?_
        conv => whnf
        exact CutK.piece (laws_FnExactExpTerms_p9_ct  h) [some 128, some 384, some 512, some 576, some 1104000, some 1104001] [] ⟨⟨rfl, rfl⟩, ⟨rfl, ⟨rfl, rfl, trivial⟩, ⟨rfl, rfl, trivial⟩, ⟨rfl, ⟨rfl, rfl⟩, trivial⟩, ⟨rfl, ⟨rfl, rfl⟩, trivial⟩, ⟨rfl, rfl, rows_same⟩, ⟨rfl, rfl, rows_same⟩, trivial⟩, rfl, ⟨rfl, rfl⟩, ⟨rfl, rfl⟩, rfl, ⟨rfl, rfl⟩, ⟨rfl, rfl⟩, rfl, trivial⟩
      · replace h := iteF h g251
        conv => whnf
        refine CutK.norm [1, 2, 6, 7, 8, 9, 10, 49] [128, 384, 512, 576, 1104000, 1104001] ?_
        conv => whnf
        cases h
        exact Done.of [] [] rfl rfl ⟨⟨rfl, rfl⟩, ⟨rfl, trivial⟩, rfl, trivial⟩
    · replace h := condT h
      conv => whnf
      refine Pick.no ?_
      conv => whnf
      obtain ⟨y252, e253, h⟩ := bind_ex h
      refine CallOk.of (laws_toSurreal_ct e253) ?_
      conv => whnf
      refine Pick.no ?_
      conv => whnf
      refine Take.all (rfl) ?_
      conv => whnf
      refine Take.all (rfl) ?_
      conv => whnf
      obtain ⟨y254, e255, h⟩ := bind_ex h
      refine CallOk.of (laws_eqSurreal_ct e255) ?_
      conv => whnf
      refine spl (fun g256 => ?_) (fun g256 => ?_)
      · replace h := iteT h g256
        conv => whnf
        refine CutK.norm [1, 2, 6, 7, 8, 9, 10, 49] [128, 384, 512, 576, 1104000, 1104001] ?_
        conv => whnf
        exact CutK.piece (laws_FnExactExpTerms_p9_ct  h) [some 128, some 384, some 512, some 576, some 1104000, some 1104001] [] ⟨⟨rfl, rfl⟩, ⟨rfl, ⟨rfl, rfl, trivial⟩, ⟨rfl, rfl, trivial⟩, ⟨rfl, ⟨rfl, rfl⟩, trivial⟩, ⟨rfl, ⟨rfl, rfl⟩, trivial⟩, ⟨rfl, rfl, rows_same⟩, ⟨rfl, rfl, rows_same⟩, trivial⟩, rfl, ⟨rfl, rfl⟩, ⟨rfl, rfl⟩, rfl, ⟨rfl, rfl⟩, ⟨rfl, rfl⟩, rfl, trivial⟩
      · replace h := iteF h g256
        conv => whnf
        refine CutK.norm [1, 2, 6, 7, 8, 9, 10, 49] [128, 384, 512, 576, 1104000, 1104001] ?_
        conv => whnf
        cases h
        exact Done.of [] [] rfl rfl ⟨⟨rfl, rfl⟩, ⟨rfl, trivial⟩, rfl, trivial⟩
def laws_FnExactExpTerms_p7 (k : Nat) (a1 : Rw) (a2 : Int) (o24 : Rw) (o25 : Rw) (o26 : Rw) (v27 : Bool) (v31 : Bool) : Option Bool :=
  (cond v27 (cond v31 ((laws_eqSurreal k o26 o24).bind fun y266 => (if y266 = true then (laws_FnExactExpTerms_p8 k a1 a2 o24 o25 o26 true true) else some false)) ((laws_eqSurreal k o26 o24).bind fun y263 => (if y263 = true then some false else some false))) (cond v31 ((laws_eqSurreal k o26 o24).bind fun y260 => (if y260 = true then some false else some false)) ((laws_eqSurreal k o26 o24).bind fun y257 => (if y257 = true then (laws_FnExactExpTerms_p8 k a1 a2 o24 o25 o26 false false) else some false))))
set_option maxHeartbeats 4000000 in
set_option maxRecDepth 100000 in
theorem laws_FnExactExpTerms_p7_ct {k : Nat} {a1 : Rw} {a2 : Int} {o24 : Rw} {o25 : Rw} {o26 : Rw} {v27 : Bool} {v31 : Bool} {r : Bool} (h : laws_FnExactExpTerms_p7 k a1 a2 o24 o25 o26 v27 v31 = some r) : X prog 0 (tlF f3 7) (mk 101 [(1, .d (D.int .i64 a2)), (2, .ptr 128 0), (6, .ptr 384 0), (7, .d (D.bool v31)), (8, .ptr 512 0), (9, .ptr 576 0), (10, .d (D.bool v27))] [(128, .box 24 [.d (D.sl a1)]), (384, .box 28 [.d (D.sl o24)]), (512, .box 28 [.os 1099000 o25.length]), (576, .box 28 [.os 1099001 o26.length]), (1099000, .arr 116 true o25), (1099001, .arr 116 true o26)]) (finK prog f3 0 (.d (D.bool r)) (⟨[], []⟩)) := by
  rw [laws_FnExactExpTerms_p7] at h
  cases v27
  · replace h := condF h
    cases v31
    · replace h := condF h
      conv => whnf
      refine Pick.no ?_
      conv => whnf
      refine Take.all (rfl) ?_
      conv => whnf
      obtain ⟨y257, e258, h⟩ := bind_ex h
      refine CallOk.of (laws_eqSurreal_ct e258) ?_
      conv => whnf
      refine spl (fun g259 => ?_) (fun g259 => ?_)
      · replace h := iteT h g259
        conv => whnf
        refine splF ?_
        conv => whnf
        refine CutK.norm [1, 2, 6, 7, 8, 9, 10, 44] [128, 384, 512, 576, 1099000, 1099001] ?_
        conv => whnf
        exact CutK.piece (laws_FnExactExpTerms_p8_ct  h) [some 128, some 384, some 512, some 576, some 1099000, some 1099001] [] ⟨⟨rfl, rfl⟩, ⟨rfl, ⟨rfl, rfl, trivial⟩, ⟨rfl, rfl, trivial⟩, ⟨rfl, ⟨rfl, rfl⟩, trivial⟩, ⟨rfl, ⟨rfl, rfl⟩, trivial⟩, ⟨rfl, rfl, rows_same⟩, ⟨rfl, rfl, rows_same⟩, trivial⟩, rfl, ⟨rfl, rfl⟩, ⟨rfl, rfl⟩, rfl, ⟨rfl, rfl⟩, ⟨rfl, rfl⟩, rfl, trivial⟩
      · replace h := iteF h g259
        conv => whnf
        refine CutK.norm [1, 2, 6, 7, 8, 9, 10, 44] [128, 384, 512, 576, 1099000, 1099001] ?_
        conv => whnf
        cases h
        exact Done.of [] [] rfl rfl ⟨⟨rfl, rfl⟩, ⟨rfl, trivial⟩, rfl, trivial⟩
    · replace h := condT h
      conv => whnf
      refine Pick.no ?_
      conv => whnf
      refine Take.all (rfl) ?_
      conv => whnf
      obtain ⟨y260, e261, h⟩ := bind_ex h
      refine CallOk.of (laws_eqSurreal_ct e261) ?_
      conv => whnf
      refine spl (fun g262 => ?_) (fun g262 => ?_)
      · replace h := iteT h g262
        conv => whnf
        refine splT ?_
        conv => whnf
        refine CutK.norm [1, 2, 6, 7, 8, 9, 10, 44] [128, 384, 512, 576, 1099000, 1099001] ?_
        conv => whnf
        cases h
        exact Done.of [] [] rfl rfl ⟨⟨rfl, rfl⟩, ⟨rfl, trivial⟩, rfl, trivial⟩
      · replace h := iteF h g262
        conv => whnf
        refine CutK.norm [1, 2, 6, 7, 8, 9, 10, 44] [128, 384, 512, 576, 1099000, 1099001] ?_
        conv => whnf
        cases h
        exact Done.of [] [] rfl rfl ⟨⟨rfl, rfl⟩, ⟨rfl, trivial⟩, rfl, trivial⟩
  · replace h := condT h
    cases v31
    · replace h := condF h
      conv => whnf
      refine Pick.no ?_
      conv => whnf
      refine Take.all (rfl) ?_
      conv => whnf
      obtain ⟨y263, e264, h⟩ := bind_ex h
      refine CallOk.of (laws_eqSurreal_ct e264) ?_
      conv => whnf
      refine spl (fun g265 => ?_) (fun g265 => ?_)
      · replace h := iteT h g265
        conv => whnf
        refine splT ?_
        conv => whnf
        refine CutK.norm [1, 2, 6, 7, 8, 9, 10, 44] [128, 384, 512, 576, 1099000, 1099001] ?_
        conv => whnf
        cases h
        exact Done.of [] [] rfl rfl ⟨⟨rfl, rfl⟩, ⟨rfl, trivial⟩, rfl, trivial⟩
      · replace h := iteF h g265
        conv => whnf
        refine CutK.norm [1, 2, 6, 7, 8, 9, 10, 44] [128, 384, 512, 576, 1099000, 1099001] ?_
        conv => whnf
        cases h
        exact Done.of [] [] rfl rfl ⟨⟨rfl, rfl⟩, ⟨rfl, trivial⟩, rfl, trivial⟩
    · replace h := condT h
      conv => whnf
      refine Pick.no ?_
      conv => whnf
      refine Take.all (rfl) ?_
      conv => whnf
      obtain ⟨y266, e267, h⟩ := bind_ex h
      refine CallOk.of (laws_eqSurreal_ct e267) ?_
      conv => whnf
      refine spl (fun g268 => ?_) (fun g268 => ?_)
      · replace h := iteT h g268
        conv => whnf
        refine splF ?_
        conv => whnf
        refine CutK.norm [1, 2, 6, 7, 8, 9, 10, 44] [128, 384, 512, 576, 1099000, 1099001] ?_
        conv => whnf
        exact CutK.piece (laws_FnExactExpTerms_p8_ct  h) [some 128, some 384, some 512, some 576, some 1099000, some 1099001] [] ⟨⟨rfl, rfl⟩, ⟨rfl, ⟨rfl, rfl, trivial⟩, ⟨rfl, rfl, trivial⟩, ⟨rfl, ⟨rfl, rfl⟩, trivial⟩, ⟨rfl, ⟨rfl, rfl⟩, trivial⟩, ⟨rfl, rfl, rows_same⟩, ⟨rfl, rfl, rows_same⟩, trivial⟩, rfl, ⟨rfl, rfl⟩, ⟨rfl, rfl⟩, rfl, ⟨rfl, rfl⟩, ⟨rfl, rfl⟩, rfl, trivial⟩
      · replace h := iteF h g268
        conv => whnf
        refine CutK.norm [1, 2, 6, 7, 8, 9, 10, 44] [128, 384, 512, 576, 1099000, 1099001] ?_
        conv => whnf
        cases h
        exact Done.of [] [] rfl rfl ⟨⟨rfl, rfl⟩, ⟨rfl, trivial⟩, rfl, trivial⟩
def laws_FnExactExpTerms_p6 (k : Nat) (a1 : Rw) (a2 : Int) (o16 : Rw) (o17 : Rw) (v20 : Bool) : Option Bool :=
  (cond v20 ((impl_ExpTerms k o17 a2).bind fun y272 => (if y272.2 = true then (laws_FnExactExpTerms_p7 k a1 a2 o16 o17 y272.1 true true) else (laws_FnExactExpTerms_p7 k a1 a2 o16 o17 y272.1 false true))) ((impl_ExpTerms k o17 a2).bind fun y269 => (if y269.2 = true then (laws_FnExactExpTerms_p7 k a1 a2 o16 o17 y269.1 true false) else (laws_FnExactExpTerms_p7 k a1 a2 o16 o17 y269.1 false false))))
set_option maxHeartbeats 4000000 in
set_option maxRecDepth 100000 in
theorem laws_FnExactExpTerms_p6_ct {k : Nat} {a1 : Rw} {a2 : Int} {o16 : Rw} {o17 : Rw} {v20 : Bool} {r : Bool} (h : laws_FnExactExpTerms_p6 k a1 a2 o16 o17 v20 = some r) : X prog 0 (tlF f3 6) (mk 101 [(1, .d (D.int .i64 a2)), (2, .ptr 128 0), (6, .ptr 384 0), (7, .d (D.bool v20)), (8, .ptr 512 0)] [(128, .box 24 [.d (D.sl a1)]), (384, .box 28 [.d (D.sl o16)]), (512, .box 28 [.os 1094000 o17.length]), (1094000, .arr 116 true o17)]) (finK prog f3 0 (.d (D.bool r)) (⟨[], []⟩)) := by
  rw [laws_FnExactExpTerms_p6] at h
  cases v20
  · replace h := condF h
    conv => whnf
    refine Choice.old ?_
    conv => whnf
    refine Pick.no ?_
    conv => whnf
    refine Take.all (rfl) ?_
    conv => whnf
    obtain ⟨y269, e270, h⟩ := bind_ex h
    refine CallOk.of (impl_ExpTerms_ct e270) ?_
    conv => whnf
    refine spl (fun g271 => ?_) (fun g271 => ?_)
    · replace h := iteT h g271
      conv => whnf
      exact CutK.piece (laws_FnExactExpTerms_p7_ct  h) [some 128, some 384, some 512, some 576, some 1094000, some 2112] [] ⟨⟨rfl, rfl⟩, ⟨rfl, ⟨rfl, rfl, trivial⟩, ⟨rfl, rfl, trivial⟩, ⟨rfl, ⟨rfl, rfl⟩, trivial⟩, ⟨rfl, ⟨rfl, rfl⟩, trivial⟩, ⟨rfl, rfl, rows_same⟩, ⟨rfl, rfl, rows_same⟩, trivial⟩, rfl, ⟨rfl, rfl⟩, ⟨rfl, rfl⟩, rfl, ⟨rfl, rfl⟩, ⟨rfl, rfl⟩, rfl, trivial⟩
    · replace h := iteF h g271
      conv => whnf
      exact CutK.piece (laws_FnExactExpTerms_p7_ct  h) [some 128, some 384, some 512, some 576, some 1094000, some 2112] [] ⟨⟨rfl, rfl⟩, ⟨rfl, ⟨rfl, rfl, trivial⟩, ⟨rfl, rfl, trivial⟩, ⟨rfl, ⟨rfl, rfl⟩, trivial⟩, ⟨rfl, ⟨rfl, rfl⟩, trivial⟩, ⟨rfl, rfl, rows_same⟩, ⟨rfl, rfl, rows_same⟩, trivial⟩, rfl, ⟨rfl, rfl⟩, ⟨rfl, rfl⟩, rfl, ⟨rfl, rfl⟩, ⟨rfl, rfl⟩, rfl, trivial⟩
  · replace h := condT h
    conv => whnf
    refine Choice.old ?_
    conv => whnf
    refine Pick.no ?_
    conv => whnf
    refine Take.all (rfl) ?_
    conv => whnf
    obtain ⟨y272, e273, h⟩ := bind_ex h
    refine CallOk.of (impl_ExpTerms_ct e273) ?_
    conv => whnf
    refine spl (fun g274 => ?_) (fun g274 => ?_)
    · replace h := iteT h g274
      conv => whnf
      exact CutK.piece (laws_FnExactExpTerms_p7_ct  h) [some 128, some 384, some 512, some 576, some 1094000, some 2112] [] ⟨⟨rfl, rfl⟩, ⟨rfl, ⟨rfl, rfl, trivial⟩, ⟨rfl, rfl, trivial⟩, ⟨rfl, ⟨rfl, rfl⟩, trivial⟩, ⟨rfl, ⟨rfl, rfl⟩, trivial⟩, ⟨rfl, rfl, rows_same⟩, ⟨rfl, rfl, rows_same⟩, trivial⟩, rfl, ⟨rfl, rfl⟩, ⟨rfl, rfl⟩, rfl, ⟨rfl, rfl⟩, ⟨rfl, rfl⟩, rfl, trivial⟩
    · replace h := iteF h g274
      conv => whnf
      exact CutK.piece (laws_FnExactExpTerms_p7_ct  h) [some 128, some 384, some 512, some 576, some 1094000, some 2112] [] ⟨⟨rfl, rfl⟩, ⟨rfl, ⟨rfl, rfl, trivial⟩, ⟨rfl, rfl, trivial⟩, ⟨rfl, ⟨rfl, rfl⟩, trivial⟩, ⟨rfl, ⟨rfl, rfl⟩, trivial⟩, ⟨rfl, rfl, rows_same⟩, ⟨rfl, rfl, rows_same⟩, trivial⟩, rfl, ⟨rfl, rfl⟩, ⟨rfl, rfl⟩, rfl, ⟨rfl, rfl⟩, ⟨rfl, rfl⟩, rfl, trivial⟩
def laws_FnExactExpTerms_p5 (k : Nat) (a1 : Rw) (a2 : Int) (o12 : Rw) (v13 : Bool) : Option Bool :=
  (cond v13 ((laws_toSurreal k a1).bind fun y277 => (laws_FnExactExpTerms_p6 k a1 a2 o12 y277 true)) ((laws_toSurreal k a1).bind fun y275 => (laws_FnExactExpTerms_p6 k a1 a2 o12 y275 false)))
set_option maxHeartbeats 4000000 in
set_option maxRecDepth 100000 in
theorem laws_FnExactExpTerms_p5_ct {k : Nat} {a1 : Rw} {a2 : Int} {o12 : Rw} {v13 : Bool} {r : Bool} (h : laws_FnExactExpTerms_p5 k a1 a2 o12 v13 = some r) : X prog 0 (tlF f3 5) (mk 101 [(1, .d (D.int .i64 a2)), (2, .ptr 128 0), (6, .ptr 384 0), (7, .d (D.bool v13))] [(128, .box 24 [.d (D.sl a1)]), (384, .box 28 [.d (D.sl o12)])]) (finK prog f3 0 (.d (D.bool r)) (⟨[], []⟩)) := by
  rw [laws_FnExactExpTerms_p5] at h
  cases v13
  · replace h := condF h
    conv => whnf
    refine Pick.no ?_
    conv => whnf
    obtain ⟨y275, e276, h⟩ := bind_ex h
    refine CallOk.of (laws_toSurreal_ct e276) ?_
    conv => whnf
    exact CutK.piece (laws_FnExactExpTerms_p6_ct  h) [some 128, some 384, some 512, some 1856] [] ⟨⟨rfl, rfl⟩, ⟨rfl, ⟨rfl, rfl, trivial⟩, ⟨rfl, rfl, trivial⟩, ⟨rfl, ⟨rfl, rfl⟩, trivial⟩, ⟨rfl, rfl, rows_same⟩, trivial⟩, rfl, ⟨rfl, rfl⟩, ⟨rfl, rfl⟩, rfl, ⟨rfl, rfl⟩, trivial⟩
  · replace h := condT h
    conv => whnf
    refine Pick.no ?_
    conv => whnf
    obtain ⟨y277, e278, h⟩ := bind_ex h
    refine CallOk.of (laws_toSurreal_ct e278) ?_
    conv => whnf
    exact CutK.piece (laws_FnExactExpTerms_p6_ct  h) [some 128, some 384, some 512, some 1856] [] ⟨⟨rfl, rfl⟩, ⟨rfl, ⟨rfl, rfl, trivial⟩, ⟨rfl, rfl, trivial⟩, ⟨rfl, ⟨rfl, rfl⟩, trivial⟩, ⟨rfl, rfl, rows_same⟩, trivial⟩, rfl, ⟨rfl, rfl⟩, ⟨rfl, rfl⟩, rfl, ⟨rfl, rfl⟩, trivial⟩
def laws_FnExactExpTerms_p3 (k : Nat) (a1 : Rw) (a2 : Int) (o5 : Int) : Option Bool :=
  (if o5 < (0 : Int) then some true else ((laws_toSurreal k a1).bind fun y280 => ((spec_ExpTerms k y280 a2).bind fun y282 => (if y282.2 = true then (laws_FnExactExpTerms_p5 k a1 a2 y282.1 true) else (laws_FnExactExpTerms_p5 k a1 a2 y282.1 false)))))
set_option maxHeartbeats 4000000 in
set_option maxRecDepth 100000 in
theorem laws_FnExactExpTerms_p3_ct {k : Nat} {a1 : Rw} {a2 : Int} {o5 : Int} {r : Bool} (h : laws_FnExactExpTerms_p3 k a1 a2 o5 = some r) : X prog 0 (tlF f3 3) (mk 101 [(1, .d (D.int .i64 a2)), (2, .ptr 128 0), (5, .d (D.int .i64 o5))] [(128, .box 24 [.d (D.sl a1)])]) (finK prog f3 0 (.d (D.bool r)) (⟨[], []⟩)) := by
  rw [laws_FnExactExpTerms_p3] at h
  conv => whnf
  refine splD (fun g279 => ?_) (fun g279 => ?_)
  · replace h := iteP h g279
    conv => whnf
    cases h
    exact Done.of [] [] rfl rfl ⟨⟨rfl, rfl⟩, ⟨rfl, trivial⟩, rfl, trivial⟩
  · replace h := iteN h g279
    conv => whnf
    refine Pick.no ?_
    conv => whnf
    obtain ⟨y280, e281, h⟩ := bind_ex h
    refine CallOk.of (laws_toSurreal_ct e281) ?_
    conv => whnf
    refine Choice.old ?_
    conv => whnf
    refine Pick.no ?_
    conv => whnf
    refine Take.all (rfl) ?_
    conv => whnf
    obtain ⟨y282, e283, h⟩ := bind_ex h
    refine CallOk.of (spec_ExpTerms_ct e283) ?_
    conv => whnf
    refine spl (fun g284 => ?_) (fun g284 => ?_)
    · replace h := iteT h g284
      conv => whnf
      exact CutK.piece (laws_FnExactExpTerms_p5_ct  h) [some 128, some 384] [] ⟨⟨rfl, rfl⟩, ⟨rfl, ⟨rfl, rfl, trivial⟩, ⟨rfl, rfl, trivial⟩, trivial⟩, rfl, ⟨rfl, rfl⟩, ⟨rfl, rfl⟩, rfl, trivial⟩
    · replace h := iteF h g284
      conv => whnf
      exact CutK.piece (laws_FnExactExpTerms_p5_ct  h) [some 128, some 384] [] ⟨⟨rfl, rfl⟩, ⟨rfl, ⟨rfl, rfl, trivial⟩, ⟨rfl, rfl, trivial⟩, trivial⟩, rfl, ⟨rfl, rfl⟩, ⟨rfl, rfl⟩, rfl, trivial⟩
def laws_FnExactExpTerms (k : Nat) (a1 : Rw) (a2 : Int) : Option Bool :=
  ((laws_szSurreal k a1 1048576).bind fun y285 => (laws_FnExactExpTerms_p3 k a1 a2 y285))
set_option maxHeartbeats 4000000 in
set_option maxRecDepth 100000 in
theorem laws_FnExactExpTerms_ct {k : Nat} {a1 : Rw} {a2 : Int} {r : Bool} (h : laws_FnExactExpTerms k a1 a2 = some r) : Ct prog 3 [.agg [.d (D.sl a1)], .d (D.int .i64 a2)] (⟨[], []⟩) (.d (D.bool r)) (⟨[], []⟩) := by
  rw [laws_FnExactExpTerms] at h
  refine Ct.of (c := _) mixed func3 ⟨rfl, rfl, rfl⟩ ?_ rfl
  conv => whnf
  refine Pick.no ?_
  conv => whnf
  obtain ⟨y285, e286, h⟩ := bind_ex h
  refine CallOk.of (laws_szSurreal_ct e286) ?_
  conv => whnf
  exact CutK.piece (laws_FnExactExpTerms_p3_ct  h) [some 128] [] ⟨⟨rfl, rfl⟩, ⟨rfl, ⟨rfl, rfl, trivial⟩, trivial⟩, rfl, ⟨rfl, rfl⟩, rfl, trivial⟩
end
end Go.Proofs.Try
