/- Printed by program (axgen): pure functions, and that the Go functions compute them. -/
import Derived.Test.YtehbibbcplggkaaCrG0
set_option linter.unusedVariables false
set_option linter.unusedSimpArgs false
namespace Go.Proofs.Try
open Go Go.AX
noncomputable section
def spec_suPut_p4 (a2 : Rw) (a3 : Int) (a4 : Int) (o89 : Rw) (v90 : Bool) : Option (Rw × Bool) :=
  (cond v90 (some (o89, true)) (if o89.length + 1 ≤ cap then some (o89 ++ ([[D.sl a2, D.int .i64 a3, D.int .i64 a4]]), true) else none))
set_option maxHeartbeats 4000000 in
set_option maxRecDepth 100000 in
theorem spec_suPut_p4_ct {a2 : Rw} {a3 : Int} {a4 : Int} {o89 : Rw} {v90 : Bool} {r : Rw × Bool} (h : spec_suPut_p4 a2 a3 a4 o89 v90 = some r) : X prog 0 (tlF f86 4) (mk 73 [(3, .ptr 192 0), (4, .ptr 256 0), (6, .ptr 384 0), (7, .d (D.bool v90))] [(192, .box 80 [.d (D.sl a2), .d (D.int .i64 a3), .d (D.int .i64 a4)]), (256, .box 28 [.es]), (384, .box 28 [.os 1084000 o89.length]), (1084000, .arr 80 false o89)]) (finK prog f86 0 (.tup [.agg [.os 8 r.1.length], .d (D.bool r.2)]) (⟨[], [(80, false, r.1)]⟩)) := by
  rw [spec_suPut_p4] at h
  cases v90
  · replace h := condF h
    conv => whnf
    refine Take.all (rfl) ?_
    conv => whnf
    refine Take.all (by first | rfl | exact List.length_append.symm | (simp; done) | omega) ?_
    conv => whnf
    obtain ⟨g92, h⟩ := req_ex h
    refine Req.of (room (b := 40) (by decide) g92 (wide1 rfl wide0)) ?_
    conv => whnf
    cases h
    exact Done.of [some 4480] [] rfl rfl ⟨⟨rfl, rfl⟩, ⟨rfl, ⟨rfl, rfl, rows_same⟩, trivial⟩, ⟨⟨⟨(by first | rfl | exact List.length_append.symm | (simp; done) | omega), rfl⟩, trivial⟩, rfl, trivial⟩, trivial⟩
  · replace h := condT h
    conv => whnf
    cases h
    exact Done.of [some 1084000] [] rfl rfl ⟨⟨rfl, rfl⟩, ⟨rfl, ⟨rfl, rfl, rows_same⟩, trivial⟩, ⟨⟨⟨rfl, rfl⟩, trivial⟩, rfl, trivial⟩, trivial⟩
def spec_suPut_l0 (k : Nat) (a1 : Rw) (a2 : Rw) (a3 : Int) (a4 : Int) (K0 : Rw → Bool → Option (Rw × Bool)) : Rw → Bool → Rw → Option (Rw × Bool)
  | [], v111, v113 => (cond v111 (K0 v113 true) (K0 v113 false))
  | cs :: rest, v111, v113 => (cond v111 (cell_sii cs fun x196 x197 x198 => ((spec_suCmp k x196 a2).bind fun y200 => (if v113.length + 1 ≤ cap then (spec_suPut_l0 k a1 a2 a3 a4 K0 rest true (v113 ++ ([[D.sl x196, D.int .i64 x197, D.int .i64 x198]]))) else none))) (cell_sii cs fun x177 x178 x179 => ((spec_suCmp k x177 a2).bind fun y181 => (if y181 ≤ (0 : Int) then (if y181 = (0 : Int) then ((spec_shAdd k x178 x179 a3 a4).bind fun y185 => ((spec_shGood k y185.1 y185.2).bind fun y187 => (if y187 = true then ((spec_suTerm a2 y185.1 y185.2).bind fun y190 => (if v113.length + y190.length ≤ cap ∧ (∀ cs ∈ y190, cs.length = 3) then (spec_suPut_l0 k a1 a2 a3 a4 K0 rest true (v113 ++ y190)) else none)) else some (([] : Rw), false)))) else (if v113.length + 1 ≤ cap then (if (v113 ++ ([[D.sl a2, D.int .i64 a3, D.int .i64 a4]])).length + 1 ≤ cap then (spec_suPut_l0 k a1 a2 a3 a4 K0 rest true ((v113 ++ ([[D.sl a2, D.int .i64 a3, D.int .i64 a4]])) ++ ([[D.sl x177, D.int .i64 x178, D.int .i64 x179]]))) else none) else none)) else (if v113.length + 1 ≤ cap then (spec_suPut_l0 k a1 a2 a3 a4 K0 rest false (v113 ++ ([[D.sl x177, D.int .i64 x178, D.int .i64 x179]]))) else none)))))
set_option maxRecDepth 100000 in
theorem spec_suPut_l0_ct {k : Nat} {a1 : Rw} {a2 : Rw} {a3 : Int} {a4 : Int} {K0 : Rw → Bool → Option (Rw × Bool)} {r : Rw × Bool} (hx : a1.length ≤ cap) : ∀ (rest : Rw) (v112n : Nat) (v111 : Bool) (v113 : Rw), a1.drop v112n = rest → spec_suPut_l0 k a1 a2 a3 a4 K0 rest v111 v113 = some r → LoopOk prog 0 (lp f86 0) (mk 73 [(3, .ptr 192 0), (4, .ptr 256 0), (6, .ptr 384 0), (7, .d (D.bool v111)), (14, .d (D.sl a1)), (15, .d (D.int .i64 (a1.length : Int))), (16, .d (D.int .i64 (v112n : Int)))] [(192, .box 80 [.d (D.sl a2), .d (D.int .i64 a3), .d (D.int .i64 a4)]), (256, .box 28 [.es]), (384, .box 28 [.os 64000 v113.length]), (64000, .arr 80 false v113)]) (LoopEnd prog f86 0 73 (.tup [.agg [.os 8 r.1.length], .d (D.bool r.2)]) (⟨[], [(80, false, r.1)]⟩) (fun i ts os => (i = 0 ∧ ∃ v136 : Rw, ∃ v146 : Bool, K0 v136 v146 = some r ∧ ts = [(3, .ptr 192 0), (4, .ptr 256 0), (6, .ptr 384 0), (7, .d (D.bool v146))] ∧ os = [(192, .box 80 [.d (D.sl a2), .d (D.int .i64 a3), .d (D.int .i64 a4)]), (256, .box 28 [.es]), (384, .box 28 [.os 67001 v136.length]), (67001, .arr 80 false v136)])))
  | [], v112n, v111, v113, hd, h => by
      rw [spec_suPut_l0] at h
      have hn := drop_nil hd
      cases v111
      · replace h := condF h
        refine LoopOk.step ?_
        conv => whnf
        refine splD (fun g => absurd g hn) (fun _ => ?_)
        conv => whnf
        exact ⟨_, _, [some 192, some 256, some 384, some 64000], [], ⟨rfl, _, _, h, rfl, rfl⟩, ⟨⟨rfl, rfl⟩, ⟨rfl, ⟨rfl, rfl, rfl, rfl, trivial⟩, ⟨rfl, trivial, trivial⟩, ⟨rfl, ⟨rfl, rfl⟩, trivial⟩, ⟨rfl, rfl, rows_same⟩, trivial⟩, ⟨rfl, rfl⟩, ⟨rfl, rfl⟩, ⟨rfl, rfl⟩, rfl, trivial⟩⟩
      · replace h := condT h
        refine LoopOk.step ?_
        conv => whnf
        refine splD (fun g => absurd g hn) (fun _ => ?_)
        conv => whnf
        exact ⟨_, _, [some 192, some 256, some 384, some 64000], [], ⟨rfl, _, _, h, rfl, rfl⟩, ⟨⟨rfl, rfl⟩, ⟨rfl, ⟨rfl, rfl, rfl, rfl, trivial⟩, ⟨rfl, trivial, trivial⟩, ⟨rfl, ⟨rfl, rfl⟩, trivial⟩, ⟨rfl, rfl, rows_same⟩, trivial⟩, ⟨rfl, rfl⟩, ⟨rfl, rfl⟩, ⟨rfl, rfl⟩, rfl, trivial⟩⟩
  | cs :: rest, v112n, v111, v113, hd, h => by
      rw [spec_suPut_l0] at h
      obtain ⟨hrow, hd1, hlt⟩ := drop_cons hd
      cases v111
      · replace h := condF h
        refine LoopOk.step ?_
        conv => whnf
        refine splD (fun _ => ?_) (fun g => absurd hlt g)
        conv => whnf
        obtain ⟨x177, x178, x179, e180, h⟩ := cell_sii_ex h
        rw [e180] at hrow
        refine Req.of (Int.natCast_nonneg _) ?_
        refine Row.of _ hrow ?_
        conv => whnf
        obtain ⟨y181, e182, h⟩ := bind_ex h
        refine CallOk.of (spec_suCmp_ct e182) ?_
        conv => whnf
        refine CutK.norm [3, 4, 6, 7, 9, 10, 14, 15, 16] [192, 256, 384, 576, 64000] ?_
        conv => whnf
        refine splD (fun g183 => ?_) (fun g183 => ?_)
        · replace h := iteP h g183
          conv => whnf
          refine splD (fun g184 => ?_) (fun g184 => ?_)
          · replace h := iteP h g184
            conv => whnf
            obtain ⟨y185, e186, h⟩ := bind_ex h
            refine CallOk.of (spec_shAdd_ct e186) ?_
            conv => whnf
            refine CutK.norm [3, 4, 6, 7, 11, 14, 15, 16] [192, 256, 384, 704, 64000] ?_
            conv => whnf
            obtain ⟨y187, e188, h⟩ := bind_ex h
            refine CallOk.of (spec_shGood_ct e188) ?_
            conv => whnf
            refine spl (fun g189 => ?_) (fun g189 => ?_)
            · replace h := iteT h g189
              conv => whnf
              refine CutK.norm [3, 4, 6, 7, 11, 14, 15, 16, 40] [192, 256, 384, 704, 64000] ?_
              conv => whnf
              refine CutK.norm [3, 4, 6, 7, 11, 14, 15, 16] [192, 256, 384, 704, 64000] ?_
              conv => whnf
              obtain ⟨y190, e191, h⟩ := bind_ex h
              refine CallOk.of (spec_suTerm_ct e191) ?_
              conv => whnf
              refine Take.all (rfl) ?_
              conv => whnf
              refine Take.all (rfl) ?_
              conv => whnf
              obtain ⟨g192, h⟩ := req_ex h
              refine Req.of (room (b := 40) (by decide) g192.1 g192.2) ?_
              conv => whnf
              refine CutK.norm [3, 4, 6, 7, 14, 15, 16] [192, 256, 384, 3136] ?_
              conv => whnf
              refine CutK.norm [3, 4, 6, 7, 14, 15, 16] [192, 256, 384, 3136] ?_
              conv => whnf
              exact LoopOk.back (spec_suPut_l0_ct hx rest (v112n + 1) _ _ hd1 h) [some 192, some 256, some 384, some 3136] [] ⟨⟨rfl, rfl⟩, ⟨rfl, ⟨rfl, rfl, rfl, rfl, trivial⟩, ⟨rfl, trivial, trivial⟩, ⟨rfl, ⟨(by first | rfl | exact List.length_append.symm | (simp; done) | omega), rfl⟩, trivial⟩, ⟨rfl, rfl, rows_same⟩, trivial⟩, ⟨rfl, rfl⟩, ⟨rfl, rfl⟩, ⟨rfl, rfl⟩, rfl, rfl, rfl, i64eq (wrap_up hlt hx), trivial⟩
            · replace h := iteF h g189
              conv => whnf
              refine CutK.norm [3, 4, 6, 7, 11, 14, 15, 16, 40] [192, 256, 384, 704, 64000] ?_
              conv => whnf
              cases h
              exact Done.of [none] [] rfl rfl ⟨⟨rfl, rfl⟩, ⟨rfl, rfl, trivial⟩, ⟨⟨⟨rfl, rfl⟩, trivial⟩, rfl, trivial⟩, trivial⟩
          · replace h := iteN h g184
            conv => whnf
            refine CutK.norm [3, 4, 6, 7, 9, 14, 15, 16] [192, 256, 384, 576, 64000] ?_
            conv => whnf
            refine Take.all (rfl) ?_
            conv => whnf
            refine Take.all (by first | rfl | exact List.length_append.symm | (simp; done) | omega) ?_
            conv => whnf
            obtain ⟨g193, h⟩ := req_ex h
            refine Req.of (room (b := 40) (by decide) g193 (wide1 rfl wide0)) ?_
            conv => whnf
            refine CutK.norm [3, 4, 6, 7, 9, 14, 15, 16] [192, 256, 384, 576, 3520] ?_
            conv => whnf
            refine Take.all (by first | rfl | exact List.length_append.symm | (simp; done) | omega) ?_
            conv => whnf
            refine Take.all (by first | rfl | exact List.length_append.symm | (simp; done) | omega) ?_
            conv => whnf
            obtain ⟨g194, h⟩ := req_ex h
            refine Req.of (room (b := 40) (by decide) g194 (wide1 rfl wide0)) ?_
            conv => whnf
            refine CutK.norm [3, 4, 6, 7, 14, 15, 16] [192, 256, 384, 3904] ?_
            conv => whnf
            exact LoopOk.back (spec_suPut_l0_ct hx rest (v112n + 1) _ _ hd1 h) [some 192, some 256, some 384, some 3904] [] ⟨⟨rfl, rfl⟩, ⟨rfl, ⟨rfl, rfl, rfl, rfl, trivial⟩, ⟨rfl, trivial, trivial⟩, ⟨rfl, ⟨(by first | rfl | exact List.length_append.symm | (simp; done) | omega), rfl⟩, trivial⟩, ⟨rfl, rfl, rows_same⟩, trivial⟩, ⟨rfl, rfl⟩, ⟨rfl, rfl⟩, ⟨rfl, rfl⟩, rfl, rfl, rfl, i64eq (wrap_up hlt hx), trivial⟩
        · replace h := iteN h g183
          conv => whnf
          refine CutK.norm [3, 4, 6, 7, 9, 14, 15, 16] [192, 256, 384, 576, 64000] ?_
          conv => whnf
          refine Take.all (rfl) ?_
          conv => whnf
          refine Take.all (by first | rfl | exact List.length_append.symm | (simp; done) | omega) ?_
          conv => whnf
          obtain ⟨g195, h⟩ := req_ex h
          refine Req.of (room (b := 40) (by decide) g195 (wide1 rfl wide0)) ?_
          conv => whnf
          refine CutK.norm [3, 4, 6, 7, 14, 15, 16] [192, 256, 384, 3904] ?_
          conv => whnf
          exact LoopOk.back (spec_suPut_l0_ct hx rest (v112n + 1) _ _ hd1 h) [some 192, some 256, some 384, some 3904] [] ⟨⟨rfl, rfl⟩, ⟨rfl, ⟨rfl, rfl, rfl, rfl, trivial⟩, ⟨rfl, trivial, trivial⟩, ⟨rfl, ⟨(by first | rfl | exact List.length_append.symm | (simp; done) | omega), rfl⟩, trivial⟩, ⟨rfl, rfl, rows_same⟩, trivial⟩, ⟨rfl, rfl⟩, ⟨rfl, rfl⟩, ⟨rfl, rfl⟩, rfl, rfl, rfl, i64eq (wrap_up hlt hx), trivial⟩
      · replace h := condT h
        refine LoopOk.step ?_
        conv => whnf
        refine splD (fun _ => ?_) (fun g => absurd hlt g)
        conv => whnf
        obtain ⟨x196, x197, x198, e199, h⟩ := cell_sii_ex h
        rw [e199] at hrow
        refine Req.of (Int.natCast_nonneg _) ?_
        refine Row.of _ hrow ?_
        conv => whnf
        obtain ⟨y200, e201, h⟩ := bind_ex h
        refine CallOk.of (spec_suCmp_ct e201) ?_
        conv => whnf
        refine CutK.norm [3, 4, 6, 7, 9, 10, 14, 15, 16] [192, 256, 384, 576, 64000] ?_
        conv => whnf
        refine CutK.norm [3, 4, 6, 7, 9, 14, 15, 16] [192, 256, 384, 576, 64000] ?_
        conv => whnf
        refine Take.all (rfl) ?_
        conv => whnf
        refine Take.all (by first | rfl | exact List.length_append.symm | (simp; done) | omega) ?_
        conv => whnf
        obtain ⟨g202, h⟩ := req_ex h
        refine Req.of (room (b := 40) (by decide) g202 (wide1 rfl wide0)) ?_
        conv => whnf
        refine CutK.norm [3, 4, 6, 7, 14, 15, 16] [192, 256, 384, 3904] ?_
        conv => whnf
        exact LoopOk.back (spec_suPut_l0_ct hx rest (v112n + 1) _ _ hd1 h) [some 192, some 256, some 384, some 3904] [] ⟨⟨rfl, rfl⟩, ⟨rfl, ⟨rfl, rfl, rfl, rfl, trivial⟩, ⟨rfl, trivial, trivial⟩, ⟨rfl, ⟨(by first | rfl | exact List.length_append.symm | (simp; done) | omega), rfl⟩, trivial⟩, ⟨rfl, rfl, rows_same⟩, trivial⟩, ⟨rfl, rfl⟩, ⟨rfl, rfl⟩, ⟨rfl, rfl⟩, rfl, rfl, rfl, i64eq (wrap_up hlt hx), trivial⟩
def spec_suPut (k : Nat) (a1 : Rw) (a2 : Rw) (a3 : Int) (a4 : Int) : Option (Rw × Bool) :=
  (if a1.length ≤ cap then (spec_suPut_l0 k a1 a2 a3 a4 (fun (v136 : Rw) (v146 : Bool) => (cond v146 (spec_suPut_p4 a2 a3 a4 v136 true) (spec_suPut_p4 a2 a3 a4 v136 false))) a1 false ([] : Rw)) else none)
set_option maxHeartbeats 4000000 in
set_option maxRecDepth 100000 in
theorem spec_suPut_ct {k : Nat} {a1 : Rw} {a2 : Rw} {a3 : Int} {a4 : Int} {r : Rw × Bool} (h : spec_suPut k a1 a2 a3 a4 = some r) : Ct prog 86 [.agg [.d (D.sl a1)], .agg [.d (D.sl a2), .d (D.int .i64 a3), .d (D.int .i64 a4)]] (⟨[], []⟩) (.tup [.agg [.os 8 r.1.length], .d (D.bool r.2)]) (⟨[], [(80, false, r.1)]⟩) := by
  rw [spec_suPut] at h
  refine Ct.of (c := _) mixed func86 ⟨rfl, rfl, rfl⟩ ?_ rfl
  conv => whnf
  obtain ⟨g203, h⟩ := req_ex h
  refine LoopOk.into (spec_suPut_l0_ct  g203 _ _ _ _ rfl h) [some 192, some 256, some 384, none] [] ⟨⟨rfl, rfl⟩, ⟨rfl, ⟨rfl, rfl, rfl, rfl, trivial⟩, ⟨rfl, trivial, trivial⟩, ⟨rfl, ⟨rfl, rfl⟩, trivial⟩, rfl, trivial⟩, ⟨rfl, rfl⟩, ⟨rfl, rfl⟩, ⟨rfl, rfl⟩, rfl, rfl, rfl, rfl, trivial⟩ ?_ (fun _ hs => hs)
  rintro i ts os ⟨rfl, v136, v146, h, rfl, rfl⟩
  cases v146
  · replace h := condF h
    conv => whnf
    exact CutK.piece (spec_suPut_p4_ct  h) [some 192, some 256, some 384, some 67001] [] ⟨⟨rfl, rfl⟩, ⟨rfl, ⟨rfl, rfl, rfl, rfl, trivial⟩, ⟨rfl, trivial, trivial⟩, ⟨rfl, ⟨rfl, rfl⟩, trivial⟩, ⟨rfl, rfl, rows_same⟩, trivial⟩, ⟨rfl, rfl⟩, ⟨rfl, rfl⟩, ⟨rfl, rfl⟩, rfl, trivial⟩
  · replace h := condT h
    conv => whnf
    exact CutK.piece (spec_suPut_p4_ct  h) [some 192, some 256, some 384, some 67001] [] ⟨⟨rfl, rfl⟩, ⟨rfl, ⟨rfl, rfl, rfl, rfl, trivial⟩, ⟨rfl, trivial, trivial⟩, ⟨rfl, ⟨rfl, rfl⟩, trivial⟩, ⟨rfl, rfl, rows_same⟩, trivial⟩, ⟨rfl, rfl⟩, ⟨rfl, rfl⟩, ⟨rfl, rfl⟩, rfl, trivial⟩

def spec_suPlus_l0 (k : Nat) (a2 : Rw) (K0 : Rw → Option (Rw × Bool)) : Rw → Rw → Option (Rw × Bool)
  | [], v13 => (K0 v13)
  | cs :: rest, v13 => (cell_sii cs fun x33 x34 x35 => ((spec_suPut k v13 x33 x34 x35).bind fun y37 => (if y37.2 = true then (spec_suPlus_l0 k a2 K0 rest y37.1) else some (([] : Rw), false))))
set_option maxRecDepth 100000 in
theorem spec_suPlus_l0_ct {k : Nat} {a2 : Rw} {K0 : Rw → Option (Rw × Bool)} {r : Rw × Bool} (hx : a2.length ≤ cap) : ∀ (rest : Rw) (v12n : Nat) (v13 : Rw), a2.drop v12n = rest → spec_suPlus_l0 k a2 K0 rest v13 = some r → LoopOk prog 0 (lp f83 0) (mk 29 [(4, .ptr 256 0), (6, .ptr 384 0), (12, .d (D.sl a2)), (13, .d (D.int .i64 (a2.length : Int))), (14, .d (D.int .i64 (v12n : Int)))] [(256, .box 28 [.es]), (384, .box 28 [.d (D.sl v13)])]) (LoopEnd prog f83 0 29 (.tup [.agg [.d (D.sl r.1)], .d (D.bool r.2)]) (⟨[], []⟩) (fun i ts os => (i = 0 ∧ ∃ v23 : Rw, K0 v23 = some r ∧ ts = [(4, .ptr 256 0), (6, .ptr 384 0)] ∧ os = [(256, .box 28 [.es]), (384, .box 28 [.d (D.sl v23)])])))
  | [], v12n, v13, hd, h => by
      rw [spec_suPlus_l0] at h
      have hn := drop_nil hd
      refine LoopOk.step ?_
      conv => whnf
      refine splD (fun g => absurd g hn) (fun _ => ?_)
      conv => whnf
      exact ⟨_, _, [some 256, some 384], [], ⟨rfl, _, h, rfl, rfl⟩, ⟨⟨rfl, rfl⟩, ⟨rfl, ⟨rfl, trivial, trivial⟩, ⟨rfl, rfl, trivial⟩, trivial⟩, ⟨rfl, rfl⟩, ⟨rfl, rfl⟩, trivial⟩⟩
  | cs :: rest, v12n, v13, hd, h => by
      rw [spec_suPlus_l0] at h
      obtain ⟨hrow, hd1, hlt⟩ := drop_cons hd
      refine LoopOk.step ?_
      conv => whnf
      refine splD (fun _ => ?_) (fun g => absurd hlt g)
      conv => whnf
      obtain ⟨x33, x34, x35, e36, h⟩ := cell_sii_ex h
      rw [e36] at hrow
      refine Req.of (Int.natCast_nonneg _) ?_
      refine Row.of _ hrow ?_
      conv => whnf
      obtain ⟨y37, e38, h⟩ := bind_ex h
      refine CallOk.of (spec_suPut_ct e38) ?_
      conv => whnf
      refine spl (fun g39 => ?_) (fun g39 => ?_)
      · replace h := iteT h g39
        conv => whnf
        refine CutK.go ?_
        conv => whnf
        refine CutK.go ?_
        conv => whnf
        exact LoopOk.back (spec_suPlus_l0_ct hx rest (v12n + 1) _ hd1 h) [some 256, some 384] [1344] ⟨⟨rfl, rfl⟩, ⟨rfl, ⟨rfl, trivial, trivial⟩, ⟨rfl, ⟨rfl, Nat.le_of_eq rfl, eq_take rfl⟩, trivial⟩, trivial⟩, ⟨rfl, rfl⟩, ⟨rfl, rfl⟩, rfl, rfl, i64eq (wrap_up hlt hx), trivial⟩
      · replace h := iteF h g39
        conv => whnf
        refine CutK.go ?_
        conv => whnf
        cases h
        exact Done.of [] [] rfl rfl ⟨⟨rfl, rfl⟩, ⟨rfl, trivial⟩, ⟨⟨rfl, trivial⟩, rfl, trivial⟩, trivial⟩
def spec_suPlus (k : Nat) (a1 : Rw) (a2 : Rw) : Option (Rw × Bool) :=
  (if a2.length ≤ cap then (spec_suPlus_l0 k a2 (fun (v23 : Rw) => some (v23, true)) a2 a1) else none)
set_option maxHeartbeats 4000000 in
set_option maxRecDepth 100000 in
theorem spec_suPlus_ct {k : Nat} {a1 : Rw} {a2 : Rw} {r : Rw × Bool} (h : spec_suPlus k a1 a2 = some r) : Ct prog 83 [.agg [.d (D.sl a1)], .agg [.d (D.sl a2)]] (⟨[], []⟩) (.tup [.agg [.d (D.sl r.1)], .d (D.bool r.2)]) (⟨[], []⟩) := by
  rw [spec_suPlus] at h
  refine Ct.of (c := _) mixed func83 ⟨rfl, rfl, rfl⟩ ?_ rfl
  conv => whnf
  obtain ⟨g40, h⟩ := req_ex h
  refine LoopOk.into (spec_suPlus_l0_ct  g40 _ _ _ rfl h) [some 256, some 384] [] ⟨⟨rfl, rfl⟩, ⟨rfl, ⟨rfl, trivial, trivial⟩, ⟨rfl, rfl, trivial⟩, trivial⟩, ⟨rfl, rfl⟩, ⟨rfl, rfl⟩, rfl, rfl, rfl, trivial⟩ ?_ (fun _ hs => hs)
  rintro i ts os ⟨rfl, v23, h, rfl, rfl⟩
  conv => whnf
  refine CutK.go ?_
  conv => whnf
  cases h
  exact Done.of [] [] rfl rfl ⟨⟨rfl, rfl⟩, ⟨rfl, trivial⟩, ⟨⟨rfl, trivial⟩, rfl, trivial⟩, trivial⟩

def spec_suSum (k : Nat) (a1 : Rw) (a2 : Rw) : Option (Rw × Bool) :=
  ((spec_suPlus k a1 a2).bind fun y3 => (if y3.2 = true then ((spec_suIf k y3.1).bind fun y6 => (if y6.2 = true then some (y6.1, true) else some (y6.1, false))) else some (([] : Rw), false)))
set_option maxHeartbeats 4000000 in
set_option maxRecDepth 100000 in
theorem spec_suSum_ct {k : Nat} {a1 : Rw} {a2 : Rw} {r : Rw × Bool} (h : spec_suSum k a1 a2 = some r) : Ct prog 71 [.agg [.d (D.sl a1)], .agg [.d (D.sl a2)]] (⟨[], []⟩) (.tup [.agg [.os 8 r.1.length], .d (D.bool r.2)]) (⟨[], [(80, true, r.1)]⟩) := by
  rw [spec_suSum] at h
  refine Ct.of (c := _) mixed func71 ⟨rfl, rfl, rfl⟩ ?_ rfl
  conv => whnf
  obtain ⟨y3, e4, h⟩ := bind_ex h
  refine CallOk.of (spec_suPlus_ct e4) ?_
  conv => whnf
  refine spl (fun g5 => ?_) (fun g5 => ?_)
  · replace h := iteT h g5
    conv => whnf
    refine CutK.go ?_
    conv => whnf
    obtain ⟨y6, e7, h⟩ := bind_ex h
    refine CallOk.of (spec_suIf_ct e7) ?_
    conv => whnf
    refine spl (fun g8 => ?_) (fun g8 => ?_)
    · replace h := iteT h g8
      conv => whnf
      refine CutK.go ?_
      conv => whnf
      cases h
      exact Done.of [some 1152] [] rfl rfl ⟨⟨rfl, rfl⟩, ⟨rfl, ⟨rfl, rfl, rows_same⟩, trivial⟩, ⟨⟨⟨rfl, rfl⟩, trivial⟩, rfl, trivial⟩, trivial⟩
    · replace h := iteF h g8
      conv => whnf
      refine CutK.go ?_
      conv => whnf
      cases h
      exact Done.of [some 1152] [] rfl rfl ⟨⟨rfl, rfl⟩, ⟨rfl, ⟨rfl, rfl, rows_same⟩, trivial⟩, ⟨⟨⟨rfl, rfl⟩, trivial⟩, rfl, trivial⟩, trivial⟩
  · replace h := iteF h g5
    conv => whnf
    refine CutK.go ?_
    conv => whnf
    cases h
    exact Done.of [none] [] rfl rfl ⟨⟨rfl, rfl⟩, ⟨rfl, rfl, trivial⟩, ⟨⟨⟨rfl, rfl⟩, trivial⟩, rfl, trivial⟩, trivial⟩

def spec_shMul (k : Nat) (a1 : Int) (a2 : Int) (a3 : Int) (a4 : Int) : Option (Int × Int) :=
  ((spec_shMake k (IntKind.i64.wrap (a1 * a3)) (IntKind.i64.wrap (a2 * a4))).bind fun y5 => some (y5.1, y5.2))
set_option maxHeartbeats 4000000 in
set_option maxRecDepth 100000 in
theorem spec_shMul_ct {k : Nat} {a1 : Int} {a2 : Int} {a3 : Int} {a4 : Int} {r : Int × Int} (h : spec_shMul k a1 a2 a3 a4 = some r) : Ct prog 93 [.agg [.d (D.int .i64 a1), .d (D.int .i64 a2)], .agg [.d (D.int .i64 a3), .d (D.int .i64 a4)]] (⟨[], []⟩) (.agg [.d (D.int .i64 r.1), .d (D.int .i64 r.2)]) (⟨[], []⟩) := by
  rw [spec_shMul] at h
  refine Ct.of (c := _) mixed func93 ⟨rfl, rfl, rfl⟩ ?_ rfl
  conv => whnf
  obtain ⟨y5, e6, h⟩ := bind_ex h
  refine CallOk.of (spec_shMake_ct e6) ?_
  conv => whnf
  refine CutK.go ?_
  conv => whnf
  cases h
  exact Done.of [] [] rfl rfl ⟨⟨rfl, rfl⟩, ⟨rfl, trivial⟩, ⟨rfl, rfl, trivial⟩, trivial⟩

def spec_suTimesTerm (k : Nat) (a1 : Rw) (a2 : Int) (a3 : Int) (a4 : Rw) (a5 : Int) (a6 : Int) : Option (Rw × Int × Int × Bool) :=
  ((spec_suSum k a1 a4).bind fun y7 => (if y7.2 = true then ((spec_shMul k a2 a3 a5 a6).bind fun y10 => ((spec_shGood k y10.1 y10.2).bind fun y12 => (if y12 = true then some (y7.1, y10.1, y10.2, true) else some (y7.1, y10.1, y10.2, false)))) else ((spec_shMul k a2 a3 a5 a6).bind fun y15 => some (y7.1, y15.1, y15.2, false))))
set_option maxHeartbeats 4000000 in
set_option maxRecDepth 100000 in
theorem spec_suTimesTerm_ct {k : Nat} {a1 : Rw} {a2 : Int} {a3 : Int} {a4 : Rw} {a5 : Int} {a6 : Int} {r : Rw × Int × Int × Bool} (h : spec_suTimesTerm k a1 a2 a3 a4 a5 a6 = some r) : Ct prog 85 [.agg [.d (D.sl a1), .d (D.int .i64 a2), .d (D.int .i64 a3)], .agg [.d (D.sl a4), .d (D.int .i64 a5), .d (D.int .i64 a6)]] (⟨[], []⟩) (.tup [.agg [.os 8 r.1.length, .d (D.int .i64 r.2.1), .d (D.int .i64 r.2.2.1)], .d (D.bool r.2.2.2)]) (⟨[], [(80, true, r.1)]⟩) := by
  rw [spec_suTimesTerm] at h
  refine Ct.of (c := _) mixed func85 ⟨rfl, rfl, rfl⟩ ?_ rfl
  conv => whnf
  obtain ⟨y7, e8, h⟩ := bind_ex h
  refine CallOk.of (spec_suSum_ct e8) ?_
  conv => whnf
  refine spl (fun g9 => ?_) (fun g9 => ?_)
  · replace h := iteT h g9
    conv => whnf
    refine CutK.go ?_
    conv => whnf
    obtain ⟨y10, e11, h⟩ := bind_ex h
    refine CallOk.of (spec_shMul_ct e11) ?_
    conv => whnf
    refine CutK.go ?_
    conv => whnf
    obtain ⟨y12, e13, h⟩ := bind_ex h
    refine CallOk.of (spec_shGood_ct e13) ?_
    conv => whnf
    refine spl (fun g14 => ?_) (fun g14 => ?_)
    · replace h := iteT h g14
      conv => whnf
      refine CutK.go ?_
      conv => whnf
      cases h
      exact Done.of [some 896] [] rfl rfl ⟨⟨rfl, rfl⟩, ⟨rfl, ⟨rfl, rfl, rows_same⟩, trivial⟩, ⟨⟨⟨rfl, rfl⟩, rfl, rfl, trivial⟩, rfl, trivial⟩, trivial⟩
    · replace h := iteF h g14
      conv => whnf
      refine CutK.go ?_
      conv => whnf
      cases h
      exact Done.of [some 896] [] rfl rfl ⟨⟨rfl, rfl⟩, ⟨rfl, ⟨rfl, rfl, rows_same⟩, trivial⟩, ⟨⟨⟨rfl, rfl⟩, rfl, rfl, trivial⟩, rfl, trivial⟩, trivial⟩
  · replace h := iteF h g9
    conv => whnf
    refine CutK.go ?_
    conv => whnf
    obtain ⟨y15, e16, h⟩ := bind_ex h
    refine CallOk.of (spec_shMul_ct e16) ?_
    conv => whnf
    refine CutK.go ?_
    conv => whnf
    refine CutK.go ?_
    conv => whnf
    cases h
    exact Done.of [some 896] [] rfl rfl ⟨⟨rfl, rfl⟩, ⟨rfl, ⟨rfl, rfl, rows_same⟩, trivial⟩, ⟨⟨⟨rfl, rfl⟩, rfl, rfl, trivial⟩, rfl, trivial⟩, trivial⟩

def spec_suProduct_p4 (o145 : Rw) (v146 : Bool) : Option (Rw × Bool) :=
  (cond v146 (some (o145, true)) (some (o145, false)))
set_option maxHeartbeats 4000000 in
set_option maxRecDepth 100000 in
theorem spec_suProduct_p4_ct {o145 : Rw} {v146 : Bool} {r : Rw × Bool} (h : spec_suProduct_p4 o145 v146 = some r) : X prog 0 (tlF f72 4) (mk 55 [(4, .ptr 256 0), (5, .d (D.bool v146))] [(256, .box 28 [.os 1084000 o145.length]), (1084000, .arr 80 true o145)]) (finK prog f72 0 (.tup [.agg [.os 8 r.1.length], .d (D.bool r.2)]) (⟨[], [(80, true, r.1)]⟩)) := by
  rw [spec_suProduct_p4] at h
  cases v146
  · replace h := condF h
    conv => whnf
    cases h
    exact Done.of [some 1084000] [] rfl rfl ⟨⟨rfl, rfl⟩, ⟨rfl, ⟨rfl, rfl, rows_same⟩, trivial⟩, ⟨⟨⟨rfl, rfl⟩, trivial⟩, rfl, trivial⟩, trivial⟩
  · replace h := condT h
    conv => whnf
    cases h
    exact Done.of [some 1084000] [] rfl rfl ⟨⟨rfl, rfl⟩, ⟨rfl, ⟨rfl, rfl, rows_same⟩, trivial⟩, ⟨⟨⟨rfl, rfl⟩, trivial⟩, rfl, trivial⟩, trivial⟩
def spec_suProduct_p3 (k : Nat) (o141 : Rw) : Option (Rw × Bool) :=
  ((spec_suIf k o141).bind fun y147 => (if y147.2 = true then (spec_suProduct_p4 y147.1 true) else (spec_suProduct_p4 y147.1 false)))
set_option maxHeartbeats 4000000 in
set_option maxRecDepth 100000 in
theorem spec_suProduct_p3_ct {k : Nat} {o141 : Rw} {r : Rw × Bool} (h : spec_suProduct_p3 k o141 = some r) : X prog 0 (tlF f72 3) (mk 55 [(4, .ptr 256 0), (6, .ptr 384 0)] [(256, .box 28 [.es]), (384, .box 28 [.os 1079000 o141.length]), (1079000, .arr 80 false o141)]) (finK prog f72 0 (.tup [.agg [.os 8 r.1.length], .d (D.bool r.2)]) (⟨[], [(80, true, r.1)]⟩)) := by
  rw [spec_suProduct_p3] at h
  conv => whnf
  refine Take.all (rfl) ?_
  conv => whnf
  obtain ⟨y147, e148, h⟩ := bind_ex h
  refine CallOk.of (spec_suIf_ct e148) ?_
  conv => whnf
  refine spl (fun g149 => ?_) (fun g149 => ?_)
  · replace h := iteT h g149
    conv => whnf
    exact CutK.piece (spec_suProduct_p4_ct  h) [some 256, some 3328] [] ⟨⟨rfl, rfl⟩, ⟨rfl, ⟨rfl, ⟨rfl, rfl⟩, trivial⟩, ⟨rfl, rfl, rows_same⟩, trivial⟩, ⟨rfl, rfl⟩, rfl, trivial⟩
  · replace h := iteF h g149
    conv => whnf
    exact CutK.piece (spec_suProduct_p4_ct  h) [some 256, some 3328] [] ⟨⟨rfl, rfl⟩, ⟨rfl, ⟨rfl, ⟨rfl, rfl⟩, trivial⟩, ⟨rfl, rfl, rows_same⟩, trivial⟩, ⟨rfl, rfl⟩, rfl, trivial⟩
def spec_suProduct_l1 (k : Nat) (a1 : Rw) (a2 : Rw) (v195n : Nat) (x288 : Rw) (x289 : Int) (x290 : Int) (K2 : Rw → Option (Rw × Bool)) : Rw → Rw → Option (Rw × Bool)
  | [], v305 => (K2 v305)
  | cs :: rest, v305 => (cell_sii cs fun x331 x332 x333 => ((spec_suTimesTerm k x288 x289 x290 x331 x332 x333).bind fun y335 => (if y335.2.2.2 = true then ((spec_suPut k v305 y335.1 y335.2.1 y335.2.2.1).bind fun y338 => (if y338.2 = true then (spec_suProduct_l1 k a1 a2 v195n x288 x289 x290 K2 rest y338.1) else some (([] : Rw), false))) else some (([] : Rw), false))))
set_option maxRecDepth 100000 in
theorem spec_suProduct_l1_ct {k : Nat} {a1 : Rw} {a2 : Rw} {v195n : Nat} {x288 : Rw} {x289 : Int} {x290 : Int} {K2 : Rw → Option (Rw × Bool)} {r : Rw × Bool} (hx : a2.length ≤ cap) : ∀ (rest : Rw) (v304n : Nat) (v305 : Rw), a2.drop v304n = rest → spec_suProduct_l1 k a1 a2 v195n x288 x289 x290 K2 rest v305 = some r → LoopOk prog 0 (lp f72 1) (mk 55 [(3, .ptr 192 0), (4, .ptr 256 0), (6, .ptr 384 0), (8, .ptr 512 0), (17, .d (D.sl a1)), (18, .d (D.int .i64 (a1.length : Int))), (19, .d (D.int .i64 (v195n : Int))), (24, .d (D.sl a2)), (25, .d (D.int .i64 (a2.length : Int))), (26, .d (D.int .i64 (v304n : Int)))] [(192, .box 28 [.d (D.sl a2)]), (256, .box 28 [.es]), (384, .box 28 [.os 76800 v305.length]), (512, .box 80 [.d (D.sl x288), .d (D.int .i64 x289), .d (D.int .i64 x290)]), (76800, .arr 80 false v305)]) (LoopEnd prog f72 0 55 (.tup [.agg [.os 8 r.1.length], .d (D.bool r.2)]) (⟨[], [(80, true, r.1)]⟩) (fun i ts os => (i = 2 ∧ ∃ v318 : Rw, K2 v318 = some r ∧ ts = [(3, .ptr 192 0), (4, .ptr 256 0), (6, .ptr 384 0), (17, .d (D.sl a1)), (18, .d (D.int .i64 (a1.length : Int))), (19, .d (D.int .i64 (v195n : Int)))] ∧ os = [(192, .box 28 [.d (D.sl a2)]), (256, .box 28 [.es]), (384, .box 28 [.os 79801 v318.length]), (79801, .arr 80 false v318)])))
  | [], v304n, v305, hd, h => by
      rw [spec_suProduct_l1] at h
      have hn := drop_nil hd
      refine LoopOk.step ?_
      conv => whnf
      refine splD (fun g => absurd g hn) (fun _ => ?_)
      conv => whnf
      exact ⟨_, _, [some 192, some 256, some 384, some 76800], [], ⟨rfl, _, h, rfl, rfl⟩, ⟨⟨rfl, rfl⟩, ⟨rfl, ⟨rfl, rfl, trivial⟩, ⟨rfl, trivial, trivial⟩, ⟨rfl, ⟨rfl, rfl⟩, trivial⟩, ⟨rfl, rfl, rows_same⟩, trivial⟩, ⟨rfl, rfl⟩, ⟨rfl, rfl⟩, ⟨rfl, rfl⟩, rfl, rfl, rfl, trivial⟩⟩
  | cs :: rest, v304n, v305, hd, h => by
      rw [spec_suProduct_l1] at h
      obtain ⟨hrow, hd1, hlt⟩ := drop_cons hd
      refine LoopOk.step ?_
      conv => whnf
      refine splD (fun _ => ?_) (fun g => absurd hlt g)
      conv => whnf
      obtain ⟨x331, x332, x333, e334, h⟩ := cell_sii_ex h
      rw [e334] at hrow
      refine Req.of (Int.natCast_nonneg _) ?_
      refine Row.of _ hrow ?_
      conv => whnf
      obtain ⟨y335, e336, h⟩ := bind_ex h
      refine CallOk.of (spec_suTimesTerm_ct e336) ?_
      conv => whnf
      refine spl (fun g337 => ?_) (fun g337 => ?_)
      · replace h := iteT h g337
        conv => whnf
        refine CutK.norm [3, 4, 6, 8, 11, 12, 17, 18, 19, 24, 25, 26] [192, 256, 384, 512, 704, 2112, 76800] ?_
        conv => whnf
        refine Take.all (rfl) ?_
        conv => whnf
        refine Take.all (rfl) ?_
        conv => whnf
        obtain ⟨y338, e339, h⟩ := bind_ex h
        refine CallOk.of (spec_suPut_ct e339) ?_
        conv => whnf
        refine spl (fun g340 => ?_) (fun g340 => ?_)
        · replace h := iteT h g340
          conv => whnf
          refine CutK.norm [3, 4, 6, 8, 13, 14, 17, 18, 19, 24, 25, 26] [192, 256, 384, 512, 832, 2688, 76800] ?_
          conv => whnf
          refine CutK.norm [3, 4, 6, 8, 17, 18, 19, 24, 25, 26] [192, 256, 384, 512, 2688] ?_
          conv => whnf
          exact LoopOk.back (spec_suProduct_l1_ct hx rest (v304n + 1) _ hd1 h) [some 192, some 256, some 384, some 512, some 2688] [] ⟨⟨rfl, rfl⟩, ⟨rfl, ⟨rfl, rfl, trivial⟩, ⟨rfl, trivial, trivial⟩, ⟨rfl, ⟨rfl, rfl⟩, trivial⟩, ⟨rfl, rfl, rfl, rfl, trivial⟩, ⟨rfl, rfl, rows_same⟩, trivial⟩, ⟨rfl, rfl⟩, ⟨rfl, rfl⟩, ⟨rfl, rfl⟩, ⟨rfl, rfl⟩, rfl, rfl, rfl, rfl, rfl, i64eq (wrap_up hlt hx), trivial⟩
        · replace h := iteF h g340
          conv => whnf
          refine CutK.norm [3, 4, 6, 8, 13, 14, 17, 18, 19, 24, 25, 26] [192, 256, 384, 512, 832, 2688, 76800] ?_
          conv => whnf
          cases h
          exact Done.of [none] [] rfl rfl ⟨⟨rfl, rfl⟩, ⟨rfl, rfl, trivial⟩, ⟨⟨⟨rfl, rfl⟩, trivial⟩, rfl, trivial⟩, trivial⟩
      · replace h := iteF h g337
        conv => whnf
        refine CutK.norm [3, 4, 6, 8, 11, 12, 17, 18, 19, 24, 25, 26] [192, 256, 384, 512, 704, 2112, 76800] ?_
        conv => whnf
        cases h
        exact Done.of [none] [] rfl rfl ⟨⟨rfl, rfl⟩, ⟨rfl, rfl, trivial⟩, ⟨⟨⟨rfl, rfl⟩, trivial⟩, rfl, trivial⟩, trivial⟩
def spec_suProduct_l0 (k : Nat) (a1 : Rw) (a2 : Rw) (K0 : Rw → Option (Rw × Bool)) : Rw → Nat → Rw → Option (Rw × Bool)
  | [], v195n, v196 => (K0 v196)
  | cs :: rest, v195n, v196 => (cell_sii cs fun x288 x289 x290 => (if a2.length ≤ cap then (spec_suProduct_l1 k a1 a2 v195n x288 x289 x290 (fun (v318 : Rw) => (spec_suProduct_l0 k a1 a2 K0 rest (v195n + 1) v318)) a2 v196) else none))
set_option maxRecDepth 100000 in
theorem spec_suProduct_l0_ct {k : Nat} {a1 : Rw} {a2 : Rw} {K0 : Rw → Option (Rw × Bool)} {r : Rw × Bool} (hx : a1.length ≤ cap) : ∀ (rest : Rw) (v195n : Nat) (v196 : Rw), a1.drop v195n = rest → spec_suProduct_l0 k a1 a2 K0 rest v195n v196 = some r → LoopOk prog 0 (lp f72 0) (mk 55 [(3, .ptr 192 0), (4, .ptr 256 0), (6, .ptr 384 0), (17, .d (D.sl a1)), (18, .d (D.int .i64 (a1.length : Int))), (19, .d (D.int .i64 (v195n : Int)))] [(192, .box 28 [.d (D.sl a2)]), (256, .box 28 [.es]), (384, .box 28 [.os 64000 v196.length]), (64000, .arr 80 false v196)]) (LoopEnd prog f72 0 55 (.tup [.agg [.os 8 r.1.length], .d (D.bool r.2)]) (⟨[], [(80, true, r.1)]⟩) (fun i ts os => (i = 0 ∧ ∃ v242 : Rw, K0 v242 = some r ∧ ts = [(4, .ptr 256 0), (6, .ptr 384 0)] ∧ os = [(256, .box 28 [.es]), (384, .box 28 [.os 67001 v242.length]), (67001, .arr 80 false v242)])))
  | [], v195n, v196, hd, h => by
      rw [spec_suProduct_l0] at h
      have hn := drop_nil hd
      refine LoopOk.step ?_
      conv => whnf
      refine splD (fun g => absurd g hn) (fun _ => ?_)
      conv => whnf
      exact ⟨_, _, [some 256, some 384, some 64000], [], ⟨rfl, _, h, rfl, rfl⟩, ⟨⟨rfl, rfl⟩, ⟨rfl, ⟨rfl, trivial, trivial⟩, ⟨rfl, ⟨rfl, rfl⟩, trivial⟩, ⟨rfl, rfl, rows_same⟩, trivial⟩, ⟨rfl, rfl⟩, ⟨rfl, rfl⟩, trivial⟩⟩
  | cs :: rest, v195n, v196, hd, h => by
      rw [spec_suProduct_l0] at h
      obtain ⟨hrow, hd1, hlt⟩ := drop_cons hd
      refine LoopOk.step ?_
      conv => whnf
      refine splD (fun _ => ?_) (fun g => absurd hlt g)
      conv => whnf
      obtain ⟨x288, x289, x290, e291, h⟩ := cell_sii_ex h
      rw [e291] at hrow
      refine Req.of (Int.natCast_nonneg _) ?_
      refine Row.of _ hrow ?_
      conv => whnf
      obtain ⟨g341, h⟩ := req_ex h
      refine LoopOk.into (spec_suProduct_l1_ct  g341 _ _ _ rfl h) [some 192, some 256, some 384, some 512, some 64000] [] ⟨⟨rfl, rfl⟩, ⟨rfl, ⟨rfl, rfl, trivial⟩, ⟨rfl, trivial, trivial⟩, ⟨rfl, ⟨rfl, rfl⟩, trivial⟩, ⟨rfl, rfl, rfl, rfl, trivial⟩, ⟨rfl, rfl, rows_same⟩, trivial⟩, ⟨rfl, rfl⟩, ⟨rfl, rfl⟩, ⟨rfl, rfl⟩, ⟨rfl, rfl⟩, rfl, rfl, rfl, rfl, rfl, rfl, trivial⟩ ?_ (fun _ hs => hs)
      rintro i ts os ⟨rfl, v318, h, rfl, rfl⟩
      conv => whnf
      refine CutK.norm [3, 4, 6, 17, 18, 19] [192, 256, 384, 79801] ?_
      conv => whnf
      exact LoopOk.back (spec_suProduct_l0_ct hx rest (v195n + 1) _ hd1 h) [some 192, some 256, some 384, some 79801] [] ⟨⟨rfl, rfl⟩, ⟨rfl, ⟨rfl, rfl, trivial⟩, ⟨rfl, trivial, trivial⟩, ⟨rfl, ⟨rfl, rfl⟩, trivial⟩, ⟨rfl, rfl, rows_same⟩, trivial⟩, ⟨rfl, rfl⟩, ⟨rfl, rfl⟩, ⟨rfl, rfl⟩, rfl, rfl, i64eq (wrap_up hlt hx), trivial⟩
def spec_suProduct (k : Nat) (a1 : Rw) (a2 : Rw) : Option (Rw × Bool) :=
  (if a1.length ≤ cap then (spec_suProduct_l0 k a1 a2 (fun (v242 : Rw) => (spec_suProduct_p3 k v242)) a1 0 ([] : Rw)) else none)
set_option maxHeartbeats 4000000 in
set_option maxRecDepth 100000 in
theorem spec_suProduct_ct {k : Nat} {a1 : Rw} {a2 : Rw} {r : Rw × Bool} (h : spec_suProduct k a1 a2 = some r) : Ct prog 72 [.agg [.d (D.sl a1)], .agg [.d (D.sl a2)]] (⟨[], []⟩) (.tup [.agg [.os 8 r.1.length], .d (D.bool r.2)]) (⟨[], [(80, true, r.1)]⟩) := by
  rw [spec_suProduct] at h
  refine Ct.of (c := _) mixed func72 ⟨rfl, rfl, rfl⟩ ?_ rfl
  conv => whnf
  obtain ⟨g342, h⟩ := req_ex h
  refine LoopOk.into (spec_suProduct_l0_ct  g342 _ _ _ rfl h) [some 192, some 256, some 384, none] [] ⟨⟨rfl, rfl⟩, ⟨rfl, ⟨rfl, rfl, trivial⟩, ⟨rfl, trivial, trivial⟩, ⟨rfl, ⟨rfl, rfl⟩, trivial⟩, rfl, trivial⟩, ⟨rfl, rfl⟩, ⟨rfl, rfl⟩, ⟨rfl, rfl⟩, rfl, rfl, rfl, trivial⟩ ?_ (fun _ hs => hs)
  rintro i ts os ⟨rfl, v242, h, rfl, rfl⟩
  conv => whnf
  exact CutK.piece (spec_suProduct_p3_ct  h) [some 256, some 384, some 67001] [] ⟨⟨rfl, rfl⟩, ⟨rfl, ⟨rfl, trivial, trivial⟩, ⟨rfl, ⟨rfl, rfl⟩, trivial⟩, ⟨rfl, rfl, rows_same⟩, trivial⟩, ⟨rfl, rfl⟩, ⟨rfl, rfl⟩, trivial⟩

def spec_seChecked_keep  (a1 : Bool) (a2 : Rw) (a3 : Bool) : Option (Rw × Bool) :=
  (cond a1 (cond a3 (some (([] : Rw), true)) (some (([] : Rw), true))) (cond a3 (some (a2, false)) (some (([] : Rw), true))))
set_option maxHeartbeats 4000000 in
set_option maxRecDepth 100000 in
theorem spec_seChecked_keep_ct  {a1 : Bool} {a2 : Rw} {a3 : Bool} {r : Rw × Bool} (h : spec_seChecked_keep a1 a2 a3 = some r) : Ct prog 70 [.ptr 0 0, .agg [.d (D.sl a2)], .d (D.bool a3)] (⟨[(53, [.d (D.bool a1)])], []⟩) (.agg [.d (D.sl r.1)]) (⟨[(53, [.d (D.bool r.2)])], []⟩) := by
  rw [spec_seChecked_keep] at h
  refine Ct.of (c := _) mixed func70 ⟨rfl, rfl, rfl⟩ ?_ rfl
  cases a1
  · replace h := condF h
    cases a3
    · replace h := condF h
      conv => whnf
      refine splF ?_
      conv => whnf
      refine splT ?_
      conv => whnf
      cases h
      exact Done.of [some 0] [] rfl rfl ⟨⟨rfl, rfl⟩, ⟨rfl, ⟨rfl, rfl, trivial⟩, trivial⟩, ⟨rfl, trivial⟩, trivial⟩
    · replace h := condT h
      conv => whnf
      refine splF ?_
      conv => whnf
      refine splF ?_
      conv => whnf
      cases h
      exact Done.of [some 0] [] rfl rfl ⟨⟨rfl, rfl⟩, ⟨rfl, ⟨rfl, rfl, trivial⟩, trivial⟩, ⟨rfl, trivial⟩, trivial⟩
  · replace h := condT h
    cases a3
    · replace h := condF h
      conv => whnf
      refine splT ?_
      conv => whnf
      refine splT ?_
      conv => whnf
      cases h
      exact Done.of [some 0] [] rfl rfl ⟨⟨rfl, rfl⟩, ⟨rfl, ⟨rfl, rfl, trivial⟩, trivial⟩, ⟨rfl, trivial⟩, trivial⟩
    · replace h := condT h
      conv => whnf
      refine splT ?_
      conv => whnf
      refine splT ?_
      conv => whnf
      cases h
      exact Done.of [some 0] [] rfl rfl ⟨⟨rfl, rfl⟩, ⟨rfl, ⟨rfl, rfl, trivial⟩, trivial⟩, ⟨rfl, trivial⟩, trivial⟩

def spec_seChecked_mul (k : Nat) (a1 : Bool) (a2 : Rw) (a3 : Rw) : Option (Rw × Bool) :=
  (cond a1 ((spec_suProduct k a2 a3).bind fun y11 => (if y11.2 = true then ((spec_seChecked_keep true y11.1 true).bind fun y14 => some (y14.1, y14.2)) else ((spec_seChecked_keep true y11.1 false).bind fun y16 => some (y16.1, y16.2)))) ((spec_suProduct k a2 a3).bind fun y4 => (if y4.2 = true then ((spec_seChecked_keep false y4.1 true).bind fun y7 => some (y7.1, y7.2)) else ((spec_seChecked_keep false y4.1 false).bind fun y9 => some (y9.1, y9.2)))))
set_option maxHeartbeats 4000000 in
set_option maxRecDepth 100000 in
theorem spec_seChecked_mul_ct {k : Nat} {a1 : Bool} {a2 : Rw} {a3 : Rw} {r : Rw × Bool} (h : spec_seChecked_mul k a1 a2 a3 = some r) : Ct prog 39 [.ptr 0 0, .agg [.d (D.sl a2)], .agg [.d (D.sl a3)]] (⟨[(53, [.d (D.bool a1)])], []⟩) (.agg [.d (D.sl r.1)]) (⟨[(53, [.d (D.bool r.2)])], []⟩) := by
  rw [spec_seChecked_mul] at h
  refine Ct.of (c := _) mixed func39 ⟨rfl, rfl, rfl⟩ ?_ rfl
  cases a1
  · replace h := condF h
    conv => whnf
    obtain ⟨y4, e5, h⟩ := bind_ex h
    refine CallOk.of (spec_suProduct_ct e5) ?_
    conv => whnf
    refine spl (fun g6 => ?_) (fun g6 => ?_)
    · replace h := iteT h g6
      conv => whnf
      refine Take.all (rfl) ?_
      conv => whnf
      obtain ⟨y7, e8, h⟩ := bind_ex h
      refine CallOk.of (spec_seChecked_keep_ct e8) ?_
      conv => whnf
      refine CutK.go ?_
      conv => whnf
      cases h
      exact Done.of [some 0] [] rfl rfl ⟨⟨rfl, rfl⟩, ⟨rfl, ⟨rfl, rfl, trivial⟩, trivial⟩, ⟨rfl, trivial⟩, trivial⟩
    · replace h := iteF h g6
      conv => whnf
      refine Take.all (rfl) ?_
      conv => whnf
      obtain ⟨y9, e10, h⟩ := bind_ex h
      refine CallOk.of (spec_seChecked_keep_ct e10) ?_
      conv => whnf
      refine CutK.go ?_
      conv => whnf
      cases h
      exact Done.of [some 0] [] rfl rfl ⟨⟨rfl, rfl⟩, ⟨rfl, ⟨rfl, rfl, trivial⟩, trivial⟩, ⟨rfl, trivial⟩, trivial⟩
  · replace h := condT h
    conv => whnf
    obtain ⟨y11, e12, h⟩ := bind_ex h
    refine CallOk.of (spec_suProduct_ct e12) ?_
    conv => whnf
    refine spl (fun g13 => ?_) (fun g13 => ?_)
    · replace h := iteT h g13
      conv => whnf
      refine Take.all (rfl) ?_
      conv => whnf
      obtain ⟨y14, e15, h⟩ := bind_ex h
      refine CallOk.of (spec_seChecked_keep_ct e15) ?_
      conv => whnf
      refine CutK.go ?_
      conv => whnf
      cases h
      exact Done.of [some 0] [] rfl rfl ⟨⟨rfl, rfl⟩, ⟨rfl, ⟨rfl, rfl, trivial⟩, trivial⟩, ⟨rfl, trivial⟩, trivial⟩
    · replace h := iteF h g13
      conv => whnf
      refine Take.all (rfl) ?_
      conv => whnf
      obtain ⟨y16, e17, h⟩ := bind_ex h
      refine CallOk.of (spec_seChecked_keep_ct e17) ?_
      conv => whnf
      refine CutK.go ?_
      conv => whnf
      cases h
      exact Done.of [some 0] [] rfl rfl ⟨⟨rfl, rfl⟩, ⟨rfl, ⟨rfl, rfl, trivial⟩, trivial⟩, ⟨rfl, trivial⟩, trivial⟩

def spec_seChecked_power_l0 (k : Nat) (a2 : Rw) (K0 : Rw → Bool → Option (Rw × Bool)) : Nat → Int → Bool → Rw → Option (Rw × Bool)
  | 0, _, _, _ => none
  | n + 1, v9, v10, v11 => (cond v10 (if (0 : Int) < v9 then ((spec_seChecked_mul k true v11 a2).bind fun y30 => (spec_seChecked_power_l0 k a2 K0 n (IntKind.i64.wrap (v9 - 1)) y30.2 y30.1)) else (K0 v11 true)) (if (0 : Int) < v9 then ((spec_seChecked_mul k false v11 a2).bind fun y27 => (spec_seChecked_power_l0 k a2 K0 n (IntKind.i64.wrap (v9 - 1)) y27.2 y27.1)) else (K0 v11 false)))
set_option maxRecDepth 100000 in
theorem spec_seChecked_power_l0_ct {k : Nat} {a2 : Rw} {K0 : Rw → Bool → Option (Rw × Bool)} {r : Rw × Bool} : ∀ (n : Nat) (v9 : Int) (v10 : Bool) (v11 : Rw), spec_seChecked_power_l0 k a2 K0 n v9 v10 v11 = some r → LoopOk prog 1 (lp f27 0) (mk 18 [(0, .ptr 0 0), (2, .d (D.int .i64 v9)), (4, .ptr 256 0), (6, .ptr 384 0), (7, .ptr 448 0)] [(0, .box 53 [.d (D.bool v10)]), (256, .box 28 [.d (D.sl a2)]), (384, .box 28 [.es]), (448, .box 28 [.d (D.sl v11)])]) (LoopEnd prog f27 1 18 (.agg [.d (D.sl r.1)]) (⟨[(53, [.d (D.bool r.2)])], []⟩) (fun i ts os => (i = 0 ∧ ∃ v15 : Rw, ∃ v19 : Bool, K0 v15 v19 = some r ∧ ts = [(6, .ptr 384 0), (7, .ptr 448 0)] ∧ os = [(0, .box 53 [.d (D.bool v19)]), (384, .box 28 [.es]), (448, .box 28 [.d (D.sl v15)])])))
  | 0, _, _, _, h => by
      rw [spec_seChecked_power_l0] at h; cases h
  | n + 1, v9, v10, v11, h => by
      rw [spec_seChecked_power_l0] at h
      cases v10
      · replace h := condF h
        refine LoopOk.step ?_
        conv => whnf
        refine splD (fun g26 => ?_) (fun g26 => ?_)
        · replace h := iteP h g26
          conv => whnf
          obtain ⟨y27, e28, h⟩ := bind_ex h
          refine CallOk.of (spec_seChecked_mul_ct e28) ?_
          conv => whnf
          refine CutK.go ?_
          conv => whnf
          exact LoopOk.back (spec_seChecked_power_l0_ct  n _ _ _ h) [some 0, some 256, some 384, some 448] [] ⟨⟨rfl, rfl⟩, ⟨rfl, ⟨rfl, rfl, trivial⟩, ⟨rfl, rfl, trivial⟩, ⟨rfl, trivial, trivial⟩, ⟨rfl, rfl, trivial⟩, trivial⟩, ⟨rfl, rfl⟩, rfl, ⟨rfl, rfl⟩, ⟨rfl, rfl⟩, ⟨rfl, rfl⟩, trivial⟩
        · replace h := iteN h g26
          conv => whnf
          exact ⟨_, _, [some 0, some 384, some 448], [], ⟨rfl, _, _, h, rfl, rfl⟩, ⟨⟨rfl, rfl⟩, ⟨rfl, ⟨rfl, rfl, trivial⟩, ⟨rfl, trivial, trivial⟩, ⟨rfl, rfl, trivial⟩, trivial⟩, ⟨rfl, rfl⟩, ⟨rfl, rfl⟩, trivial⟩⟩
      · replace h := condT h
        refine LoopOk.step ?_
        conv => whnf
        refine splD (fun g29 => ?_) (fun g29 => ?_)
        · replace h := iteP h g29
          conv => whnf
          obtain ⟨y30, e31, h⟩ := bind_ex h
          refine CallOk.of (spec_seChecked_mul_ct e31) ?_
          conv => whnf
          refine CutK.go ?_
          conv => whnf
          exact LoopOk.back (spec_seChecked_power_l0_ct  n _ _ _ h) [some 0, some 256, some 384, some 448] [] ⟨⟨rfl, rfl⟩, ⟨rfl, ⟨rfl, rfl, trivial⟩, ⟨rfl, rfl, trivial⟩, ⟨rfl, trivial, trivial⟩, ⟨rfl, rfl, trivial⟩, trivial⟩, ⟨rfl, rfl⟩, rfl, ⟨rfl, rfl⟩, ⟨rfl, rfl⟩, ⟨rfl, rfl⟩, trivial⟩
        · replace h := iteN h g29
          conv => whnf
          exact ⟨_, _, [some 0, some 384, some 448], [], ⟨rfl, _, _, h, rfl, rfl⟩, ⟨⟨rfl, rfl⟩, ⟨rfl, ⟨rfl, rfl, trivial⟩, ⟨rfl, trivial, trivial⟩, ⟨rfl, rfl, trivial⟩, trivial⟩, ⟨rfl, rfl⟩, ⟨rfl, rfl⟩, trivial⟩⟩
def spec_seChecked_power_l0_2 (k : Nat) (a2 : Rw) (K0 : Bool → Rw → Option (Rw × Bool)) : Nat → Int → Bool → Rw → Option (Rw × Bool)
  | 0, _, _, _ => none
  | n + 1, v37, v38, v39 => (cond v38 (if (0 : Int) < v37 then ((spec_seChecked_mul k true v39 a2).bind fun y58 => (spec_seChecked_power_l0_2 k a2 K0 n (IntKind.i64.wrap (v37 - 1)) y58.2 y58.1)) else (K0 true v39)) (if (0 : Int) < v37 then ((spec_seChecked_mul k false v39 a2).bind fun y55 => (spec_seChecked_power_l0_2 k a2 K0 n (IntKind.i64.wrap (v37 - 1)) y55.2 y55.1)) else (K0 false v39)))
set_option maxRecDepth 100000 in
theorem spec_seChecked_power_l0_2_ct {k : Nat} {a2 : Rw} {K0 : Bool → Rw → Option (Rw × Bool)} {r : Rw × Bool} : ∀ (n : Nat) (v37 : Int) (v38 : Bool) (v39 : Rw), spec_seChecked_power_l0_2 k a2 K0 n v37 v38 v39 = some r → LoopOk prog 1 (lp f27 0) (mk 18 [(0, .ptr 0 0), (2, .d (D.int .i64 v37)), (4, .ptr 256 0), (6, .ptr 384 0), (7, .ptr 448 0)] [(0, .box 53 [.d (D.bool v38)]), (256, .box 28 [.d (D.sl a2)]), (384, .box 28 [.es]), (448, .box 28 [.d (D.sl v39)])]) (LoopEnd prog f27 1 18 (.agg [.d (D.sl r.1)]) (⟨[(53, [.d (D.bool r.2)])], []⟩) (fun i ts os => (i = 0 ∧ ∃ v43 : Bool, ∃ v44 : Rw, K0 v43 v44 = some r ∧ ts = [(6, .ptr 384 0), (7, .ptr 448 0)] ∧ os = [(0, .box 53 [.d (D.bool v43)]), (384, .box 28 [.es]), (448, .box 28 [.d (D.sl v44)])])))
  | 0, _, _, _, h => by
      rw [spec_seChecked_power_l0_2] at h; cases h
  | n + 1, v37, v38, v39, h => by
      rw [spec_seChecked_power_l0_2] at h
      cases v38
      · replace h := condF h
        refine LoopOk.step ?_
        conv => whnf
        refine splD (fun g54 => ?_) (fun g54 => ?_)
        · replace h := iteP h g54
          conv => whnf
          obtain ⟨y55, e56, h⟩ := bind_ex h
          refine CallOk.of (spec_seChecked_mul_ct e56) ?_
          conv => whnf
          refine CutK.go ?_
          conv => whnf
          exact LoopOk.back (spec_seChecked_power_l0_2_ct  n _ _ _ h) [some 0, some 256, some 384, some 448] [] ⟨⟨rfl, rfl⟩, ⟨rfl, ⟨rfl, rfl, trivial⟩, ⟨rfl, rfl, trivial⟩, ⟨rfl, trivial, trivial⟩, ⟨rfl, rfl, trivial⟩, trivial⟩, ⟨rfl, rfl⟩, rfl, ⟨rfl, rfl⟩, ⟨rfl, rfl⟩, ⟨rfl, rfl⟩, trivial⟩
        · replace h := iteN h g54
          conv => whnf
          exact ⟨_, _, [some 0, some 384, some 448], [], ⟨rfl, _, _, h, rfl, rfl⟩, ⟨⟨rfl, rfl⟩, ⟨rfl, ⟨rfl, rfl, trivial⟩, ⟨rfl, trivial, trivial⟩, ⟨rfl, rfl, trivial⟩, trivial⟩, ⟨rfl, rfl⟩, ⟨rfl, rfl⟩, trivial⟩⟩
      · replace h := condT h
        refine LoopOk.step ?_
        conv => whnf
        refine splD (fun g57 => ?_) (fun g57 => ?_)
        · replace h := iteP h g57
          conv => whnf
          obtain ⟨y58, e59, h⟩ := bind_ex h
          refine CallOk.of (spec_seChecked_mul_ct e59) ?_
          conv => whnf
          refine CutK.go ?_
          conv => whnf
          exact LoopOk.back (spec_seChecked_power_l0_2_ct  n _ _ _ h) [some 0, some 256, some 384, some 448] [] ⟨⟨rfl, rfl⟩, ⟨rfl, ⟨rfl, rfl, trivial⟩, ⟨rfl, rfl, trivial⟩, ⟨rfl, trivial, trivial⟩, ⟨rfl, rfl, trivial⟩, trivial⟩, ⟨rfl, rfl⟩, rfl, ⟨rfl, rfl⟩, ⟨rfl, rfl⟩, ⟨rfl, rfl⟩, trivial⟩
        · replace h := iteN h g57
          conv => whnf
          exact ⟨_, _, [some 0, some 384, some 448], [], ⟨rfl, _, _, h, rfl, rfl⟩, ⟨⟨rfl, rfl⟩, ⟨rfl, ⟨rfl, rfl, trivial⟩, ⟨rfl, trivial, trivial⟩, ⟨rfl, rfl, trivial⟩, trivial⟩, ⟨rfl, rfl⟩, ⟨rfl, rfl⟩, trivial⟩⟩
def spec_seChecked_power (k : Nat) (a1 : Bool) (a2 : Rw) (a3 : Int) : Option (Rw × Bool) :=
  (cond a1 ((spec_suInt 1).bind fun y32 => (spec_seChecked_power_l0_2 k a2 (fun (v43 : Bool) (v44 : Rw) => (cond v43 (some (v44, true)) (some (v44, false)))) k a3 true y32)) ((spec_suInt 1).bind fun y4 => (spec_seChecked_power_l0 k a2 (fun (v15 : Rw) (v19 : Bool) => (cond v19 (some (v15, true)) (some (v15, false)))) k a3 false y4)))
set_option maxHeartbeats 4000000 in
set_option maxRecDepth 100000 in
theorem spec_seChecked_power_ct {k : Nat} {a1 : Bool} {a2 : Rw} {a3 : Int} {r : Rw × Bool} (h : spec_seChecked_power k a1 a2 a3 = some r) : Ct prog 27 [.ptr 0 0, .agg [.d (D.sl a2)], .d (D.int .i64 a3)] (⟨[(53, [.d (D.bool a1)])], []⟩) (.agg [.d (D.sl r.1)]) (⟨[(53, [.d (D.bool r.2)])], []⟩) := by
  rw [spec_seChecked_power] at h
  refine Ct.of (c := _) mixed func27 ⟨rfl, rfl, rfl⟩ ?_ rfl
  cases a1
  · replace h := condF h
    conv => whnf
    obtain ⟨y4, e5, h⟩ := bind_ex h
    refine CallOk.of (spec_suInt_ct e5) ?_
    conv => whnf
    refine CutK.go ?_
    conv => whnf
    refine LoopOk.into (spec_seChecked_power_l0_ct  _ _ _ _ h) [some 0, some 256, some 384, some 448] [512] ⟨⟨rfl, rfl⟩, ⟨rfl, ⟨rfl, rfl, trivial⟩, ⟨rfl, rfl, trivial⟩, ⟨rfl, trivial, trivial⟩, ⟨rfl, ⟨rfl, Nat.le_of_eq rfl, eq_take rfl⟩, trivial⟩, trivial⟩, ⟨rfl, rfl⟩, rfl, ⟨rfl, rfl⟩, ⟨rfl, rfl⟩, ⟨rfl, rfl⟩, trivial⟩ ?_ (fun _ hs => hs)
    rintro i ts os ⟨rfl, v15, v19, h, rfl, rfl⟩
    cases v19
    · replace h := condF h
      conv => whnf
      refine CutK.go ?_
      conv => whnf
      cases h
      exact Done.of [some 0] [] rfl rfl ⟨⟨rfl, rfl⟩, ⟨rfl, ⟨rfl, rfl, trivial⟩, trivial⟩, ⟨rfl, trivial⟩, trivial⟩
    · replace h := condT h
      conv => whnf
      refine CutK.go ?_
      conv => whnf
      cases h
      exact Done.of [some 0] [] rfl rfl ⟨⟨rfl, rfl⟩, ⟨rfl, ⟨rfl, rfl, trivial⟩, trivial⟩, ⟨rfl, trivial⟩, trivial⟩
  · replace h := condT h
    conv => whnf
    obtain ⟨y32, e33, h⟩ := bind_ex h
    refine CallOk.of (spec_suInt_ct e33) ?_
    conv => whnf
    refine CutK.go ?_
    conv => whnf
    refine LoopOk.into (spec_seChecked_power_l0_2_ct  _ _ _ _ h) [some 0, some 256, some 384, some 448] [512] ⟨⟨rfl, rfl⟩, ⟨rfl, ⟨rfl, rfl, trivial⟩, ⟨rfl, rfl, trivial⟩, ⟨rfl, trivial, trivial⟩, ⟨rfl, ⟨rfl, Nat.le_of_eq rfl, eq_take rfl⟩, trivial⟩, trivial⟩, ⟨rfl, rfl⟩, rfl, ⟨rfl, rfl⟩, ⟨rfl, rfl⟩, ⟨rfl, rfl⟩, trivial⟩ ?_ (fun _ hs => hs)
    rintro i ts os ⟨rfl, v43, v44, h, rfl, rfl⟩
    cases v43
    · replace h := condF h
      conv => whnf
      refine CutK.go ?_
      conv => whnf
      cases h
      exact Done.of [some 0] [] rfl rfl ⟨⟨rfl, rfl⟩, ⟨rfl, ⟨rfl, rfl, trivial⟩, trivial⟩, ⟨rfl, trivial⟩, trivial⟩
    · replace h := condT h
      conv => whnf
      refine CutK.go ?_
      conv => whnf
      cases h
      exact Done.of [some 0] [] rfl rfl ⟨⟨rfl, rfl⟩, ⟨rfl, ⟨rfl, rfl, trivial⟩, trivial⟩, ⟨rfl, trivial⟩, trivial⟩

def spec_suZero  (a1 : Rw) : Option Bool :=
  (if (a1.length : Int) = (0 : Int) then some true else some false)
set_option maxHeartbeats 4000000 in
set_option maxRecDepth 100000 in
theorem spec_suZero_ct  {a1 : Rw} {r : Bool} (h : spec_suZero a1 = some r) : Ct prog 36 [.agg [.d (D.sl a1)]] (⟨[], []⟩) (.d (D.bool r)) (⟨[], []⟩) := by
  rw [spec_suZero] at h
  refine Ct.of (c := _) mixed func36 ⟨rfl, rfl, rfl⟩ ?_ rfl
  conv => whnf
  refine splD (fun g2 => ?_) (fun g2 => ?_)
  · replace h := iteP h g2
    conv => whnf
    cases h
    exact Done.of [] [] rfl rfl ⟨⟨rfl, rfl⟩, ⟨rfl, trivial⟩, rfl, trivial⟩
  · replace h := iteN h g2
    conv => whnf
    cases h
    exact Done.of [] [] rfl rfl ⟨⟨rfl, rfl⟩, ⟨rfl, trivial⟩, rfl, trivial⟩

def spec_suSmall (k : Nat) (a1 : Rw) (a2 : Rw) : Option Bool :=
  ((spec_suZero a1).bind fun y3 => (if y3 = true then ((spec_suZero a2).bind fun y6 => (if y6 = true then some false else some true)) else ((spec_suZero a2).bind fun y9 => (if y9 = true then ((spec_suZero a2).bind fun y12 => (if y12 = true then some false else some true)) else (row_sii a1 0 fun x15 x16 x17 => (row_sii a2 0 fun x20 x21 x22 => ((spec_suCmp k x15 x20).bind fun y25 => (if y25 < (0 : Int) then some true else some false))))))))
set_option maxHeartbeats 4000000 in
set_option maxRecDepth 100000 in
theorem spec_suSmall_ct {k : Nat} {a1 : Rw} {a2 : Rw} {r : Bool} (h : spec_suSmall k a1 a2 = some r) : Ct prog 40 [.agg [.d (D.sl a1)], .agg [.d (D.sl a2)]] (⟨[], []⟩) (.d (D.bool r)) (⟨[], []⟩) := by
  rw [spec_suSmall] at h
  refine Ct.of (c := _) mixed func40 ⟨rfl, rfl, rfl⟩ ?_ rfl
  conv => whnf
  obtain ⟨y3, e4, h⟩ := bind_ex h
  refine CallOk.of (spec_suZero_ct e4) ?_
  conv => whnf
  refine spl (fun g5 => ?_) (fun g5 => ?_)
  · replace h := iteT h g5
    conv => whnf
    refine CutK.go ?_
    conv => whnf
    obtain ⟨y6, e7, h⟩ := bind_ex h
    refine CallOk.of (spec_suZero_ct e7) ?_
    conv => whnf
    refine spl (fun g8 => ?_) (fun g8 => ?_)
    · replace h := iteT h g8
      conv => whnf
      refine CutK.go ?_
      conv => whnf
      cases h
      exact Done.of [] [] rfl rfl ⟨⟨rfl, rfl⟩, ⟨rfl, trivial⟩, rfl, trivial⟩
    · replace h := iteF h g8
      conv => whnf
      refine CutK.go ?_
      conv => whnf
      cases h
      exact Done.of [] [] rfl rfl ⟨⟨rfl, rfl⟩, ⟨rfl, trivial⟩, rfl, trivial⟩
  · replace h := iteF h g5
    conv => whnf
    obtain ⟨y9, e10, h⟩ := bind_ex h
    refine CallOk.of (spec_suZero_ct e10) ?_
    conv => whnf
    refine spl (fun g11 => ?_) (fun g11 => ?_)
    · replace h := iteT h g11
      conv => whnf
      refine CutK.go ?_
      conv => whnf
      obtain ⟨y12, e13, h⟩ := bind_ex h
      refine CallOk.of (spec_suZero_ct e13) ?_
      conv => whnf
      refine spl (fun g14 => ?_) (fun g14 => ?_)
      · replace h := iteT h g14
        conv => whnf
        refine CutK.go ?_
        conv => whnf
        cases h
        exact Done.of [] [] rfl rfl ⟨⟨rfl, rfl⟩, ⟨rfl, trivial⟩, rfl, trivial⟩
      · replace h := iteF h g14
        conv => whnf
        refine CutK.go ?_
        conv => whnf
        cases h
        exact Done.of [] [] rfl rfl ⟨⟨rfl, rfl⟩, ⟨rfl, trivial⟩, rfl, trivial⟩
    · replace h := iteF h g11
      conv => whnf
      refine CutK.go ?_
      conv => whnf
      refine CutK.go ?_
      conv => whnf
      obtain ⟨g19, x15, x16, x17, e18, h⟩ := row_sii_ex h
      refine Req.of g19 ?_
      refine Row.of _ e18 ?_
      conv => whnf
      obtain ⟨g24, x20, x21, x22, e23, h⟩ := row_sii_ex h
      refine Req.of g24 ?_
      refine Row.of _ e23 ?_
      conv => whnf
      obtain ⟨y25, e26, h⟩ := bind_ex h
      refine CallOk.of (spec_suCmp_ct e26) ?_
      conv => whnf
      refine splD (fun g27 => ?_) (fun g27 => ?_)
      · replace h := iteP h g27
        conv => whnf
        refine CutK.go ?_
        conv => whnf
        cases h
        exact Done.of [] [] rfl rfl ⟨⟨rfl, rfl⟩, ⟨rfl, trivial⟩, rfl, trivial⟩
      · replace h := iteN h g27
        conv => whnf
        refine CutK.go ?_
        conv => whnf
        cases h
        exact Done.of [] [] rfl rfl ⟨⟨rfl, rfl⟩, ⟨rfl, trivial⟩, rfl, trivial⟩

def spec_seChecked_add (k : Nat) (a1 : Bool) (a2 : Rw) (a3 : Rw) : Option (Rw × Bool) :=
  (cond a1 ((spec_suSum k a2 a3).bind fun y11 => (if y11.2 = true then ((spec_seChecked_keep true y11.1 true).bind fun y14 => some (y14.1, y14.2)) else ((spec_seChecked_keep true y11.1 false).bind fun y16 => some (y16.1, y16.2)))) ((spec_suSum k a2 a3).bind fun y4 => (if y4.2 = true then ((spec_seChecked_keep false y4.1 true).bind fun y7 => some (y7.1, y7.2)) else ((spec_seChecked_keep false y4.1 false).bind fun y9 => some (y9.1, y9.2)))))
set_option maxHeartbeats 4000000 in
set_option maxRecDepth 100000 in
theorem spec_seChecked_add_ct {k : Nat} {a1 : Bool} {a2 : Rw} {a3 : Rw} {r : Rw × Bool} (h : spec_seChecked_add k a1 a2 a3 = some r) : Ct prog 38 [.ptr 0 0, .agg [.d (D.sl a2)], .agg [.d (D.sl a3)]] (⟨[(53, [.d (D.bool a1)])], []⟩) (.agg [.d (D.sl r.1)]) (⟨[(53, [.d (D.bool r.2)])], []⟩) := by
  rw [spec_seChecked_add] at h
  refine Ct.of (c := _) mixed func38 ⟨rfl, rfl, rfl⟩ ?_ rfl
  cases a1
  · replace h := condF h
    conv => whnf
    obtain ⟨y4, e5, h⟩ := bind_ex h
    refine CallOk.of (spec_suSum_ct e5) ?_
    conv => whnf
    refine spl (fun g6 => ?_) (fun g6 => ?_)
    · replace h := iteT h g6
      conv => whnf
      refine Take.all (rfl) ?_
      conv => whnf
      obtain ⟨y7, e8, h⟩ := bind_ex h
      refine CallOk.of (spec_seChecked_keep_ct e8) ?_
      conv => whnf
      refine CutK.go ?_
      conv => whnf
      cases h
      exact Done.of [some 0] [] rfl rfl ⟨⟨rfl, rfl⟩, ⟨rfl, ⟨rfl, rfl, trivial⟩, trivial⟩, ⟨rfl, trivial⟩, trivial⟩
    · replace h := iteF h g6
      conv => whnf
      refine Take.all (rfl) ?_
      conv => whnf
      obtain ⟨y9, e10, h⟩ := bind_ex h
      refine CallOk.of (spec_seChecked_keep_ct e10) ?_
      conv => whnf
      refine CutK.go ?_
      conv => whnf
      cases h
      exact Done.of [some 0] [] rfl rfl ⟨⟨rfl, rfl⟩, ⟨rfl, ⟨rfl, rfl, trivial⟩, trivial⟩, ⟨rfl, trivial⟩, trivial⟩
  · replace h := condT h
    conv => whnf
    obtain ⟨y11, e12, h⟩ := bind_ex h
    refine CallOk.of (spec_suSum_ct e12) ?_
    conv => whnf
    refine spl (fun g13 => ?_) (fun g13 => ?_)
    · replace h := iteT h g13
      conv => whnf
      refine Take.all (rfl) ?_
      conv => whnf
      obtain ⟨y14, e15, h⟩ := bind_ex h
      refine CallOk.of (spec_seChecked_keep_ct e15) ?_
      conv => whnf
      refine CutK.go ?_
      conv => whnf
      cases h
      exact Done.of [some 0] [] rfl rfl ⟨⟨rfl, rfl⟩, ⟨rfl, ⟨rfl, rfl, trivial⟩, trivial⟩, ⟨rfl, trivial⟩, trivial⟩
    · replace h := iteF h g13
      conv => whnf
      refine Take.all (rfl) ?_
      conv => whnf
      obtain ⟨y16, e17, h⟩ := bind_ex h
      refine CallOk.of (spec_seChecked_keep_ct e17) ?_
      conv => whnf
      refine CutK.go ?_
      conv => whnf
      cases h
      exact Done.of [some 0] [] rfl rfl ⟨⟨rfl, rfl⟩, ⟨rfl, ⟨rfl, rfl, trivial⟩, trivial⟩, ⟨rfl, trivial⟩, trivial⟩

def spec_seDegree  (a1 : Int) : Option Bool :=
  ((spec_l1In a1 2 4).bind fun y2 => (if y2 = true then some true else some false))
set_option maxHeartbeats 4000000 in
set_option maxRecDepth 100000 in
theorem spec_seDegree_ct  {a1 : Int} {r : Bool} (h : spec_seDegree a1 = some r) : Ct prog 49 [.d (D.int .i64 a1)] (⟨[], []⟩) (.d (D.bool r)) (⟨[], []⟩) := by
  rw [spec_seDegree] at h
  refine Ct.of (c := _) mixed func49 ⟨rfl, rfl, rfl⟩ ?_ rfl
  conv => whnf
  obtain ⟨y2, e3, h⟩ := bind_ex h
  refine CallOk.of (spec_l1In_ct e3) ?_
  conv => whnf
  refine spl (fun g4 => ?_) (fun g4 => ?_)
  · replace h := iteT h g4
    conv => whnf
    refine CutK.go ?_
    conv => whnf
    cases h
    exact Done.of [] [] rfl rfl ⟨⟨rfl, rfl⟩, ⟨rfl, trivial⟩, rfl, trivial⟩
  · replace h := iteF h g4
    conv => whnf
    refine CutK.go ?_
    conv => whnf
    cases h
    exact Done.of [] [] rfl rfl ⟨⟨rfl, rfl⟩, ⟨rfl, trivial⟩, rfl, trivial⟩

def spec_CheckRoot_p6 (o63 : Bool) (v64 : Bool) (v75 : Bool) : Option (Bool × Bool) :=
  (cond o63 (cond v64 (cond v75 (some (false, false)) (some (false, false))) (cond v75 (some (false, false)) (some (false, false)))) (cond v64 (cond v75 (some (true, true)) (some (false, true))) (cond v75 (some (false, true)) (some (false, true)))))
set_option maxHeartbeats 4000000 in
set_option maxRecDepth 100000 in
theorem spec_CheckRoot_p6_ct {o63 : Bool} {v64 : Bool} {v75 : Bool} {r : Bool × Bool} (h : spec_CheckRoot_p6 o63 v64 v75 = some r) : X prog 0 (tlF f16 6) (mk 82 [(10, .ptr 2112 0), (11, .d (D.bool v75)), (12, .d (D.bool v64))] [(2112, .box 53 [.d (D.bool o63)])]) (finK prog f16 0 (.tup [.d (D.bool r.1), .d (D.bool r.2)]) (⟨[], []⟩)) := by
  rw [spec_CheckRoot_p6] at h
  cases o63
  · replace h := condF h
    cases v64
    · replace h := condF h
      cases v75
      · replace h := condF h
        conv => whnf
        refine splF ?_
        conv => whnf
        cases h
        exact Done.of [] [] rfl rfl ⟨⟨rfl, rfl⟩, ⟨rfl, trivial⟩, ⟨rfl, rfl, trivial⟩, trivial⟩
      · replace h := condT h
        conv => whnf
        refine splF ?_
        conv => whnf
        cases h
        exact Done.of [] [] rfl rfl ⟨⟨rfl, rfl⟩, ⟨rfl, trivial⟩, ⟨rfl, rfl, trivial⟩, trivial⟩
    · replace h := condT h
      cases v75
      · replace h := condF h
        conv => whnf
        refine splF ?_
        conv => whnf
        cases h
        exact Done.of [] [] rfl rfl ⟨⟨rfl, rfl⟩, ⟨rfl, trivial⟩, ⟨rfl, rfl, trivial⟩, trivial⟩
      · replace h := condT h
        conv => whnf
        refine splF ?_
        conv => whnf
        cases h
        exact Done.of [] [] rfl rfl ⟨⟨rfl, rfl⟩, ⟨rfl, trivial⟩, ⟨rfl, rfl, trivial⟩, trivial⟩
  · replace h := condT h
    cases v64
    · replace h := condF h
      cases v75
      · replace h := condF h
        conv => whnf
        refine splT ?_
        conv => whnf
        cases h
        exact Done.of [] [] rfl rfl ⟨⟨rfl, rfl⟩, ⟨rfl, trivial⟩, ⟨rfl, rfl, trivial⟩, trivial⟩
      · replace h := condT h
        conv => whnf
        refine splT ?_
        conv => whnf
        cases h
        exact Done.of [] [] rfl rfl ⟨⟨rfl, rfl⟩, ⟨rfl, trivial⟩, ⟨rfl, rfl, trivial⟩, trivial⟩
    · replace h := condT h
      cases v75
      · replace h := condF h
        conv => whnf
        refine splT ?_
        conv => whnf
        cases h
        exact Done.of [] [] rfl rfl ⟨⟨rfl, rfl⟩, ⟨rfl, trivial⟩, ⟨rfl, rfl, trivial⟩, trivial⟩
      · replace h := condT h
        conv => whnf
        refine splT ?_
        conv => whnf
        cases h
        exact Done.of [] [] rfl rfl ⟨⟨rfl, rfl⟩, ⟨rfl, trivial⟩, ⟨rfl, rfl, trivial⟩, trivial⟩
def spec_CheckRoot_p5 (k : Nat) (a2 : Int) (a3 : Rw) (a4 : Rw) (v32 : Bool) (v36 : Bool) (v43 : Bool) : Option (Bool × Bool) :=
  (cond v32 (cond v36 (cond v43 (spec_CheckRoot_p6 true true true) (spec_CheckRoot_p6 false true true)) (cond v43 (spec_CheckRoot_p6 true true false) (spec_CheckRoot_p6 false true false))) (cond v36 (cond v43 (spec_CheckRoot_p6 true false true) (if 0 ≤ (1 : Int) ∧ (1 : Int) ≤ (a3.length : Int) ∧ (∀ cs ∈ a3, cs.length = 3) then ((spec_seLast a3).bind fun y87 => ((spec_seChecked_power k false (a3.take (1 : Int).toNat) (IntKind.i64.wrap (a2 - 1))).bind fun y89 => ((spec_seChecked_mul k y89.2 y87 y89.1).bind fun y91 => ((spec_suSmall k a4 y91.1).bind fun y93 => (if y93 = true then (spec_CheckRoot_p6 y91.2 true true) else (spec_CheckRoot_p6 y91.2 false true)))))) else none)) (cond v43 (spec_CheckRoot_p6 true false false) (if 0 ≤ (1 : Int) ∧ (1 : Int) ≤ (a3.length : Int) ∧ (∀ cs ∈ a3, cs.length = 3) then ((spec_seLast a3).bind fun y77 => ((spec_seChecked_power k false (a3.take (1 : Int).toNat) (IntKind.i64.wrap (a2 - 1))).bind fun y79 => ((spec_seChecked_mul k y79.2 y77 y79.1).bind fun y81 => ((spec_suSmall k a4 y81.1).bind fun y83 => (if y83 = true then (spec_CheckRoot_p6 y81.2 true false) else (spec_CheckRoot_p6 y81.2 false false)))))) else none))))
set_option maxHeartbeats 4000000 in
set_option maxRecDepth 100000 in
theorem spec_CheckRoot_p5_ct {k : Nat} {a2 : Int} {a3 : Rw} {a4 : Rw} {v32 : Bool} {v36 : Bool} {v43 : Bool} {r : Bool × Bool} (h : spec_CheckRoot_p5 k a2 a3 a4 v32 v36 v43 = some r) : X prog 0 (tlF f16 5) (mk 82 [(1, .d (D.int .i64 a2)), (6, .ptr 384 0), (7, .ptr 448 0), (10, .ptr 2112 0), (11, .d (D.bool v36)), (12, .d (D.bool v32))] [(384, .box 28 [.d (D.sl a3)]), (448, .box 28 [.d (D.sl a4)]), (2112, .box 53 [.d (D.bool v43)])]) (finK prog f16 0 (.tup [.d (D.bool r.1), .d (D.bool r.2)]) (⟨[], []⟩)) := by
  rw [spec_CheckRoot_p5] at h
  cases v32
  · replace h := condF h
    cases v36
    · replace h := condF h
      cases v43
      · replace h := condF h
        conv => whnf
        refine splF ?_
        conv => whnf
        obtain ⟨g76, h⟩ := req_ex h
        refine Req.of g76 ?_
        conv => whnf
        obtain ⟨y77, e78, h⟩ := bind_ex h
        refine CallOk.of (spec_seLast_ct e78) ?_
        conv => whnf
        obtain ⟨y79, e80, h⟩ := bind_ex h
        refine CallOk.of (spec_seChecked_power_ct e80) ?_
        conv => whnf
        obtain ⟨y81, e82, h⟩ := bind_ex h
        refine CallOk.of (spec_seChecked_mul_ct e82) ?_
        conv => whnf
        obtain ⟨y83, e84, h⟩ := bind_ex h
        refine CallOk.of (spec_suSmall_ct e84) ?_
        conv => whnf
        refine spl (fun g85 => ?_) (fun g85 => ?_)
        · replace h := iteT h g85
          conv => whnf
          exact CutK.piece (spec_CheckRoot_p6_ct  h) [some 2112] [] ⟨⟨rfl, rfl⟩, ⟨rfl, ⟨rfl, rfl, trivial⟩, trivial⟩, ⟨rfl, rfl⟩, rfl, rfl, trivial⟩
        · replace h := iteF h g85
          conv => whnf
          exact CutK.piece (spec_CheckRoot_p6_ct  h) [some 2112] [] ⟨⟨rfl, rfl⟩, ⟨rfl, ⟨rfl, rfl, trivial⟩, trivial⟩, ⟨rfl, rfl⟩, rfl, rfl, trivial⟩
      · replace h := condT h
        conv => whnf
        refine splT ?_
        conv => whnf
        exact CutK.piece (spec_CheckRoot_p6_ct  h) [some 2112] [] ⟨⟨rfl, rfl⟩, ⟨rfl, ⟨rfl, rfl, trivial⟩, trivial⟩, ⟨rfl, rfl⟩, rfl, rfl, trivial⟩
    · replace h := condT h
      cases v43
      · replace h := condF h
        conv => whnf
        refine splF ?_
        conv => whnf
        obtain ⟨g86, h⟩ := req_ex h
        refine Req.of g86 ?_
        conv => whnf
        obtain ⟨y87, e88, h⟩ := bind_ex h
        refine CallOk.of (spec_seLast_ct e88) ?_
        conv => whnf
        obtain ⟨y89, e90, h⟩ := bind_ex h
        refine CallOk.of (spec_seChecked_power_ct e90) ?_
        conv => whnf
        obtain ⟨y91, e92, h⟩ := bind_ex h
        refine CallOk.of (spec_seChecked_mul_ct e92) ?_
        conv => whnf
        obtain ⟨y93, e94, h⟩ := bind_ex h
        refine CallOk.of (spec_suSmall_ct e94) ?_
        conv => whnf
        refine spl (fun g95 => ?_) (fun g95 => ?_)
        · replace h := iteT h g95
          conv => whnf
          exact CutK.piece (spec_CheckRoot_p6_ct  h) [some 2112] [] ⟨⟨rfl, rfl⟩, ⟨rfl, ⟨rfl, rfl, trivial⟩, trivial⟩, ⟨rfl, rfl⟩, rfl, rfl, trivial⟩
        · replace h := iteF h g95
          conv => whnf
          exact CutK.piece (spec_CheckRoot_p6_ct  h) [some 2112] [] ⟨⟨rfl, rfl⟩, ⟨rfl, ⟨rfl, rfl, trivial⟩, trivial⟩, ⟨rfl, rfl⟩, rfl, rfl, trivial⟩
      · replace h := condT h
        conv => whnf
        refine splT ?_
        conv => whnf
        exact CutK.piece (spec_CheckRoot_p6_ct  h) [some 2112] [] ⟨⟨rfl, rfl⟩, ⟨rfl, ⟨rfl, rfl, trivial⟩, trivial⟩, ⟨rfl, rfl⟩, rfl, rfl, trivial⟩
  · replace h := condT h
    cases v36
    · replace h := condF h
      cases v43
      · replace h := condF h
        conv => whnf
        exact CutK.piece (spec_CheckRoot_p6_ct  h) [some 2112] [] ⟨⟨rfl, rfl⟩, ⟨rfl, ⟨rfl, rfl, trivial⟩, trivial⟩, ⟨rfl, rfl⟩, rfl, rfl, trivial⟩
      · replace h := condT h
        conv => whnf
        exact CutK.piece (spec_CheckRoot_p6_ct  h) [some 2112] [] ⟨⟨rfl, rfl⟩, ⟨rfl, ⟨rfl, rfl, trivial⟩, trivial⟩, ⟨rfl, rfl⟩, rfl, rfl, trivial⟩
    · replace h := condT h
      cases v43
      · replace h := condF h
        conv => whnf
        exact CutK.piece (spec_CheckRoot_p6_ct  h) [some 2112] [] ⟨⟨rfl, rfl⟩, ⟨rfl, ⟨rfl, rfl, trivial⟩, trivial⟩, ⟨rfl, rfl⟩, rfl, rfl, trivial⟩
      · replace h := condT h
        conv => whnf
        exact CutK.piece (spec_CheckRoot_p6_ct  h) [some 2112] [] ⟨⟨rfl, rfl⟩, ⟨rfl, ⟨rfl, rfl, trivial⟩, trivial⟩, ⟨rfl, rfl⟩, rfl, rfl, trivial⟩
def spec_CheckRoot_p4 (k : Nat) (a2 : Int) (a3 : Rw) (a4 : Rw) (o24 : Bool) (v25 : Bool) : Option (Bool × Bool) :=
  (cond o24 (cond v25 ((spec_suZero a4).bind fun y114 => (if y114 = true then (spec_CheckRoot_p5 k a2 a3 a4 true true true) else ((spec_suZero a3).bind fun y117 => (if y117 = true then (spec_CheckRoot_p5 k a2 a3 a4 true true true) else (spec_CheckRoot_p5 k a2 a3 a4 false true true))))) ((spec_suZero a4).bind fun y108 => (if y108 = true then (spec_CheckRoot_p5 k a2 a3 a4 true false true) else ((spec_suZero a3).bind fun y111 => (if y111 = true then (spec_CheckRoot_p5 k a2 a3 a4 true false true) else (spec_CheckRoot_p5 k a2 a3 a4 false false true)))))) (cond v25 ((spec_suZero a4).bind fun y102 => (if y102 = true then (spec_CheckRoot_p5 k a2 a3 a4 true true false) else ((spec_suZero a3).bind fun y105 => (if y105 = true then (spec_CheckRoot_p5 k a2 a3 a4 true true false) else (spec_CheckRoot_p5 k a2 a3 a4 false true false))))) ((spec_suZero a4).bind fun y96 => (if y96 = true then (spec_CheckRoot_p5 k a2 a3 a4 true false false) else ((spec_suZero a3).bind fun y99 => (if y99 = true then (spec_CheckRoot_p5 k a2 a3 a4 true false false) else (spec_CheckRoot_p5 k a2 a3 a4 false false false)))))))
set_option maxHeartbeats 4000000 in
set_option maxRecDepth 100000 in
theorem spec_CheckRoot_p4_ct {k : Nat} {a2 : Int} {a3 : Rw} {a4 : Rw} {o24 : Bool} {v25 : Bool} {r : Bool × Bool} (h : spec_CheckRoot_p4 k a2 a3 a4 o24 v25 = some r) : X prog 0 (tlF f16 4) (mk 82 [(1, .d (D.int .i64 a2)), (6, .ptr 384 0), (7, .ptr 448 0), (10, .ptr 2112 0), (11, .d (D.bool v25))] [(384, .box 28 [.d (D.sl a3)]), (448, .box 28 [.d (D.sl a4)]), (2112, .box 53 [.d (D.bool o24)])]) (finK prog f16 0 (.tup [.d (D.bool r.1), .d (D.bool r.2)]) (⟨[], []⟩)) := by
  rw [spec_CheckRoot_p4] at h
  cases o24
  · replace h := condF h
    cases v25
    · replace h := condF h
      conv => whnf
      obtain ⟨y96, e97, h⟩ := bind_ex h
      refine CallOk.of (spec_suZero_ct e97) ?_
      conv => whnf
      refine spl (fun g98 => ?_) (fun g98 => ?_)
      · replace h := iteT h g98
        conv => whnf
        exact CutK.piece (spec_CheckRoot_p5_ct  h) [some 384, some 448, some 2112] [] ⟨⟨rfl, rfl⟩, ⟨rfl, ⟨rfl, rfl, trivial⟩, ⟨rfl, rfl, trivial⟩, ⟨rfl, rfl, trivial⟩, trivial⟩, rfl, ⟨rfl, rfl⟩, ⟨rfl, rfl⟩, ⟨rfl, rfl⟩, rfl, rfl, trivial⟩
      · replace h := iteF h g98
        conv => whnf
        obtain ⟨y99, e100, h⟩ := bind_ex h
        refine CallOk.of (spec_suZero_ct e100) ?_
        conv => whnf
        refine spl (fun g101 => ?_) (fun g101 => ?_)
        · replace h := iteT h g101
          conv => whnf
          exact CutK.piece (spec_CheckRoot_p5_ct  h) [some 384, some 448, some 2112] [] ⟨⟨rfl, rfl⟩, ⟨rfl, ⟨rfl, rfl, trivial⟩, ⟨rfl, rfl, trivial⟩, ⟨rfl, rfl, trivial⟩, trivial⟩, rfl, ⟨rfl, rfl⟩, ⟨rfl, rfl⟩, ⟨rfl, rfl⟩, rfl, rfl, trivial⟩
        · replace h := iteF h g101
          conv => whnf
          exact CutK.piece (spec_CheckRoot_p5_ct  h) [some 384, some 448, some 2112] [] ⟨⟨rfl, rfl⟩, ⟨rfl, ⟨rfl, rfl, trivial⟩, ⟨rfl, rfl, trivial⟩, ⟨rfl, rfl, trivial⟩, trivial⟩, rfl, ⟨rfl, rfl⟩, ⟨rfl, rfl⟩, ⟨rfl, rfl⟩, rfl, rfl, trivial⟩
    · replace h := condT h
      conv => whnf
      obtain ⟨y102, e103, h⟩ := bind_ex h
      refine CallOk.of (spec_suZero_ct e103) ?_
      conv => whnf
      refine spl (fun g104 => ?_) (fun g104 => ?_)
      · replace h := iteT h g104
        conv => whnf
        exact CutK.piece (spec_CheckRoot_p5_ct  h) [some 384, some 448, some 2112] [] ⟨⟨rfl, rfl⟩, ⟨rfl, ⟨rfl, rfl, trivial⟩, ⟨rfl, rfl, trivial⟩, ⟨rfl, rfl, trivial⟩, trivial⟩, rfl, ⟨rfl, rfl⟩, ⟨rfl, rfl⟩, ⟨rfl, rfl⟩, rfl, rfl, trivial⟩
      · replace h := iteF h g104
        conv => whnf
        obtain ⟨y105, e106, h⟩ := bind_ex h
        refine CallOk.of (spec_suZero_ct e106) ?_
        conv => whnf
        refine spl (fun g107 => ?_) (fun g107 => ?_)
        · replace h := iteT h g107
          conv => whnf
          exact CutK.piece (spec_CheckRoot_p5_ct  h) [some 384, some 448, some 2112] [] ⟨⟨rfl, rfl⟩, ⟨rfl, ⟨rfl, rfl, trivial⟩, ⟨rfl, rfl, trivial⟩, ⟨rfl, rfl, trivial⟩, trivial⟩, rfl, ⟨rfl, rfl⟩, ⟨rfl, rfl⟩, ⟨rfl, rfl⟩, rfl, rfl, trivial⟩
        · replace h := iteF h g107
          conv => whnf
          exact CutK.piece (spec_CheckRoot_p5_ct  h) [some 384, some 448, some 2112] [] ⟨⟨rfl, rfl⟩, ⟨rfl, ⟨rfl, rfl, trivial⟩, ⟨rfl, rfl, trivial⟩, ⟨rfl, rfl, trivial⟩, trivial⟩, rfl, ⟨rfl, rfl⟩, ⟨rfl, rfl⟩, ⟨rfl, rfl⟩, rfl, rfl, trivial⟩
  · replace h := condT h
    cases v25
    · replace h := condF h
      conv => whnf
      obtain ⟨y108, e109, h⟩ := bind_ex h
      refine CallOk.of (spec_suZero_ct e109) ?_
      conv => whnf
      refine spl (fun g110 => ?_) (fun g110 => ?_)
      · replace h := iteT h g110
        conv => whnf
        exact CutK.piece (spec_CheckRoot_p5_ct  h) [some 384, some 448, some 2112] [] ⟨⟨rfl, rfl⟩, ⟨rfl, ⟨rfl, rfl, trivial⟩, ⟨rfl, rfl, trivial⟩, ⟨rfl, rfl, trivial⟩, trivial⟩, rfl, ⟨rfl, rfl⟩, ⟨rfl, rfl⟩, ⟨rfl, rfl⟩, rfl, rfl, trivial⟩
      · replace h := iteF h g110
        conv => whnf
        obtain ⟨y111, e112, h⟩ := bind_ex h
        refine CallOk.of (spec_suZero_ct e112) ?_
        conv => whnf
        refine spl (fun g113 => ?_) (fun g113 => ?_)
        · replace h := iteT h g113
          conv => whnf
          exact CutK.piece (spec_CheckRoot_p5_ct  h) [some 384, some 448, some 2112] [] ⟨⟨rfl, rfl⟩, ⟨rfl, ⟨rfl, rfl, trivial⟩, ⟨rfl, rfl, trivial⟩, ⟨rfl, rfl, trivial⟩, trivial⟩, rfl, ⟨rfl, rfl⟩, ⟨rfl, rfl⟩, ⟨rfl, rfl⟩, rfl, rfl, trivial⟩
        · replace h := iteF h g113
          conv => whnf
          exact CutK.piece (spec_CheckRoot_p5_ct  h) [some 384, some 448, some 2112] [] ⟨⟨rfl, rfl⟩, ⟨rfl, ⟨rfl, rfl, trivial⟩, ⟨rfl, rfl, trivial⟩, ⟨rfl, rfl, trivial⟩, trivial⟩, rfl, ⟨rfl, rfl⟩, ⟨rfl, rfl⟩, ⟨rfl, rfl⟩, rfl, rfl, trivial⟩
    · replace h := condT h
      conv => whnf
      obtain ⟨y114, e115, h⟩ := bind_ex h
      refine CallOk.of (spec_suZero_ct e115) ?_
      conv => whnf
      refine spl (fun g116 => ?_) (fun g116 => ?_)
      · replace h := iteT h g116
        conv => whnf
        exact CutK.piece (spec_CheckRoot_p5_ct  h) [some 384, some 448, some 2112] [] ⟨⟨rfl, rfl⟩, ⟨rfl, ⟨rfl, rfl, trivial⟩, ⟨rfl, rfl, trivial⟩, ⟨rfl, rfl, trivial⟩, trivial⟩, rfl, ⟨rfl, rfl⟩, ⟨rfl, rfl⟩, ⟨rfl, rfl⟩, rfl, rfl, trivial⟩
      · replace h := iteF h g116
        conv => whnf
        obtain ⟨y117, e118, h⟩ := bind_ex h
        refine CallOk.of (spec_suZero_ct e118) ?_
        conv => whnf
        refine spl (fun g119 => ?_) (fun g119 => ?_)
        · replace h := iteT h g119
          conv => whnf
          exact CutK.piece (spec_CheckRoot_p5_ct  h) [some 384, some 448, some 2112] [] ⟨⟨rfl, rfl⟩, ⟨rfl, ⟨rfl, rfl, trivial⟩, ⟨rfl, rfl, trivial⟩, ⟨rfl, rfl, trivial⟩, trivial⟩, rfl, ⟨rfl, rfl⟩, ⟨rfl, rfl⟩, ⟨rfl, rfl⟩, rfl, rfl, trivial⟩
        · replace h := iteF h g119
          conv => whnf
          exact CutK.piece (spec_CheckRoot_p5_ct  h) [some 384, some 448, some 2112] [] ⟨⟨rfl, rfl⟩, ⟨rfl, ⟨rfl, rfl, trivial⟩, ⟨rfl, rfl, trivial⟩, ⟨rfl, rfl, trivial⟩, trivial⟩, rfl, ⟨rfl, rfl⟩, ⟨rfl, rfl⟩, ⟨rfl, rfl⟩, rfl, rfl, trivial⟩
def spec_CheckRoot_p2 (k : Nat) (a1 : Rw) (a2 : Int) (a3 : Rw) (a4 : Rw) : Option (Bool × Bool) :=
  ((spec_seChecked_power k false a3 a2).bind fun y120 => ((spec_seChecked_add k y120.2 y120.1 a4).bind fun y122 => ((spec_suCmp k y122.1 a1).bind fun y124 => (if y124 = (0 : Int) then (spec_CheckRoot_p4 k a2 a3 a4 y122.2 true) else (spec_CheckRoot_p4 k a2 a3 a4 y122.2 false)))))
set_option maxHeartbeats 4000000 in
set_option maxRecDepth 100000 in
theorem spec_CheckRoot_p2_ct {k : Nat} {a1 : Rw} {a2 : Int} {a3 : Rw} {a4 : Rw} {r : Bool × Bool} (h : spec_CheckRoot_p2 k a1 a2 a3 a4 = some r) : X prog 0 (tlF f16 2) (mk 82 [(1, .d (D.int .i64 a2)), (4, .ptr 256 0), (6, .ptr 384 0), (7, .ptr 448 0)] [(256, .box 28 [.d (D.sl a1)]), (384, .box 28 [.d (D.sl a3)]), (448, .box 28 [.d (D.sl a4)])]) (finK prog f16 0 (.tup [.d (D.bool r.1), .d (D.bool r.2)]) (⟨[], []⟩)) := by
  rw [spec_CheckRoot_p2] at h
  conv => whnf
  obtain ⟨y120, e121, h⟩ := bind_ex h
  refine CallOk.of (spec_seChecked_power_ct e121) ?_
  conv => whnf
  obtain ⟨y122, e123, h⟩ := bind_ex h
  refine CallOk.of (spec_seChecked_add_ct e123) ?_
  conv => whnf
  obtain ⟨y124, e125, h⟩ := bind_ex h
  refine CallOk.of (spec_suCmp_ct e125) ?_
  conv => whnf
  refine splD (fun g126 => ?_) (fun g126 => ?_)
  · replace h := iteP h g126
    conv => whnf
    exact CutK.piece (spec_CheckRoot_p4_ct  h) [some 384, some 448, some 2112] [] ⟨⟨rfl, rfl⟩, ⟨rfl, ⟨rfl, rfl, trivial⟩, ⟨rfl, rfl, trivial⟩, ⟨rfl, rfl, trivial⟩, trivial⟩, rfl, ⟨rfl, rfl⟩, ⟨rfl, rfl⟩, ⟨rfl, rfl⟩, rfl, trivial⟩
  · replace h := iteN h g126
    conv => whnf
    exact CutK.piece (spec_CheckRoot_p4_ct  h) [some 384, some 448, some 2112] [] ⟨⟨rfl, rfl⟩, ⟨rfl, ⟨rfl, rfl, trivial⟩, ⟨rfl, rfl, trivial⟩, ⟨rfl, rfl, trivial⟩, trivial⟩, rfl, ⟨rfl, rfl⟩, ⟨rfl, rfl⟩, ⟨rfl, rfl⟩, rfl, trivial⟩
def spec_CheckRoot (k : Nat) (a1 : Rw) (a2 : Int) (a3 : Rw) (a4 : Rw) : Option (Bool × Bool) :=
  ((spec_suGood k a1).bind fun y127 => (if y127 = true then ((spec_seDegree a2).bind fun y130 => (if y130 = true then ((spec_suGood k a3).bind fun y133 => (if y133 = true then ((spec_suGood k a4).bind fun y136 => (if y136 = true then (spec_CheckRoot_p2 k a1 a2 a3 a4) else some (false, false))) else some (false, false))) else some (false, false))) else some (false, false)))
set_option maxHeartbeats 4000000 in
set_option maxRecDepth 100000 in
theorem spec_CheckRoot_ct {k : Nat} {a1 : Rw} {a2 : Int} {a3 : Rw} {a4 : Rw} {r : Bool × Bool} (h : spec_CheckRoot k a1 a2 a3 a4 = some r) : Ct prog 16 [.agg [.d (D.sl a1)], .d (D.int .i64 a2), .agg [.d (D.sl a3)], .agg [.d (D.sl a4)]] (⟨[], []⟩) (.tup [.d (D.bool r.1), .d (D.bool r.2)]) (⟨[], []⟩) := by
  rw [spec_CheckRoot] at h
  refine Ct.of (c := _) mixed func16 ⟨rfl, rfl, rfl⟩ ?_ rfl
  conv => whnf
  obtain ⟨y127, e128, h⟩ := bind_ex h
  refine CallOk.of (spec_suGood_ct e128) ?_
  conv => whnf
  refine spl (fun g129 => ?_) (fun g129 => ?_)
  · replace h := iteT h g129
    conv => whnf
    obtain ⟨y130, e131, h⟩ := bind_ex h
    refine CallOk.of (spec_seDegree_ct e131) ?_
    conv => whnf
    refine spl (fun g132 => ?_) (fun g132 => ?_)
    · replace h := iteT h g132
      conv => whnf
      obtain ⟨y133, e134, h⟩ := bind_ex h
      refine CallOk.of (spec_suGood_ct e134) ?_
      conv => whnf
      refine spl (fun g135 => ?_) (fun g135 => ?_)
      · replace h := iteT h g135
        conv => whnf
        obtain ⟨y136, e137, h⟩ := bind_ex h
        refine CallOk.of (spec_suGood_ct e137) ?_
        conv => whnf
        refine spl (fun g138 => ?_) (fun g138 => ?_)
        · replace h := iteT h g138
          conv => whnf
          refine CutK.norm [1, 4, 6, 7, 31] [256, 384, 448] ?_
          conv => whnf
          exact CutK.piece (spec_CheckRoot_p2_ct  h) [some 256, some 384, some 448] [] ⟨⟨rfl, rfl⟩, ⟨rfl, ⟨rfl, rfl, trivial⟩, ⟨rfl, rfl, trivial⟩, ⟨rfl, rfl, trivial⟩, trivial⟩, rfl, ⟨rfl, rfl⟩, ⟨rfl, rfl⟩, ⟨rfl, rfl⟩, trivial⟩
        · replace h := iteF h g138
          conv => whnf
          refine CutK.norm [1, 4, 6, 7, 31] [256, 384, 448] ?_
          conv => whnf
          cases h
          exact Done.of [] [] rfl rfl ⟨⟨rfl, rfl⟩, ⟨rfl, trivial⟩, ⟨rfl, rfl, trivial⟩, trivial⟩
      · replace h := iteF h g135
        conv => whnf
        refine CutK.norm [1, 4, 6, 7, 31] [256, 384, 448] ?_
        conv => whnf
        cases h
        exact Done.of [] [] rfl rfl ⟨⟨rfl, rfl⟩, ⟨rfl, trivial⟩, ⟨rfl, rfl, trivial⟩, trivial⟩
    · replace h := iteF h g132
      conv => whnf
      refine CutK.norm [1, 4, 6, 7, 31] [256, 384, 448] ?_
      conv => whnf
      cases h
      exact Done.of [] [] rfl rfl ⟨⟨rfl, rfl⟩, ⟨rfl, trivial⟩, ⟨rfl, rfl, trivial⟩, trivial⟩
  · replace h := iteF h g129
    conv => whnf
    refine CutK.norm [1, 4, 6, 7, 31] [256, 384, 448] ?_
    conv => whnf
    cases h
    exact Done.of [] [] rfl rfl ⟨⟨rfl, rfl⟩, ⟨rfl, trivial⟩, ⟨rfl, rfl, trivial⟩, trivial⟩

def laws_szSurrealTerm (rec_laws_szSurreal : Rw → Int → Option Int) (a1 : Rw) (a2 : Int) (a3 : Int) (a4 : Int) : Option Int :=
  ((rec_laws_szSurreal a1 a4).bind fun y5 => (if y5 < (0 : Int) then some (-1) else some y5))
set_option maxHeartbeats 4000000 in
set_option maxRecDepth 100000 in
theorem laws_szSurrealTerm_ct {rec_laws_szSurreal : Rw → Int → Option Int} (hrec_laws_szSurreal : ∀ (a1 : Rw) (a2 : Int) (r : Int), rec_laws_szSurreal a1 a2 = some r → Ct prog 7 [.agg [.d (D.sl a1)], .d (D.int .i64 a2)] (⟨[], []⟩) (.d (D.int .i64 r)) (⟨[], []⟩)) {a1 : Rw} {a2 : Int} {a3 : Int} {a4 : Int} {r : Int} (h : laws_szSurrealTerm rec_laws_szSurreal a1 a2 a3 a4 = some r) : Ct prog 58 [.agg [.d (D.sl a1), .d (D.int .i64 a2), .d (D.int .i64 a3)], .d (D.int .i64 a4)] (⟨[], []⟩) (.d (D.int .i64 r)) (⟨[], []⟩) := by
  rw [laws_szSurrealTerm] at h
  refine Ct.of (c := _) mixed func58 ⟨rfl, rfl, rfl⟩ ?_ rfl
  conv => whnf
  obtain ⟨y5, e6, h⟩ := bind_ex h
  refine CallOk.of (hrec_laws_szSurreal _ _ _ e6) ?_
  conv => whnf
  refine CutK.go ?_
  conv => whnf
  refine splD (fun g7 => ?_) (fun g7 => ?_)
  · replace h := iteP h g7
    conv => whnf
    cases h
    exact Done.of [] [] rfl rfl ⟨⟨rfl, rfl⟩, ⟨rfl, trivial⟩, rfl, trivial⟩
  · replace h := iteN h g7
    conv => whnf
    cases h
    exact Done.of [] [] rfl rfl ⟨⟨rfl, rfl⟩, ⟨rfl, trivial⟩, rfl, trivial⟩

def laws_szSurrealTermS_l0 (rec_laws_szSurreal : Rw → Int → Option Int) (a1 : Rw) (K0 : Int → Option Int) : Rw → Int → Option Int
  | [], v13 => (K0 v13)
  | cs :: rest, v13 => (cell_sii cs fun x34 x35 x36 => ((laws_szSurrealTerm rec_laws_szSurreal x34 x35 x36 v13).bind fun y38 => (if y38 < (0 : Int) then some (-1) else (laws_szSurrealTermS_l0 rec_laws_szSurreal a1 K0 rest y38))))
set_option maxRecDepth 100000 in
theorem laws_szSurrealTermS_l0_ct {rec_laws_szSurreal : Rw → Int → Option Int} {a1 : Rw} {K0 : Int → Option Int} (hrec_laws_szSurreal : ∀ (a1 : Rw) (a2 : Int) (r : Int), rec_laws_szSurreal a1 a2 = some r → Ct prog 7 [.agg [.d (D.sl a1)], .d (D.int .i64 a2)] (⟨[], []⟩) (.d (D.int .i64 r)) (⟨[], []⟩)) {r : Int} (hx : a1.length ≤ cap) : ∀ (rest : Rw) (v14n : Nat) (v13 : Int), a1.drop v14n = rest → laws_szSurrealTermS_l0 rec_laws_szSurreal a1 K0 rest v13 = some r → LoopOk prog 0 (lp f24 0) (mk 27 [(0, .d (D.sl a1)), (1, .d (D.int .i64 v13)), (5, .d (D.int .i64 (v14n : Int)))] []) (LoopEnd prog f24 0 27 (.d (D.int .i64 r)) (⟨[], []⟩) (fun i ts os => (i = 0 ∧ ∃ v24 : Int, K0 v24 = some r ∧ ts = [(1, .d (D.int .i64 v24))] ∧ os = [])))
  | [], v14n, v13, hd, h => by
      rw [laws_szSurrealTermS_l0] at h
      have hn := drop_nil hd
      refine LoopOk.step ?_
      conv => whnf
      refine splD (fun g => absurd g hn) (fun _ => ?_)
      conv => whnf
      exact ⟨_, _, [], [], ⟨rfl, _, h, rfl, rfl⟩, ⟨⟨rfl, rfl⟩, ⟨rfl, trivial⟩, rfl, trivial⟩⟩
  | cs :: rest, v14n, v13, hd, h => by
      rw [laws_szSurrealTermS_l0] at h
      obtain ⟨hrow, hd1, hlt⟩ := drop_cons hd
      refine LoopOk.step ?_
      conv => whnf
      refine splD (fun _ => ?_) (fun g => absurd hlt g)
      conv => whnf
      obtain ⟨x34, x35, x36, e37, h⟩ := cell_sii_ex h
      rw [e37] at hrow
      refine Req.of (Int.natCast_nonneg _) ?_
      refine Row.of _ hrow ?_
      conv => whnf
      obtain ⟨y38, e39, h⟩ := bind_ex h
      refine CallOk.of (laws_szSurrealTerm_ct hrec_laws_szSurreal e39) ?_
      conv => whnf
      refine CutK.go ?_
      conv => whnf
      refine splD (fun g40 => ?_) (fun g40 => ?_)
      · replace h := iteP h g40
        conv => whnf
        cases h
        exact Done.of [] [] rfl rfl ⟨⟨rfl, rfl⟩, ⟨rfl, trivial⟩, rfl, trivial⟩
      · replace h := iteN h g40
        conv => whnf
        refine CutK.go ?_
        conv => whnf
        exact LoopOk.back (laws_szSurrealTermS_l0_ct hrec_laws_szSurreal hx rest (v14n + 1) _ hd1 h) [] [] ⟨⟨rfl, rfl⟩, ⟨rfl, trivial⟩, rfl, rfl, i64eq (wrap_up hlt hx), trivial⟩
def laws_szSurrealTermS (rec_laws_szSurreal : Rw → Int → Option Int) (a1 : Rw) (a2 : Int) : Option Int :=
  (if (IntKind.i64.wrap (a2 - (a1.length : Int))) < (0 : Int) then some (-1) else (if a1.length ≤ cap then (laws_szSurrealTermS_l0 rec_laws_szSurreal a1 (fun (v24 : Int) => some v24) a1 (IntKind.i64.wrap (a2 - (a1.length : Int)))) else none))
set_option maxHeartbeats 4000000 in
set_option maxRecDepth 100000 in
theorem laws_szSurrealTermS_ct {rec_laws_szSurreal : Rw → Int → Option Int} (hrec_laws_szSurreal : ∀ (a1 : Rw) (a2 : Int) (r : Int), rec_laws_szSurreal a1 a2 = some r → Ct prog 7 [.agg [.d (D.sl a1)], .d (D.int .i64 a2)] (⟨[], []⟩) (.d (D.int .i64 r)) (⟨[], []⟩)) {a1 : Rw} {a2 : Int} {r : Int} (h : laws_szSurrealTermS rec_laws_szSurreal a1 a2 = some r) : Ct prog 24 [.d (D.sl a1), .d (D.int .i64 a2)] (⟨[], []⟩) (.d (D.int .i64 r)) (⟨[], []⟩) := by
  rw [laws_szSurrealTermS] at h
  refine Ct.of (c := _) mixed func24 ⟨rfl, rfl, rfl⟩ ?_ rfl
  conv => whnf
  refine splD (fun g3 => ?_) (fun g3 => ?_)
  · replace h := iteP h g3
    conv => whnf
    cases h
    exact Done.of [] [] rfl rfl ⟨⟨rfl, rfl⟩, ⟨rfl, trivial⟩, rfl, trivial⟩
  · replace h := iteN h g3
    conv => whnf
    obtain ⟨g41, h⟩ := req_ex h
    refine LoopOk.into (laws_szSurrealTermS_l0_ct hrec_laws_szSurreal g41 _ _ _ rfl h) [] [] ⟨⟨rfl, rfl⟩, ⟨rfl, trivial⟩, rfl, rfl, rfl, trivial⟩ ?_ (fun _ hs => hs)
    rintro i ts os ⟨rfl, v24, h, rfl, rfl⟩
    conv => whnf
    refine CutK.go ?_
    conv => whnf
    cases h
    exact Done.of [] [] rfl rfl ⟨⟨rfl, rfl⟩, ⟨rfl, trivial⟩, rfl, trivial⟩

def laws_szSurreal_b (rec_laws_szSurreal : Rw → Int → Option Int) (a1 : Rw) (a2 : Int) : Option Int :=
  ((laws_szSurrealTermS rec_laws_szSurreal a1 a2).bind fun y3 => (if y3 < (0 : Int) then some (-1) else some y3))
set_option maxHeartbeats 4000000 in
set_option maxRecDepth 100000 in
theorem laws_szSurreal_b_ct {rec_laws_szSurreal : Rw → Int → Option Int} (hrec_laws_szSurreal : ∀ (a1 : Rw) (a2 : Int) (r : Int), rec_laws_szSurreal a1 a2 = some r → Ct prog 7 [.agg [.d (D.sl a1)], .d (D.int .i64 a2)] (⟨[], []⟩) (.d (D.int .i64 r)) (⟨[], []⟩)) {a1 : Rw} {a2 : Int} {r : Int} (h : laws_szSurreal_b rec_laws_szSurreal a1 a2 = some r) : Ct prog 7 [.agg [.d (D.sl a1)], .d (D.int .i64 a2)] (⟨[], []⟩) (.d (D.int .i64 r)) (⟨[], []⟩) := by
  rw [laws_szSurreal_b] at h
  refine Ct.of (c := _) mixed func7 ⟨rfl, rfl, rfl⟩ ?_ rfl
  conv => whnf
  obtain ⟨y3, e4, h⟩ := bind_ex h
  refine CallOk.of (laws_szSurrealTermS_ct hrec_laws_szSurreal e4) ?_
  conv => whnf
  refine CutK.go ?_
  conv => whnf
  refine splD (fun g5 => ?_) (fun g5 => ?_)
  · replace h := iteP h g5
    conv => whnf
    cases h
    exact Done.of [] [] rfl rfl ⟨⟨rfl, rfl⟩, ⟨rfl, trivial⟩, rfl, trivial⟩
  · replace h := iteN h g5
    conv => whnf
    cases h
    exact Done.of [] [] rfl rfl ⟨⟨rfl, rfl⟩, ⟨rfl, trivial⟩, rfl, trivial⟩
def laws_szSurreal : Nat → Rw → Int → Option Int
  | 0, _, _ => none
  | k + 1, a1, a2 => laws_szSurreal_b (laws_szSurreal k) a1 a2
theorem laws_szSurreal_ct' : ∀ (k : Nat) (a1 : Rw) (a2 : Int) (r : Int), laws_szSurreal k a1 a2 = some r → Ct prog 7 [.agg [.d (D.sl a1)], .d (D.int .i64 a2)] (⟨[], []⟩) (.d (D.int .i64 r)) (⟨[], []⟩)
  | 0, _, _, _, h => by rw [laws_szSurreal] at h; cases h
  | k + 1, _, _, _, h => by rw [laws_szSurreal] at h; exact laws_szSurreal_b_ct (laws_szSurreal_ct' k) h
theorem laws_szSurreal_ct {k : Nat} {a1 : Rw} {a2 : Int} {r : Int} (h : laws_szSurreal k a1 a2 = some r) : Ct prog 7 [.agg [.d (D.sl a1)], .d (D.int .i64 a2)] (⟨[], []⟩) (.d (D.int .i64 r)) (⟨[], []⟩) := laws_szSurreal_ct' k _ _ _ h

def laws_FnExactCheckRoot_p17  : Option Bool :=
  some true
set_option maxHeartbeats 4000000 in
set_option maxRecDepth 100000 in
theorem laws_FnExactCheckRoot_p17_ct  {r : Bool} (h : laws_FnExactCheckRoot_p17 = some r) : X prog 0 (tlF f5 17) (mk 80 [] []) (finK prog f5 0 (.d (D.bool r)) (⟨[], []⟩)) := by
  rw [laws_FnExactCheckRoot_p17] at h
  conv => whnf
  cases h
  exact Done.of [] [] rfl rfl ⟨⟨rfl, rfl⟩, ⟨rfl, trivial⟩, rfl, trivial⟩
def laws_FnExactCheckRoot_p16 (k : Nat) (a4 : Rw) (o120 : Rw) : Option Bool :=
  ((laws_toSurreal k a4).bind fun y126 => ((laws_eqSurreal k o120 y126).bind fun y128 => (if y128 = true then (laws_FnExactCheckRoot_p17) else some false)))
set_option maxHeartbeats 4000000 in
set_option maxRecDepth 100000 in
theorem laws_FnExactCheckRoot_p16_ct {k : Nat} {a4 : Rw} {o120 : Rw} {r : Bool} (h : laws_FnExactCheckRoot_p16 k a4 o120 = some r) : X prog 0 (tlF f5 16) (mk 80 [(7, .ptr 448 0), (14, .ptr 896 0)] [(448, .box 24 [.d (D.sl a4)]), (896, .box 28 [.os 1144000 o120.length]), (1144000, .arr 80 true o120)]) (finK prog f5 0 (.d (D.bool r)) (⟨[], []⟩)) := by
  rw [laws_FnExactCheckRoot_p16] at h
  conv => whnf
  obtain ⟨y126, e127, h⟩ := bind_ex h
  refine CallOk.of (laws_toSurreal_ct e127) ?_
  conv => whnf
  refine Take.all (rfl) ?_
  conv => whnf
  refine Take.all (rfl) ?_
  conv => whnf
  obtain ⟨y128, e129, h⟩ := bind_ex h
  refine CallOk.of (laws_eqSurreal_ct e129) ?_
  conv => whnf
  refine spl (fun g130 => ?_) (fun g130 => ?_)
  · replace h := iteT h g130
    conv => whnf
    refine CutK.norm [79] [] ?_
    conv => whnf
    exact CutK.piece (laws_FnExactCheckRoot_p17_ct  h) [] [] ⟨⟨rfl, rfl⟩, ⟨rfl, trivial⟩, trivial⟩
  · replace h := iteF h g130
    conv => whnf
    refine CutK.norm [79] [] ?_
    conv => whnf
    cases h
    exact Done.of [] [] rfl rfl ⟨⟨rfl, rfl⟩, ⟨rfl, trivial⟩, rfl, trivial⟩
def laws_FnExactCheckRoot_p15 (k : Nat) (a3 : Rw) (a4 : Rw) (o98 : Rw) (o99 : Rw) : Option Bool :=
  ((laws_toSurreal k a3).bind fun y131 => ((laws_eqSurreal k o98 y131).bind fun y133 => (if y133 = true then (laws_FnExactCheckRoot_p16 k a4 o99) else some false)))
set_option maxHeartbeats 4000000 in
set_option maxRecDepth 100000 in
theorem laws_FnExactCheckRoot_p15_ct {k : Nat} {a3 : Rw} {a4 : Rw} {o98 : Rw} {o99 : Rw} {r : Bool} (h : laws_FnExactCheckRoot_p15 k a3 a4 o98 o99 = some r) : X prog 0 (tlF f5 15) (mk 80 [(6, .ptr 384 0), (7, .ptr 448 0), (13, .ptr 832 0), (14, .ptr 896 0)] [(384, .box 24 [.d (D.sl a3)]), (448, .box 24 [.d (D.sl a4)]), (832, .box 28 [.os 1139000 o98.length]), (896, .box 28 [.os 1139001 o99.length]), (1139000, .arr 80 true o98), (1139001, .arr 80 true o99)]) (finK prog f5 0 (.d (D.bool r)) (⟨[], []⟩)) := by
  rw [laws_FnExactCheckRoot_p15] at h
  conv => whnf
  obtain ⟨y131, e132, h⟩ := bind_ex h
  refine CallOk.of (laws_toSurreal_ct e132) ?_
  conv => whnf
  refine Take.all (rfl) ?_
  conv => whnf
  refine Take.all (rfl) ?_
  conv => whnf
  obtain ⟨y133, e134, h⟩ := bind_ex h
  refine CallOk.of (laws_eqSurreal_ct e134) ?_
  conv => whnf
  refine spl (fun g135 => ?_) (fun g135 => ?_)
  · replace h := iteT h g135
    conv => whnf
    refine CutK.norm [7, 14, 74] [448, 896, 1139001] ?_
    conv => whnf
    exact CutK.piece (laws_FnExactCheckRoot_p16_ct  h) [some 448, some 896, some 1139001] [] ⟨⟨rfl, rfl⟩, ⟨rfl, ⟨rfl, rfl, trivial⟩, ⟨rfl, ⟨rfl, rfl⟩, trivial⟩, ⟨rfl, rfl, rows_same⟩, trivial⟩, ⟨rfl, rfl⟩, ⟨rfl, rfl⟩, trivial⟩
  · replace h := iteF h g135
    conv => whnf
    refine CutK.norm [7, 14, 74] [448, 896, 1139001] ?_
    conv => whnf
    cases h
    exact Done.of [] [] rfl rfl ⟨⟨rfl, rfl⟩, ⟨rfl, trivial⟩, rfl, trivial⟩
def laws_FnExactCheckRoot_p13 (k : Nat) (a1 : Rw) (a3 : Rw) (a4 : Rw) (o70 : Rw) (o71 : Rw) (o72 : Rw) (v73 : Bool) (v75 : Bool) (v80 : Bool) (v86 : Bool) : Option Bool :=
  (cond v73 (cond v75 (cond v80 (cond v86 ((laws_toSurreal k a1).bind fun y151 => ((laws_eqSurreal k o70 y151).bind fun y153 => (if y153 = true then (laws_FnExactCheckRoot_p15 k a3 a4 o71 o72) else some false))) (some false)) (cond v86 (some false) (some false))) (cond v80 (cond v86 (some false) ((laws_toSurreal k a1).bind fun y146 => ((laws_eqSurreal k o70 y146).bind fun y148 => (if y148 = true then (laws_FnExactCheckRoot_p15 k a3 a4 o71 o72) else some false)))) (cond v86 (some false) (some false)))) (cond v75 (cond v80 (cond v86 (some false) (some false)) (cond v86 ((laws_toSurreal k a1).bind fun y141 => ((laws_eqSurreal k o70 y141).bind fun y143 => (if y143 = true then (laws_FnExactCheckRoot_p15 k a3 a4 o71 o72) else some false))) (some false))) (cond v80 (cond v86 (some false) (some false)) (cond v86 (some false) ((laws_toSurreal k a1).bind fun y136 => ((laws_eqSurreal k o70 y136).bind fun y138 => (if y138 = true then (laws_FnExactCheckRoot_p15 k a3 a4 o71 o72) else some false)))))))
set_option maxHeartbeats 4000000 in
set_option maxRecDepth 100000 in
theorem laws_FnExactCheckRoot_p13_ct {k : Nat} {a1 : Rw} {a3 : Rw} {a4 : Rw} {o70 : Rw} {o71 : Rw} {o72 : Rw} {v73 : Bool} {v75 : Bool} {v80 : Bool} {v86 : Bool} {r : Bool} (h : laws_FnExactCheckRoot_p13 k a1 a3 a4 o70 o71 o72 v73 v75 v80 v86 = some r) : X prog 0 (tlF f5 13) (mk 80 [(4, .ptr 256 0), (6, .ptr 384 0), (7, .ptr 448 0), (10, .d (D.bool v86)), (11, .d (D.bool v80)), (12, .ptr 768 0), (13, .ptr 832 0), (14, .ptr 896 0), (15, .d (D.bool v75)), (16, .d (D.bool v73))] [(256, .box 24 [.d (D.sl a1)]), (384, .box 24 [.d (D.sl a3)]), (448, .box 24 [.d (D.sl a4)]), (768, .box 28 [.os 1129000 o70.length]), (832, .box 28 [.os 1129001 o71.length]), (896, .box 28 [.os 1129002 o72.length]), (1129000, .arr 80 true o70), (1129001, .arr 80 true o71), (1129002, .arr 80 true o72)]) (finK prog f5 0 (.d (D.bool r)) (⟨[], []⟩)) := by
  rw [laws_FnExactCheckRoot_p13] at h
  cases v73
  · replace h := condF h
    cases v75
    · replace h := condF h
      cases v80
      · replace h := condF h
        cases v86
        · replace h := condF h
          conv => whnf
          refine splF ?_
          conv => whnf
          refine splF ?_
          conv => whnf
          obtain ⟨y136, e137, h⟩ := bind_ex h
          refine CallOk.of (laws_toSurreal_ct e137) ?_
          conv => whnf
          refine Take.all (rfl) ?_
          conv => whnf
          refine Take.all (rfl) ?_
          conv => whnf
          obtain ⟨y138, e139, h⟩ := bind_ex h
          refine CallOk.of (laws_eqSurreal_ct e139) ?_
          conv => whnf
          refine spl (fun g140 => ?_) (fun g140 => ?_)
          · replace h := iteT h g140
            conv => whnf
            refine CutK.norm [6, 7, 13, 14, 69] [384, 448, 832, 896, 1129001, 1129002] ?_
            conv => whnf
            exact CutK.piece (laws_FnExactCheckRoot_p15_ct  h) [some 384, some 448, some 832, some 896, some 1129001, some 1129002] [] ⟨⟨rfl, rfl⟩, ⟨rfl, ⟨rfl, rfl, trivial⟩, ⟨rfl, rfl, trivial⟩, ⟨rfl, ⟨rfl, rfl⟩, trivial⟩, ⟨rfl, ⟨rfl, rfl⟩, trivial⟩, ⟨rfl, rfl, rows_same⟩, ⟨rfl, rfl, rows_same⟩, trivial⟩, ⟨rfl, rfl⟩, ⟨rfl, rfl⟩, ⟨rfl, rfl⟩, ⟨rfl, rfl⟩, trivial⟩
          · replace h := iteF h g140
            conv => whnf
            refine CutK.norm [6, 7, 13, 14, 69] [384, 448, 832, 896, 1129001, 1129002] ?_
            conv => whnf
            cases h
            exact Done.of [] [] rfl rfl ⟨⟨rfl, rfl⟩, ⟨rfl, trivial⟩, rfl, trivial⟩
        · replace h := condT h
          conv => whnf
          refine splT ?_
          conv => whnf
          cases h
          exact Done.of [] [] rfl rfl ⟨⟨rfl, rfl⟩, ⟨rfl, trivial⟩, rfl, trivial⟩
      · replace h := condT h
        cases v86
        · replace h := condF h
          conv => whnf
          refine splF ?_
          conv => whnf
          refine splT ?_
          conv => whnf
          cases h
          exact Done.of [] [] rfl rfl ⟨⟨rfl, rfl⟩, ⟨rfl, trivial⟩, rfl, trivial⟩
        · replace h := condT h
          conv => whnf
          refine splT ?_
          conv => whnf
          cases h
          exact Done.of [] [] rfl rfl ⟨⟨rfl, rfl⟩, ⟨rfl, trivial⟩, rfl, trivial⟩
    · replace h := condT h
      cases v80
      · replace h := condF h
        cases v86
        · replace h := condF h
          conv => whnf
          refine splT ?_
          conv => whnf
          cases h
          exact Done.of [] [] rfl rfl ⟨⟨rfl, rfl⟩, ⟨rfl, trivial⟩, rfl, trivial⟩
        · replace h := condT h
          conv => whnf
          refine splF ?_
          conv => whnf
          refine splF ?_
          conv => whnf
          obtain ⟨y141, e142, h⟩ := bind_ex h
          refine CallOk.of (laws_toSurreal_ct e142) ?_
          conv => whnf
          refine Take.all (rfl) ?_
          conv => whnf
          refine Take.all (rfl) ?_
          conv => whnf
          obtain ⟨y143, e144, h⟩ := bind_ex h
          refine CallOk.of (laws_eqSurreal_ct e144) ?_
          conv => whnf
          refine spl (fun g145 => ?_) (fun g145 => ?_)
          · replace h := iteT h g145
            conv => whnf
            refine CutK.norm [6, 7, 13, 14, 69] [384, 448, 832, 896, 1129001, 1129002] ?_
            conv => whnf
            exact CutK.piece (laws_FnExactCheckRoot_p15_ct  h) [some 384, some 448, some 832, some 896, some 1129001, some 1129002] [] ⟨⟨rfl, rfl⟩, ⟨rfl, ⟨rfl, rfl, trivial⟩, ⟨rfl, rfl, trivial⟩, ⟨rfl, ⟨rfl, rfl⟩, trivial⟩, ⟨rfl, ⟨rfl, rfl⟩, trivial⟩, ⟨rfl, rfl, rows_same⟩, ⟨rfl, rfl, rows_same⟩, trivial⟩, ⟨rfl, rfl⟩, ⟨rfl, rfl⟩, ⟨rfl, rfl⟩, ⟨rfl, rfl⟩, trivial⟩
          · replace h := iteF h g145
            conv => whnf
            refine CutK.norm [6, 7, 13, 14, 69] [384, 448, 832, 896, 1129001, 1129002] ?_
            conv => whnf
            cases h
            exact Done.of [] [] rfl rfl ⟨⟨rfl, rfl⟩, ⟨rfl, trivial⟩, rfl, trivial⟩
      · replace h := condT h
        cases v86
        · replace h := condF h
          conv => whnf
          refine splT ?_
          conv => whnf
          cases h
          exact Done.of [] [] rfl rfl ⟨⟨rfl, rfl⟩, ⟨rfl, trivial⟩, rfl, trivial⟩
        · replace h := condT h
          conv => whnf
          refine splF ?_
          conv => whnf
          refine splT ?_
          conv => whnf
          cases h
          exact Done.of [] [] rfl rfl ⟨⟨rfl, rfl⟩, ⟨rfl, trivial⟩, rfl, trivial⟩
  · replace h := condT h
    cases v75
    · replace h := condF h
      cases v80
      · replace h := condF h
        cases v86
        · replace h := condF h
          conv => whnf
          refine splF ?_
          conv => whnf
          refine splT ?_
          conv => whnf
          cases h
          exact Done.of [] [] rfl rfl ⟨⟨rfl, rfl⟩, ⟨rfl, trivial⟩, rfl, trivial⟩
        · replace h := condT h
          conv => whnf
          refine splT ?_
          conv => whnf
          cases h
          exact Done.of [] [] rfl rfl ⟨⟨rfl, rfl⟩, ⟨rfl, trivial⟩, rfl, trivial⟩
      · replace h := condT h
        cases v86
        · replace h := condF h
          conv => whnf
          refine splF ?_
          conv => whnf
          refine splF ?_
          conv => whnf
          obtain ⟨y146, e147, h⟩ := bind_ex h
          refine CallOk.of (laws_toSurreal_ct e147) ?_
          conv => whnf
          refine Take.all (rfl) ?_
          conv => whnf
          refine Take.all (rfl) ?_
          conv => whnf
          obtain ⟨y148, e149, h⟩ := bind_ex h
          refine CallOk.of (laws_eqSurreal_ct e149) ?_
          conv => whnf
          refine spl (fun g150 => ?_) (fun g150 => ?_)
          · replace h := iteT h g150
            conv => whnf
            refine CutK.norm [6, 7, 13, 14, 69] [384, 448, 832, 896, 1129001, 1129002] ?_
            conv => whnf
            exact CutK.piece (laws_FnExactCheckRoot_p15_ct  h) [some 384, some 448, some 832, some 896, some 1129001, some 1129002] [] ⟨⟨rfl, rfl⟩, ⟨rfl, ⟨rfl, rfl, trivial⟩, ⟨rfl, rfl, trivial⟩, ⟨rfl, ⟨rfl, rfl⟩, trivial⟩, ⟨rfl, ⟨rfl, rfl⟩, trivial⟩, ⟨rfl, rfl, rows_same⟩, ⟨rfl, rfl, rows_same⟩, trivial⟩, ⟨rfl, rfl⟩, ⟨rfl, rfl⟩, ⟨rfl, rfl⟩, ⟨rfl, rfl⟩, trivial⟩
          · replace h := iteF h g150
            conv => whnf
            refine CutK.norm [6, 7, 13, 14, 69] [384, 448, 832, 896, 1129001, 1129002] ?_
            conv => whnf
            cases h
            exact Done.of [] [] rfl rfl ⟨⟨rfl, rfl⟩, ⟨rfl, trivial⟩, rfl, trivial⟩
        · replace h := condT h
          conv => whnf
          refine splT ?_
          conv => whnf
          cases h
          exact Done.of [] [] rfl rfl ⟨⟨rfl, rfl⟩, ⟨rfl, trivial⟩, rfl, trivial⟩
    · replace h := condT h
      cases v80
      · replace h := condF h
        cases v86
        · replace h := condF h
          conv => whnf
          refine splT ?_
          conv => whnf
          cases h
          exact Done.of [] [] rfl rfl ⟨⟨rfl, rfl⟩, ⟨rfl, trivial⟩, rfl, trivial⟩
        · replace h := condT h
          conv => whnf
          refine splF ?_
          conv => whnf
          refine splT ?_
          conv => whnf
          cases h
          exact Done.of [] [] rfl rfl ⟨⟨rfl, rfl⟩, ⟨rfl, trivial⟩, rfl, trivial⟩
      · replace h := condT h
        cases v86
        · replace h := condF h
          conv => whnf
          refine splT ?_
          conv => whnf
          cases h
          exact Done.of [] [] rfl rfl ⟨⟨rfl, rfl⟩, ⟨rfl, trivial⟩, rfl, trivial⟩
        · replace h := condT h
          conv => whnf
          refine splF ?_
          conv => whnf
          refine splF ?_
          conv => whnf
          obtain ⟨y151, e152, h⟩ := bind_ex h
          refine CallOk.of (laws_toSurreal_ct e152) ?_
          conv => whnf
          refine Take.all (rfl) ?_
          conv => whnf
          refine Take.all (rfl) ?_
          conv => whnf
          obtain ⟨y153, e154, h⟩ := bind_ex h
          refine CallOk.of (laws_eqSurreal_ct e154) ?_
          conv => whnf
          refine spl (fun g155 => ?_) (fun g155 => ?_)
          · replace h := iteT h g155
            conv => whnf
            refine CutK.norm [6, 7, 13, 14, 69] [384, 448, 832, 896, 1129001, 1129002] ?_
            conv => whnf
            exact CutK.piece (laws_FnExactCheckRoot_p15_ct  h) [some 384, some 448, some 832, some 896, some 1129001, some 1129002] [] ⟨⟨rfl, rfl⟩, ⟨rfl, ⟨rfl, rfl, trivial⟩, ⟨rfl, rfl, trivial⟩, ⟨rfl, ⟨rfl, rfl⟩, trivial⟩, ⟨rfl, ⟨rfl, rfl⟩, trivial⟩, ⟨rfl, rfl, rows_same⟩, ⟨rfl, rfl, rows_same⟩, trivial⟩, ⟨rfl, rfl⟩, ⟨rfl, rfl⟩, ⟨rfl, rfl⟩, ⟨rfl, rfl⟩, trivial⟩
          · replace h := iteF h g155
            conv => whnf
            refine CutK.norm [6, 7, 13, 14, 69] [384, 448, 832, 896, 1129001, 1129002] ?_
            conv => whnf
            cases h
            exact Done.of [] [] rfl rfl ⟨⟨rfl, rfl⟩, ⟨rfl, trivial⟩, rfl, trivial⟩
def laws_FnExactCheckRoot_p12 (k : Nat) (a1 : Rw) (a2 : Int) (a3 : Rw) (a4 : Rw) (o55 : Rw) (o56 : Rw) (o57 : Rw) (v60 : Bool) (v63 : Bool) : Option Bool :=
  (cond v60 (cond v63 ((impl_CheckRoot k o55 a2 o56 o57).bind fun y171 => (if y171.1 = true then (if y171.2 = true then (laws_FnExactCheckRoot_p13 k a1 a3 a4 o55 o56 o57 true true true true) else (laws_FnExactCheckRoot_p13 k a1 a3 a4 o55 o56 o57 false true true true)) else (if y171.2 = true then (laws_FnExactCheckRoot_p13 k a1 a3 a4 o55 o56 o57 true false true true) else (laws_FnExactCheckRoot_p13 k a1 a3 a4 o55 o56 o57 false false true true)))) ((impl_CheckRoot k o55 a2 o56 o57).bind fun y166 => (if y166.1 = true then (if y166.2 = true then (laws_FnExactCheckRoot_p13 k a1 a3 a4 o55 o56 o57 true true false true) else (laws_FnExactCheckRoot_p13 k a1 a3 a4 o55 o56 o57 false true false true)) else (if y166.2 = true then (laws_FnExactCheckRoot_p13 k a1 a3 a4 o55 o56 o57 true false false true) else (laws_FnExactCheckRoot_p13 k a1 a3 a4 o55 o56 o57 false false false true))))) (cond v63 ((impl_CheckRoot k o55 a2 o56 o57).bind fun y161 => (if y161.1 = true then (if y161.2 = true then (laws_FnExactCheckRoot_p13 k a1 a3 a4 o55 o56 o57 true true true false) else (laws_FnExactCheckRoot_p13 k a1 a3 a4 o55 o56 o57 false true true false)) else (if y161.2 = true then (laws_FnExactCheckRoot_p13 k a1 a3 a4 o55 o56 o57 true false true false) else (laws_FnExactCheckRoot_p13 k a1 a3 a4 o55 o56 o57 false false true false)))) ((impl_CheckRoot k o55 a2 o56 o57).bind fun y156 => (if y156.1 = true then (if y156.2 = true then (laws_FnExactCheckRoot_p13 k a1 a3 a4 o55 o56 o57 true true false false) else (laws_FnExactCheckRoot_p13 k a1 a3 a4 o55 o56 o57 false true false false)) else (if y156.2 = true then (laws_FnExactCheckRoot_p13 k a1 a3 a4 o55 o56 o57 true false false false) else (laws_FnExactCheckRoot_p13 k a1 a3 a4 o55 o56 o57 false false false false))))))
set_option maxHeartbeats 4000000 in
set_option maxRecDepth 100000 in
theorem laws_FnExactCheckRoot_p12_ct {k : Nat} {a1 : Rw} {a2 : Int} {a3 : Rw} {a4 : Rw} {o55 : Rw} {o56 : Rw} {o57 : Rw} {v60 : Bool} {v63 : Bool} {r : Bool} (h : laws_FnExactCheckRoot_p12 k a1 a2 a3 a4 o55 o56 o57 v60 v63 = some r) : X prog 0 (tlF f5 12) (mk 80 [(1, .d (D.int .i64 a2)), (4, .ptr 256 0), (6, .ptr 384 0), (7, .ptr 448 0), (10, .d (D.bool v60)), (11, .d (D.bool v63)), (12, .ptr 768 0), (13, .ptr 832 0), (14, .ptr 896 0)] [(256, .box 24 [.d (D.sl a1)]), (384, .box 24 [.d (D.sl a3)]), (448, .box 24 [.d (D.sl a4)]), (768, .box 28 [.os 1124000 o55.length]), (832, .box 28 [.os 1124001 o56.length]), (896, .box 28 [.os 1124002 o57.length]), (1124000, .arr 80 true o55), (1124001, .arr 80 true o56), (1124002, .arr 80 true o57)]) (finK prog f5 0 (.d (D.bool r)) (⟨[], []⟩)) := by
  rw [laws_FnExactCheckRoot_p12] at h
  cases v60
  · replace h := condF h
    cases v63
    · replace h := condF h
      conv => whnf
      refine Take.all (rfl) ?_
      conv => whnf
      refine Take.all (rfl) ?_
      conv => whnf
      refine Take.all (rfl) ?_
      conv => whnf
      obtain ⟨y156, e157, h⟩ := bind_ex h
      refine CallOk.of (impl_CheckRoot_ct e157) ?_
      conv => whnf
      refine spl (fun g158 => ?_) (fun g158 => ?_)
      · replace h := iteT h g158
        conv => whnf
        refine spl (fun g159 => ?_) (fun g159 => ?_)
        · replace h := iteT h g159
          conv => whnf
          exact CutK.piece (laws_FnExactCheckRoot_p13_ct  h) [some 256, some 384, some 448, some 768, some 832, some 896, some 1124000, some 1124001, some 1124002] [] ⟨⟨rfl, rfl⟩, ⟨rfl, ⟨rfl, rfl, trivial⟩, ⟨rfl, rfl, trivial⟩, ⟨rfl, rfl, trivial⟩, ⟨rfl, ⟨rfl, rfl⟩, trivial⟩, ⟨rfl, ⟨rfl, rfl⟩, trivial⟩, ⟨rfl, ⟨rfl, rfl⟩, trivial⟩, ⟨rfl, rfl, rows_same⟩, ⟨rfl, rfl, rows_same⟩, ⟨rfl, rfl, rows_same⟩, trivial⟩, ⟨rfl, rfl⟩, ⟨rfl, rfl⟩, ⟨rfl, rfl⟩, rfl, rfl, ⟨rfl, rfl⟩, ⟨rfl, rfl⟩, ⟨rfl, rfl⟩, rfl, rfl, trivial⟩
        · replace h := iteF h g159
          conv => whnf
          exact CutK.piece (laws_FnExactCheckRoot_p13_ct  h) [some 256, some 384, some 448, some 768, some 832, some 896, some 1124000, some 1124001, some 1124002] [] ⟨⟨rfl, rfl⟩, ⟨rfl, ⟨rfl, rfl, trivial⟩, ⟨rfl, rfl, trivial⟩, ⟨rfl, rfl, trivial⟩, ⟨rfl, ⟨rfl, rfl⟩, trivial⟩, ⟨rfl, ⟨rfl, rfl⟩, trivial⟩, ⟨rfl, ⟨rfl, rfl⟩, trivial⟩, ⟨rfl, rfl, rows_same⟩, ⟨rfl, rfl, rows_same⟩, ⟨rfl, rfl, rows_same⟩, trivial⟩, ⟨rfl, rfl⟩, ⟨rfl, rfl⟩, ⟨rfl, rfl⟩, rfl, rfl, ⟨rfl, rfl⟩, ⟨rfl, rfl⟩, ⟨rfl, rfl⟩, rfl, rfl, trivial⟩
      · replace h := iteF h g158
        conv => whnf
        refine spl (fun g160 => ?_) (fun g160 => ?_)
        · replace h := iteT h g160
          conv => whnf
          exact CutK.piece (laws_FnExactCheckRoot_p13_ct  h) [some 256, some 384, some 448, some 768, some 832, some 896, some 1124000, some 1124001, some 1124002] [] ⟨⟨rfl, rfl⟩, ⟨rfl, ⟨rfl, rfl, trivial⟩, ⟨rfl, rfl, trivial⟩, ⟨rfl, rfl, trivial⟩, ⟨rfl, ⟨rfl, rfl⟩, trivial⟩, ⟨rfl, ⟨rfl, rfl⟩, trivial⟩, ⟨rfl, ⟨rfl, rfl⟩, trivial⟩, ⟨rfl, rfl, rows_same⟩, ⟨rfl, rfl, rows_same⟩, ⟨rfl, rfl, rows_same⟩, trivial⟩, ⟨rfl, rfl⟩, ⟨rfl, rfl⟩, ⟨rfl, rfl⟩, rfl, rfl, ⟨rfl, rfl⟩, ⟨rfl, rfl⟩, ⟨rfl, rfl⟩, rfl, rfl, trivial⟩
        · replace h := iteF h g160
          conv => whnf
          exact CutK.piece (laws_FnExactCheckRoot_p13_ct  h) [some 256, some 384, some 448, some 768, some 832, some 896, some 1124000, some 1124001, some 1124002] [] ⟨⟨rfl, rfl⟩, ⟨rfl, ⟨rfl, rfl, trivial⟩, ⟨rfl, rfl, trivial⟩, ⟨rfl, rfl, trivial⟩, ⟨rfl, ⟨rfl, rfl⟩, trivial⟩, ⟨rfl, ⟨rfl, rfl⟩, trivial⟩, ⟨rfl, ⟨rfl, rfl⟩, trivial⟩, ⟨rfl, rfl, rows_same⟩, ⟨rfl, rfl, rows_same⟩, ⟨rfl, rfl, rows_same⟩, trivial⟩, ⟨rfl, rfl⟩, ⟨rfl, rfl⟩, ⟨rfl, rfl⟩, rfl, rfl, ⟨rfl, rfl⟩, ⟨rfl, rfl⟩, ⟨rfl, rfl⟩, rfl, rfl, trivial⟩
    · replace h := condT h
      conv => whnf
      refine Take.all (rfl) ?_
      conv => whnf
      refine Take.all (rfl) ?_
      conv => whnf
      refine Take.all (rfl) ?_
      conv => whnf
      obtain ⟨y161, e162, h⟩ := bind_ex h
      refine CallOk.of (impl_CheckRoot_ct e162) ?_
      conv => whnf
      refine spl (fun g163 => ?_) (fun g163 => ?_)
      · replace h := iteT h g163
        conv => whnf
        refine spl (fun g164 => ?_) (fun g164 => ?_)
        · replace h := iteT h g164
          conv => whnf
          exact CutK.piece (laws_FnExactCheckRoot_p13_ct  h) [some 256, some 384, some 448, some 768, some 832, some 896, some 1124000, some 1124001, some 1124002] [] ⟨⟨rfl, rfl⟩, ⟨rfl, ⟨rfl, rfl, trivial⟩, ⟨rfl, rfl, trivial⟩, ⟨rfl, rfl, trivial⟩, ⟨rfl, ⟨rfl, rfl⟩, trivial⟩, ⟨rfl, ⟨rfl, rfl⟩, trivial⟩, ⟨rfl, ⟨rfl, rfl⟩, trivial⟩, ⟨rfl, rfl, rows_same⟩, ⟨rfl, rfl, rows_same⟩, ⟨rfl, rfl, rows_same⟩, trivial⟩, ⟨rfl, rfl⟩, ⟨rfl, rfl⟩, ⟨rfl, rfl⟩, rfl, rfl, ⟨rfl, rfl⟩, ⟨rfl, rfl⟩, ⟨rfl, rfl⟩, rfl, rfl, trivial⟩
        · replace h := iteF h g164
          conv => whnf
          exact CutK.piece (laws_FnExactCheckRoot_p13_ct  h) [some 256, some 384, some 448, some 768, some 832, some 896, some 1124000, some 1124001, some 1124002] [] ⟨⟨rfl, rfl⟩, ⟨rfl, ⟨rfl, rfl, trivial⟩, ⟨rfl, rfl, trivial⟩, ⟨rfl, rfl, trivial⟩, ⟨rfl, ⟨rfl, rfl⟩, trivial⟩, ⟨rfl, ⟨rfl, rfl⟩, trivial⟩, ⟨rfl, ⟨rfl, rfl⟩, trivial⟩, ⟨rfl, rfl, rows_same⟩, ⟨rfl, rfl, rows_same⟩, ⟨rfl, rfl, rows_same⟩, trivial⟩, ⟨rfl, rfl⟩, ⟨rfl, rfl⟩, ⟨rfl, rfl⟩, rfl, rfl, ⟨rfl, rfl⟩, ⟨rfl, rfl⟩, ⟨rfl, rfl⟩, rfl, rfl, trivial⟩
      · replace h := iteF h g163
        conv => whnf
        refine spl (fun g165 => ?_) (fun g165 => ?_)
        · replace h := iteT h g165
          conv => whnf
          exact CutK.piece (laws_FnExactCheckRoot_p13_ct  h) [some 256, some 384, some 448, some 768, some 832, some 896, some 1124000, some 1124001, some 1124002] [] ⟨⟨rfl, rfl⟩, ⟨rfl, ⟨rfl, rfl, trivial⟩, ⟨rfl, rfl, trivial⟩, ⟨rfl, rfl, trivial⟩, ⟨rfl, ⟨rfl, rfl⟩, trivial⟩, ⟨rfl, ⟨rfl, rfl⟩, trivial⟩, ⟨rfl, ⟨rfl, rfl⟩, trivial⟩, ⟨rfl, rfl, rows_same⟩, ⟨rfl, rfl, rows_same⟩, ⟨rfl, rfl, rows_same⟩, trivial⟩, ⟨rfl, rfl⟩, ⟨rfl, rfl⟩, ⟨rfl, rfl⟩, rfl, rfl, ⟨rfl, rfl⟩, ⟨rfl, rfl⟩, ⟨rfl, rfl⟩, rfl, rfl, trivial⟩
        · replace h := iteF h g165
          conv => whnf
          exact CutK.piece (laws_FnExactCheckRoot_p13_ct  h) [some 256, some 384, some 448, some 768, some 832, some 896, some 1124000, some 1124001, some 1124002] [] ⟨⟨rfl, rfl⟩, ⟨rfl, ⟨rfl, rfl, trivial⟩, ⟨rfl, rfl, trivial⟩, ⟨rfl, rfl, trivial⟩, ⟨rfl, ⟨rfl, rfl⟩, trivial⟩, ⟨rfl, ⟨rfl, rfl⟩, trivial⟩, ⟨rfl, ⟨rfl, rfl⟩, trivial⟩, ⟨rfl, rfl, rows_same⟩, ⟨rfl, rfl, rows_same⟩, ⟨rfl, rfl, rows_same⟩, trivial⟩, ⟨rfl, rfl⟩, ⟨rfl, rfl⟩, ⟨rfl, rfl⟩, rfl, rfl, ⟨rfl, rfl⟩, ⟨rfl, rfl⟩, ⟨rfl, rfl⟩, rfl, rfl, trivial⟩
  · replace h := condT h
    cases v63
    · replace h := condF h
      conv => whnf
      refine Take.all (rfl) ?_
      conv => whnf
      refine Take.all (rfl) ?_
      conv => whnf
      refine Take.all (rfl) ?_
      conv => whnf
      obtain ⟨y166, e167, h⟩ := bind_ex h
      refine CallOk.of (impl_CheckRoot_ct e167) ?_
      conv => whnf
      refine spl (fun g168 => ?_) (fun g168 => ?_)
      · replace h := iteT h g168
        conv => whnf
        refine spl (fun g169 => ?_) (fun g169 => ?_)
        · replace h := iteT h g169
          conv => whnf
          exact CutK.piece (laws_FnExactCheckRoot_p13_ct  h) [some 256, some 384, some 448, some 768, some 832, some 896, some 1124000, some 1124001, some 1124002] [] ⟨⟨rfl, rfl⟩, ⟨rfl, ⟨rfl, rfl, trivial⟩, ⟨rfl, rfl, trivial⟩, ⟨rfl, rfl, trivial⟩, ⟨rfl, ⟨rfl, rfl⟩, trivial⟩, ⟨rfl, ⟨rfl, rfl⟩, trivial⟩, ⟨rfl, ⟨rfl, rfl⟩, trivial⟩, ⟨rfl, rfl, rows_same⟩, ⟨rfl, rfl, rows_same⟩, ⟨rfl, rfl, rows_same⟩, trivial⟩, ⟨rfl, rfl⟩, ⟨rfl, rfl⟩, ⟨rfl, rfl⟩, rfl, rfl, ⟨rfl, rfl⟩, ⟨rfl, rfl⟩, ⟨rfl, rfl⟩, rfl, rfl, trivial⟩
        · replace h := iteF h g169
          conv => whnf
          exact CutK.piece (laws_FnExactCheckRoot_p13_ct  h) [some 256, some 384, some 448, some 768, some 832, some 896, some 1124000, some 1124001, some 1124002] [] ⟨⟨rfl, rfl⟩, ⟨rfl, ⟨rfl, rfl, trivial⟩, ⟨rfl, rfl, trivial⟩, ⟨rfl, rfl, trivial⟩, ⟨rfl, ⟨rfl, rfl⟩, trivial⟩, ⟨rfl, ⟨rfl, rfl⟩, trivial⟩, ⟨rfl, ⟨rfl, rfl⟩, trivial⟩, ⟨rfl, rfl, rows_same⟩, ⟨rfl, rfl, rows_same⟩, ⟨rfl, rfl, rows_same⟩, trivial⟩, ⟨rfl, rfl⟩, ⟨rfl, rfl⟩, ⟨rfl, rfl⟩, rfl, rfl, ⟨rfl, rfl⟩, ⟨rfl, rfl⟩, ⟨rfl, rfl⟩, rfl, rfl, trivial⟩
      · replace h := iteF h g168
        conv => whnf
        refine spl (fun g170 => ?_) (fun g170 => ?_)
        · replace h := iteT h g170
          conv => whnf
          exact CutK.piece (laws_FnExactCheckRoot_p13_ct  h) [some 256, some 384, some 448, some 768, some 832, some 896, some 1124000, some 1124001, some 1124002] [] ⟨⟨rfl, rfl⟩, ⟨rfl, ⟨rfl, rfl, trivial⟩, ⟨rfl, rfl, trivial⟩, ⟨rfl, rfl, trivial⟩, ⟨rfl, ⟨rfl, rfl⟩, trivial⟩, ⟨rfl, ⟨rfl, rfl⟩, trivial⟩, ⟨rfl, ⟨rfl, rfl⟩, trivial⟩, ⟨rfl, rfl, rows_same⟩, ⟨rfl, rfl, rows_same⟩, ⟨rfl, rfl, rows_same⟩, trivial⟩, ⟨rfl, rfl⟩, ⟨rfl, rfl⟩, ⟨rfl, rfl⟩, rfl, rfl, ⟨rfl, rfl⟩, ⟨rfl, rfl⟩, ⟨rfl, rfl⟩, rfl, rfl, trivial⟩
        · replace h := iteF h g170
          conv => whnf
          exact CutK.piece (laws_FnExactCheckRoot_p13_ct  h) [some 256, some 384, some 448, some 768, some 832, some 896, some 1124000, some 1124001, some 1124002] [] ⟨⟨rfl, rfl⟩, ⟨rfl, ⟨rfl, rfl, trivial⟩, ⟨rfl, rfl, trivial⟩, ⟨rfl, rfl, trivial⟩, ⟨rfl, ⟨rfl, rfl⟩, trivial⟩, ⟨rfl, ⟨rfl, rfl⟩, trivial⟩, ⟨rfl, ⟨rfl, rfl⟩, trivial⟩, ⟨rfl, rfl, rows_same⟩, ⟨rfl, rfl, rows_same⟩, ⟨rfl, rfl, rows_same⟩, trivial⟩, ⟨rfl, rfl⟩, ⟨rfl, rfl⟩, ⟨rfl, rfl⟩, rfl, rfl, ⟨rfl, rfl⟩, ⟨rfl, rfl⟩, ⟨rfl, rfl⟩, rfl, rfl, trivial⟩
    · replace h := condT h
      conv => whnf
      refine Take.all (rfl) ?_
      conv => whnf
      refine Take.all (rfl) ?_
      conv => whnf
      refine Take.all (rfl) ?_
      conv => whnf
      obtain ⟨y171, e172, h⟩ := bind_ex h
      refine CallOk.of (impl_CheckRoot_ct e172) ?_
      conv => whnf
      refine spl (fun g173 => ?_) (fun g173 => ?_)
      · replace h := iteT h g173
        conv => whnf
        refine spl (fun g174 => ?_) (fun g174 => ?_)
        · replace h := iteT h g174
          conv => whnf
          exact CutK.piece (laws_FnExactCheckRoot_p13_ct  h) [some 256, some 384, some 448, some 768, some 832, some 896, some 1124000, some 1124001, some 1124002] [] ⟨⟨rfl, rfl⟩, ⟨rfl, ⟨rfl, rfl, trivial⟩, ⟨rfl, rfl, trivial⟩, ⟨rfl, rfl, trivial⟩, ⟨rfl, ⟨rfl, rfl⟩, trivial⟩, ⟨rfl, ⟨rfl, rfl⟩, trivial⟩, ⟨rfl, ⟨rfl, rfl⟩, trivial⟩, ⟨rfl, rfl, rows_same⟩, ⟨rfl, rfl, rows_same⟩, ⟨rfl, rfl, rows_same⟩, trivial⟩, ⟨rfl, rfl⟩, ⟨rfl, rfl⟩, ⟨rfl, rfl⟩, rfl, rfl, ⟨rfl, rfl⟩, ⟨rfl, rfl⟩, ⟨rfl, rfl⟩, rfl, rfl, trivial⟩
        · replace h := iteF h g174
          conv => whnf
          exact CutK.piece (laws_FnExactCheckRoot_p13_ct  h) [some 256, some 384, some 448, some 768, some 832, some 896, some 1124000, some 1124001, some 1124002] [] ⟨⟨rfl, rfl⟩, ⟨rfl, ⟨rfl, rfl, trivial⟩, ⟨rfl, rfl, trivial⟩, ⟨rfl, rfl, trivial⟩, ⟨rfl, ⟨rfl, rfl⟩, trivial⟩, ⟨rfl, ⟨rfl, rfl⟩, trivial⟩, ⟨rfl, ⟨rfl, rfl⟩, trivial⟩, ⟨rfl, rfl, rows_same⟩, ⟨rfl, rfl, rows_same⟩, ⟨rfl, rfl, rows_same⟩, trivial⟩, ⟨rfl, rfl⟩, ⟨rfl, rfl⟩, ⟨rfl, rfl⟩, rfl, rfl, ⟨rfl, rfl⟩, ⟨rfl, rfl⟩, ⟨rfl, rfl⟩, rfl, rfl, trivial⟩
      · replace h := iteF h g173
        conv => whnf
        refine spl (fun g175 => ?_) (fun g175 => ?_)
        · replace h := iteT h g175
          conv => whnf
          exact CutK.piece (laws_FnExactCheckRoot_p13_ct  h) [some 256, some 384, some 448, some 768, some 832, some 896, some 1124000, some 1124001, some 1124002] [] ⟨⟨rfl, rfl⟩, ⟨rfl, ⟨rfl, rfl, trivial⟩, ⟨rfl, rfl, trivial⟩, ⟨rfl, rfl, trivial⟩, ⟨rfl, ⟨rfl, rfl⟩, trivial⟩, ⟨rfl, ⟨rfl, rfl⟩, trivial⟩, ⟨rfl, ⟨rfl, rfl⟩, trivial⟩, ⟨rfl, rfl, rows_same⟩, ⟨rfl, rfl, rows_same⟩, ⟨rfl, rfl, rows_same⟩, trivial⟩, ⟨rfl, rfl⟩, ⟨rfl, rfl⟩, ⟨rfl, rfl⟩, rfl, rfl, ⟨rfl, rfl⟩, ⟨rfl, rfl⟩, ⟨rfl, rfl⟩, rfl, rfl, trivial⟩
        · replace h := iteF h g175
          conv => whnf
          exact CutK.piece (laws_FnExactCheckRoot_p13_ct  h) [some 256, some 384, some 448, some 768, some 832, some 896, some 1124000, some 1124001, some 1124002] [] ⟨⟨rfl, rfl⟩, ⟨rfl, ⟨rfl, rfl, trivial⟩, ⟨rfl, rfl, trivial⟩, ⟨rfl, rfl, trivial⟩, ⟨rfl, ⟨rfl, rfl⟩, trivial⟩, ⟨rfl, ⟨rfl, rfl⟩, trivial⟩, ⟨rfl, ⟨rfl, rfl⟩, trivial⟩, ⟨rfl, rfl, rows_same⟩, ⟨rfl, rfl, rows_same⟩, ⟨rfl, rfl, rows_same⟩, trivial⟩, ⟨rfl, rfl⟩, ⟨rfl, rfl⟩, ⟨rfl, rfl⟩, rfl, rfl, ⟨rfl, rfl⟩, ⟨rfl, rfl⟩, ⟨rfl, rfl⟩, rfl, rfl, trivial⟩
def laws_FnExactCheckRoot_p11 (k : Nat) (a1 : Rw) (a2 : Int) (a3 : Rw) (a4 : Rw) (o43 : Rw) (o44 : Rw) (v47 : Bool) (v50 : Bool) : Option Bool :=
  (cond v47 (cond v50 ((laws_toSurreal k a4).bind fun y182 => (laws_FnExactCheckRoot_p12 k a1 a2 a3 a4 o43 o44 y182 true true)) ((laws_toSurreal k a4).bind fun y180 => (laws_FnExactCheckRoot_p12 k a1 a2 a3 a4 o43 o44 y180 false true))) (cond v50 ((laws_toSurreal k a4).bind fun y178 => (laws_FnExactCheckRoot_p12 k a1 a2 a3 a4 o43 o44 y178 true false)) ((laws_toSurreal k a4).bind fun y176 => (laws_FnExactCheckRoot_p12 k a1 a2 a3 a4 o43 o44 y176 false false))))
set_option maxHeartbeats 4000000 in
set_option maxRecDepth 100000 in
theorem laws_FnExactCheckRoot_p11_ct {k : Nat} {a1 : Rw} {a2 : Int} {a3 : Rw} {a4 : Rw} {o43 : Rw} {o44 : Rw} {v47 : Bool} {v50 : Bool} {r : Bool} (h : laws_FnExactCheckRoot_p11 k a1 a2 a3 a4 o43 o44 v47 v50 = some r) : X prog 0 (tlF f5 11) (mk 80 [(1, .d (D.int .i64 a2)), (4, .ptr 256 0), (6, .ptr 384 0), (7, .ptr 448 0), (10, .d (D.bool v50)), (11, .d (D.bool v47)), (12, .ptr 768 0), (13, .ptr 832 0)] [(256, .box 24 [.d (D.sl a1)]), (384, .box 24 [.d (D.sl a3)]), (448, .box 24 [.d (D.sl a4)]), (768, .box 28 [.os 1119000 o43.length]), (832, .box 28 [.os 1119001 o44.length]), (1119000, .arr 80 true o43), (1119001, .arr 80 true o44)]) (finK prog f5 0 (.d (D.bool r)) (⟨[], []⟩)) := by
  rw [laws_FnExactCheckRoot_p11] at h
  cases v47
  · replace h := condF h
    cases v50
    · replace h := condF h
      conv => whnf
      obtain ⟨y176, e177, h⟩ := bind_ex h
      refine CallOk.of (laws_toSurreal_ct e177) ?_
      conv => whnf
      exact CutK.piece (laws_FnExactCheckRoot_p12_ct  h) [some 256, some 384, some 448, some 768, some 832, some 896, some 1119000, some 1119001, some 3072] [] ⟨⟨rfl, rfl⟩, ⟨rfl, ⟨rfl, rfl, trivial⟩, ⟨rfl, rfl, trivial⟩, ⟨rfl, rfl, trivial⟩, ⟨rfl, ⟨rfl, rfl⟩, trivial⟩, ⟨rfl, ⟨rfl, rfl⟩, trivial⟩, ⟨rfl, ⟨rfl, rfl⟩, trivial⟩, ⟨rfl, rfl, rows_same⟩, ⟨rfl, rfl, rows_same⟩, ⟨rfl, rfl, rows_same⟩, trivial⟩, rfl, ⟨rfl, rfl⟩, ⟨rfl, rfl⟩, ⟨rfl, rfl⟩, rfl, rfl, ⟨rfl, rfl⟩, ⟨rfl, rfl⟩, ⟨rfl, rfl⟩, trivial⟩
    · replace h := condT h
      conv => whnf
      obtain ⟨y178, e179, h⟩ := bind_ex h
      refine CallOk.of (laws_toSurreal_ct e179) ?_
      conv => whnf
      exact CutK.piece (laws_FnExactCheckRoot_p12_ct  h) [some 256, some 384, some 448, some 768, some 832, some 896, some 1119000, some 1119001, some 3072] [] ⟨⟨rfl, rfl⟩, ⟨rfl, ⟨rfl, rfl, trivial⟩, ⟨rfl, rfl, trivial⟩, ⟨rfl, rfl, trivial⟩, ⟨rfl, ⟨rfl, rfl⟩, trivial⟩, ⟨rfl, ⟨rfl, rfl⟩, trivial⟩, ⟨rfl, ⟨rfl, rfl⟩, trivial⟩, ⟨rfl, rfl, rows_same⟩, ⟨rfl, rfl, rows_same⟩, ⟨rfl, rfl, rows_same⟩, trivial⟩, rfl, ⟨rfl, rfl⟩, ⟨rfl, rfl⟩, ⟨rfl, rfl⟩, rfl, rfl, ⟨rfl, rfl⟩, ⟨rfl, rfl⟩, ⟨rfl, rfl⟩, trivial⟩
  · replace h := condT h
    cases v50
    · replace h := condF h
      conv => whnf
      obtain ⟨y180, e181, h⟩ := bind_ex h
      refine CallOk.of (laws_toSurreal_ct e181) ?_
      conv => whnf
      exact CutK.piece (laws_FnExactCheckRoot_p12_ct  h) [some 256, some 384, some 448, some 768, some 832, some 896, some 1119000, some 1119001, some 3072] [] ⟨⟨rfl, rfl⟩, ⟨rfl, ⟨rfl, rfl, trivial⟩, ⟨rfl, rfl, trivial⟩, ⟨rfl, rfl, trivial⟩, ⟨rfl, ⟨rfl, rfl⟩, trivial⟩, ⟨rfl, ⟨rfl, rfl⟩, trivial⟩, ⟨rfl, ⟨rfl, rfl⟩, trivial⟩, ⟨rfl, rfl, rows_same⟩, ⟨rfl, rfl, rows_same⟩, ⟨rfl, rfl, rows_same⟩, trivial⟩, rfl, ⟨rfl, rfl⟩, ⟨rfl, rfl⟩, ⟨rfl, rfl⟩, rfl, rfl, ⟨rfl, rfl⟩, ⟨rfl, rfl⟩, ⟨rfl, rfl⟩, trivial⟩
    · replace h := condT h
      conv => whnf
      obtain ⟨y182, e183, h⟩ := bind_ex h
      refine CallOk.of (laws_toSurreal_ct e183) ?_
      conv => whnf
      exact CutK.piece (laws_FnExactCheckRoot_p12_ct  h) [some 256, some 384, some 448, some 768, some 832, some 896, some 1119000, some 1119001, some 3072] [] ⟨⟨rfl, rfl⟩, ⟨rfl, ⟨rfl, rfl, trivial⟩, ⟨rfl, rfl, trivial⟩, ⟨rfl, rfl, trivial⟩, ⟨rfl, ⟨rfl, rfl⟩, trivial⟩, ⟨rfl, ⟨rfl, rfl⟩, trivial⟩, ⟨rfl, ⟨rfl, rfl⟩, trivial⟩, ⟨rfl, rfl, rows_same⟩, ⟨rfl, rfl, rows_same⟩, ⟨rfl, rfl, rows_same⟩, trivial⟩, rfl, ⟨rfl, rfl⟩, ⟨rfl, rfl⟩, ⟨rfl, rfl⟩, rfl, rfl, ⟨rfl, rfl⟩, ⟨rfl, rfl⟩, ⟨rfl, rfl⟩, trivial⟩
def laws_FnExactCheckRoot_p10 (k : Nat) (a1 : Rw) (a2 : Int) (a3 : Rw) (a4 : Rw) (o32 : Rw) (v35 : Bool) (v38 : Bool) : Option Bool :=
  (cond v35 (cond v38 ((laws_toSurreal k a3).bind fun y190 => (laws_FnExactCheckRoot_p11 k a1 a2 a3 a4 o32 y190 true true)) ((laws_toSurreal k a3).bind fun y188 => (laws_FnExactCheckRoot_p11 k a1 a2 a3 a4 o32 y188 false true))) (cond v38 ((laws_toSurreal k a3).bind fun y186 => (laws_FnExactCheckRoot_p11 k a1 a2 a3 a4 o32 y186 true false)) ((laws_toSurreal k a3).bind fun y184 => (laws_FnExactCheckRoot_p11 k a1 a2 a3 a4 o32 y184 false false))))
set_option maxHeartbeats 4000000 in
set_option maxRecDepth 100000 in
theorem laws_FnExactCheckRoot_p10_ct {k : Nat} {a1 : Rw} {a2 : Int} {a3 : Rw} {a4 : Rw} {o32 : Rw} {v35 : Bool} {v38 : Bool} {r : Bool} (h : laws_FnExactCheckRoot_p10 k a1 a2 a3 a4 o32 v35 v38 = some r) : X prog 0 (tlF f5 10) (mk 80 [(1, .d (D.int .i64 a2)), (4, .ptr 256 0), (6, .ptr 384 0), (7, .ptr 448 0), (10, .d (D.bool v35)), (11, .d (D.bool v38)), (12, .ptr 768 0)] [(256, .box 24 [.d (D.sl a1)]), (384, .box 24 [.d (D.sl a3)]), (448, .box 24 [.d (D.sl a4)]), (768, .box 28 [.os 1114000 o32.length]), (1114000, .arr 80 true o32)]) (finK prog f5 0 (.d (D.bool r)) (⟨[], []⟩)) := by
  rw [laws_FnExactCheckRoot_p10] at h
  cases v35
  · replace h := condF h
    cases v38
    · replace h := condF h
      conv => whnf
      obtain ⟨y184, e185, h⟩ := bind_ex h
      refine CallOk.of (laws_toSurreal_ct e185) ?_
      conv => whnf
      exact CutK.piece (laws_FnExactCheckRoot_p11_ct  h) [some 256, some 384, some 448, some 768, some 832, some 1114000, some 2944] [] ⟨⟨rfl, rfl⟩, ⟨rfl, ⟨rfl, rfl, trivial⟩, ⟨rfl, rfl, trivial⟩, ⟨rfl, rfl, trivial⟩, ⟨rfl, ⟨rfl, rfl⟩, trivial⟩, ⟨rfl, ⟨rfl, rfl⟩, trivial⟩, ⟨rfl, rfl, rows_same⟩, ⟨rfl, rfl, rows_same⟩, trivial⟩, rfl, ⟨rfl, rfl⟩, ⟨rfl, rfl⟩, ⟨rfl, rfl⟩, rfl, rfl, ⟨rfl, rfl⟩, ⟨rfl, rfl⟩, trivial⟩
    · replace h := condT h
      conv => whnf
      obtain ⟨y186, e187, h⟩ := bind_ex h
      refine CallOk.of (laws_toSurreal_ct e187) ?_
      conv => whnf
      exact CutK.piece (laws_FnExactCheckRoot_p11_ct  h) [some 256, some 384, some 448, some 768, some 832, some 1114000, some 2944] [] ⟨⟨rfl, rfl⟩, ⟨rfl, ⟨rfl, rfl, trivial⟩, ⟨rfl, rfl, trivial⟩, ⟨rfl, rfl, trivial⟩, ⟨rfl, ⟨rfl, rfl⟩, trivial⟩, ⟨rfl, ⟨rfl, rfl⟩, trivial⟩, ⟨rfl, rfl, rows_same⟩, ⟨rfl, rfl, rows_same⟩, trivial⟩, rfl, ⟨rfl, rfl⟩, ⟨rfl, rfl⟩, ⟨rfl, rfl⟩, rfl, rfl, ⟨rfl, rfl⟩, ⟨rfl, rfl⟩, trivial⟩
  · replace h := condT h
    cases v38
    · replace h := condF h
      conv => whnf
      obtain ⟨y188, e189, h⟩ := bind_ex h
      refine CallOk.of (laws_toSurreal_ct e189) ?_
      conv => whnf
      exact CutK.piece (laws_FnExactCheckRoot_p11_ct  h) [some 256, some 384, some 448, some 768, some 832, some 1114000, some 2944] [] ⟨⟨rfl, rfl⟩, ⟨rfl, ⟨rfl, rfl, trivial⟩, ⟨rfl, rfl, trivial⟩, ⟨rfl, rfl, trivial⟩, ⟨rfl, ⟨rfl, rfl⟩, trivial⟩, ⟨rfl, ⟨rfl, rfl⟩, trivial⟩, ⟨rfl, rfl, rows_same⟩, ⟨rfl, rfl, rows_same⟩, trivial⟩, rfl, ⟨rfl, rfl⟩, ⟨rfl, rfl⟩, ⟨rfl, rfl⟩, rfl, rfl, ⟨rfl, rfl⟩, ⟨rfl, rfl⟩, trivial⟩
    · replace h := condT h
      conv => whnf
      obtain ⟨y190, e191, h⟩ := bind_ex h
      refine CallOk.of (laws_toSurreal_ct e191) ?_
      conv => whnf
      exact CutK.piece (laws_FnExactCheckRoot_p11_ct  h) [some 256, some 384, some 448, some 768, some 832, some 1114000, some 2944] [] ⟨⟨rfl, rfl⟩, ⟨rfl, ⟨rfl, rfl, trivial⟩, ⟨rfl, rfl, trivial⟩, ⟨rfl, rfl, trivial⟩, ⟨rfl, ⟨rfl, rfl⟩, trivial⟩, ⟨rfl, ⟨rfl, rfl⟩, trivial⟩, ⟨rfl, rfl, rows_same⟩, ⟨rfl, rfl, rows_same⟩, trivial⟩, rfl, ⟨rfl, rfl⟩, ⟨rfl, rfl⟩, ⟨rfl, rfl⟩, rfl, rfl, ⟨rfl, rfl⟩, ⟨rfl, rfl⟩, trivial⟩
def laws_FnExactCheckRoot_p9 (k : Nat) (a1 : Rw) (a2 : Int) (a3 : Rw) (a4 : Rw) (v27 : Bool) (v29 : Bool) : Option Bool :=
  (cond v27 (cond v29 ((laws_toSurreal k a1).bind fun y198 => (laws_FnExactCheckRoot_p10 k a1 a2 a3 a4 y198 true true)) ((laws_toSurreal k a1).bind fun y196 => (laws_FnExactCheckRoot_p10 k a1 a2 a3 a4 y196 false true))) (cond v29 ((laws_toSurreal k a1).bind fun y194 => (laws_FnExactCheckRoot_p10 k a1 a2 a3 a4 y194 true false)) ((laws_toSurreal k a1).bind fun y192 => (laws_FnExactCheckRoot_p10 k a1 a2 a3 a4 y192 false false))))
set_option maxHeartbeats 4000000 in
set_option maxRecDepth 100000 in
theorem laws_FnExactCheckRoot_p9_ct {k : Nat} {a1 : Rw} {a2 : Int} {a3 : Rw} {a4 : Rw} {v27 : Bool} {v29 : Bool} {r : Bool} (h : laws_FnExactCheckRoot_p9 k a1 a2 a3 a4 v27 v29 = some r) : X prog 0 (tlF f5 9) (mk 80 [(1, .d (D.int .i64 a2)), (4, .ptr 256 0), (6, .ptr 384 0), (7, .ptr 448 0), (10, .d (D.bool v29)), (11, .d (D.bool v27))] [(256, .box 24 [.d (D.sl a1)]), (384, .box 24 [.d (D.sl a3)]), (448, .box 24 [.d (D.sl a4)])]) (finK prog f5 0 (.d (D.bool r)) (⟨[], []⟩)) := by
  rw [laws_FnExactCheckRoot_p9] at h
  cases v27
  · replace h := condF h
    cases v29
    · replace h := condF h
      conv => whnf
      obtain ⟨y192, e193, h⟩ := bind_ex h
      refine CallOk.of (laws_toSurreal_ct e193) ?_
      conv => whnf
      exact CutK.piece (laws_FnExactCheckRoot_p10_ct  h) [some 256, some 384, some 448, some 768, some 2816] [] ⟨⟨rfl, rfl⟩, ⟨rfl, ⟨rfl, rfl, trivial⟩, ⟨rfl, rfl, trivial⟩, ⟨rfl, rfl, trivial⟩, ⟨rfl, ⟨rfl, rfl⟩, trivial⟩, ⟨rfl, rfl, rows_same⟩, trivial⟩, rfl, ⟨rfl, rfl⟩, ⟨rfl, rfl⟩, ⟨rfl, rfl⟩, rfl, rfl, ⟨rfl, rfl⟩, trivial⟩
    · replace h := condT h
      conv => whnf
      obtain ⟨y194, e195, h⟩ := bind_ex h
      refine CallOk.of (laws_toSurreal_ct e195) ?_
      conv => whnf
      exact CutK.piece (laws_FnExactCheckRoot_p10_ct  h) [some 256, some 384, some 448, some 768, some 2816] [] ⟨⟨rfl, rfl⟩, ⟨rfl, ⟨rfl, rfl, trivial⟩, ⟨rfl, rfl, trivial⟩, ⟨rfl, rfl, trivial⟩, ⟨rfl, ⟨rfl, rfl⟩, trivial⟩, ⟨rfl, rfl, rows_same⟩, trivial⟩, rfl, ⟨rfl, rfl⟩, ⟨rfl, rfl⟩, ⟨rfl, rfl⟩, rfl, rfl, ⟨rfl, rfl⟩, trivial⟩
  · replace h := condT h
    cases v29
    · replace h := condF h
      conv => whnf
      obtain ⟨y196, e197, h⟩ := bind_ex h
      refine CallOk.of (laws_toSurreal_ct e197) ?_
      conv => whnf
      exact CutK.piece (laws_FnExactCheckRoot_p10_ct  h) [some 256, some 384, some 448, some 768, some 2816] [] ⟨⟨rfl, rfl⟩, ⟨rfl, ⟨rfl, rfl, trivial⟩, ⟨rfl, rfl, trivial⟩, ⟨rfl, rfl, trivial⟩, ⟨rfl, ⟨rfl, rfl⟩, trivial⟩, ⟨rfl, rfl, rows_same⟩, trivial⟩, rfl, ⟨rfl, rfl⟩, ⟨rfl, rfl⟩, ⟨rfl, rfl⟩, rfl, rfl, ⟨rfl, rfl⟩, trivial⟩
    · replace h := condT h
      conv => whnf
      obtain ⟨y198, e199, h⟩ := bind_ex h
      refine CallOk.of (laws_toSurreal_ct e199) ?_
      conv => whnf
      exact CutK.piece (laws_FnExactCheckRoot_p10_ct  h) [some 256, some 384, some 448, some 768, some 2816] [] ⟨⟨rfl, rfl⟩, ⟨rfl, ⟨rfl, rfl, trivial⟩, ⟨rfl, rfl, trivial⟩, ⟨rfl, rfl, trivial⟩, ⟨rfl, ⟨rfl, rfl⟩, trivial⟩, ⟨rfl, rfl, rows_same⟩, trivial⟩, rfl, ⟨rfl, rfl⟩, ⟨rfl, rfl⟩, ⟨rfl, rfl⟩, rfl, rfl, ⟨rfl, rfl⟩, trivial⟩
def laws_FnExactCheckRoot_p7 (k : Nat) (a1 : Rw) (a2 : Int) (a3 : Rw) (a4 : Rw) (o15 : Int) : Option Bool :=
  (if o15 < (0 : Int) then some true else ((laws_toSurreal k a1).bind fun y201 => ((laws_toSurreal k a3).bind fun y203 => ((laws_toSurreal k a4).bind fun y205 => ((spec_CheckRoot k y201 a2 y203 y205).bind fun y207 => (if y207.1 = true then (if y207.2 = true then (laws_FnExactCheckRoot_p9 k a1 a2 a3 a4 true true) else (laws_FnExactCheckRoot_p9 k a1 a2 a3 a4 false true)) else (if y207.2 = true then (laws_FnExactCheckRoot_p9 k a1 a2 a3 a4 true false) else (laws_FnExactCheckRoot_p9 k a1 a2 a3 a4 false false))))))))
set_option maxHeartbeats 4000000 in
set_option maxRecDepth 100000 in
theorem laws_FnExactCheckRoot_p7_ct {k : Nat} {a1 : Rw} {a2 : Int} {a3 : Rw} {a4 : Rw} {o15 : Int} {r : Bool} (h : laws_FnExactCheckRoot_p7 k a1 a2 a3 a4 o15 = some r) : X prog 0 (tlF f5 7) (mk 80 [(1, .d (D.int .i64 a2)), (4, .ptr 256 0), (6, .ptr 384 0), (7, .ptr 448 0), (9, .d (D.int .i64 o15))] [(256, .box 24 [.d (D.sl a1)]), (384, .box 24 [.d (D.sl a3)]), (448, .box 24 [.d (D.sl a4)])]) (finK prog f5 0 (.d (D.bool r)) (⟨[], []⟩)) := by
  rw [laws_FnExactCheckRoot_p7] at h
  conv => whnf
  refine splD (fun g200 => ?_) (fun g200 => ?_)
  · replace h := iteP h g200
    conv => whnf
    cases h
    exact Done.of [] [] rfl rfl ⟨⟨rfl, rfl⟩, ⟨rfl, trivial⟩, rfl, trivial⟩
  · replace h := iteN h g200
    conv => whnf
    obtain ⟨y201, e202, h⟩ := bind_ex h
    refine CallOk.of (laws_toSurreal_ct e202) ?_
    conv => whnf
    obtain ⟨y203, e204, h⟩ := bind_ex h
    refine CallOk.of (laws_toSurreal_ct e204) ?_
    conv => whnf
    obtain ⟨y205, e206, h⟩ := bind_ex h
    refine CallOk.of (laws_toSurreal_ct e206) ?_
    conv => whnf
    refine Take.all (rfl) ?_
    conv => whnf
    refine Take.all (rfl) ?_
    conv => whnf
    refine Take.all (rfl) ?_
    conv => whnf
    obtain ⟨y207, e208, h⟩ := bind_ex h
    refine CallOk.of (spec_CheckRoot_ct e208) ?_
    conv => whnf
    refine spl (fun g209 => ?_) (fun g209 => ?_)
    · replace h := iteT h g209
      conv => whnf
      refine spl (fun g210 => ?_) (fun g210 => ?_)
      · replace h := iteT h g210
        conv => whnf
        exact CutK.piece (laws_FnExactCheckRoot_p9_ct  h) [some 256, some 384, some 448] [] ⟨⟨rfl, rfl⟩, ⟨rfl, ⟨rfl, rfl, trivial⟩, ⟨rfl, rfl, trivial⟩, ⟨rfl, rfl, trivial⟩, trivial⟩, rfl, ⟨rfl, rfl⟩, ⟨rfl, rfl⟩, ⟨rfl, rfl⟩, rfl, rfl, trivial⟩
      · replace h := iteF h g210
        conv => whnf
        exact CutK.piece (laws_FnExactCheckRoot_p9_ct  h) [some 256, some 384, some 448] [] ⟨⟨rfl, rfl⟩, ⟨rfl, ⟨rfl, rfl, trivial⟩, ⟨rfl, rfl, trivial⟩, ⟨rfl, rfl, trivial⟩, trivial⟩, rfl, ⟨rfl, rfl⟩, ⟨rfl, rfl⟩, ⟨rfl, rfl⟩, rfl, rfl, trivial⟩
    · replace h := iteF h g209
      conv => whnf
      refine spl (fun g211 => ?_) (fun g211 => ?_)
      · replace h := iteT h g211
        conv => whnf
        exact CutK.piece (laws_FnExactCheckRoot_p9_ct  h) [some 256, some 384, some 448] [] ⟨⟨rfl, rfl⟩, ⟨rfl, ⟨rfl, rfl, trivial⟩, ⟨rfl, rfl, trivial⟩, ⟨rfl, rfl, trivial⟩, trivial⟩, rfl, ⟨rfl, rfl⟩, ⟨rfl, rfl⟩, ⟨rfl, rfl⟩, rfl, rfl, trivial⟩
      · replace h := iteF h g211
        conv => whnf
        exact CutK.piece (laws_FnExactCheckRoot_p9_ct  h) [some 256, some 384, some 448] [] ⟨⟨rfl, rfl⟩, ⟨rfl, ⟨rfl, rfl, trivial⟩, ⟨rfl, rfl, trivial⟩, ⟨rfl, rfl, trivial⟩, trivial⟩, rfl, ⟨rfl, rfl⟩, ⟨rfl, rfl⟩, ⟨rfl, rfl⟩, rfl, rfl, trivial⟩
def laws_FnExactCheckRoot_p5 (k : Nat) (a1 : Rw) (a2 : Int) (a3 : Rw) (a4 : Rw) (o11 : Int) : Option Bool :=
  (if o11 < (0 : Int) then some true else ((laws_szSurreal k a4 o11).bind fun y213 => (laws_FnExactCheckRoot_p7 k a1 a2 a3 a4 y213)))
set_option maxHeartbeats 4000000 in
set_option maxRecDepth 100000 in
theorem laws_FnExactCheckRoot_p5_ct {k : Nat} {a1 : Rw} {a2 : Int} {a3 : Rw} {a4 : Rw} {o11 : Int} {r : Bool} (h : laws_FnExactCheckRoot_p5 k a1 a2 a3 a4 o11 = some r) : X prog 0 (tlF f5 5) (mk 80 [(1, .d (D.int .i64 a2)), (4, .ptr 256 0), (6, .ptr 384 0), (7, .ptr 448 0), (9, .d (D.int .i64 o11))] [(256, .box 24 [.d (D.sl a1)]), (384, .box 24 [.d (D.sl a3)]), (448, .box 24 [.d (D.sl a4)])]) (finK prog f5 0 (.d (D.bool r)) (⟨[], []⟩)) := by
  rw [laws_FnExactCheckRoot_p5] at h
  conv => whnf
  refine splD (fun g212 => ?_) (fun g212 => ?_)
  · replace h := iteP h g212
    conv => whnf
    cases h
    exact Done.of [] [] rfl rfl ⟨⟨rfl, rfl⟩, ⟨rfl, trivial⟩, rfl, trivial⟩
  · replace h := iteN h g212
    conv => whnf
    obtain ⟨y213, e214, h⟩ := bind_ex h
    refine CallOk.of (laws_szSurreal_ct e214) ?_
    conv => whnf
    exact CutK.piece (laws_FnExactCheckRoot_p7_ct  h) [some 256, some 384, some 448] [] ⟨⟨rfl, rfl⟩, ⟨rfl, ⟨rfl, rfl, trivial⟩, ⟨rfl, rfl, trivial⟩, ⟨rfl, rfl, trivial⟩, trivial⟩, rfl, ⟨rfl, rfl⟩, ⟨rfl, rfl⟩, ⟨rfl, rfl⟩, rfl, trivial⟩
def laws_FnExactCheckRoot_p3 (k : Nat) (a1 : Rw) (a2 : Int) (a3 : Rw) (a4 : Rw) (o7 : Int) : Option Bool :=
  (if o7 < (0 : Int) then some true else ((laws_szSurreal k a3 o7).bind fun y216 => (laws_FnExactCheckRoot_p5 k a1 a2 a3 a4 y216)))
set_option maxHeartbeats 4000000 in
set_option maxRecDepth 100000 in
theorem laws_FnExactCheckRoot_p3_ct {k : Nat} {a1 : Rw} {a2 : Int} {a3 : Rw} {a4 : Rw} {o7 : Int} {r : Bool} (h : laws_FnExactCheckRoot_p3 k a1 a2 a3 a4 o7 = some r) : X prog 0 (tlF f5 3) (mk 80 [(1, .d (D.int .i64 a2)), (4, .ptr 256 0), (6, .ptr 384 0), (7, .ptr 448 0), (9, .d (D.int .i64 o7))] [(256, .box 24 [.d (D.sl a1)]), (384, .box 24 [.d (D.sl a3)]), (448, .box 24 [.d (D.sl a4)])]) (finK prog f5 0 (.d (D.bool r)) (⟨[], []⟩)) := by
  rw [laws_FnExactCheckRoot_p3] at h
  conv => whnf
  refine splD (fun g215 => ?_) (fun g215 => ?_)
  · replace h := iteP h g215
    conv => whnf
    cases h
    exact Done.of [] [] rfl rfl ⟨⟨rfl, rfl⟩, ⟨rfl, trivial⟩, rfl, trivial⟩
  · replace h := iteN h g215
    conv => whnf
    obtain ⟨y216, e217, h⟩ := bind_ex h
    refine CallOk.of (laws_szSurreal_ct e217) ?_
    conv => whnf
    exact CutK.piece (laws_FnExactCheckRoot_p5_ct  h) [some 256, some 384, some 448] [] ⟨⟨rfl, rfl⟩, ⟨rfl, ⟨rfl, rfl, trivial⟩, ⟨rfl, rfl, trivial⟩, ⟨rfl, rfl, trivial⟩, trivial⟩, rfl, ⟨rfl, rfl⟩, ⟨rfl, rfl⟩, ⟨rfl, rfl⟩, rfl, trivial⟩
def laws_FnExactCheckRoot (k : Nat) (a1 : Rw) (a2 : Int) (a3 : Rw) (a4 : Rw) : Option Bool :=
  ((laws_szSurreal k a1 1048576).bind fun y218 => (laws_FnExactCheckRoot_p3 k a1 a2 a3 a4 y218))
set_option maxHeartbeats 4000000 in
set_option maxRecDepth 100000 in
theorem laws_FnExactCheckRoot_ct {k : Nat} {a1 : Rw} {a2 : Int} {a3 : Rw} {a4 : Rw} {r : Bool} (h : laws_FnExactCheckRoot k a1 a2 a3 a4 = some r) : Ct prog 5 [.agg [.d (D.sl a1)], .d (D.int .i64 a2), .agg [.d (D.sl a3)], .agg [.d (D.sl a4)]] (⟨[], []⟩) (.d (D.bool r)) (⟨[], []⟩) := by
  rw [laws_FnExactCheckRoot] at h
  refine Ct.of (c := _) mixed func5 ⟨rfl, rfl, rfl⟩ ?_ rfl
  conv => whnf
  obtain ⟨y218, e219, h⟩ := bind_ex h
  refine CallOk.of (laws_szSurreal_ct e219) ?_
  conv => whnf
  exact CutK.piece (laws_FnExactCheckRoot_p3_ct  h) [some 256, some 384, some 448] [] ⟨⟨rfl, rfl⟩, ⟨rfl, ⟨rfl, rfl, trivial⟩, ⟨rfl, rfl, trivial⟩, ⟨rfl, rfl, trivial⟩, trivial⟩, rfl, ⟨rfl, rfl⟩, ⟨rfl, rfl⟩, ⟨rfl, rfl⟩, rfl, trivial⟩
end
end Go.Proofs.Try
