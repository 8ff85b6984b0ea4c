/- Printed by program (axgen): pure functions, and that the Go functions compute them. -/
import Derived.Test.YtmhcdljkmngkpaaHYP0
set_option linter.unusedVariables false
set_option linter.unusedSimpArgs false
namespace Go.Proofs.Try
open Go Go.AX
noncomputable section
def laws_FnPlayedHydras_p11 (v364 : Bool) (v366 : Bool) (v371 : Bool) : Option Bool :=
  (cond v364 (cond v366 (cond v371 (some true) (some true)) (cond v371 (some false) (some true))) (cond v366 (cond v371 (some false) (some true)) (cond v371 (some false) (some true))))
set_option maxHeartbeats 4000000 in
set_option maxRecDepth 100000 in
theorem laws_FnPlayedHydras_p11_ct {v364 : Bool} {v366 : Bool} {v371 : Bool} {r : Bool} (h : laws_FnPlayedHydras_p11 v364 v366 v371 = some r) : X prog 0 (tlF f5 11) (mk 150 [(12, .d (D.bool v371)), (21, .d (D.bool v366)), (22, .d (D.bool v364))] []) (finK prog f5 0 (.d (D.bool r)) (⟨[], []⟩)) := by
  rw [laws_FnPlayedHydras_p11] at h
  cases v364
  · replace h := condF h
    cases v366
    · replace h := condF h
      cases v371
      · replace h := condF h
        conv => whnf
        cases h
        exact Done.of [] [] rfl rfl ⟨⟨rfl, rfl⟩, ⟨rfl, trivial⟩, rfl, trivial⟩
      · replace h := condT h
        conv => whnf
        cases h
        exact Done.of [] [] rfl rfl ⟨⟨rfl, rfl⟩, ⟨rfl, trivial⟩, rfl, trivial⟩
    · replace h := condT h
      cases v371
      · replace h := condF h
        conv => whnf
        cases h
        exact Done.of [] [] rfl rfl ⟨⟨rfl, rfl⟩, ⟨rfl, trivial⟩, rfl, trivial⟩
      · replace h := condT h
        conv => whnf
        cases h
        exact Done.of [] [] rfl rfl ⟨⟨rfl, rfl⟩, ⟨rfl, trivial⟩, rfl, trivial⟩
  · replace h := condT h
    cases v366
    · replace h := condF h
      cases v371
      · replace h := condF h
        conv => whnf
        cases h
        exact Done.of [] [] rfl rfl ⟨⟨rfl, rfl⟩, ⟨rfl, trivial⟩, rfl, trivial⟩
      · replace h := condT h
        conv => whnf
        cases h
        exact Done.of [] [] rfl rfl ⟨⟨rfl, rfl⟩, ⟨rfl, trivial⟩, rfl, trivial⟩
    · replace h := condT h
      cases v371
      · replace h := condF h
        conv => whnf
        cases h
        exact Done.of [] [] rfl rfl ⟨⟨rfl, rfl⟩, ⟨rfl, trivial⟩, rfl, trivial⟩
      · replace h := condT h
        conv => whnf
        cases h
        exact Done.of [] [] rfl rfl ⟨⟨rfl, rfl⟩, ⟨rfl, trivial⟩, rfl, trivial⟩
def laws_FnPlayedHydras_p10 (k : Nat) (o358 : Rw) (v359 : Bool) : Option Bool :=
  (cond v359 ((impl_IsDescent k o358).bind fun y378 => (if y378.1 = true then (if y378.2 = true then (laws_FnPlayedHydras_p11 true true true) else (laws_FnPlayedHydras_p11 false true true)) else (if y378.2 = true then (laws_FnPlayedHydras_p11 true false true) else (laws_FnPlayedHydras_p11 false false true)))) ((impl_IsDescent k o358).bind fun y373 => (if y373.1 = true then (if y373.2 = true then (laws_FnPlayedHydras_p11 true true false) else (laws_FnPlayedHydras_p11 false true false)) else (if y373.2 = true then (laws_FnPlayedHydras_p11 true false false) else (laws_FnPlayedHydras_p11 false false false)))))
set_option maxHeartbeats 4000000 in
set_option maxRecDepth 100000 in
theorem laws_FnPlayedHydras_p10_ct {k : Nat} {o358 : Rw} {v359 : Bool} {r : Bool} (h : laws_FnPlayedHydras_p10 k o358 v359 = some r) : X prog 0 (tlF f5 10) (mk 150 [(11, .os 1114000 o358.length), (12, .d (D.bool v359))] [(1114000, .arr 28 true o358)]) (finK prog f5 0 (.d (D.bool r)) (⟨[], []⟩)) := by
  rw [laws_FnPlayedHydras_p10] at h
  cases v359
  · replace h := condF h
    conv => whnf
    refine Pick.no ?_
    conv => whnf
    refine Take.all (rfl) ?_
    conv => whnf
    obtain ⟨y373, e374, h⟩ := bind_ex h
    refine CallOk.of (impl_IsDescent_ct e374) ?_
    conv => whnf
    refine spl (fun g375 => ?_) (fun g375 => ?_)
    · replace h := iteT h g375
      conv => whnf
      refine spl (fun g376 => ?_) (fun g376 => ?_)
      · replace h := iteT h g376
        conv => whnf
        exact CutK.piece (laws_FnPlayedHydras_p11_ct  h) [] [] ⟨⟨rfl, rfl⟩, ⟨rfl, trivial⟩, rfl, rfl, rfl, trivial⟩
      · replace h := iteF h g376
        conv => whnf
        exact CutK.piece (laws_FnPlayedHydras_p11_ct  h) [] [] ⟨⟨rfl, rfl⟩, ⟨rfl, trivial⟩, rfl, rfl, rfl, trivial⟩
    · replace h := iteF h g375
      conv => whnf
      refine spl (fun g377 => ?_) (fun g377 => ?_)
      · replace h := iteT h g377
        conv => whnf
        exact CutK.piece (laws_FnPlayedHydras_p11_ct  h) [] [] ⟨⟨rfl, rfl⟩, ⟨rfl, trivial⟩, rfl, rfl, rfl, trivial⟩
      · replace h := iteF h g377
        conv => whnf
        exact CutK.piece (laws_FnPlayedHydras_p11_ct  h) [] [] ⟨⟨rfl, rfl⟩, ⟨rfl, trivial⟩, rfl, rfl, rfl, trivial⟩
  · replace h := condT h
    conv => whnf
    refine Pick.no ?_
    conv => whnf
    refine Take.all (rfl) ?_
    conv => whnf
    obtain ⟨y378, e379, h⟩ := bind_ex h
    refine CallOk.of (impl_IsDescent_ct e379) ?_
    conv => whnf
    refine spl (fun g380 => ?_) (fun g380 => ?_)
    · replace h := iteT h g380
      conv => whnf
      refine spl (fun g381 => ?_) (fun g381 => ?_)
      · replace h := iteT h g381
        conv => whnf
        exact CutK.piece (laws_FnPlayedHydras_p11_ct  h) [] [] ⟨⟨rfl, rfl⟩, ⟨rfl, trivial⟩, rfl, rfl, rfl, trivial⟩
      · replace h := iteF h g381
        conv => whnf
        exact CutK.piece (laws_FnPlayedHydras_p11_ct  h) [] [] ⟨⟨rfl, rfl⟩, ⟨rfl, trivial⟩, rfl, rfl, rfl, trivial⟩
    · replace h := iteF h g380
      conv => whnf
      refine spl (fun g382 => ?_) (fun g382 => ?_)
      · replace h := iteT h g382
        conv => whnf
        exact CutK.piece (laws_FnPlayedHydras_p11_ct  h) [] [] ⟨⟨rfl, rfl⟩, ⟨rfl, trivial⟩, rfl, rfl, rfl, trivial⟩
      · replace h := iteF h g382
        conv => whnf
        exact CutK.piece (laws_FnPlayedHydras_p11_ct  h) [] [] ⟨⟨rfl, rfl⟩, ⟨rfl, trivial⟩, rfl, rfl, rfl, trivial⟩
def laws_FnPlayedHydras_l0 (k : Nat) (o20 : Rw) (o21 : Rw) (o22 : Rw) (K0 : Rw → Bool → Option Bool) : Rw → Nat → Rw → Bool → Option Bool
  | [], v407n, v406, v432 => (cond v432 (K0 v406 true) (K0 v406 false))
  | cs :: rest, v407n, v406, v432 => (cond v432 (if 0 ≤ (v407n : Int) ∧ (v407n : Int) < (o21.length : Int) then (cell_s cs fun x777 => (if 0 ≤ (v407n : Int) ∧ (v407n : Int) < (o22.length : Int) then (row_s o22 (v407n : Int) fun x780 => ((laws_qSame x777 x780).bind fun y783 => (if y783 = true then ((impl_HydraOrdinal k x777).bind fun y786 => (if y786.2 = true then (if v406.length + 1 ≤ cap then ((impl_HeadsOf k x777).bind fun y790 => (if y790.2 = true then (if (IntKind.i64.wrap ((v407n : Int) + 1)) = (o21.length : Int) then (if (0 : Int) < (y790.1.length : Int) then (if (v407n : Int) < (o20.length : Int) then some false else (laws_FnPlayedHydras_l0 k o20 o21 o22 K0 rest (v407n + 1) (v406 ++ ([[D.sl y786.1]])) true)) else (laws_FnPlayedHydras_l0 k o20 o21 o22 K0 rest (v407n + 1) (v406 ++ ([[D.sl y786.1]])) true)) else (row_i o20 (v407n : Int) fun x796 => (if (y790.1.length : Int) ≠ 0 then (if 0 ≤ (x796.tmod (y790.1.length : Int)) ∧ (x796.tmod (y790.1.length : Int)) < (y790.1.length : Int) then (row_i y790.1 (x796.tmod (y790.1.length : Int)) fun x801 => ((impl_ChopHead k x777 x801 (IntKind.i64.wrap ((v407n : Int) + 1))).bind fun y804 => (if y804.2 = true then (if 0 ≤ (IntKind.i64.wrap ((v407n : Int) + 1)) ∧ (IntKind.i64.wrap ((v407n : Int) + 1)) < (o21.length : Int) then (row_s o21 (IntKind.i64.wrap ((v407n : Int) + 1)) fun x808 => ((laws_qSame y804.1 x808).bind fun y811 => (if y811 = true then (laws_FnPlayedHydras_l0 k o20 o21 o22 K0 rest (v407n + 1) (v406 ++ ([[D.sl y786.1]])) true) else some false))) else none) else some false))) else none) else none))) else some false)) else none) else (if v406.length + 1 ≤ cap then ((impl_HeadsOf k x777).bind fun y815 => (if y815.2 = true then (if (IntKind.i64.wrap ((v407n : Int) + 1)) = (o21.length : Int) then (if (0 : Int) < (y815.1.length : Int) then (if (v407n : Int) < (o20.length : Int) then some false else (laws_FnPlayedHydras_l0 k o20 o21 o22 K0 rest (v407n + 1) (v406 ++ ([[D.sl y786.1]])) false)) else (laws_FnPlayedHydras_l0 k o20 o21 o22 K0 rest (v407n + 1) (v406 ++ ([[D.sl y786.1]])) false)) else (row_i o20 (v407n : Int) fun x821 => (if (y815.1.length : Int) ≠ 0 then (if 0 ≤ (x821.tmod (y815.1.length : Int)) ∧ (x821.tmod (y815.1.length : Int)) < (y815.1.length : Int) then (row_i y815.1 (x821.tmod (y815.1.length : Int)) fun x826 => ((impl_ChopHead k x777 x826 (IntKind.i64.wrap ((v407n : Int) + 1))).bind fun y829 => (if y829.2 = true then (if 0 ≤ (IntKind.i64.wrap ((v407n : Int) + 1)) ∧ (IntKind.i64.wrap ((v407n : Int) + 1)) < (o21.length : Int) then (row_s o21 (IntKind.i64.wrap ((v407n : Int) + 1)) fun x833 => ((laws_qSame y829.1 x833).bind fun y836 => (if y836 = true then (laws_FnPlayedHydras_l0 k o20 o21 o22 K0 rest (v407n + 1) (v406 ++ ([[D.sl y786.1]])) false) else some false))) else none) else some false))) else none) else none))) else some false)) else none))) else some false))) else none)) else none) (if 0 ≤ (v407n : Int) ∧ (v407n : Int) < (o21.length : Int) then (cell_s cs fun x714 => (if 0 ≤ (v407n : Int) ∧ (v407n : Int) < (o22.length : Int) then (row_s o22 (v407n : Int) fun x717 => ((laws_qSame x714 x717).bind fun y720 => (if y720 = true then ((impl_HydraOrdinal k x714).bind fun y723 => (if y723.2 = true then (if v406.length + 1 ≤ cap then ((impl_HeadsOf k x714).bind fun y727 => (if y727.2 = true then (if (IntKind.i64.wrap ((v407n : Int) + 1)) = (o21.length : Int) then (if (0 : Int) < (y727.1.length : Int) then (if (v407n : Int) < (o20.length : Int) then some false else (laws_FnPlayedHydras_l0 k o20 o21 o22 K0 rest (v407n + 1) (v406 ++ ([[D.sl y723.1]])) false)) else (laws_FnPlayedHydras_l0 k o20 o21 o22 K0 rest (v407n + 1) (v406 ++ ([[D.sl y723.1]])) false)) else (row_i o20 (v407n : Int) fun x733 => (if (y727.1.length : Int) ≠ 0 then (if 0 ≤ (x733.tmod (y727.1.length : Int)) ∧ (x733.tmod (y727.1.length : Int)) < (y727.1.length : Int) then (row_i y727.1 (x733.tmod (y727.1.length : Int)) fun x738 => ((impl_ChopHead k x714 x738 (IntKind.i64.wrap ((v407n : Int) + 1))).bind fun y741 => (if y741.2 = true then (if 0 ≤ (IntKind.i64.wrap ((v407n : Int) + 1)) ∧ (IntKind.i64.wrap ((v407n : Int) + 1)) < (o21.length : Int) then (row_s o21 (IntKind.i64.wrap ((v407n : Int) + 1)) fun x745 => ((laws_qSame y741.1 x745).bind fun y748 => (if y748 = true then (laws_FnPlayedHydras_l0 k o20 o21 o22 K0 rest (v407n + 1) (v406 ++ ([[D.sl y723.1]])) false) else some false))) else none) else some false))) else none) else none))) else some false)) else none) else (if v406.length + 1 ≤ cap then ((impl_HeadsOf k x714).bind fun y752 => (if y752.2 = true then (if (IntKind.i64.wrap ((v407n : Int) + 1)) = (o21.length : Int) then (if (0 : Int) < (y752.1.length : Int) then (if (v407n : Int) < (o20.length : Int) then some false else (laws_FnPlayedHydras_l0 k o20 o21 o22 K0 rest (v407n + 1) (v406 ++ ([[D.sl y723.1]])) false)) else (laws_FnPlayedHydras_l0 k o20 o21 o22 K0 rest (v407n + 1) (v406 ++ ([[D.sl y723.1]])) false)) else (row_i o20 (v407n : Int) fun x758 => (if (y752.1.length : Int) ≠ 0 then (if 0 ≤ (x758.tmod (y752.1.length : Int)) ∧ (x758.tmod (y752.1.length : Int)) < (y752.1.length : Int) then (row_i y752.1 (x758.tmod (y752.1.length : Int)) fun x763 => ((impl_ChopHead k x714 x763 (IntKind.i64.wrap ((v407n : Int) + 1))).bind fun y766 => (if y766.2 = true then (if 0 ≤ (IntKind.i64.wrap ((v407n : Int) + 1)) ∧ (IntKind.i64.wrap ((v407n : Int) + 1)) < (o21.length : Int) then (row_s o21 (IntKind.i64.wrap ((v407n : Int) + 1)) fun x770 => ((laws_qSame y766.1 x770).bind fun y773 => (if y773 = true then (laws_FnPlayedHydras_l0 k o20 o21 o22 K0 rest (v407n + 1) (v406 ++ ([[D.sl y723.1]])) false) else some false))) else none) else some false))) else none) else none))) else some false)) else none))) else some false))) else none)) else none))
set_option maxHeartbeats 4000000 in
set_option maxRecDepth 100000 in
theorem laws_FnPlayedHydras_l0_ct {k : Nat} {o20 : Rw} {o21 : Rw} {o22 : Rw} {K0 : Rw → Bool → Option Bool} {r : Bool} (hx : o21.length ≤ cap) : ∀ (rest : Rw) (v407n : Nat) (v406 : Rw) (v432 : Bool), o21.drop v407n = rest → laws_FnPlayedHydras_l0 k o20 o21 o22 K0 rest v407n v406 v432 = some r → LoopOk prog 0 (lp f5 0) (mk 150 [(6, .d (D.sl o20)), (7, .os 64000 o21.length), (9, .os 64001 o22.length), (11, .os 64002 v406.length), (12, .d (D.bool v432)), (55, .os 64000 o21.length), (56, .d (D.int .i64 (o21.length : Int))), (57, .d (D.int .i64 (v407n : Int)))] [(64000, .arr 31 false o21), (64001, .arr 31 false o22), (64002, .arr 28 true v406)]) (LoopEnd prog f5 0 150 (.d (D.bool r)) (⟨[], []⟩) (fun i ts os => (i = 0 ∧ ∃ v516 : Rw, ∃ v517 : Bool, K0 v516 v517 = some r ∧ ts = [(11, .os 67003 v516.length), (12, .d (D.bool v517))] ∧ os = [(67003, .arr 28 true v516)])))
  | [], v407n, v406, v432, hd, h => by
      rw [laws_FnPlayedHydras_l0] at h
      have hn := drop_nil hd
      cases v432
      · replace h := condF h
        refine LoopOk.step ?_
        conv => whnf
        refine splD (fun g => absurd g hn) (fun _ => ?_)
        conv => whnf
        exact ⟨_, _, [some 64002], [], ⟨rfl, _, _, h, rfl, rfl⟩, ⟨⟨rfl, rfl⟩, ⟨rfl, ⟨rfl, rfl, rows_same⟩, trivial⟩, ⟨rfl, rfl⟩, rfl, trivial⟩⟩
      · replace h := condT h
        refine LoopOk.step ?_
        conv => whnf
        refine splD (fun g => absurd g hn) (fun _ => ?_)
        conv => whnf
        exact ⟨_, _, [some 64002], [], ⟨rfl, _, _, h, rfl, rfl⟩, ⟨⟨rfl, rfl⟩, ⟨rfl, ⟨rfl, rfl, rows_same⟩, trivial⟩, ⟨rfl, rfl⟩, rfl, trivial⟩⟩
  | cs :: rest, v407n, v406, v432, hd, h => by
      rw [laws_FnPlayedHydras_l0] at h
      obtain ⟨hrow, hd1, hlt⟩ := drop_cons hd
      cases v432
      · replace h := condF h
        refine LoopOk.step ?_
        conv => whnf
        refine splD (fun _ => ?_) (fun g => absurd hlt g)
        conv => whnf
        obtain ⟨g713, h⟩ := req_ex h
        refine Req.of g713 ?_
        conv => whnf
        obtain ⟨x714, e715, h⟩ := cell_s_ex h
        rw [e715] at hrow
        refine Row.of _ hrow ?_
        conv => whnf
        obtain ⟨g716, h⟩ := req_ex h
        refine Req.of g716 ?_
        conv => whnf
        obtain ⟨g719, x717, e718, h⟩ := row_s_ex h
        refine Row.of _ e718 ?_
        conv => whnf
        refine Pick.no ?_
        conv => whnf
        obtain ⟨y720, e721, h⟩ := bind_ex h
        refine CallOk.of (laws_qSame_ct e721) ?_
        conv => whnf
        refine spl (fun g722 => ?_) (fun g722 => ?_)
        · replace h := iteT h g722
          conv => whnf
          refine CutK.norm [6, 7, 9, 11, 12, 13, 14, 55, 56, 57, 70] [896, 64000, 64001, 64002] ?_
          conv => whnf
          refine CutK.norm [6, 7, 9, 11, 12, 13, 14, 55, 56, 57] [896, 64000, 64001, 64002] ?_
          conv => whnf
          refine Pick.no ?_
          conv => whnf
          obtain ⟨y723, e724, h⟩ := bind_ex h
          refine CallOk.of (impl_HydraOrdinal_ct e724) ?_
          conv => whnf
          refine spl (fun g725 => ?_) (fun g725 => ?_)
          · replace h := iteT h g725
            conv => whnf
            refine CutK.norm [6, 7, 9, 11, 12, 13, 14, 15, 16, 55, 56, 57] [896, 960, 4672, 64000, 64001, 64002] ?_
            conv => whnf
            refine Take.all (rfl) ?_
            conv => whnf
            refine Take.all (rfl) ?_
            conv => whnf
            refine Take.all (by first | rfl | exact List.length_append.symm | (simp; done) | omega | (dsimp only; omega)) ?_
            conv => whnf
            obtain ⟨g726, h⟩ := req_ex h
            refine Req.of (room (b := 24) (by decide) g726 (wide1 rfl wide0)) ?_
            conv => whnf
            refine Pick.no ?_
            conv => whnf
            obtain ⟨y727, e728, h⟩ := bind_ex h
            refine CallOk.of (impl_HeadsOf_ct e728) ?_
            conv => whnf
            refine spl (fun g729 => ?_) (fun g729 => ?_)
            · replace h := iteT h g729
              conv => whnf
              refine CutK.norm [6, 7, 9, 11, 12, 13, 14, 17, 18, 55, 56, 57] [896, 5312, 5504, 64000, 64001] ?_
              conv => whnf
              refine splD (fun g730 => ?_) (fun g730 => ?_)
              · replace h := iteP h g730
                conv => whnf
                refine splD (fun g731 => ?_) (fun g731 => ?_)
                · replace h := iteP h g731
                  conv => whnf
                  refine splD (fun g732 => ?_) (fun g732 => ?_)
                  · replace h := iteP h g732
                    conv => whnf
                    cases h
                    exact Done.of [] [] rfl rfl ⟨⟨rfl, rfl⟩, ⟨rfl, trivial⟩, rfl, trivial⟩
                  · replace h := iteN h g732
                    conv => whnf
                    refine CutK.norm [6, 7, 9, 11, 12, 55, 56, 57] [5312, 64000, 64001] ?_
                    conv => whnf
                    exact LoopOk.back (laws_FnPlayedHydras_l0_ct hx rest (v407n + 1) _ _ hd1 h) [some 64000, some 64001, some 5312] [] ⟨⟨rfl, rfl⟩, ⟨rfl, ⟨rfl, rfl, rows_same⟩, ⟨rfl, rfl, rows_same⟩, ⟨rfl, rfl, rows_same⟩, trivial⟩, rfl, ⟨rfl, rfl⟩, ⟨rfl, rfl⟩, ⟨(by first | rfl | exact List.length_append.symm | (simp; done) | omega | (dsimp only; omega)), rfl⟩, rfl, ⟨rfl, rfl⟩, rfl, i64eq (wrap_up hlt hx), trivial⟩
                · replace h := iteN h g731
                  conv => whnf
                  refine CutK.norm [6, 7, 9, 11, 12, 55, 56, 57] [5312, 64000, 64001] ?_
                  conv => whnf
                  exact LoopOk.back (laws_FnPlayedHydras_l0_ct hx rest (v407n + 1) _ _ hd1 h) [some 64000, some 64001, some 5312] [] ⟨⟨rfl, rfl⟩, ⟨rfl, ⟨rfl, rfl, rows_same⟩, ⟨rfl, rfl, rows_same⟩, ⟨rfl, rfl, rows_same⟩, trivial⟩, rfl, ⟨rfl, rfl⟩, ⟨rfl, rfl⟩, ⟨(by first | rfl | exact List.length_append.symm | (simp; done) | omega | (dsimp only; omega)), rfl⟩, rfl, ⟨rfl, rfl⟩, rfl, i64eq (wrap_up hlt hx), trivial⟩
              · replace h := iteN h g730
                conv => whnf
                obtain ⟨g735, x733, e734, h⟩ := row_i_ex h
                refine Req.of g735 ?_
                refine Row.of _ e734 ?_
                conv => whnf
                obtain ⟨g736, h⟩ := req_ex h
                refine Req.of g736 ?_
                conv => whnf
                obtain ⟨g737, h⟩ := req_ex h
                refine Req.of g737 ?_
                conv => whnf
                obtain ⟨g740, x738, e739, h⟩ := row_i_ex h
                refine Row.of _ e739 ?_
                conv => whnf
                refine Pick.no ?_
                conv => whnf
                obtain ⟨y741, e742, h⟩ := bind_ex h
                refine CallOk.of (impl_ChopHead_ct e742) ?_
                conv => whnf
                refine spl (fun g743 => ?_) (fun g743 => ?_)
                · replace h := iteT h g743
                  conv => whnf
                  refine CutK.norm [6, 7, 9, 11, 12, 13, 19, 20, 55, 56, 57] [1216, 5312, 64000, 64001] ?_
                  conv => whnf
                  obtain ⟨g744, h⟩ := req_ex h
                  refine Req.of g744 ?_
                  conv => whnf
                  obtain ⟨g747, x745, e746, h⟩ := row_s_ex h
                  refine Row.of _ e746 ?_
                  conv => whnf
                  refine Pick.no ?_
                  conv => whnf
                  obtain ⟨y748, e749, h⟩ := bind_ex h
                  refine CallOk.of (laws_qSame_ct e749) ?_
                  conv => whnf
                  refine spl (fun g750 => ?_) (fun g750 => ?_)
                  · replace h := iteT h g750
                    conv => whnf
                    refine CutK.norm [6, 7, 9, 11, 12, 55, 56, 57, 135] [5312, 64000, 64001] ?_
                    conv => whnf
                    refine CutK.norm [6, 7, 9, 11, 12, 55, 56, 57] [5312, 64000, 64001] ?_
                    conv => whnf
                    exact LoopOk.back (laws_FnPlayedHydras_l0_ct hx rest (v407n + 1) _ _ hd1 h) [some 64000, some 64001, some 5312] [] ⟨⟨rfl, rfl⟩, ⟨rfl, ⟨rfl, rfl, rows_same⟩, ⟨rfl, rfl, rows_same⟩, ⟨rfl, rfl, rows_same⟩, trivial⟩, rfl, ⟨rfl, rfl⟩, ⟨rfl, rfl⟩, ⟨(by first | rfl | exact List.length_append.symm | (simp; done) | omega | (dsimp only; omega)), rfl⟩, rfl, ⟨rfl, rfl⟩, rfl, i64eq (wrap_up hlt hx), trivial⟩
                  · replace h := iteF h g750
                    conv => whnf
                    refine CutK.norm [6, 7, 9, 11, 12, 55, 56, 57, 135] [5312, 64000, 64001] ?_
                    conv => whnf
                    cases h
                    exact Done.of [] [] rfl rfl ⟨⟨rfl, rfl⟩, ⟨rfl, trivial⟩, rfl, trivial⟩
                · replace h := iteF h g743
                  conv => whnf
                  refine CutK.norm [6, 7, 9, 11, 12, 13, 19, 20, 55, 56, 57] [1216, 5312, 64000, 64001] ?_
                  conv => whnf
                  refine CutK.norm [6, 7, 9, 11, 12, 55, 56, 57, 135] [5312, 64000, 64001] ?_
                  conv => whnf
                  cases h
                  exact Done.of [] [] rfl rfl ⟨⟨rfl, rfl⟩, ⟨rfl, trivial⟩, rfl, trivial⟩
            · replace h := iteF h g729
              conv => whnf
              refine CutK.norm [6, 7, 9, 11, 12, 13, 14, 17, 18, 55, 56, 57] [896, 5312, 5504, 64000, 64001] ?_
              conv => whnf
              cases h
              exact Done.of [] [] rfl rfl ⟨⟨rfl, rfl⟩, ⟨rfl, trivial⟩, rfl, trivial⟩
          · replace h := iteF h g725
            conv => whnf
            refine CutK.norm [6, 7, 9, 11, 12, 13, 14, 15, 16, 55, 56, 57] [896, 960, 4672, 64000, 64001, 64002] ?_
            conv => whnf
            refine Take.all (rfl) ?_
            conv => whnf
            refine Take.all (rfl) ?_
            conv => whnf
            refine Take.all (by first | rfl | exact List.length_append.symm | (simp; done) | omega | (dsimp only; omega)) ?_
            conv => whnf
            obtain ⟨g751, h⟩ := req_ex h
            refine Req.of (room (b := 24) (by decide) g751 (wide1 rfl wide0)) ?_
            conv => whnf
            refine Pick.no ?_
            conv => whnf
            obtain ⟨y752, e753, h⟩ := bind_ex h
            refine CallOk.of (impl_HeadsOf_ct e753) ?_
            conv => whnf
            refine spl (fun g754 => ?_) (fun g754 => ?_)
            · replace h := iteT h g754
              conv => whnf
              refine CutK.norm [6, 7, 9, 11, 12, 13, 14, 17, 18, 55, 56, 57] [896, 5312, 5504, 64000, 64001] ?_
              conv => whnf
              refine splD (fun g755 => ?_) (fun g755 => ?_)
              · replace h := iteP h g755
                conv => whnf
                refine splD (fun g756 => ?_) (fun g756 => ?_)
                · replace h := iteP h g756
                  conv => whnf
                  refine splD (fun g757 => ?_) (fun g757 => ?_)
                  · replace h := iteP h g757
                    conv => whnf
                    cases h
                    exact Done.of [] [] rfl rfl ⟨⟨rfl, rfl⟩, ⟨rfl, trivial⟩, rfl, trivial⟩
                  · replace h := iteN h g757
                    conv => whnf
                    refine CutK.norm [6, 7, 9, 11, 12, 55, 56, 57] [5312, 64000, 64001] ?_
                    conv => whnf
                    exact LoopOk.back (laws_FnPlayedHydras_l0_ct hx rest (v407n + 1) _ _ hd1 h) [some 64000, some 64001, some 5312] [] ⟨⟨rfl, rfl⟩, ⟨rfl, ⟨rfl, rfl, rows_same⟩, ⟨rfl, rfl, rows_same⟩, ⟨rfl, rfl, rows_same⟩, trivial⟩, rfl, ⟨rfl, rfl⟩, ⟨rfl, rfl⟩, ⟨(by first | rfl | exact List.length_append.symm | (simp; done) | omega | (dsimp only; omega)), rfl⟩, rfl, ⟨rfl, rfl⟩, rfl, i64eq (wrap_up hlt hx), trivial⟩
                · replace h := iteN h g756
                  conv => whnf
                  refine CutK.norm [6, 7, 9, 11, 12, 55, 56, 57] [5312, 64000, 64001] ?_
                  conv => whnf
                  exact LoopOk.back (laws_FnPlayedHydras_l0_ct hx rest (v407n + 1) _ _ hd1 h) [some 64000, some 64001, some 5312] [] ⟨⟨rfl, rfl⟩, ⟨rfl, ⟨rfl, rfl, rows_same⟩, ⟨rfl, rfl, rows_same⟩, ⟨rfl, rfl, rows_same⟩, trivial⟩, rfl, ⟨rfl, rfl⟩, ⟨rfl, rfl⟩, ⟨(by first | rfl | exact List.length_append.symm | (simp; done) | omega | (dsimp only; omega)), rfl⟩, rfl, ⟨rfl, rfl⟩, rfl, i64eq (wrap_up hlt hx), trivial⟩
              · replace h := iteN h g755
                conv => whnf
                obtain ⟨g760, x758, e759, h⟩ := row_i_ex h
                refine Req.of g760 ?_
                refine Row.of _ e759 ?_
                conv => whnf
                obtain ⟨g761, h⟩ := req_ex h
                refine Req.of g761 ?_
                conv => whnf
                obtain ⟨g762, h⟩ := req_ex h
                refine Req.of g762 ?_
                conv => whnf
                obtain ⟨g765, x763, e764, h⟩ := row_i_ex h
                refine Row.of _ e764 ?_
                conv => whnf
                refine Pick.no ?_
                conv => whnf
                obtain ⟨y766, e767, h⟩ := bind_ex h
                refine CallOk.of (impl_ChopHead_ct e767) ?_
                conv => whnf
                refine spl (fun g768 => ?_) (fun g768 => ?_)
                · replace h := iteT h g768
                  conv => whnf
                  refine CutK.norm [6, 7, 9, 11, 12, 13, 19, 20, 55, 56, 57] [1216, 5312, 64000, 64001] ?_
                  conv => whnf
                  obtain ⟨g769, h⟩ := req_ex h
                  refine Req.of g769 ?_
                  conv => whnf
                  obtain ⟨g772, x770, e771, h⟩ := row_s_ex h
                  refine Row.of _ e771 ?_
                  conv => whnf
                  refine Pick.no ?_
                  conv => whnf
                  obtain ⟨y773, e774, h⟩ := bind_ex h
                  refine CallOk.of (laws_qSame_ct e774) ?_
                  conv => whnf
                  refine spl (fun g775 => ?_) (fun g775 => ?_)
                  · replace h := iteT h g775
                    conv => whnf
                    refine CutK.norm [6, 7, 9, 11, 12, 55, 56, 57, 135] [5312, 64000, 64001] ?_
                    conv => whnf
                    refine CutK.norm [6, 7, 9, 11, 12, 55, 56, 57] [5312, 64000, 64001] ?_
                    conv => whnf
                    exact LoopOk.back (laws_FnPlayedHydras_l0_ct hx rest (v407n + 1) _ _ hd1 h) [some 64000, some 64001, some 5312] [] ⟨⟨rfl, rfl⟩, ⟨rfl, ⟨rfl, rfl, rows_same⟩, ⟨rfl, rfl, rows_same⟩, ⟨rfl, rfl, rows_same⟩, trivial⟩, rfl, ⟨rfl, rfl⟩, ⟨rfl, rfl⟩, ⟨(by first | rfl | exact List.length_append.symm | (simp; done) | omega | (dsimp only; omega)), rfl⟩, rfl, ⟨rfl, rfl⟩, rfl, i64eq (wrap_up hlt hx), trivial⟩
                  · replace h := iteF h g775
                    conv => whnf
                    refine CutK.norm [6, 7, 9, 11, 12, 55, 56, 57, 135] [5312, 64000, 64001] ?_
                    conv => whnf
                    cases h
                    exact Done.of [] [] rfl rfl ⟨⟨rfl, rfl⟩, ⟨rfl, trivial⟩, rfl, trivial⟩
                · replace h := iteF h g768
                  conv => whnf
                  refine CutK.norm [6, 7, 9, 11, 12, 13, 19, 20, 55, 56, 57] [1216, 5312, 64000, 64001] ?_
                  conv => whnf
                  refine CutK.norm [6, 7, 9, 11, 12, 55, 56, 57, 135] [5312, 64000, 64001] ?_
                  conv => whnf
                  cases h
                  exact Done.of [] [] rfl rfl ⟨⟨rfl, rfl⟩, ⟨rfl, trivial⟩, rfl, trivial⟩
            · replace h := iteF h g754
              conv => whnf
              refine CutK.norm [6, 7, 9, 11, 12, 13, 14, 17, 18, 55, 56, 57] [896, 5312, 5504, 64000, 64001] ?_
              conv => whnf
              cases h
              exact Done.of [] [] rfl rfl ⟨⟨rfl, rfl⟩, ⟨rfl, trivial⟩, rfl, trivial⟩
        · replace h := iteF h g722
          conv => whnf
          refine CutK.norm [6, 7, 9, 11, 12, 13, 14, 55, 56, 57, 70] [896, 64000, 64001, 64002] ?_
          conv => whnf
          cases h
          exact Done.of [] [] rfl rfl ⟨⟨rfl, rfl⟩, ⟨rfl, trivial⟩, rfl, trivial⟩
      · replace h := condT h
        refine LoopOk.step ?_
        conv => whnf
        refine splD (fun _ => ?_) (fun g => absurd hlt g)
        conv => whnf
        obtain ⟨g776, h⟩ := req_ex h
        refine Req.of g776 ?_
        conv => whnf
        obtain ⟨x777, e778, h⟩ := cell_s_ex h
        rw [e778] at hrow
        refine Row.of _ hrow ?_
        conv => whnf
        obtain ⟨g779, h⟩ := req_ex h
        refine Req.of g779 ?_
        conv => whnf
        obtain ⟨g782, x780, e781, h⟩ := row_s_ex h
        refine Row.of _ e781 ?_
        conv => whnf
        refine Pick.no ?_
        conv => whnf
        obtain ⟨y783, e784, h⟩ := bind_ex h
        refine CallOk.of (laws_qSame_ct e784) ?_
        conv => whnf
        refine spl (fun g785 => ?_) (fun g785 => ?_)
        · replace h := iteT h g785
          conv => whnf
          refine CutK.norm [6, 7, 9, 11, 12, 13, 14, 55, 56, 57, 70] [896, 64000, 64001, 64002] ?_
          conv => whnf
          refine CutK.norm [6, 7, 9, 11, 12, 13, 14, 55, 56, 57] [896, 64000, 64001, 64002] ?_
          conv => whnf
          refine Pick.no ?_
          conv => whnf
          obtain ⟨y786, e787, h⟩ := bind_ex h
          refine CallOk.of (impl_HydraOrdinal_ct e787) ?_
          conv => whnf
          refine spl (fun g788 => ?_) (fun g788 => ?_)
          · replace h := iteT h g788
            conv => whnf
            refine CutK.norm [6, 7, 9, 11, 12, 13, 14, 15, 16, 55, 56, 57] [896, 960, 4672, 64000, 64001, 64002] ?_
            conv => whnf
            refine Take.all (rfl) ?_
            conv => whnf
            refine Take.all (rfl) ?_
            conv => whnf
            refine Take.all (by first | rfl | exact List.length_append.symm | (simp; done) | omega | (dsimp only; omega)) ?_
            conv => whnf
            obtain ⟨g789, h⟩ := req_ex h
            refine Req.of (room (b := 24) (by decide) g789 (wide1 rfl wide0)) ?_
            conv => whnf
            refine Pick.no ?_
            conv => whnf
            obtain ⟨y790, e791, h⟩ := bind_ex h
            refine CallOk.of (impl_HeadsOf_ct e791) ?_
            conv => whnf
            refine spl (fun g792 => ?_) (fun g792 => ?_)
            · replace h := iteT h g792
              conv => whnf
              refine CutK.norm [6, 7, 9, 11, 12, 13, 14, 17, 18, 55, 56, 57] [896, 5312, 5504, 64000, 64001] ?_
              conv => whnf
              refine splD (fun g793 => ?_) (fun g793 => ?_)
              · replace h := iteP h g793
                conv => whnf
                refine splD (fun g794 => ?_) (fun g794 => ?_)
                · replace h := iteP h g794
                  conv => whnf
                  refine splD (fun g795 => ?_) (fun g795 => ?_)
                  · replace h := iteP h g795
                    conv => whnf
                    cases h
                    exact Done.of [] [] rfl rfl ⟨⟨rfl, rfl⟩, ⟨rfl, trivial⟩, rfl, trivial⟩
                  · replace h := iteN h g795
                    conv => whnf
                    refine CutK.norm [6, 7, 9, 11, 12, 55, 56, 57] [5312, 64000, 64001] ?_
                    conv => whnf
                    exact LoopOk.back (laws_FnPlayedHydras_l0_ct hx rest (v407n + 1) _ _ hd1 h) [some 64000, some 64001, some 5312] [] ⟨⟨rfl, rfl⟩, ⟨rfl, ⟨rfl, rfl, rows_same⟩, ⟨rfl, rfl, rows_same⟩, ⟨rfl, rfl, rows_same⟩, trivial⟩, rfl, ⟨rfl, rfl⟩, ⟨rfl, rfl⟩, ⟨(by first | rfl | exact List.length_append.symm | (simp; done) | omega | (dsimp only; omega)), rfl⟩, rfl, ⟨rfl, rfl⟩, rfl, i64eq (wrap_up hlt hx), trivial⟩
                · replace h := iteN h g794
                  conv => whnf
                  refine CutK.norm [6, 7, 9, 11, 12, 55, 56, 57] [5312, 64000, 64001] ?_
                  conv => whnf
                  exact LoopOk.back (laws_FnPlayedHydras_l0_ct hx rest (v407n + 1) _ _ hd1 h) [some 64000, some 64001, some 5312] [] ⟨⟨rfl, rfl⟩, ⟨rfl, ⟨rfl, rfl, rows_same⟩, ⟨rfl, rfl, rows_same⟩, ⟨rfl, rfl, rows_same⟩, trivial⟩, rfl, ⟨rfl, rfl⟩, ⟨rfl, rfl⟩, ⟨(by first | rfl | exact List.length_append.symm | (simp; done) | omega | (dsimp only; omega)), rfl⟩, rfl, ⟨rfl, rfl⟩, rfl, i64eq (wrap_up hlt hx), trivial⟩
              · replace h := iteN h g793
                conv => whnf
                obtain ⟨g798, x796, e797, h⟩ := row_i_ex h
                refine Req.of g798 ?_
                refine Row.of _ e797 ?_
                conv => whnf
                obtain ⟨g799, h⟩ := req_ex h
                refine Req.of g799 ?_
                conv => whnf
                obtain ⟨g800, h⟩ := req_ex h
                refine Req.of g800 ?_
                conv => whnf
                obtain ⟨g803, x801, e802, h⟩ := row_i_ex h
                refine Row.of _ e802 ?_
                conv => whnf
                refine Pick.no ?_
                conv => whnf
                obtain ⟨y804, e805, h⟩ := bind_ex h
                refine CallOk.of (impl_ChopHead_ct e805) ?_
                conv => whnf
                refine spl (fun g806 => ?_) (fun g806 => ?_)
                · replace h := iteT h g806
                  conv => whnf
                  refine CutK.norm [6, 7, 9, 11, 12, 13, 19, 20, 55, 56, 57] [1216, 5312, 64000, 64001] ?_
                  conv => whnf
                  obtain ⟨g807, h⟩ := req_ex h
                  refine Req.of g807 ?_
                  conv => whnf
                  obtain ⟨g810, x808, e809, h⟩ := row_s_ex h
                  refine Row.of _ e809 ?_
                  conv => whnf
                  refine Pick.no ?_
                  conv => whnf
                  obtain ⟨y811, e812, h⟩ := bind_ex h
                  refine CallOk.of (laws_qSame_ct e812) ?_
                  conv => whnf
                  refine spl (fun g813 => ?_) (fun g813 => ?_)
                  · replace h := iteT h g813
                    conv => whnf
                    refine CutK.norm [6, 7, 9, 11, 12, 55, 56, 57, 135] [5312, 64000, 64001] ?_
                    conv => whnf
                    refine CutK.norm [6, 7, 9, 11, 12, 55, 56, 57] [5312, 64000, 64001] ?_
                    conv => whnf
                    exact LoopOk.back (laws_FnPlayedHydras_l0_ct hx rest (v407n + 1) _ _ hd1 h) [some 64000, some 64001, some 5312] [] ⟨⟨rfl, rfl⟩, ⟨rfl, ⟨rfl, rfl, rows_same⟩, ⟨rfl, rfl, rows_same⟩, ⟨rfl, rfl, rows_same⟩, trivial⟩, rfl, ⟨rfl, rfl⟩, ⟨rfl, rfl⟩, ⟨(by first | rfl | exact List.length_append.symm | (simp; done) | omega | (dsimp only; omega)), rfl⟩, rfl, ⟨rfl, rfl⟩, rfl, i64eq (wrap_up hlt hx), trivial⟩
                  · replace h := iteF h g813
                    conv => whnf
                    refine CutK.norm [6, 7, 9, 11, 12, 55, 56, 57, 135] [5312, 64000, 64001] ?_
                    conv => whnf
                    cases h
                    exact Done.of [] [] rfl rfl ⟨⟨rfl, rfl⟩, ⟨rfl, trivial⟩, rfl, trivial⟩
                · replace h := iteF h g806
                  conv => whnf
                  refine CutK.norm [6, 7, 9, 11, 12, 13, 19, 20, 55, 56, 57] [1216, 5312, 64000, 64001] ?_
                  conv => whnf
                  refine CutK.norm [6, 7, 9, 11, 12, 55, 56, 57, 135] [5312, 64000, 64001] ?_
                  conv => whnf
                  cases h
                  exact Done.of [] [] rfl rfl ⟨⟨rfl, rfl⟩, ⟨rfl, trivial⟩, rfl, trivial⟩
            · replace h := iteF h g792
              conv => whnf
              refine CutK.norm [6, 7, 9, 11, 12, 13, 14, 17, 18, 55, 56, 57] [896, 5312, 5504, 64000, 64001] ?_
              conv => whnf
              cases h
              exact Done.of [] [] rfl rfl ⟨⟨rfl, rfl⟩, ⟨rfl, trivial⟩, rfl, trivial⟩
          · replace h := iteF h g788
            conv => whnf
            refine CutK.norm [6, 7, 9, 11, 12, 13, 14, 15, 16, 55, 56, 57] [896, 960, 4672, 64000, 64001, 64002] ?_
            conv => whnf
            refine Take.all (rfl) ?_
            conv => whnf
            refine Take.all (rfl) ?_
            conv => whnf
            refine Take.all (by first | rfl | exact List.length_append.symm | (simp; done) | omega | (dsimp only; omega)) ?_
            conv => whnf
            obtain ⟨g814, h⟩ := req_ex h
            refine Req.of (room (b := 24) (by decide) g814 (wide1 rfl wide0)) ?_
            conv => whnf
            refine Pick.no ?_
            conv => whnf
            obtain ⟨y815, e816, h⟩ := bind_ex h
            refine CallOk.of (impl_HeadsOf_ct e816) ?_
            conv => whnf
            refine spl (fun g817 => ?_) (fun g817 => ?_)
            · replace h := iteT h g817
              conv => whnf
              refine CutK.norm [6, 7, 9, 11, 12, 13, 14, 17, 18, 55, 56, 57] [896, 5312, 5504, 64000, 64001] ?_
              conv => whnf
              refine splD (fun g818 => ?_) (fun g818 => ?_)
              · replace h := iteP h g818
                conv => whnf
                refine splD (fun g819 => ?_) (fun g819 => ?_)
                · replace h := iteP h g819
                  conv => whnf
                  refine splD (fun g820 => ?_) (fun g820 => ?_)
                  · replace h := iteP h g820
                    conv => whnf
                    cases h
                    exact Done.of [] [] rfl rfl ⟨⟨rfl, rfl⟩, ⟨rfl, trivial⟩, rfl, trivial⟩
                  · replace h := iteN h g820
                    conv => whnf
                    refine CutK.norm [6, 7, 9, 11, 12, 55, 56, 57] [5312, 64000, 64001] ?_
                    conv => whnf
                    exact LoopOk.back (laws_FnPlayedHydras_l0_ct hx rest (v407n + 1) _ _ hd1 h) [some 64000, some 64001, some 5312] [] ⟨⟨rfl, rfl⟩, ⟨rfl, ⟨rfl, rfl, rows_same⟩, ⟨rfl, rfl, rows_same⟩, ⟨rfl, rfl, rows_same⟩, trivial⟩, rfl, ⟨rfl, rfl⟩, ⟨rfl, rfl⟩, ⟨(by first | rfl | exact List.length_append.symm | (simp; done) | omega | (dsimp only; omega)), rfl⟩, rfl, ⟨rfl, rfl⟩, rfl, i64eq (wrap_up hlt hx), trivial⟩
                · replace h := iteN h g819
                  conv => whnf
                  refine CutK.norm [6, 7, 9, 11, 12, 55, 56, 57] [5312, 64000, 64001] ?_
                  conv => whnf
                  exact LoopOk.back (laws_FnPlayedHydras_l0_ct hx rest (v407n + 1) _ _ hd1 h) [some 64000, some 64001, some 5312] [] ⟨⟨rfl, rfl⟩, ⟨rfl, ⟨rfl, rfl, rows_same⟩, ⟨rfl, rfl, rows_same⟩, ⟨rfl, rfl, rows_same⟩, trivial⟩, rfl, ⟨rfl, rfl⟩, ⟨rfl, rfl⟩, ⟨(by first | rfl | exact List.length_append.symm | (simp; done) | omega | (dsimp only; omega)), rfl⟩, rfl, ⟨rfl, rfl⟩, rfl, i64eq (wrap_up hlt hx), trivial⟩
              · replace h := iteN h g818
                conv => whnf
                obtain ⟨g823, x821, e822, h⟩ := row_i_ex h
                refine Req.of g823 ?_
                refine Row.of _ e822 ?_
                conv => whnf
                obtain ⟨g824, h⟩ := req_ex h
                refine Req.of g824 ?_
                conv => whnf
                obtain ⟨g825, h⟩ := req_ex h
                refine Req.of g825 ?_
                conv => whnf
                obtain ⟨g828, x826, e827, h⟩ := row_i_ex h
                refine Row.of _ e827 ?_
                conv => whnf
                refine Pick.no ?_
                conv => whnf
                obtain ⟨y829, e830, h⟩ := bind_ex h
                refine CallOk.of (impl_ChopHead_ct e830) ?_
                conv => whnf
                refine spl (fun g831 => ?_) (fun g831 => ?_)
                · replace h := iteT h g831
                  conv => whnf
                  refine CutK.norm [6, 7, 9, 11, 12, 13, 19, 20, 55, 56, 57] [1216, 5312, 64000, 64001] ?_
                  conv => whnf
                  obtain ⟨g832, h⟩ := req_ex h
                  refine Req.of g832 ?_
                  conv => whnf
                  obtain ⟨g835, x833, e834, h⟩ := row_s_ex h
                  refine Row.of _ e834 ?_
                  conv => whnf
                  refine Pick.no ?_
                  conv => whnf
                  obtain ⟨y836, e837, h⟩ := bind_ex h
                  refine CallOk.of (laws_qSame_ct e837) ?_
                  conv => whnf
                  refine spl (fun g838 => ?_) (fun g838 => ?_)
                  · replace h := iteT h g838
                    conv => whnf
                    refine CutK.norm [6, 7, 9, 11, 12, 55, 56, 57, 135] [5312, 64000, 64001] ?_
                    conv => whnf
                    refine CutK.norm [6, 7, 9, 11, 12, 55, 56, 57] [5312, 64000, 64001] ?_
                    conv => whnf
                    exact LoopOk.back (laws_FnPlayedHydras_l0_ct hx rest (v407n + 1) _ _ hd1 h) [some 64000, some 64001, some 5312] [] ⟨⟨rfl, rfl⟩, ⟨rfl, ⟨rfl, rfl, rows_same⟩, ⟨rfl, rfl, rows_same⟩, ⟨rfl, rfl, rows_same⟩, trivial⟩, rfl, ⟨rfl, rfl⟩, ⟨rfl, rfl⟩, ⟨(by first | rfl | exact List.length_append.symm | (simp; done) | omega | (dsimp only; omega)), rfl⟩, rfl, ⟨rfl, rfl⟩, rfl, i64eq (wrap_up hlt hx), trivial⟩
                  · replace h := iteF h g838
                    conv => whnf
                    refine CutK.norm [6, 7, 9, 11, 12, 55, 56, 57, 135] [5312, 64000, 64001] ?_
                    conv => whnf
                    cases h
                    exact Done.of [] [] rfl rfl ⟨⟨rfl, rfl⟩, ⟨rfl, trivial⟩, rfl, trivial⟩
                · replace h := iteF h g831
                  conv => whnf
                  refine CutK.norm [6, 7, 9, 11, 12, 13, 19, 20, 55, 56, 57] [1216, 5312, 64000, 64001] ?_
                  conv => whnf
                  refine CutK.norm [6, 7, 9, 11, 12, 55, 56, 57, 135] [5312, 64000, 64001] ?_
                  conv => whnf
                  cases h
                  exact Done.of [] [] rfl rfl ⟨⟨rfl, rfl⟩, ⟨rfl, trivial⟩, rfl, trivial⟩
            · replace h := iteF h g817
              conv => whnf
              refine CutK.norm [6, 7, 9, 11, 12, 13, 14, 17, 18, 55, 56, 57] [896, 5312, 5504, 64000, 64001] ?_
              conv => whnf
              cases h
              exact Done.of [] [] rfl rfl ⟨⟨rfl, rfl⟩, ⟨rfl, trivial⟩, rfl, trivial⟩
        · replace h := iteF h g785
          conv => whnf
          refine CutK.norm [6, 7, 9, 11, 12, 13, 14, 55, 56, 57, 70] [896, 64000, 64001, 64002] ?_
          conv => whnf
          cases h
          exact Done.of [] [] rfl rfl ⟨⟨rfl, rfl⟩, ⟨rfl, trivial⟩, rfl, trivial⟩
def laws_FnPlayedHydras_p5 (k : Nat) (o20 : Rw) (o21 : Rw) (o22 : Rw) (v23 : Bool) (v27 : Bool) : Option Bool :=
  (cond v23 (cond v27 (if (o21.length : Int) = (o22.length : Int) then (if o21.length ≤ cap then (laws_FnPlayedHydras_l0 k o20 o21 o22 (fun (v516 : Rw) (v517 : Bool) => (cond v517 (laws_FnPlayedHydras_p10 k v516 true) (laws_FnPlayedHydras_p10 k v516 false))) o21 0 ([] : Rw) true) else none) else some false) (some false)) (cond v27 (some false) (if (o21.length : Int) = (o22.length : Int) then some true else some false)))
set_option maxHeartbeats 4000000 in
set_option maxRecDepth 100000 in
theorem laws_FnPlayedHydras_p5_ct {k : Nat} {o20 : Rw} {o21 : Rw} {o22 : Rw} {v23 : Bool} {v27 : Bool} {r : Bool} (h : laws_FnPlayedHydras_p5 k o20 o21 o22 v23 v27 = some r) : X prog 0 (tlF f5 5) (mk 150 [(6, .d (D.sl o20)), (7, .os 1089000 o21.length), (8, .d (D.bool v27)), (9, .os 1089001 o22.length), (10, .d (D.bool v23))] [(1089000, .arr 31 false o21), (1089001, .arr 31 false o22)]) (finK prog f5 0 (.d (D.bool r)) (⟨[], []⟩)) := by
  rw [laws_FnPlayedHydras_p5] at h
  cases v23
  · replace h := condF h
    cases v27
    · replace h := condF h
      conv => whnf
      refine splF ?_
      conv => whnf
      refine splN (fun g383 => ?_) (fun g383 => ?_)
      · replace h := iteN h g383
        conv => whnf
        cases h
        exact Done.of [] [] rfl rfl ⟨⟨rfl, rfl⟩, ⟨rfl, trivial⟩, rfl, trivial⟩
      · replace h := iteP h g383
        conv => whnf
        cases h
        exact Done.of [] [] rfl rfl ⟨⟨rfl, rfl⟩, ⟨rfl, trivial⟩, rfl, trivial⟩
    · replace h := condT h
      conv => whnf
      refine splT ?_
      conv => whnf
      cases h
      exact Done.of [] [] rfl rfl ⟨⟨rfl, rfl⟩, ⟨rfl, trivial⟩, rfl, trivial⟩
  · replace h := condT h
    cases v27
    · replace h := condF h
      conv => whnf
      refine splT ?_
      conv => whnf
      cases h
      exact Done.of [] [] rfl rfl ⟨⟨rfl, rfl⟩, ⟨rfl, trivial⟩, rfl, trivial⟩
    · replace h := condT h
      conv => whnf
      refine splF ?_
      conv => whnf
      refine splN (fun g384 => ?_) (fun g384 => ?_)
      · replace h := iteN h g384
        conv => whnf
        cases h
        exact Done.of [] [] rfl rfl ⟨⟨rfl, rfl⟩, ⟨rfl, trivial⟩, rfl, trivial⟩
      · replace h := iteP h g384
        conv => whnf
        obtain ⟨g839, h⟩ := req_ex h
        refine LoopOk.into (laws_FnPlayedHydras_l0_ct  g839 _ _ _ _ rfl h) [some 1089000, some 1089001, none] [] ⟨⟨rfl, rfl⟩, ⟨rfl, ⟨rfl, rfl, rows_same⟩, ⟨rfl, rfl, rows_same⟩, rfl, trivial⟩, rfl, ⟨rfl, rfl⟩, ⟨rfl, rfl⟩, ⟨rfl, rfl⟩, rfl, ⟨rfl, rfl⟩, rfl, rfl, trivial⟩ ?_ (fun _ hs => hs)
        rintro i ts os ⟨rfl, v516, v517, h, rfl, rfl⟩
        cases v517
        · replace h := condF h
          conv => whnf
          exact CutK.piece (laws_FnPlayedHydras_p10_ct  h) [some 67003] [] ⟨⟨rfl, rfl⟩, ⟨rfl, ⟨rfl, rfl, rows_same⟩, trivial⟩, ⟨rfl, rfl⟩, rfl, trivial⟩
        · replace h := condT h
          conv => whnf
          exact CutK.piece (laws_FnPlayedHydras_p10_ct  h) [some 67003] [] ⟨⟨rfl, rfl⟩, ⟨rfl, ⟨rfl, rfl, rows_same⟩, trivial⟩, ⟨rfl, rfl⟩, rfl, trivial⟩
def laws_FnPlayedHydras_p4 (k : Nat) (o13 : Rw) (o14 : Rw) (o15 : Rw) (v16 : Bool) : Option Bool :=
  (cond v16 ((spec_PlayHydra k o15 o13).bind fun y843 => (if y843.2 = true then (laws_FnPlayedHydras_p5 k o13 o14 y843.1 true true) else (laws_FnPlayedHydras_p5 k o13 o14 y843.1 false true))) ((spec_PlayHydra k o15 o13).bind fun y840 => (if y840.2 = true then (laws_FnPlayedHydras_p5 k o13 o14 y840.1 true false) else (laws_FnPlayedHydras_p5 k o13 o14 y840.1 false false))))
set_option maxHeartbeats 4000000 in
set_option maxRecDepth 100000 in
theorem laws_FnPlayedHydras_p4_ct {k : Nat} {o13 : Rw} {o14 : Rw} {o15 : Rw} {v16 : Bool} {r : Bool} (h : laws_FnPlayedHydras_p4 k o13 o14 o15 v16 = some r) : X prog 0 (tlF f5 4) (mk 150 [(5, .ptr 320 0), (6, .d (D.sl o13)), (7, .os 1084002 o14.length), (8, .d (D.bool v16))] [(320, .box 31 [.d (D.sl o15)]), (1084002, .arr 31 false o14)]) (finK prog f5 0 (.d (D.bool r)) (⟨[], []⟩)) := by
  rw [laws_FnPlayedHydras_p4] at h
  cases v16
  · replace h := condF h
    conv => whnf
    refine Pick.no ?_
    conv => whnf
    obtain ⟨y840, e841, h⟩ := bind_ex h
    refine CallOk.of (spec_PlayHydra_ct e841) ?_
    conv => whnf
    refine spl (fun g842 => ?_) (fun g842 => ?_)
    · replace h := iteT h g842
      conv => whnf
      exact CutK.piece (laws_FnPlayedHydras_p5_ct  h) [some 1084002, some 2560] [] ⟨⟨rfl, rfl⟩, ⟨rfl, ⟨rfl, rfl, rows_same⟩, ⟨rfl, rfl, rows_same⟩, trivial⟩, rfl, ⟨rfl, rfl⟩, rfl, ⟨rfl, rfl⟩, rfl, trivial⟩
    · replace h := iteF h g842
      conv => whnf
      exact CutK.piece (laws_FnPlayedHydras_p5_ct  h) [some 1084002, some 2560] [] ⟨⟨rfl, rfl⟩, ⟨rfl, ⟨rfl, rfl, rows_same⟩, ⟨rfl, rfl, rows_same⟩, trivial⟩, rfl, ⟨rfl, rfl⟩, rfl, ⟨rfl, rfl⟩, rfl, trivial⟩
  · replace h := condT h
    conv => whnf
    refine Pick.no ?_
    conv => whnf
    obtain ⟨y843, e844, h⟩ := bind_ex h
    refine CallOk.of (spec_PlayHydra_ct e844) ?_
    conv => whnf
    refine spl (fun g845 => ?_) (fun g845 => ?_)
    · replace h := iteT h g845
      conv => whnf
      exact CutK.piece (laws_FnPlayedHydras_p5_ct  h) [some 1084002, some 2560] [] ⟨⟨rfl, rfl⟩, ⟨rfl, ⟨rfl, rfl, rows_same⟩, ⟨rfl, rfl, rows_same⟩, trivial⟩, rfl, ⟨rfl, rfl⟩, rfl, ⟨rfl, rfl⟩, rfl, trivial⟩
    · replace h := iteF h g845
      conv => whnf
      exact CutK.piece (laws_FnPlayedHydras_p5_ct  h) [some 1084002, some 2560] [] ⟨⟨rfl, rfl⟩, ⟨rfl, ⟨rfl, rfl, rows_same⟩, ⟨rfl, rfl, rows_same⟩, trivial⟩, rfl, ⟨rfl, rfl⟩, rfl, ⟨rfl, rfl⟩, rfl, trivial⟩
def laws_FnPlayedHydras_p3 (k : Nat) (o8 : Rw) (o9 : Rw) : Option Bool :=
  ((impl_PlayHydra k o9 o8).bind fun y846 => (if y846.2 = true then (laws_FnPlayedHydras_p4 k o8 y846.1 o9 true) else (laws_FnPlayedHydras_p4 k o8 y846.1 o9 false)))
set_option maxHeartbeats 4000000 in
set_option maxRecDepth 100000 in
theorem laws_FnPlayedHydras_p3_ct {k : Nat} {o8 : Rw} {o9 : Rw} {r : Bool} (h : laws_FnPlayedHydras_p3 k o8 o9 = some r) : X prog 0 (tlF f5 3) (mk 150 [(5, .ptr 320 0), (6, .os 1079001 o8.length)] [(320, .box 31 [.os 1079000 o9.length]), (1079000, .arr 3 true o9), (1079001, .arr 3 true o8)]) (finK prog f5 0 (.d (D.bool r)) (⟨[], []⟩)) := by
  rw [laws_FnPlayedHydras_p3] at h
  conv => whnf
  refine Pick.no ?_
  conv => whnf
  refine Take.all (rfl) ?_
  conv => whnf
  refine Take.all (rfl) ?_
  conv => whnf
  obtain ⟨y846, e847, h⟩ := bind_ex h
  refine CallOk.of (impl_PlayHydra_ct e847) ?_
  conv => whnf
  refine spl (fun g848 => ?_) (fun g848 => ?_)
  · replace h := iteT h g848
    conv => whnf
    exact CutK.piece (laws_FnPlayedHydras_p4_ct  h) [some 320, some 2176] [] ⟨⟨rfl, rfl⟩, ⟨rfl, ⟨rfl, ⟨Nat.le_of_eq rfl, eq_take rfl⟩, trivial⟩, ⟨rfl, rfl, rows_same⟩, trivial⟩, ⟨rfl, rfl⟩, ⟨Nat.le_of_eq rfl, eq_take rfl⟩, ⟨rfl, rfl⟩, rfl, trivial⟩
  · replace h := iteF h g848
    conv => whnf
    exact CutK.piece (laws_FnPlayedHydras_p4_ct  h) [some 320, some 2176] [] ⟨⟨rfl, rfl⟩, ⟨rfl, ⟨rfl, ⟨Nat.le_of_eq rfl, eq_take rfl⟩, trivial⟩, ⟨rfl, rfl, rows_same⟩, trivial⟩, ⟨rfl, rfl⟩, ⟨Nat.le_of_eq rfl, eq_take rfl⟩, ⟨rfl, rfl⟩, rfl, trivial⟩
def laws_FnPlayedHydras_p2 (k : Nat) (a1 : Rw) : Option Bool :=
  ((spec_DrawPlayHydra k a1).bind fun y849 => (laws_FnPlayedHydras_p3 k y849.2 y849.1))
set_option maxHeartbeats 4000000 in
set_option maxRecDepth 100000 in
theorem laws_FnPlayedHydras_p2_ct {k : Nat} {a1 : Rw} {r : Bool} (h : laws_FnPlayedHydras_p2 k a1 = some r) : X prog 0 (tlF f5 2) (mk 150 [(0, .d (D.sl a1))] []) (finK prog f5 0 (.d (D.bool r)) (⟨[], []⟩)) := by
  rw [laws_FnPlayedHydras_p2] at h
  conv => whnf
  refine Pick.no ?_
  conv => whnf
  obtain ⟨y849, e850, h⟩ := bind_ex h
  refine CallOk.of (spec_DrawPlayHydra_ct e850) ?_
  conv => whnf
  exact CutK.piece (laws_FnPlayedHydras_p3_ct  h) [some 320, some 1792, some 1793] [] ⟨⟨rfl, rfl⟩, ⟨rfl, ⟨rfl, ⟨rfl, rfl⟩, trivial⟩, ⟨rfl, rfl, rows_same⟩, ⟨rfl, rfl, rows_same⟩, trivial⟩, ⟨rfl, rfl⟩, ⟨rfl, rfl⟩, trivial⟩
def laws_FnPlayedHydras (k : Nat) (a1 : Rw) (a2 : Rw) : Option Bool :=
  ((laws_big a1 a2).bind fun y851 => (if y851 = true then some true else (laws_FnPlayedHydras_p2 k a1)))
set_option maxHeartbeats 4000000 in
set_option maxRecDepth 100000 in
theorem laws_FnPlayedHydras_ct {k : Nat} {a1 : Rw} {a2 : Rw} {r : Bool} (h : laws_FnPlayedHydras k a1 a2 = some r) : Ct prog 5 [.d (D.sl a1), .d (D.sl a2)] (⟨[], []⟩) (.d (D.bool r)) (⟨[], []⟩) := by
  rw [laws_FnPlayedHydras] at h
  refine Ct.of (c := _) mixed func5 ⟨rfl, rfl, rfl⟩ ?_ rfl
  conv => whnf
  refine Pick.no ?_
  conv => whnf
  obtain ⟨y851, e852, h⟩ := bind_ex h
  refine CallOk.of (laws_big_ct e852) ?_
  conv => whnf
  refine spl (fun g853 => ?_) (fun g853 => ?_)
  · replace h := iteT h g853
    conv => whnf
    refine CutK.norm [0, 25] [] ?_
    conv => whnf
    cases h
    exact Done.of [] [] rfl rfl ⟨⟨rfl, rfl⟩, ⟨rfl, trivial⟩, rfl, trivial⟩
  · replace h := iteF h g853
    conv => whnf
    refine CutK.norm [0, 25] [] ?_
    conv => whnf
    exact CutK.piece (laws_FnPlayedHydras_p2_ct  h) [] [] ⟨⟨rfl, rfl⟩, ⟨rfl, trivial⟩, rfl, trivial⟩
end
end Go.Proofs.Try
