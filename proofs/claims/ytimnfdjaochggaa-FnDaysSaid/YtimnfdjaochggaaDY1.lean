/- Printed by program (axgen): pure functions, and that the Go functions compute them. -/
import Derived.Test.YtimnfdjaochggaaDY0
set_option linter.unusedVariables false
set_option linter.unusedSimpArgs false
namespace Go.Proofs.Try
open Go Go.AX
noncomputable section
def laws_FnDays_p11  : Option Bool :=
  some true
set_option maxHeartbeats 4000000 in
set_option maxRecDepth 100000 in
theorem laws_FnDays_p11_ct  {r : Bool} (h : laws_FnDays_p11 = some r) : X prog 0 (tlF f4 11) (mk 93 [] []) (finK prog f4 0 (.d (D.bool r)) (⟨[], []⟩)) := by
  rw [laws_FnDays_p11] at h
  conv => whnf
  cases h
  exact Done.of [] [] rfl rfl ⟨⟨rfl, rfl⟩, ⟨rfl, trivial⟩, rfl, trivial⟩
def laws_FnDays_l1 (k : Nat) (o41 : Int) (o42 : Rw) (K2 : Option Bool) : Rw → Nat → Option Bool
  | [], v87n => (K2)
  | cs :: rest, v87n => (if 0 ≤ (v87n : Int) ∧ (v87n : Int) < (o42.length : Int) then (cell_ii cs fun x109 x110 => ((impl_DayOf k x109 x110).bind fun y112 => (if y112.2 = true then (if y112.1 = o41 then (if (0 : Int) < (v87n : Int) then (if 0 ≤ (IntKind.i64.wrap ((v87n : Int) - 1)) ∧ (IntKind.i64.wrap ((v87n : Int) - 1)) < (o42.length : Int) then (row_ii o42 (IntKind.i64.wrap ((v87n : Int) - 1)) fun x118 x119 => ((impl_CompareFractions k x118 x119 x109 x110).bind fun y122 => (if y122.2 = true then (if (0 : Int) ≤ y122.1 then some false else (laws_FnDays_l1 k o41 o42 K2 rest (v87n + 1))) else some false))) else none) else (laws_FnDays_l1 k o41 o42 K2 rest (v87n + 1))) else some false) else some false))) else none)
set_option maxHeartbeats 4000000 in
set_option maxRecDepth 100000 in
theorem laws_FnDays_l1_ct {k : Nat} {o41 : Int} {o42 : Rw} {K2 : Option Bool} {r : Bool} (hx : o42.length ≤ cap) : ∀ (rest : Rw) (v87n : Nat), o42.drop v87n = rest → laws_FnDays_l1 k o41 o42 K2 rest v87n = some r → LoopOk prog 0 (lp f4 1) (mk 93 [(5, .d (D.int .i64 o41)), (6, .os 70400 o42.length), (55, .os 70400 o42.length), (56, .d (D.int .i64 (o42.length : Int))), (57, .d (D.int .i64 (v87n : Int)))] [(70400, .arr 32 true o42)]) (LoopEnd prog f4 0 93 (.d (D.bool r)) (⟨[], []⟩) (fun i ts os => (i = 2 ∧ K2 = some r ∧ ts = [] ∧ os = [])))
  | [], v87n, hd, h => by
      rw [laws_FnDays_l1] at h
      have hn := drop_nil hd
      refine LoopOk.step ?_
      conv => whnf
      refine splD (fun g => absurd g hn) (fun _ => ?_)
      conv => whnf
      exact ⟨_, _, [], [], ⟨rfl, h, rfl, rfl⟩, ⟨⟨rfl, rfl⟩, ⟨rfl, trivial⟩, trivial⟩⟩
  | cs :: rest, v87n, hd, h => by
      rw [laws_FnDays_l1] at h
      obtain ⟨hrow, hd1, hlt⟩ := drop_cons hd
      refine LoopOk.step ?_
      conv => whnf
      refine splD (fun _ => ?_) (fun g => absurd hlt g)
      conv => whnf
      obtain ⟨g108, h⟩ := req_ex h
      refine Req.of g108 ?_
      conv => whnf
      obtain ⟨x109, x110, e111, h⟩ := cell_ii_ex h
      rw [e111] at hrow
      refine Row.of _ hrow ?_
      conv => whnf
      refine Pick.no ?_
      conv => whnf
      obtain ⟨y112, e113, h⟩ := bind_ex h
      refine CallOk.of (impl_DayOf_ct e113) ?_
      conv => whnf
      refine spl (fun g114 => ?_) (fun g114 => ?_)
      · replace h := iteT h g114
        conv => whnf
        refine CutK.norm [5, 6, 12, 13, 14, 15, 55, 56, 57] [832, 70400] ?_
        conv => whnf
        refine splN (fun g115 => ?_) (fun g115 => ?_)
        · replace h := iteN h g115
          conv => whnf
          cases h
          exact Done.of [] [] rfl rfl ⟨⟨rfl, rfl⟩, ⟨rfl, trivial⟩, rfl, trivial⟩
        · replace h := iteP h g115
          conv => whnf
          refine splD (fun g116 => ?_) (fun g116 => ?_)
          · replace h := iteP h g116
            conv => whnf
            obtain ⟨g117, h⟩ := req_ex h
            refine Req.of g117 ?_
            conv => whnf
            obtain ⟨g121, x118, x119, e120, h⟩ := row_ii_ex h
            refine Row.of _ e120 ?_
            conv => whnf
            refine Pick.no ?_
            conv => whnf
            obtain ⟨y122, e123, h⟩ := bind_ex h
            refine CallOk.of (impl_CompareFractions_ct e123) ?_
            conv => whnf
            refine spl (fun g124 => ?_) (fun g124 => ?_)
            · replace h := iteT h g124
              conv => whnf
              refine CutK.norm [5, 6, 16, 17, 55, 56, 57] [70400] ?_
              conv => whnf
              refine splD (fun g125 => ?_) (fun g125 => ?_)
              · replace h := iteP h g125
                conv => whnf
                cases h
                exact Done.of [] [] rfl rfl ⟨⟨rfl, rfl⟩, ⟨rfl, trivial⟩, rfl, trivial⟩
              · replace h := iteN h g125
                conv => whnf
                refine CutK.norm [5, 6, 55, 56, 57] [70400] ?_
                conv => whnf
                exact LoopOk.back (laws_FnDays_l1_ct hx rest (v87n + 1)  hd1 h) [some 70400] [] ⟨⟨rfl, rfl⟩, ⟨rfl, ⟨rfl, rfl, rows_same⟩, trivial⟩, rfl, ⟨rfl, rfl⟩, ⟨rfl, rfl⟩, rfl, i64eq (wrap_up hlt hx), trivial⟩
            · replace h := iteF h g124
              conv => whnf
              refine CutK.norm [5, 6, 16, 17, 55, 56, 57] [70400] ?_
              conv => whnf
              cases h
              exact Done.of [] [] rfl rfl ⟨⟨rfl, rfl⟩, ⟨rfl, trivial⟩, rfl, trivial⟩
          · replace h := iteN h g116
            conv => whnf
            refine CutK.norm [5, 6, 55, 56, 57] [70400] ?_
            conv => whnf
            exact LoopOk.back (laws_FnDays_l1_ct hx rest (v87n + 1)  hd1 h) [some 70400] [] ⟨⟨rfl, rfl⟩, ⟨rfl, ⟨rfl, rfl, rows_same⟩, trivial⟩, rfl, ⟨rfl, rfl⟩, ⟨rfl, rfl⟩, rfl, i64eq (wrap_up hlt hx), trivial⟩
      · replace h := iteF h g114
        conv => whnf
        refine CutK.norm [5, 6, 12, 13, 14, 15, 55, 56, 57] [832, 70400] ?_
        conv => whnf
        cases h
        exact Done.of [] [] rfl rfl ⟨⟨rfl, rfl⟩, ⟨rfl, trivial⟩, rfl, trivial⟩
def laws_FnDays_p9 (k : Nat) (o41 : Int) (o42 : Rw) (o43 : Int) : Option Bool :=
  (if (o42.length : Int) = o43 then (if o42.length ≤ cap then (laws_FnDays_l1 k o41 o42 (laws_FnDays_p11) o42 0) else none) else some false)
set_option maxHeartbeats 4000000 in
set_option maxRecDepth 100000 in
theorem laws_FnDays_p9_ct {k : Nat} {o41 : Int} {o42 : Rw} {o43 : Int} {r : Bool} (h : laws_FnDays_p9 k o41 o42 o43 = some r) : X prog 0 (tlF f4 9) (mk 93 [(5, .d (D.int .i64 o41)), (6, .os 1109000 o42.length), (10, .d (D.int .i64 o43))] [(1109000, .arr 32 true o42)]) (finK prog f4 0 (.d (D.bool r)) (⟨[], []⟩)) := by
  rw [laws_FnDays_p9] at h
  conv => whnf
  refine splN (fun g76 => ?_) (fun g76 => ?_)
  · replace h := iteN h g76
    conv => whnf
    cases h
    exact Done.of [] [] rfl rfl ⟨⟨rfl, rfl⟩, ⟨rfl, trivial⟩, rfl, trivial⟩
  · replace h := iteP h g76
    conv => whnf
    obtain ⟨g126, h⟩ := req_ex h
    refine LoopOk.into (laws_FnDays_l1_ct  g126 _ _  rfl h) [some 1109000] [] ⟨⟨rfl, rfl⟩, ⟨rfl, ⟨rfl, rfl, rows_same⟩, trivial⟩, rfl, ⟨rfl, rfl⟩, ⟨rfl, rfl⟩, rfl, rfl, trivial⟩ ?_ (fun _ hs => hs)
    rintro i ts os ⟨rfl, h, rfl, rfl⟩
    conv => whnf
    exact CutK.piece (laws_FnDays_p11_ct  h) [] [] ⟨⟨rfl, rfl⟩, ⟨rfl, trivial⟩, trivial⟩
def laws_FnDays_l0 (o29 : Int) (o30 : Rw) (K0 : Int → Option Bool) : Nat → Int → Int → Option Bool
  | 0, _, _ => none
  | n + 1, v128, v129 => (if v129 < o29 then (laws_FnDays_l0 o29 o30 K0 n (IntKind.i64.wrap (v128 * 2)) (IntKind.i64.wrap (v129 + 1))) else (K0 v128))
set_option maxHeartbeats 4000000 in
set_option maxRecDepth 100000 in
theorem laws_FnDays_l0_ct {o29 : Int} {o30 : Rw} {K0 : Int → Option Bool} {r : Bool} : ∀ (n : Nat) (v128 : Int) (v129 : Int), laws_FnDays_l0 o29 o30 K0 n v128 v129 = some r → LoopOk prog 0 (lp f4 0) (mk 93 [(5, .d (D.int .i64 o29)), (6, .os 64000 o30.length), (10, .d (D.int .i64 v128)), (11, .d (D.int .i64 v129))] [(64000, .arr 32 true o30)]) (LoopEnd prog f4 0 93 (.d (D.bool r)) (⟨[], []⟩) (fun i ts os => (i = 0 ∧ ∃ v131 : Int, K0 v131 = some r ∧ ts = [(5, .d (D.int .i64 o29)), (6, .os 67001 o30.length), (10, .d (D.int .i64 v131))] ∧ os = [(67001, .arr 32 true o30)])))
  | 0, _, _, h => by
      rw [laws_FnDays_l0] at h; cases h
  | n + 1, v128, v129, h => by
      rw [laws_FnDays_l0] at h
      refine LoopOk.step ?_
      conv => whnf
      refine splD (fun g133 => ?_) (fun g133 => ?_)
      · replace h := iteP h g133
        conv => whnf
        exact LoopOk.back (laws_FnDays_l0_ct  n _ _ h) [some 64000] [] ⟨⟨rfl, rfl⟩, ⟨rfl, ⟨rfl, rfl, rows_same⟩, trivial⟩, rfl, ⟨rfl, rfl⟩, rfl, rfl, trivial⟩
      · replace h := iteN h g133
        conv => whnf
        exact ⟨_, _, [some 64000], [], ⟨rfl, _, h, rfl, rfl⟩, ⟨⟨rfl, rfl⟩, ⟨rfl, ⟨rfl, rfl, rows_same⟩, trivial⟩, rfl, ⟨rfl, rfl⟩, rfl, trivial⟩⟩
def laws_FnDays_p6 (k : Nat) (o29 : Int) (o30 : Rw) (v34 : Bool) : Option Bool :=
  (cond v34 (laws_FnDays_l0 o29 o30 (fun (v131 : Int) => (laws_FnDays_p9 k o29 o30 v131)) k 1 0) (some true))
set_option maxHeartbeats 4000000 in
set_option maxRecDepth 100000 in
theorem laws_FnDays_p6_ct {k : Nat} {o29 : Int} {o30 : Rw} {v34 : Bool} {r : Bool} (h : laws_FnDays_p6 k o29 o30 v34 = some r) : X prog 0 (tlF f4 6) (mk 93 [(5, .d (D.int .i64 o29)), (6, .os 1094000 o30.length), (7, .d (D.bool v34))] [(1094000, .arr 32 true o30)]) (finK prog f4 0 (.d (D.bool r)) (⟨[], []⟩)) := by
  rw [laws_FnDays_p6] at h
  cases v34
  · replace h := condF h
    conv => whnf
    cases h
    exact Done.of [] [] rfl rfl ⟨⟨rfl, rfl⟩, ⟨rfl, trivial⟩, rfl, trivial⟩
  · replace h := condT h
    conv => whnf
    refine LoopOk.into (laws_FnDays_l0_ct  _ _ _ h) [some 1094000] [] ⟨⟨rfl, rfl⟩, ⟨rfl, ⟨rfl, rfl, rows_same⟩, trivial⟩, rfl, ⟨rfl, rfl⟩, rfl, rfl, trivial⟩ ?_ (fun _ hs => hs)
    rintro i ts os ⟨rfl, v131, h, rfl, rfl⟩
    conv => whnf
    exact CutK.piece (laws_FnDays_p9_ct  h) [some 67001] [] ⟨⟨rfl, rfl⟩, ⟨rfl, ⟨rfl, rfl, rows_same⟩, trivial⟩, rfl, ⟨rfl, rfl⟩, rfl, trivial⟩
def laws_FnDays_p5 (k : Nat) (o18 : Int) (o19 : Rw) (o20 : Rw) (v21 : Bool) (v25 : Bool) : Option Bool :=
  (cond v21 (cond v25 ((laws_sameFractions o19 o20).bind fun y137 => (if y137 = true then (laws_FnDays_p6 k o18 o19 true) else some false)) (some false)) (cond v25 (some false) ((laws_sameFractions o19 o20).bind fun y134 => (if y134 = true then (laws_FnDays_p6 k o18 o19 false) else some false))))
set_option maxHeartbeats 4000000 in
set_option maxRecDepth 100000 in
theorem laws_FnDays_p5_ct {k : Nat} {o18 : Int} {o19 : Rw} {o20 : Rw} {v21 : Bool} {v25 : Bool} {r : Bool} (h : laws_FnDays_p5 k o18 o19 o20 v21 v25 = some r) : X prog 0 (tlF f4 5) (mk 93 [(5, .d (D.int .i64 o18)), (6, .os 1089000 o19.length), (7, .d (D.bool v25)), (8, .os 1089001 o20.length), (9, .d (D.bool v21))] [(1089000, .arr 32 true o19), (1089001, .arr 32 true o20)]) (finK prog f4 0 (.d (D.bool r)) (⟨[], []⟩)) := by
  rw [laws_FnDays_p5] at h
  cases v21
  · replace h := condF h
    cases v25
    · replace h := condF h
      conv => whnf
      refine splF ?_
      conv => whnf
      refine Pick.no ?_
      conv => whnf
      refine Take.all (rfl) ?_
      conv => whnf
      refine Take.all (rfl) ?_
      conv => whnf
      obtain ⟨y134, e135, h⟩ := bind_ex h
      refine CallOk.of (laws_sameFractions_ct e135) ?_
      conv => whnf
      refine spl (fun g136 => ?_) (fun g136 => ?_)
      · replace h := iteT h g136
        conv => whnf
        refine CutK.norm [5, 6, 7, 41] [1089000] ?_
        conv => whnf
        exact CutK.piece (laws_FnDays_p6_ct  h) [some 1089000] [] ⟨⟨rfl, rfl⟩, ⟨rfl, ⟨rfl, rfl, rows_same⟩, trivial⟩, rfl, ⟨rfl, rfl⟩, rfl, trivial⟩
      · replace h := iteF h g136
        conv => whnf
        refine CutK.norm [5, 6, 7, 41] [1089000] ?_
        conv => whnf
        cases h
        exact Done.of [] [] rfl rfl ⟨⟨rfl, rfl⟩, ⟨rfl, trivial⟩, rfl, trivial⟩
    · replace h := condT h
      conv => whnf
      refine splT ?_
      conv => whnf
      refine CutK.norm [5, 6, 7, 41] [1089000] ?_
      conv => whnf
      cases h
      exact Done.of [] [] rfl rfl ⟨⟨rfl, rfl⟩, ⟨rfl, trivial⟩, rfl, trivial⟩
  · replace h := condT h
    cases v25
    · replace h := condF h
      conv => whnf
      refine splT ?_
      conv => whnf
      refine CutK.norm [5, 6, 7, 41] [1089000] ?_
      conv => whnf
      cases h
      exact Done.of [] [] rfl rfl ⟨⟨rfl, rfl⟩, ⟨rfl, trivial⟩, rfl, trivial⟩
    · replace h := condT h
      conv => whnf
      refine splF ?_
      conv => whnf
      refine Pick.no ?_
      conv => whnf
      refine Take.all (rfl) ?_
      conv => whnf
      refine Take.all (rfl) ?_
      conv => whnf
      obtain ⟨y137, e138, h⟩ := bind_ex h
      refine CallOk.of (laws_sameFractions_ct e138) ?_
      conv => whnf
      refine spl (fun g139 => ?_) (fun g139 => ?_)
      · replace h := iteT h g139
        conv => whnf
        refine CutK.norm [5, 6, 7, 41] [1089000] ?_
        conv => whnf
        exact CutK.piece (laws_FnDays_p6_ct  h) [some 1089000] [] ⟨⟨rfl, rfl⟩, ⟨rfl, ⟨rfl, rfl, rows_same⟩, trivial⟩, rfl, ⟨rfl, rfl⟩, rfl, trivial⟩
      · replace h := iteF h g139
        conv => whnf
        refine CutK.norm [5, 6, 7, 41] [1089000] ?_
        conv => whnf
        cases h
        exact Done.of [] [] rfl rfl ⟨⟨rfl, rfl⟩, ⟨rfl, trivial⟩, rfl, trivial⟩
def laws_FnDays_p4 (k : Nat) (o12 : Int) (o13 : Rw) (v14 : Bool) : Option Bool :=
  (cond v14 ((spec_BornOn k o12).bind fun y143 => (if y143.2 = true then (laws_FnDays_p5 k o12 o13 y143.1 true true) else (laws_FnDays_p5 k o12 o13 y143.1 false true))) ((spec_BornOn k o12).bind fun y140 => (if y140.2 = true then (laws_FnDays_p5 k o12 o13 y140.1 true false) else (laws_FnDays_p5 k o12 o13 y140.1 false false))))
set_option maxHeartbeats 4000000 in
set_option maxRecDepth 100000 in
theorem laws_FnDays_p4_ct {k : Nat} {o12 : Int} {o13 : Rw} {v14 : Bool} {r : Bool} (h : laws_FnDays_p4 k o12 o13 v14 = some r) : X prog 0 (tlF f4 4) (mk 93 [(5, .d (D.int .i64 o12)), (6, .os 1084000 o13.length), (7, .d (D.bool v14))] [(1084000, .arr 32 true o13)]) (finK prog f4 0 (.d (D.bool r)) (⟨[], []⟩)) := by
  rw [laws_FnDays_p4] at h
  cases v14
  · replace h := condF h
    conv => whnf
    refine Pick.no ?_
    conv => whnf
    obtain ⟨y140, e141, h⟩ := bind_ex h
    refine CallOk.of (spec_BornOn_ct e141) ?_
    conv => whnf
    refine spl (fun g142 => ?_) (fun g142 => ?_)
    · replace h := iteT h g142
      conv => whnf
      exact CutK.piece (laws_FnDays_p5_ct  h) [some 1084000, some 1920] [] ⟨⟨rfl, rfl⟩, ⟨rfl, ⟨rfl, rfl, rows_same⟩, ⟨rfl, rfl, rows_same⟩, trivial⟩, rfl, ⟨rfl, rfl⟩, rfl, ⟨rfl, rfl⟩, rfl, trivial⟩
    · replace h := iteF h g142
      conv => whnf
      exact CutK.piece (laws_FnDays_p5_ct  h) [some 1084000, some 1920] [] ⟨⟨rfl, rfl⟩, ⟨rfl, ⟨rfl, rfl, rows_same⟩, ⟨rfl, rfl, rows_same⟩, trivial⟩, rfl, ⟨rfl, rfl⟩, rfl, ⟨rfl, rfl⟩, rfl, trivial⟩
  · replace h := condT h
    conv => whnf
    refine Pick.no ?_
    conv => whnf
    obtain ⟨y143, e144, h⟩ := bind_ex h
    refine CallOk.of (spec_BornOn_ct e144) ?_
    conv => whnf
    refine spl (fun g145 => ?_) (fun g145 => ?_)
    · replace h := iteT h g145
      conv => whnf
      exact CutK.piece (laws_FnDays_p5_ct  h) [some 1084000, some 1920] [] ⟨⟨rfl, rfl⟩, ⟨rfl, ⟨rfl, rfl, rows_same⟩, ⟨rfl, rfl, rows_same⟩, trivial⟩, rfl, ⟨rfl, rfl⟩, rfl, ⟨rfl, rfl⟩, rfl, trivial⟩
    · replace h := iteF h g145
      conv => whnf
      exact CutK.piece (laws_FnDays_p5_ct  h) [some 1084000, some 1920] [] ⟨⟨rfl, rfl⟩, ⟨rfl, ⟨rfl, rfl, rows_same⟩, ⟨rfl, rfl, rows_same⟩, trivial⟩, rfl, ⟨rfl, rfl⟩, rfl, ⟨rfl, rfl⟩, rfl, trivial⟩
def laws_FnDays_p3 (k : Nat) (o8 : Int) : Option Bool :=
  ((impl_BornOn k o8).bind fun y146 => (if y146.2 = true then (laws_FnDays_p4 k o8 y146.1 true) else (laws_FnDays_p4 k o8 y146.1 false)))
set_option maxHeartbeats 4000000 in
set_option maxRecDepth 100000 in
theorem laws_FnDays_p3_ct {k : Nat} {o8 : Int} {r : Bool} (h : laws_FnDays_p3 k o8 = some r) : X prog 0 (tlF f4 3) (mk 93 [(5, .d (D.int .i64 o8))] []) (finK prog f4 0 (.d (D.bool r)) (⟨[], []⟩)) := by
  rw [laws_FnDays_p3] at h
  conv => whnf
  refine Pick.no ?_
  conv => whnf
  obtain ⟨y146, e147, h⟩ := bind_ex h
  refine CallOk.of (impl_BornOn_ct e147) ?_
  conv => whnf
  refine spl (fun g148 => ?_) (fun g148 => ?_)
  · replace h := iteT h g148
    conv => whnf
    exact CutK.piece (laws_FnDays_p4_ct  h) [some 1600] [] ⟨⟨rfl, rfl⟩, ⟨rfl, ⟨rfl, rfl, rows_same⟩, trivial⟩, rfl, ⟨rfl, rfl⟩, rfl, trivial⟩
  · replace h := iteF h g148
    conv => whnf
    exact CutK.piece (laws_FnDays_p4_ct  h) [some 1600] [] ⟨⟨rfl, rfl⟩, ⟨rfl, ⟨rfl, rfl, rows_same⟩, trivial⟩, rfl, ⟨rfl, rfl⟩, rfl, trivial⟩
def laws_FnDays_p2 (k : Nat) (a1 : Rw) : Option Bool :=
  ((spec_DrawBornOn a1).bind fun y149 => (laws_FnDays_p3 k y149))
set_option maxHeartbeats 4000000 in
set_option maxRecDepth 100000 in
theorem laws_FnDays_p2_ct {k : Nat} {a1 : Rw} {r : Bool} (h : laws_FnDays_p2 k a1 = some r) : X prog 0 (tlF f4 2) (mk 93 [(0, .d (D.sl a1))] []) (finK prog f4 0 (.d (D.bool r)) (⟨[], []⟩)) := by
  rw [laws_FnDays_p2] at h
  conv => whnf
  refine Pick.no ?_
  conv => whnf
  obtain ⟨y149, e150, h⟩ := bind_ex h
  refine CallOk.of (spec_DrawBornOn_ct e150) ?_
  conv => whnf
  exact CutK.piece (laws_FnDays_p3_ct  h) [] [] ⟨⟨rfl, rfl⟩, ⟨rfl, trivial⟩, rfl, trivial⟩
def laws_FnDays (k : Nat) (a1 : Rw) (a2 : Rw) : Option Bool :=
  ((laws_big a1 a2).bind fun y151 => (if y151 = true then some true else (laws_FnDays_p2 k a1)))
set_option maxHeartbeats 4000000 in
set_option maxRecDepth 100000 in
theorem laws_FnDays_ct {k : Nat} {a1 : Rw} {a2 : Rw} {r : Bool} (h : laws_FnDays k a1 a2 = some r) : Ct prog 4 [.d (D.sl a1), .d (D.sl a2)] (⟨[], []⟩) (.d (D.bool r)) (⟨[], []⟩) := by
  rw [laws_FnDays] at h
  refine Ct.of (c := _) mixed func4 ⟨rfl, rfl, rfl⟩ ?_ rfl
  conv => whnf
  refine Pick.no ?_
  conv => whnf
  obtain ⟨y151, e152, h⟩ := bind_ex h
  refine CallOk.of (laws_big_ct e152) ?_
  conv => whnf
  refine spl (fun g153 => ?_) (fun g153 => ?_)
  · replace h := iteT h g153
    conv => whnf
    refine CutK.norm [0, 20] [] ?_
    conv => whnf
    cases h
    exact Done.of [] [] rfl rfl ⟨⟨rfl, rfl⟩, ⟨rfl, trivial⟩, rfl, trivial⟩
  · replace h := iteF h g153
    conv => whnf
    refine CutK.norm [0, 20] [] ?_
    conv => whnf
    exact CutK.piece (laws_FnDays_p2_ct  h) [] [] ⟨⟨rfl, rfl⟩, ⟨rfl, trivial⟩, rfl, trivial⟩
end
end Go.Proofs.Try
