/- Printed by program (axgen): pure functions, and that the Go functions compute them. -/
import Derived.Test.YtmhcdljkmngkpaaHYB0
set_option linter.unusedVariables false
set_option linter.unusedSimpArgs false
namespace Go.Proofs.Try
open Go Go.AX
noncomputable section
def laws_FnBestHeads_p12  : Option Bool :=
  some true
set_option maxHeartbeats 4000000 in
set_option maxRecDepth 100000 in
theorem laws_FnBestHeads_p12_ct  {r : Bool} (h : laws_FnBestHeads_p12 = some r) : X prog 0 (tlF f8 12) (mk 136 [] []) (finK prog f8 0 (.d (D.bool r)) (⟨[], []⟩)) := by
  rw [laws_FnBestHeads_p12] at h
  conv => whnf
  cases h
  exact Done.of [] [] rfl rfl ⟨⟨rfl, rfl⟩, ⟨rfl, trivial⟩, rfl, trivial⟩
def laws_FnBestHeads_l0 (k : Nat) (o75 : Int) (o76 : Int) (o77 : Rw) (o78 : Rw) (o79 : Rw) (K0 : Option Bool) : Rw → Nat → Option Bool
  | [], v156n => (K0)
  | cs :: rest, v156n => (if 0 ≤ (v156n : Int) ∧ (v156n : Int) < (o77.length : Int) then (cell_i cs fun x199 => ((impl_ChopHead k o78 x199 o75).bind fun y201 => (if y201.2 = true then ((impl_HydraOrdinal k y201.1).bind fun y204 => (if y204.2 = true then ((impl_CompareOrdinals k o79 y204.1).bind fun y207 => (if y207.2 = true then (if (0 : Int) < y207.1 then some false else (if y207.1 = (0 : Int) then (if x199 < o76 then some false else (laws_FnBestHeads_l0 k o75 o76 o77 o78 o79 K0 rest (v156n + 1))) else (laws_FnBestHeads_l0 k o75 o76 o77 o78 o79 K0 rest (v156n + 1)))) else some false)) else ((impl_CompareOrdinals k o79 y204.1).bind fun y213 => (if y213.2 = true then some false else some false)))) else ((impl_HydraOrdinal k y201.1).bind fun y216 => (if y216.2 = true then ((impl_CompareOrdinals k o79 y216.1).bind fun y219 => (if y219.2 = true then some false else some false)) else ((impl_CompareOrdinals k o79 y216.1).bind fun y222 => (if y222.2 = true then some false else some false))))))) else none)
set_option maxHeartbeats 4000000 in
set_option maxRecDepth 100000 in
theorem laws_FnBestHeads_l0_ct {k : Nat} {o75 : Int} {o76 : Int} {o77 : Rw} {o78 : Rw} {o79 : Rw} {K0 : Option Bool} {r : Bool} (hx : o77.length ≤ cap) : ∀ (rest : Rw) (v156n : Nat), o77.drop v156n = rest → laws_FnBestHeads_l0 k o75 o76 o77 o78 o79 K0 rest v156n = some r → LoopOk prog 0 (lp f8 0) (mk 136 [(5, .ptr 320 0), (6, .d (D.int .i64 o75)), (7, .d (D.int .i64 o76)), (15, .ptr 960 0), (88, .os 64001 o77.length), (89, .d (D.int .i64 (o77.length : Int))), (90, .d (D.int .i64 (v156n : Int)))] [(320, .box 31 [.d (D.sl o78)]), (960, .box 28 [.os 64000 o79.length]), (64000, .arr 96 true o79), (64001, .arr 3 true o77)]) (LoopEnd prog f8 0 136 (.d (D.bool r)) (⟨[], []⟩) (fun i ts os => (i = 0 ∧ K0 = some r ∧ ts = [] ∧ os = [])))
  | [], v156n, hd, h => by
      rw [laws_FnBestHeads_l0] at h
      have hn := drop_nil hd
      refine LoopOk.step ?_
      conv => whnf
      refine splD (fun g => absurd g hn) (fun _ => ?_)
      conv => whnf
      exact ⟨_, _, [], [], ⟨rfl, h, rfl, rfl⟩, ⟨⟨rfl, rfl⟩, ⟨rfl, trivial⟩, trivial⟩⟩
  | cs :: rest, v156n, hd, h => by
      rw [laws_FnBestHeads_l0] at h
      obtain ⟨hrow, hd1, hlt⟩ := drop_cons hd
      refine LoopOk.step ?_
      conv => whnf
      refine splD (fun _ => ?_) (fun g => absurd hlt g)
      conv => whnf
      obtain ⟨g198, h⟩ := req_ex h
      refine Req.of g198 ?_
      conv => whnf
      obtain ⟨x199, e200, h⟩ := cell_i_ex h
      rw [e200] at hrow
      refine Row.of _ hrow ?_
      conv => whnf
      refine Pick.no ?_
      conv => whnf
      obtain ⟨y201, e202, h⟩ := bind_ex h
      refine CallOk.of (impl_ChopHead_ct e202) ?_
      conv => whnf
      refine spl (fun g203 => ?_) (fun g203 => ?_)
      · replace h := iteT h g203
        conv => whnf
        refine CutK.norm [5, 6, 7, 15, 18, 19, 20, 88, 89, 90] [320, 960, 1216, 64000, 64001] ?_
        conv => whnf
        refine Pick.no ?_
        conv => whnf
        obtain ⟨y204, e205, h⟩ := bind_ex h
        refine CallOk.of (impl_HydraOrdinal_ct e205) ?_
        conv => whnf
        refine spl (fun g206 => ?_) (fun g206 => ?_)
        · replace h := iteT h g206
          conv => whnf
          refine CutK.norm [5, 6, 7, 15, 18, 20, 21, 22, 88, 89, 90] [320, 960, 1344, 6592, 64000, 64001] ?_
          conv => whnf
          refine Pick.no ?_
          conv => whnf
          refine Take.all (rfl) ?_
          conv => whnf
          refine Take.all (rfl) ?_
          conv => whnf
          obtain ⟨y207, e208, h⟩ := bind_ex h
          refine CallOk.of (impl_CompareOrdinals_ct e208) ?_
          conv => whnf
          refine spl (fun g209 => ?_) (fun g209 => ?_)
          · replace h := iteT h g209
            conv => whnf
            refine CutK.norm [5, 6, 7, 15, 18, 20, 22, 23, 24, 88, 89, 90] [320, 960, 64000, 64001] ?_
            conv => whnf
            refine splD (fun g210 => ?_) (fun g210 => ?_)
            · replace h := iteP h g210
              conv => whnf
              cases h
              exact Done.of [] [] rfl rfl ⟨⟨rfl, rfl⟩, ⟨rfl, trivial⟩, rfl, trivial⟩
            · replace h := iteN h g210
              conv => whnf
              refine splD (fun g211 => ?_) (fun g211 => ?_)
              · replace h := iteP h g211
                conv => whnf
                refine splD (fun g212 => ?_) (fun g212 => ?_)
                · replace h := iteP h g212
                  conv => whnf
                  cases h
                  exact Done.of [] [] rfl rfl ⟨⟨rfl, rfl⟩, ⟨rfl, trivial⟩, rfl, trivial⟩
                · replace h := iteN h g212
                  conv => whnf
                  refine CutK.norm [5, 6, 7, 15, 88, 89, 90] [320, 960, 64000, 64001] ?_
                  conv => whnf
                  exact LoopOk.back (laws_FnBestHeads_l0_ct hx rest (v156n + 1)  hd1 h) [some 320, some 960, some 64000, some 64001] [] ⟨⟨rfl, rfl⟩, ⟨rfl, ⟨rfl, rfl, trivial⟩, ⟨rfl, ⟨rfl, rfl⟩, trivial⟩, ⟨rfl, rfl, rows_same⟩, ⟨rfl, rfl, rows_same⟩, trivial⟩, ⟨rfl, rfl⟩, rfl, rfl, ⟨rfl, rfl⟩, ⟨rfl, rfl⟩, rfl, i64eq (wrap_up hlt hx), trivial⟩
              · replace h := iteN h g211
                conv => whnf
                refine CutK.norm [5, 6, 7, 15, 88, 89, 90] [320, 960, 64000, 64001] ?_
                conv => whnf
                exact LoopOk.back (laws_FnBestHeads_l0_ct hx rest (v156n + 1)  hd1 h) [some 320, some 960, some 64000, some 64001] [] ⟨⟨rfl, rfl⟩, ⟨rfl, ⟨rfl, rfl, trivial⟩, ⟨rfl, ⟨rfl, rfl⟩, trivial⟩, ⟨rfl, rfl, rows_same⟩, ⟨rfl, rfl, rows_same⟩, trivial⟩, ⟨rfl, rfl⟩, rfl, rfl, ⟨rfl, rfl⟩, ⟨rfl, rfl⟩, rfl, i64eq (wrap_up hlt hx), trivial⟩
          · replace h := iteF h g209
            conv => whnf
            refine CutK.norm [5, 6, 7, 15, 18, 20, 22, 23, 24, 88, 89, 90] [320, 960, 64000, 64001] ?_
            conv => whnf
            cases h
            exact Done.of [] [] rfl rfl ⟨⟨rfl, rfl⟩, ⟨rfl, trivial⟩, rfl, trivial⟩
        · replace h := iteF h g206
          conv => whnf
          refine CutK.norm [5, 6, 7, 15, 18, 20, 21, 22, 88, 89, 90] [320, 960, 1344, 6592, 64000, 64001] ?_
          conv => whnf
          refine Pick.no ?_
          conv => whnf
          refine Take.all (rfl) ?_
          conv => whnf
          refine Take.all (rfl) ?_
          conv => whnf
          obtain ⟨y213, e214, h⟩ := bind_ex h
          refine CallOk.of (impl_CompareOrdinals_ct e214) ?_
          conv => whnf
          refine spl (fun g215 => ?_) (fun g215 => ?_)
          · replace h := iteT h g215
            conv => whnf
            refine CutK.norm [5, 6, 7, 15, 18, 20, 22, 23, 24, 88, 89, 90] [320, 960, 64000, 64001] ?_
            conv => whnf
            cases h
            exact Done.of [] [] rfl rfl ⟨⟨rfl, rfl⟩, ⟨rfl, trivial⟩, rfl, trivial⟩
          · replace h := iteF h g215
            conv => whnf
            refine CutK.norm [5, 6, 7, 15, 18, 20, 22, 23, 24, 88, 89, 90] [320, 960, 64000, 64001] ?_
            conv => whnf
            cases h
            exact Done.of [] [] rfl rfl ⟨⟨rfl, rfl⟩, ⟨rfl, trivial⟩, rfl, trivial⟩
      · replace h := iteF h g203
        conv => whnf
        refine CutK.norm [5, 6, 7, 15, 18, 19, 20, 88, 89, 90] [320, 960, 1216, 64000, 64001] ?_
        conv => whnf
        refine Pick.no ?_
        conv => whnf
        obtain ⟨y216, e217, h⟩ := bind_ex h
        refine CallOk.of (impl_HydraOrdinal_ct e217) ?_
        conv => whnf
        refine spl (fun g218 => ?_) (fun g218 => ?_)
        · replace h := iteT h g218
          conv => whnf
          refine CutK.norm [5, 6, 7, 15, 18, 20, 21, 22, 88, 89, 90] [320, 960, 1344, 6592, 64000, 64001] ?_
          conv => whnf
          refine Pick.no ?_
          conv => whnf
          refine Take.all (rfl) ?_
          conv => whnf
          refine Take.all (rfl) ?_
          conv => whnf
          obtain ⟨y219, e220, h⟩ := bind_ex h
          refine CallOk.of (impl_CompareOrdinals_ct e220) ?_
          conv => whnf
          refine spl (fun g221 => ?_) (fun g221 => ?_)
          · replace h := iteT h g221
            conv => whnf
            refine CutK.norm [5, 6, 7, 15, 18, 20, 22, 23, 24, 88, 89, 90] [320, 960, 64000, 64001] ?_
            conv => whnf
            cases h
            exact Done.of [] [] rfl rfl ⟨⟨rfl, rfl⟩, ⟨rfl, trivial⟩, rfl, trivial⟩
          · replace h := iteF h g221
            conv => whnf
            refine CutK.norm [5, 6, 7, 15, 18, 20, 22, 23, 24, 88, 89, 90] [320, 960, 64000, 64001] ?_
            conv => whnf
            cases h
            exact Done.of [] [] rfl rfl ⟨⟨rfl, rfl⟩, ⟨rfl, trivial⟩, rfl, trivial⟩
        · replace h := iteF h g218
          conv => whnf
          refine CutK.norm [5, 6, 7, 15, 18, 20, 21, 22, 88, 89, 90] [320, 960, 1344, 6592, 64000, 64001] ?_
          conv => whnf
          refine Pick.no ?_
          conv => whnf
          refine Take.all (rfl) ?_
          conv => whnf
          refine Take.all (rfl) ?_
          conv => whnf
          obtain ⟨y222, e223, h⟩ := bind_ex h
          refine CallOk.of (impl_CompareOrdinals_ct e223) ?_
          conv => whnf
          refine spl (fun g224 => ?_) (fun g224 => ?_)
          · replace h := iteT h g224
            conv => whnf
            refine CutK.norm [5, 6, 7, 15, 18, 20, 22, 23, 24, 88, 89, 90] [320, 960, 64000, 64001] ?_
            conv => whnf
            cases h
            exact Done.of [] [] rfl rfl ⟨⟨rfl, rfl⟩, ⟨rfl, trivial⟩, rfl, trivial⟩
          · replace h := iteF h g224
            conv => whnf
            refine CutK.norm [5, 6, 7, 15, 18, 20, 22, 23, 24, 88, 89, 90] [320, 960, 64000, 64001] ?_
            conv => whnf
            cases h
            exact Done.of [] [] rfl rfl ⟨⟨rfl, rfl⟩, ⟨rfl, trivial⟩, rfl, trivial⟩
def laws_FnBestHeads_p11 (k : Nat) (o75 : Int) (o76 : Int) (o77 : Rw) (o78 : Rw) (o79 : Rw) : Option Bool :=
  (if o77.length ≤ cap then (laws_FnBestHeads_l0 k o75 o76 o77 o78 o79 (laws_FnBestHeads_p12) o77 0) else none)
set_option maxHeartbeats 4000000 in
set_option maxRecDepth 100000 in
theorem laws_FnBestHeads_p11_ct {k : Nat} {o75 : Int} {o76 : Int} {o77 : Rw} {o78 : Rw} {o79 : Rw} {r : Bool} (h : laws_FnBestHeads_p11 k o75 o76 o77 o78 o79 = some r) : X prog 0 (tlF f8 11) (mk 136 [(5, .ptr 320 0), (6, .d (D.int .i64 o75)), (7, .d (D.int .i64 o76)), (11, .os 1119001 o77.length), (15, .ptr 960 0)] [(320, .box 31 [.d (D.sl o78)]), (960, .box 28 [.os 1119000 o79.length]), (1119000, .arr 96 true o79), (1119001, .arr 3 true o77)]) (finK prog f8 0 (.d (D.bool r)) (⟨[], []⟩)) := by
  rw [laws_FnBestHeads_p11] at h
  conv => whnf
  obtain ⟨g225, h⟩ := req_ex h
  refine LoopOk.into (laws_FnBestHeads_l0_ct  g225 _ _  rfl h) [some 320, some 960, some 1119000, some 1119001] [] ⟨⟨rfl, rfl⟩, ⟨rfl, ⟨rfl, rfl, trivial⟩, ⟨rfl, ⟨rfl, rfl⟩, trivial⟩, ⟨rfl, rfl, rows_same⟩, ⟨rfl, rfl, rows_same⟩, trivial⟩, ⟨rfl, rfl⟩, rfl, rfl, ⟨rfl, rfl⟩, ⟨rfl, rfl⟩, rfl, rfl, trivial⟩ ?_ (fun _ hs => hs)
  rintro i ts os ⟨rfl, h, rfl, rfl⟩
  conv => whnf
  exact CutK.piece (laws_FnBestHeads_p12_ct  h) [] [] ⟨⟨rfl, rfl⟩, ⟨rfl, trivial⟩, trivial⟩
def laws_FnBestHeads_p10 (k : Nat) (o55 : Int) (o56 : Int) (o57 : Rw) (o58 : Rw) (o59 : Rw) (v60 : Bool) (v64 : Bool) (v68 : Bool) : Option Bool :=
  (cond v60 (cond v64 (cond v68 ((laws_qHas o57 o56).bind fun y226 => (if y226 = true then (laws_FnBestHeads_p11 k o55 o56 o57 o58 o59) else some false)) (some false)) (cond v68 (some false) (some false))) (cond v64 (cond v68 (some false) (some false)) (cond v68 (some false) (some false))))
set_option maxHeartbeats 4000000 in
set_option maxRecDepth 100000 in
theorem laws_FnBestHeads_p10_ct {k : Nat} {o55 : Int} {o56 : Int} {o57 : Rw} {o58 : Rw} {o59 : Rw} {v60 : Bool} {v64 : Bool} {v68 : Bool} {r : Bool} (h : laws_FnBestHeads_p10 k o55 o56 o57 o58 o59 v60 v64 v68 = some r) : X prog 0 (tlF f8 10) (mk 136 [(5, .ptr 320 0), (6, .d (D.int .i64 o55)), (7, .d (D.int .i64 o56)), (11, .os 1114001 o57.length), (12, .d (D.bool v64)), (14, .d (D.bool v68)), (15, .ptr 960 0), (16, .d (D.bool v60))] [(320, .box 31 [.d (D.sl o58)]), (960, .box 28 [.os 1114000 o59.length]), (1114000, .arr 96 true o59), (1114001, .arr 3 true o57)]) (finK prog f8 0 (.d (D.bool r)) (⟨[], []⟩)) := by
  rw [laws_FnBestHeads_p10] at h
  cases v60
  · replace h := condF h
    cases v64
    · replace h := condF h
      cases v68
      · replace h := condF h
        conv => whnf
        refine CutK.norm [5, 6, 7, 11, 15, 87] [320, 960, 1114000, 1114001] ?_
        conv => whnf
        cases h
        exact Done.of [] [] rfl rfl ⟨⟨rfl, rfl⟩, ⟨rfl, trivial⟩, rfl, trivial⟩
      · replace h := condT h
        conv => whnf
        refine CutK.norm [5, 6, 7, 11, 15, 87] [320, 960, 1114000, 1114001] ?_
        conv => whnf
        cases h
        exact Done.of [] [] rfl rfl ⟨⟨rfl, rfl⟩, ⟨rfl, trivial⟩, rfl, trivial⟩
    · replace h := condT h
      cases v68
      · replace h := condF h
        conv => whnf
        refine CutK.norm [5, 6, 7, 11, 15, 87] [320, 960, 1114000, 1114001] ?_
        conv => whnf
        cases h
        exact Done.of [] [] rfl rfl ⟨⟨rfl, rfl⟩, ⟨rfl, trivial⟩, rfl, trivial⟩
      · replace h := condT h
        conv => whnf
        refine CutK.norm [5, 6, 7, 11, 15, 87] [320, 960, 1114000, 1114001] ?_
        conv => whnf
        cases h
        exact Done.of [] [] rfl rfl ⟨⟨rfl, rfl⟩, ⟨rfl, trivial⟩, rfl, trivial⟩
  · replace h := condT h
    cases v64
    · replace h := condF h
      cases v68
      · replace h := condF h
        conv => whnf
        refine CutK.norm [5, 6, 7, 11, 15, 87] [320, 960, 1114000, 1114001] ?_
        conv => whnf
        cases h
        exact Done.of [] [] rfl rfl ⟨⟨rfl, rfl⟩, ⟨rfl, trivial⟩, rfl, trivial⟩
      · replace h := condT h
        conv => whnf
        refine CutK.norm [5, 6, 7, 11, 15, 87] [320, 960, 1114000, 1114001] ?_
        conv => whnf
        cases h
        exact Done.of [] [] rfl rfl ⟨⟨rfl, rfl⟩, ⟨rfl, trivial⟩, rfl, trivial⟩
    · replace h := condT h
      cases v68
      · replace h := condF h
        conv => whnf
        refine CutK.norm [5, 6, 7, 11, 15, 87] [320, 960, 1114000, 1114001] ?_
        conv => whnf
        cases h
        exact Done.of [] [] rfl rfl ⟨⟨rfl, rfl⟩, ⟨rfl, trivial⟩, rfl, trivial⟩
      · replace h := condT h
        conv => whnf
        refine Choice.old ?_
        conv => whnf
        refine Pick.no ?_
        conv => whnf
        refine Take.all (rfl) ?_
        conv => whnf
        obtain ⟨y226, e227, h⟩ := bind_ex h
        refine CallOk.of (laws_qHas_ct e227) ?_
        conv => whnf
        refine spl (fun g228 => ?_) (fun g228 => ?_)
        · replace h := iteT h g228
          conv => whnf
          refine CutK.norm [5, 6, 7, 11, 15, 87] [320, 960, 1114000, 1114001] ?_
          conv => whnf
          exact CutK.piece (laws_FnBestHeads_p11_ct  h) [some 320, some 960, some 1114000, some 1114001] [] ⟨⟨rfl, rfl⟩, ⟨rfl, ⟨rfl, rfl, trivial⟩, ⟨rfl, ⟨rfl, rfl⟩, trivial⟩, ⟨rfl, rfl, rows_same⟩, ⟨rfl, rfl, rows_same⟩, trivial⟩, ⟨rfl, rfl⟩, rfl, rfl, ⟨rfl, rfl⟩, ⟨rfl, rfl⟩, trivial⟩
        · replace h := iteF h g228
          conv => whnf
          refine CutK.norm [5, 6, 7, 11, 15, 87] [320, 960, 1114000, 1114001] ?_
          conv => whnf
          cases h
          exact Done.of [] [] rfl rfl ⟨⟨rfl, rfl⟩, ⟨rfl, trivial⟩, rfl, trivial⟩
def laws_FnBestHeads_p9 (k : Nat) (o42 : Int) (o43 : Int) (o44 : Rw) (o45 : Rw) (o46 : Rw) (v47 : Bool) (v51 : Bool) : Option Bool :=
  (cond v47 (cond v51 ((impl_HydraOrdinal k o46).bind fun y238 => (if y238.2 = true then (laws_FnBestHeads_p10 k o42 o43 o44 o45 y238.1 true true true) else (laws_FnBestHeads_p10 k o42 o43 o44 o45 y238.1 false true true))) ((impl_HydraOrdinal k o46).bind fun y235 => (if y235.2 = true then (laws_FnBestHeads_p10 k o42 o43 o44 o45 y235.1 true false true) else (laws_FnBestHeads_p10 k o42 o43 o44 o45 y235.1 false false true)))) (cond v51 ((impl_HydraOrdinal k o46).bind fun y232 => (if y232.2 = true then (laws_FnBestHeads_p10 k o42 o43 o44 o45 y232.1 true true false) else (laws_FnBestHeads_p10 k o42 o43 o44 o45 y232.1 false true false))) ((impl_HydraOrdinal k o46).bind fun y229 => (if y229.2 = true then (laws_FnBestHeads_p10 k o42 o43 o44 o45 y229.1 true false false) else (laws_FnBestHeads_p10 k o42 o43 o44 o45 y229.1 false false false)))))
set_option maxHeartbeats 4000000 in
set_option maxRecDepth 100000 in
theorem laws_FnBestHeads_p9_ct {k : Nat} {o42 : Int} {o43 : Int} {o44 : Rw} {o45 : Rw} {o46 : Rw} {v47 : Bool} {v51 : Bool} {r : Bool} (h : laws_FnBestHeads_p9 k o42 o43 o44 o45 o46 v47 v51 = some r) : X prog 0 (tlF f8 9) (mk 136 [(5, .ptr 320 0), (6, .d (D.int .i64 o42)), (7, .d (D.int .i64 o43)), (11, .os 1109001 o44.length), (12, .d (D.bool v51)), (13, .ptr 832 0), (14, .d (D.bool v47))] [(320, .box 31 [.d (D.sl o45)]), (832, .box 31 [.d (D.sl o46)]), (1109001, .arr 3 true o44)]) (finK prog f8 0 (.d (D.bool r)) (⟨[], []⟩)) := by
  rw [laws_FnBestHeads_p9] at h
  cases v47
  · replace h := condF h
    cases v51
    · replace h := condF h
      conv => whnf
      refine Pick.no ?_
      conv => whnf
      obtain ⟨y229, e230, h⟩ := bind_ex h
      refine CallOk.of (impl_HydraOrdinal_ct e230) ?_
      conv => whnf
      refine spl (fun g231 => ?_) (fun g231 => ?_)
      · replace h := iteT h g231
        conv => whnf
        exact CutK.piece (laws_FnBestHeads_p10_ct  h) [some 320, some 960, some 4416, some 1109001] [] ⟨⟨rfl, rfl⟩, ⟨rfl, ⟨rfl, rfl, trivial⟩, ⟨rfl, ⟨rfl, rfl⟩, trivial⟩, ⟨rfl, rfl, rows_same⟩, ⟨rfl, rfl, rows_same⟩, trivial⟩, ⟨rfl, rfl⟩, rfl, rfl, ⟨rfl, rfl⟩, rfl, rfl, ⟨rfl, rfl⟩, rfl, trivial⟩
      · replace h := iteF h g231
        conv => whnf
        exact CutK.piece (laws_FnBestHeads_p10_ct  h) [some 320, some 960, some 4416, some 1109001] [] ⟨⟨rfl, rfl⟩, ⟨rfl, ⟨rfl, rfl, trivial⟩, ⟨rfl, ⟨rfl, rfl⟩, trivial⟩, ⟨rfl, rfl, rows_same⟩, ⟨rfl, rfl, rows_same⟩, trivial⟩, ⟨rfl, rfl⟩, rfl, rfl, ⟨rfl, rfl⟩, rfl, rfl, ⟨rfl, rfl⟩, rfl, trivial⟩
    · replace h := condT h
      conv => whnf
      refine Pick.no ?_
      conv => whnf
      obtain ⟨y232, e233, h⟩ := bind_ex h
      refine CallOk.of (impl_HydraOrdinal_ct e233) ?_
      conv => whnf
      refine spl (fun g234 => ?_) (fun g234 => ?_)
      · replace h := iteT h g234
        conv => whnf
        exact CutK.piece (laws_FnBestHeads_p10_ct  h) [some 320, some 960, some 4416, some 1109001] [] ⟨⟨rfl, rfl⟩, ⟨rfl, ⟨rfl, rfl, trivial⟩, ⟨rfl, ⟨rfl, rfl⟩, trivial⟩, ⟨rfl, rfl, rows_same⟩, ⟨rfl, rfl, rows_same⟩, trivial⟩, ⟨rfl, rfl⟩, rfl, rfl, ⟨rfl, rfl⟩, rfl, rfl, ⟨rfl, rfl⟩, rfl, trivial⟩
      · replace h := iteF h g234
        conv => whnf
        exact CutK.piece (laws_FnBestHeads_p10_ct  h) [some 320, some 960, some 4416, some 1109001] [] ⟨⟨rfl, rfl⟩, ⟨rfl, ⟨rfl, rfl, trivial⟩, ⟨rfl, ⟨rfl, rfl⟩, trivial⟩, ⟨rfl, rfl, rows_same⟩, ⟨rfl, rfl, rows_same⟩, trivial⟩, ⟨rfl, rfl⟩, rfl, rfl, ⟨rfl, rfl⟩, rfl, rfl, ⟨rfl, rfl⟩, rfl, trivial⟩
  · replace h := condT h
    cases v51
    · replace h := condF h
      conv => whnf
      refine Pick.no ?_
      conv => whnf
      obtain ⟨y235, e236, h⟩ := bind_ex h
      refine CallOk.of (impl_HydraOrdinal_ct e236) ?_
      conv => whnf
      refine spl (fun g237 => ?_) (fun g237 => ?_)
      · replace h := iteT h g237
        conv => whnf
        exact CutK.piece (laws_FnBestHeads_p10_ct  h) [some 320, some 960, some 4416, some 1109001] [] ⟨⟨rfl, rfl⟩, ⟨rfl, ⟨rfl, rfl, trivial⟩, ⟨rfl, ⟨rfl, rfl⟩, trivial⟩, ⟨rfl, rfl, rows_same⟩, ⟨rfl, rfl, rows_same⟩, trivial⟩, ⟨rfl, rfl⟩, rfl, rfl, ⟨rfl, rfl⟩, rfl, rfl, ⟨rfl, rfl⟩, rfl, trivial⟩
      · replace h := iteF h g237
        conv => whnf
        exact CutK.piece (laws_FnBestHeads_p10_ct  h) [some 320, some 960, some 4416, some 1109001] [] ⟨⟨rfl, rfl⟩, ⟨rfl, ⟨rfl, rfl, trivial⟩, ⟨rfl, ⟨rfl, rfl⟩, trivial⟩, ⟨rfl, rfl, rows_same⟩, ⟨rfl, rfl, rows_same⟩, trivial⟩, ⟨rfl, rfl⟩, rfl, rfl, ⟨rfl, rfl⟩, rfl, rfl, ⟨rfl, rfl⟩, rfl, trivial⟩
    · replace h := condT h
      conv => whnf
      refine Pick.no ?_
      conv => whnf
      obtain ⟨y238, e239, h⟩ := bind_ex h
      refine CallOk.of (impl_HydraOrdinal_ct e239) ?_
      conv => whnf
      refine spl (fun g240 => ?_) (fun g240 => ?_)
      · replace h := iteT h g240
        conv => whnf
        exact CutK.piece (laws_FnBestHeads_p10_ct  h) [some 320, some 960, some 4416, some 1109001] [] ⟨⟨rfl, rfl⟩, ⟨rfl, ⟨rfl, rfl, trivial⟩, ⟨rfl, ⟨rfl, rfl⟩, trivial⟩, ⟨rfl, rfl, rows_same⟩, ⟨rfl, rfl, rows_same⟩, trivial⟩, ⟨rfl, rfl⟩, rfl, rfl, ⟨rfl, rfl⟩, rfl, rfl, ⟨rfl, rfl⟩, rfl, trivial⟩
      · replace h := iteF h g240
        conv => whnf
        exact CutK.piece (laws_FnBestHeads_p10_ct  h) [some 320, some 960, some 4416, some 1109001] [] ⟨⟨rfl, rfl⟩, ⟨rfl, ⟨rfl, rfl, trivial⟩, ⟨rfl, ⟨rfl, rfl⟩, trivial⟩, ⟨rfl, rfl, rows_same⟩, ⟨rfl, rfl, rows_same⟩, trivial⟩, ⟨rfl, rfl⟩, rfl, rfl, ⟨rfl, rfl⟩, rfl, rfl, ⟨rfl, rfl⟩, rfl, trivial⟩
def laws_FnBestHeads_p8 (k : Nat) (o34 : Int) (o35 : Int) (o36 : Rw) (o37 : Rw) (v38 : Bool) : Option Bool :=
  (cond v38 ((impl_ChopHead k o37 o35 o34).bind fun y244 => (if y244.2 = true then (laws_FnBestHeads_p9 k o34 o35 o36 o37 y244.1 true true) else (laws_FnBestHeads_p9 k o34 o35 o36 o37 y244.1 false true))) ((impl_ChopHead k o37 o35 o34).bind fun y241 => (if y241.2 = true then (laws_FnBestHeads_p9 k o34 o35 o36 o37 y241.1 true false) else (laws_FnBestHeads_p9 k o34 o35 o36 o37 y241.1 false false))))
set_option maxHeartbeats 4000000 in
set_option maxRecDepth 100000 in
theorem laws_FnBestHeads_p8_ct {k : Nat} {o34 : Int} {o35 : Int} {o36 : Rw} {o37 : Rw} {v38 : Bool} {r : Bool} (h : laws_FnBestHeads_p8 k o34 o35 o36 o37 v38 = some r) : X prog 0 (tlF f8 8) (mk 136 [(5, .ptr 320 0), (6, .d (D.int .i64 o34)), (7, .d (D.int .i64 o35)), (11, .os 1104001 o36.length), (12, .d (D.bool v38))] [(320, .box 31 [.os 1104000 o37.length]), (1104000, .arr 3 true o37), (1104001, .arr 3 true o36)]) (finK prog f8 0 (.d (D.bool r)) (⟨[], []⟩)) := by
  rw [laws_FnBestHeads_p8] at h
  cases v38
  · replace h := condF h
    conv => whnf
    refine Pick.no ?_
    conv => whnf
    refine Take.all (rfl) ?_
    conv => whnf
    obtain ⟨y241, e242, h⟩ := bind_ex h
    refine CallOk.of (impl_ChopHead_ct e242) ?_
    conv => whnf
    refine spl (fun g243 => ?_) (fun g243 => ?_)
    · replace h := iteT h g243
      conv => whnf
      exact CutK.piece (laws_FnBestHeads_p9_ct  h) [some 320, some 832, some 1104001] [] ⟨⟨rfl, rfl⟩, ⟨rfl, ⟨rfl, ⟨Nat.le_of_eq rfl, eq_take rfl⟩, trivial⟩, ⟨rfl, rfl, trivial⟩, ⟨rfl, rfl, rows_same⟩, trivial⟩, ⟨rfl, rfl⟩, rfl, rfl, ⟨rfl, rfl⟩, rfl, ⟨rfl, rfl⟩, rfl, trivial⟩
    · replace h := iteF h g243
      conv => whnf
      exact CutK.piece (laws_FnBestHeads_p9_ct  h) [some 320, some 832, some 1104001] [] ⟨⟨rfl, rfl⟩, ⟨rfl, ⟨rfl, ⟨Nat.le_of_eq rfl, eq_take rfl⟩, trivial⟩, ⟨rfl, rfl, trivial⟩, ⟨rfl, rfl, rows_same⟩, trivial⟩, ⟨rfl, rfl⟩, rfl, rfl, ⟨rfl, rfl⟩, rfl, ⟨rfl, rfl⟩, rfl, trivial⟩
  · replace h := condT h
    conv => whnf
    refine Pick.no ?_
    conv => whnf
    refine Take.all (rfl) ?_
    conv => whnf
    obtain ⟨y244, e245, h⟩ := bind_ex h
    refine CallOk.of (impl_ChopHead_ct e245) ?_
    conv => whnf
    refine spl (fun g246 => ?_) (fun g246 => ?_)
    · replace h := iteT h g246
      conv => whnf
      exact CutK.piece (laws_FnBestHeads_p9_ct  h) [some 320, some 832, some 1104001] [] ⟨⟨rfl, rfl⟩, ⟨rfl, ⟨rfl, ⟨Nat.le_of_eq rfl, eq_take rfl⟩, trivial⟩, ⟨rfl, rfl, trivial⟩, ⟨rfl, rfl, rows_same⟩, trivial⟩, ⟨rfl, rfl⟩, rfl, rfl, ⟨rfl, rfl⟩, rfl, ⟨rfl, rfl⟩, rfl, trivial⟩
    · replace h := iteF h g246
      conv => whnf
      exact CutK.piece (laws_FnBestHeads_p9_ct  h) [some 320, some 832, some 1104001] [] ⟨⟨rfl, rfl⟩, ⟨rfl, ⟨rfl, ⟨Nat.le_of_eq rfl, eq_take rfl⟩, trivial⟩, ⟨rfl, rfl, trivial⟩, ⟨rfl, rfl, rows_same⟩, trivial⟩, ⟨rfl, rfl⟩, rfl, rfl, ⟨rfl, rfl⟩, rfl, ⟨rfl, rfl⟩, rfl, trivial⟩
def laws_FnBestHeads_p5 (k : Nat) (o20 : Int) (o21 : Int) (o22 : Int) (o23 : Rw) (v24 : Bool) (v28 : Bool) : Option Bool :=
  (cond v24 (cond v28 (if o21 = o22 then ((impl_HeadsOf k o23).bind fun y249 => (if y249.2 = true then (laws_FnBestHeads_p8 k o20 o21 y249.1 o23 true) else (laws_FnBestHeads_p8 k o20 o21 y249.1 o23 false))) else some false) (some false)) (cond v28 (some false) (if o21 = o22 then some true else some false)))
set_option maxHeartbeats 4000000 in
set_option maxRecDepth 100000 in
theorem laws_FnBestHeads_p5_ct {k : Nat} {o20 : Int} {o21 : Int} {o22 : Int} {o23 : Rw} {v24 : Bool} {v28 : Bool} {r : Bool} (h : laws_FnBestHeads_p5 k o20 o21 o22 o23 v24 v28 = some r) : X prog 0 (tlF f8 5) (mk 136 [(5, .ptr 320 0), (6, .d (D.int .i64 o20)), (7, .d (D.int .i64 o21)), (8, .d (D.bool v28)), (9, .d (D.int .i64 o22)), (10, .d (D.bool v24))] [(320, .box 31 [.os 1089000 o23.length]), (1089000, .arr 3 true o23)]) (finK prog f8 0 (.d (D.bool r)) (⟨[], []⟩)) := by
  rw [laws_FnBestHeads_p5] at h
  cases v24
  · replace h := condF h
    cases v28
    · replace h := condF h
      conv => whnf
      refine splF ?_
      conv => whnf
      refine splN (fun g247 => ?_) (fun g247 => ?_)
      · replace h := iteN h g247
        conv => whnf
        cases h
        exact Done.of [] [] rfl rfl ⟨⟨rfl, rfl⟩, ⟨rfl, trivial⟩, rfl, trivial⟩
      · replace h := iteP h g247
        conv => whnf
        cases h
        exact Done.of [] [] rfl rfl ⟨⟨rfl, rfl⟩, ⟨rfl, trivial⟩, rfl, trivial⟩
    · replace h := condT h
      conv => whnf
      refine splT ?_
      conv => whnf
      cases h
      exact Done.of [] [] rfl rfl ⟨⟨rfl, rfl⟩, ⟨rfl, trivial⟩, rfl, trivial⟩
  · replace h := condT h
    cases v28
    · replace h := condF h
      conv => whnf
      refine splT ?_
      conv => whnf
      cases h
      exact Done.of [] [] rfl rfl ⟨⟨rfl, rfl⟩, ⟨rfl, trivial⟩, rfl, trivial⟩
    · replace h := condT h
      conv => whnf
      refine splF ?_
      conv => whnf
      refine splN (fun g248 => ?_) (fun g248 => ?_)
      · replace h := iteN h g248
        conv => whnf
        cases h
        exact Done.of [] [] rfl rfl ⟨⟨rfl, rfl⟩, ⟨rfl, trivial⟩, rfl, trivial⟩
      · replace h := iteP h g248
        conv => whnf
        refine Pick.no ?_
        conv => whnf
        refine Take.all (rfl) ?_
        conv => whnf
        obtain ⟨y249, e250, h⟩ := bind_ex h
        refine CallOk.of (impl_HeadsOf_ct e250) ?_
        conv => whnf
        refine spl (fun g251 => ?_) (fun g251 => ?_)
        · replace h := iteT h g251
          conv => whnf
          exact CutK.piece (laws_FnBestHeads_p8_ct  h) [some 320, some 1089000, some 3648] [] ⟨⟨rfl, rfl⟩, ⟨rfl, ⟨rfl, ⟨rfl, rfl⟩, trivial⟩, ⟨rfl, rfl, rows_same⟩, ⟨rfl, rfl, rows_same⟩, trivial⟩, ⟨rfl, rfl⟩, rfl, rfl, ⟨rfl, rfl⟩, rfl, trivial⟩
        · replace h := iteF h g251
          conv => whnf
          exact CutK.piece (laws_FnBestHeads_p8_ct  h) [some 320, some 1089000, some 3648] [] ⟨⟨rfl, rfl⟩, ⟨rfl, ⟨rfl, ⟨rfl, rfl⟩, trivial⟩, ⟨rfl, rfl, rows_same⟩, ⟨rfl, rfl, rows_same⟩, trivial⟩, ⟨rfl, rfl⟩, rfl, rfl, ⟨rfl, rfl⟩, rfl, trivial⟩
def laws_FnBestHeads_p4 (k : Nat) (o13 : Int) (o14 : Int) (o15 : Rw) (v16 : Bool) : Option Bool :=
  (cond v16 ((spec_BestHead k o15 o13).bind fun y255 => (if y255.2 = true then (laws_FnBestHeads_p5 k o13 o14 y255.1 o15 true true) else (laws_FnBestHeads_p5 k o13 o14 y255.1 o15 false true))) ((spec_BestHead k o15 o13).bind fun y252 => (if y252.2 = true then (laws_FnBestHeads_p5 k o13 o14 y252.1 o15 true false) else (laws_FnBestHeads_p5 k o13 o14 y252.1 o15 false false))))
set_option maxHeartbeats 4000000 in
set_option maxRecDepth 100000 in
theorem laws_FnBestHeads_p4_ct {k : Nat} {o13 : Int} {o14 : Int} {o15 : Rw} {v16 : Bool} {r : Bool} (h : laws_FnBestHeads_p4 k o13 o14 o15 v16 = some r) : X prog 0 (tlF f8 4) (mk 136 [(5, .ptr 320 0), (6, .d (D.int .i64 o13)), (7, .d (D.int .i64 o14)), (8, .d (D.bool v16))] [(320, .box 31 [.os 1084000 o15.length]), (1084000, .arr 3 true o15)]) (finK prog f8 0 (.d (D.bool r)) (⟨[], []⟩)) := by
  rw [laws_FnBestHeads_p4] at h
  cases v16
  · replace h := condF h
    conv => whnf
    refine Choice.old ?_
    conv => whnf
    refine Pick.no ?_
    conv => whnf
    refine Take.all (rfl) ?_
    conv => whnf
    obtain ⟨y252, e253, h⟩ := bind_ex h
    refine CallOk.of (spec_BestHead_ct e253) ?_
    conv => whnf
    refine spl (fun g254 => ?_) (fun g254 => ?_)
    · replace h := iteT h g254
      conv => whnf
      exact CutK.piece (laws_FnBestHeads_p5_ct  h) [some 320, some 1084000] [] ⟨⟨rfl, rfl⟩, ⟨rfl, ⟨rfl, ⟨rfl, rfl⟩, trivial⟩, ⟨rfl, rfl, rows_same⟩, trivial⟩, ⟨rfl, rfl⟩, rfl, rfl, rfl, rfl, rfl, trivial⟩
    · replace h := iteF h g254
      conv => whnf
      exact CutK.piece (laws_FnBestHeads_p5_ct  h) [some 320, some 1084000] [] ⟨⟨rfl, rfl⟩, ⟨rfl, ⟨rfl, ⟨rfl, rfl⟩, trivial⟩, ⟨rfl, rfl, rows_same⟩, trivial⟩, ⟨rfl, rfl⟩, rfl, rfl, rfl, rfl, rfl, trivial⟩
  · replace h := condT h
    conv => whnf
    refine Choice.old ?_
    conv => whnf
    refine Pick.no ?_
    conv => whnf
    refine Take.all (rfl) ?_
    conv => whnf
    obtain ⟨y255, e256, h⟩ := bind_ex h
    refine CallOk.of (spec_BestHead_ct e256) ?_
    conv => whnf
    refine spl (fun g257 => ?_) (fun g257 => ?_)
    · replace h := iteT h g257
      conv => whnf
      exact CutK.piece (laws_FnBestHeads_p5_ct  h) [some 320, some 1084000] [] ⟨⟨rfl, rfl⟩, ⟨rfl, ⟨rfl, ⟨rfl, rfl⟩, trivial⟩, ⟨rfl, rfl, rows_same⟩, trivial⟩, ⟨rfl, rfl⟩, rfl, rfl, rfl, rfl, rfl, trivial⟩
    · replace h := iteF h g257
      conv => whnf
      exact CutK.piece (laws_FnBestHeads_p5_ct  h) [some 320, some 1084000] [] ⟨⟨rfl, rfl⟩, ⟨rfl, ⟨rfl, ⟨rfl, rfl⟩, trivial⟩, ⟨rfl, rfl, rows_same⟩, trivial⟩, ⟨rfl, rfl⟩, rfl, rfl, rfl, rfl, rfl, trivial⟩
def laws_FnBestHeads_p3 (k : Nat) (o8 : Int) (o9 : Rw) : Option Bool :=
  ((impl_BestHead k o9 o8).bind fun y258 => (if y258.2 = true then (laws_FnBestHeads_p4 k o8 y258.1 o9 true) else (laws_FnBestHeads_p4 k o8 y258.1 o9 false)))
set_option maxHeartbeats 4000000 in
set_option maxRecDepth 100000 in
theorem laws_FnBestHeads_p3_ct {k : Nat} {o8 : Int} {o9 : Rw} {r : Bool} (h : laws_FnBestHeads_p3 k o8 o9 = some r) : X prog 0 (tlF f8 3) (mk 136 [(5, .ptr 320 0), (6, .d (D.int .i64 o8))] [(320, .box 31 [.os 1079000 o9.length]), (1079000, .arr 3 true o9)]) (finK prog f8 0 (.d (D.bool r)) (⟨[], []⟩)) := by
  rw [laws_FnBestHeads_p3] at h
  conv => whnf
  refine Choice.old ?_
  conv => whnf
  refine Pick.no ?_
  conv => whnf
  refine Take.all (rfl) ?_
  conv => whnf
  obtain ⟨y258, e259, h⟩ := bind_ex h
  refine CallOk.of (impl_BestHead_ct e259) ?_
  conv => whnf
  refine spl (fun g260 => ?_) (fun g260 => ?_)
  · replace h := iteT h g260
    conv => whnf
    exact CutK.piece (laws_FnBestHeads_p4_ct  h) [some 320, some 1079000] [] ⟨⟨rfl, rfl⟩, ⟨rfl, ⟨rfl, ⟨rfl, rfl⟩, trivial⟩, ⟨rfl, rfl, rows_same⟩, trivial⟩, ⟨rfl, rfl⟩, rfl, rfl, rfl, trivial⟩
  · replace h := iteF h g260
    conv => whnf
    exact CutK.piece (laws_FnBestHeads_p4_ct  h) [some 320, some 1079000] [] ⟨⟨rfl, rfl⟩, ⟨rfl, ⟨rfl, ⟨rfl, rfl⟩, trivial⟩, ⟨rfl, rfl, rows_same⟩, trivial⟩, ⟨rfl, rfl⟩, rfl, rfl, rfl, trivial⟩
def laws_FnBestHeads_p2 (k : Nat) (a1 : Rw) : Option Bool :=
  ((spec_DrawBestHead k a1).bind fun y261 => (laws_FnBestHeads_p3 k y261.2 y261.1))
set_option maxHeartbeats 4000000 in
set_option maxRecDepth 100000 in
theorem laws_FnBestHeads_p2_ct {k : Nat} {a1 : Rw} {r : Bool} (h : laws_FnBestHeads_p2 k a1 = some r) : X prog 0 (tlF f8 2) (mk 136 [(0, .d (D.sl a1))] []) (finK prog f8 0 (.d (D.bool r)) (⟨[], []⟩)) := by
  rw [laws_FnBestHeads_p2] at h
  conv => whnf
  refine Pick.no ?_
  conv => whnf
  obtain ⟨y261, e262, h⟩ := bind_ex h
  refine CallOk.of (spec_DrawBestHead_ct e262) ?_
  conv => whnf
  exact CutK.piece (laws_FnBestHeads_p3_ct  h) [some 320, some 1920] [] ⟨⟨rfl, rfl⟩, ⟨rfl, ⟨rfl, ⟨rfl, rfl⟩, trivial⟩, ⟨rfl, rfl, rows_same⟩, trivial⟩, ⟨rfl, rfl⟩, rfl, trivial⟩
def laws_FnBestHeads (k : Nat) (a1 : Rw) (a2 : Rw) : Option Bool :=
  ((laws_big a1 a2).bind fun y263 => (if y263 = true then some true else (laws_FnBestHeads_p2 k a1)))
set_option maxHeartbeats 4000000 in
set_option maxRecDepth 100000 in
theorem laws_FnBestHeads_ct {k : Nat} {a1 : Rw} {a2 : Rw} {r : Bool} (h : laws_FnBestHeads k a1 a2 = some r) : Ct prog 8 [.d (D.sl a1), .d (D.sl a2)] (⟨[], []⟩) (.d (D.bool r)) (⟨[], []⟩) := by
  rw [laws_FnBestHeads] at h
  refine Ct.of (c := _) mixed func8 ⟨rfl, rfl, rfl⟩ ?_ rfl
  conv => whnf
  refine Pick.no ?_
  conv => whnf
  obtain ⟨y263, e264, h⟩ := bind_ex h
  refine CallOk.of (laws_big_ct e264) ?_
  conv => whnf
  refine spl (fun g265 => ?_) (fun g265 => ?_)
  · replace h := iteT h g265
    conv => whnf
    refine CutK.norm [0, 27] [] ?_
    conv => whnf
    cases h
    exact Done.of [] [] rfl rfl ⟨⟨rfl, rfl⟩, ⟨rfl, trivial⟩, rfl, trivial⟩
  · replace h := iteF h g265
    conv => whnf
    refine CutK.norm [0, 27] [] ?_
    conv => whnf
    exact CutK.piece (laws_FnBestHeads_p2_ct  h) [] [] ⟨⟨rfl, rfl⟩, ⟨rfl, trivial⟩, rfl, trivial⟩
end
end Go.Proofs.Try
