/- Printed by program (axgen): pure functions, and that the Go functions compute them. -/
import Derived.Test.YtmihoieaiojbhaaDE0
set_option linter.unusedVariables false
set_option linter.unusedSimpArgs false
namespace Go.Proofs.Try
open Go Go.AX
noncomputable section
def laws_FnExactDropEntry_p23 (o166 : Int) (o167 : Int) : Option Bool :=
  (if o167 < (0 : Int) then some false else (if o167 = o166 then some true else some false))
set_option maxHeartbeats 4000000 in
set_option maxRecDepth 100000 in
theorem laws_FnExactDropEntry_p23_ct {o166 : Int} {o167 : Int} {r : Bool} (h : laws_FnExactDropEntry_p23 o166 o167 = some r) : X prog 0 (tlF f6 23) (mk 104 [(12, .d (D.int .i64 o166)), (13, .d (D.int .i64 o167))] []) (finK prog f6 0 (.d (D.bool r)) (⟨[], []⟩)) := by
  rw [laws_FnExactDropEntry_p23] at h
  conv => whnf
  refine splD (fun g170 => ?_) (fun g170 => ?_)
  · replace h := iteP h g170
    conv => whnf
    cases h
    exact Done.of [] [] rfl rfl ⟨⟨rfl, rfl⟩, ⟨rfl, trivial⟩, rfl, trivial⟩
  · replace h := iteN h g170
    conv => whnf
    refine splN (fun g171 => ?_) (fun g171 => ?_)
    · replace h := iteN h g171
      conv => whnf
      cases h
      exact Done.of [] [] rfl rfl ⟨⟨rfl, rfl⟩, ⟨rfl, trivial⟩, rfl, trivial⟩
    · replace h := iteP h g171
      conv => whnf
      cases h
      exact Done.of [] [] rfl rfl ⟨⟨rfl, rfl⟩, ⟨rfl, trivial⟩, rfl, trivial⟩
def laws_FnExactDropEntry_p21 (k : Nat) (o153 : Int) (o154 : Rw) : Option Bool :=
  ((laws_heldNotebook k o154 1).bind fun y172 => (laws_FnExactDropEntry_p23 o153 y172))
set_option maxHeartbeats 4000000 in
set_option maxRecDepth 100000 in
theorem laws_FnExactDropEntry_p21_ct {k : Nat} {o153 : Int} {o154 : Rw} {r : Bool} (h : laws_FnExactDropEntry_p21 k o153 o154 = some r) : X prog 0 (tlF f6 21) (mk 104 [(9, .ptr 576 0), (12, .d (D.int .i64 o153))] [(576, .box 71 [.os 1169000 o154.length]), (1169000, .arr 132 true o154)]) (finK prog f6 0 (.d (D.bool r)) (⟨[], []⟩)) := by
  rw [laws_FnExactDropEntry_p21] at h
  conv => whnf
  refine Choice.old ?_
  conv => whnf
  refine Pick.no ?_
  conv => whnf
  refine Take.all (rfl) ?_
  conv => whnf
  obtain ⟨y172, e173, h⟩ := bind_ex h
  refine CallOk.of (laws_heldNotebook_ct e173) ?_
  conv => whnf
  exact CutK.piece (laws_FnExactDropEntry_p23_ct  h) [] [] ⟨⟨rfl, rfl⟩, ⟨rfl, trivial⟩, rfl, rfl, trivial⟩
def laws_FnExactDropEntry_p20 (k : Nat) (o137 : Int) (o138 : Rw) (o139 : Rw) (o140 : Rw) (v141 : Bool) (v149 : Bool) : Option Bool :=
  (cond v141 (cond v149 ((laws_eqNotebook k o140 o138).bind fun y183 => (if y183 = true then (laws_FnExactDropEntry_p21 k o137 o139) else some false)) ((laws_eqNotebook k o140 o138).bind fun y180 => (if y180 = true then some false else some false))) (cond v149 ((laws_eqNotebook k o140 o138).bind fun y177 => (if y177 = true then some false else some false)) ((laws_eqNotebook k o140 o138).bind fun y174 => (if y174 = true then (laws_FnExactDropEntry_p21 k o137 o139) else some false))))
set_option maxHeartbeats 4000000 in
set_option maxRecDepth 100000 in
theorem laws_FnExactDropEntry_p20_ct {k : Nat} {o137 : Int} {o138 : Rw} {o139 : Rw} {o140 : Rw} {v141 : Bool} {v149 : Bool} {r : Bool} (h : laws_FnExactDropEntry_p20 k o137 o138 o139 o140 v141 v149 = some r) : X prog 0 (tlF f6 20) (mk 104 [(6, .ptr 384 0), (7, .d (D.bool v149)), (9, .ptr 576 0), (12, .d (D.int .i64 o137)), (14, .ptr 896 0), (15, .d (D.bool v141))] [(384, .box 71 [.os 1164000 o138.length]), (576, .box 71 [.os 1164001 o139.length]), (896, .box 71 [.os 1164002 o140.length]), (1164000, .arr 132 true o138), (1164001, .arr 132 true o139), (1164002, .arr 132 true o140)]) (finK prog f6 0 (.d (D.bool r)) (⟨[], []⟩)) := by
  rw [laws_FnExactDropEntry_p20] at h
  cases v141
  · replace h := condF h
    cases v149
    · replace h := condF h
      conv => whnf
      refine Pick.no ?_
      conv => whnf
      refine Take.all (rfl) ?_
      conv => whnf
      refine Take.all (rfl) ?_
      conv => whnf
      obtain ⟨y174, e175, h⟩ := bind_ex h
      refine CallOk.of (laws_eqNotebook_ct e175) ?_
      conv => whnf
      refine spl (fun g176 => ?_) (fun g176 => ?_)
      · replace h := iteT h g176
        conv => whnf
        refine splF ?_
        conv => whnf
        refine CutK.norm [9, 12, 95] [576, 1164001] ?_
        conv => whnf
        exact CutK.piece (laws_FnExactDropEntry_p21_ct  h) [some 576, some 1164001] [] ⟨⟨rfl, rfl⟩, ⟨rfl, ⟨rfl, ⟨rfl, rfl⟩, trivial⟩, ⟨rfl, rfl, rows_same⟩, trivial⟩, ⟨rfl, rfl⟩, rfl, trivial⟩
      · replace h := iteF h g176
        conv => whnf
        refine CutK.norm [9, 12, 95] [576, 1164001] ?_
        conv => whnf
        cases h
        exact Done.of [] [] rfl rfl ⟨⟨rfl, rfl⟩, ⟨rfl, trivial⟩, rfl, trivial⟩
    · replace h := condT h
      conv => whnf
      refine Pick.no ?_
      conv => whnf
      refine Take.all (rfl) ?_
      conv => whnf
      refine Take.all (rfl) ?_
      conv => whnf
      obtain ⟨y177, e178, h⟩ := bind_ex h
      refine CallOk.of (laws_eqNotebook_ct e178) ?_
      conv => whnf
      refine spl (fun g179 => ?_) (fun g179 => ?_)
      · replace h := iteT h g179
        conv => whnf
        refine splT ?_
        conv => whnf
        refine CutK.norm [9, 12, 95] [576, 1164001] ?_
        conv => whnf
        cases h
        exact Done.of [] [] rfl rfl ⟨⟨rfl, rfl⟩, ⟨rfl, trivial⟩, rfl, trivial⟩
      · replace h := iteF h g179
        conv => whnf
        refine CutK.norm [9, 12, 95] [576, 1164001] ?_
        conv => whnf
        cases h
        exact Done.of [] [] rfl rfl ⟨⟨rfl, rfl⟩, ⟨rfl, trivial⟩, rfl, trivial⟩
  · replace h := condT h
    cases v149
    · replace h := condF h
      conv => whnf
      refine Pick.no ?_
      conv => whnf
      refine Take.all (rfl) ?_
      conv => whnf
      refine Take.all (rfl) ?_
      conv => whnf
      obtain ⟨y180, e181, h⟩ := bind_ex h
      refine CallOk.of (laws_eqNotebook_ct e181) ?_
      conv => whnf
      refine spl (fun g182 => ?_) (fun g182 => ?_)
      · replace h := iteT h g182
        conv => whnf
        refine splT ?_
        conv => whnf
        refine CutK.norm [9, 12, 95] [576, 1164001] ?_
        conv => whnf
        cases h
        exact Done.of [] [] rfl rfl ⟨⟨rfl, rfl⟩, ⟨rfl, trivial⟩, rfl, trivial⟩
      · replace h := iteF h g182
        conv => whnf
        refine CutK.norm [9, 12, 95] [576, 1164001] ?_
        conv => whnf
        cases h
        exact Done.of [] [] rfl rfl ⟨⟨rfl, rfl⟩, ⟨rfl, trivial⟩, rfl, trivial⟩
    · replace h := condT h
      conv => whnf
      refine Pick.no ?_
      conv => whnf
      refine Take.all (rfl) ?_
      conv => whnf
      refine Take.all (rfl) ?_
      conv => whnf
      obtain ⟨y183, e184, h⟩ := bind_ex h
      refine CallOk.of (laws_eqNotebook_ct e184) ?_
      conv => whnf
      refine spl (fun g185 => ?_) (fun g185 => ?_)
      · replace h := iteT h g185
        conv => whnf
        refine splF ?_
        conv => whnf
        refine CutK.norm [9, 12, 95] [576, 1164001] ?_
        conv => whnf
        exact CutK.piece (laws_FnExactDropEntry_p21_ct  h) [some 576, some 1164001] [] ⟨⟨rfl, rfl⟩, ⟨rfl, ⟨rfl, ⟨rfl, rfl⟩, trivial⟩, ⟨rfl, rfl, rows_same⟩, trivial⟩, ⟨rfl, rfl⟩, rfl, trivial⟩
      · replace h := iteF h g185
        conv => whnf
        refine CutK.norm [9, 12, 95] [576, 1164001] ?_
        conv => whnf
        cases h
        exact Done.of [] [] rfl rfl ⟨⟨rfl, rfl⟩, ⟨rfl, trivial⟩, rfl, trivial⟩
def laws_FnExactDropEntry_p17 (k : Nat) (a1 : Rw) (a2 : ByteArray) (o123 : Int) (o124 : Int) (o125 : Rw) (o126 : Rw) (v129 : Bool) : Option Bool :=
  (cond v129 (if o124 < (0 : Int) then some false else (if o124 = o123 then ((laws_toNotebook k a1).bind fun y195 => ((impl_DropEntry k y195 a2).bind fun y197 => (if y197.2 = true then (laws_FnExactDropEntry_p20 k o123 o125 o126 y197.1 true true) else (laws_FnExactDropEntry_p20 k o123 o125 o126 y197.1 false true)))) else some false)) (if o124 < (0 : Int) then some false else (if o124 = o123 then ((laws_toNotebook k a1).bind fun y188 => ((impl_DropEntry k y188 a2).bind fun y190 => (if y190.2 = true then (laws_FnExactDropEntry_p20 k o123 o125 o126 y190.1 true false) else (laws_FnExactDropEntry_p20 k o123 o125 o126 y190.1 false false)))) else some false)))
set_option maxHeartbeats 4000000 in
set_option maxRecDepth 100000 in
theorem laws_FnExactDropEntry_p17_ct {k : Nat} {a1 : Rw} {a2 : ByteArray} {o123 : Int} {o124 : Int} {o125 : Rw} {o126 : Rw} {v129 : Bool} {r : Bool} (h : laws_FnExactDropEntry_p17 k a1 a2 o123 o124 o125 o126 v129 = some r) : X prog 0 (tlF f6 17) (mk 104 [(1, .d (D.str a2)), (2, .ptr 128 0), (6, .ptr 384 0), (7, .d (D.bool v129)), (9, .ptr 576 0), (12, .d (D.int .i64 o123)), (13, .d (D.int .i64 o124))] [(128, .box 67 [.d (D.sl a1)]), (384, .box 71 [.os 1149000 o125.length]), (576, .box 71 [.os 1149001 o126.length]), (1149000, .arr 132 true o125), (1149001, .arr 132 true o126)]) (finK prog f6 0 (.d (D.bool r)) (⟨[], []⟩)) := by
  rw [laws_FnExactDropEntry_p17] at h
  cases v129
  · replace h := condF h
    conv => whnf
    refine splD (fun g186 => ?_) (fun g186 => ?_)
    · replace h := iteP h g186
      conv => whnf
      cases h
      exact Done.of [] [] rfl rfl ⟨⟨rfl, rfl⟩, ⟨rfl, trivial⟩, rfl, trivial⟩
    · replace h := iteN h g186
      conv => whnf
      refine splN (fun g187 => ?_) (fun g187 => ?_)
      · replace h := iteN h g187
        conv => whnf
        cases h
        exact Done.of [] [] rfl rfl ⟨⟨rfl, rfl⟩, ⟨rfl, trivial⟩, rfl, trivial⟩
      · replace h := iteP h g187
        conv => whnf
        refine Pick.no ?_
        conv => whnf
        obtain ⟨y188, e189, h⟩ := bind_ex h
        refine CallOk.of (laws_toNotebook_ct e189) ?_
        conv => whnf
        refine Pick.no ?_
        conv => whnf
        refine Take.all (rfl) ?_
        conv => whnf
        obtain ⟨y190, e191, h⟩ := bind_ex h
        refine CallOk.of (impl_DropEntry_ct e191) ?_
        conv => whnf
        refine spl (fun g192 => ?_) (fun g192 => ?_)
        · replace h := iteT h g192
          conv => whnf
          exact CutK.piece (laws_FnExactDropEntry_p20_ct  h) [some 384, some 576, some 896, some 1149000, some 1149001, some 5376] [] ⟨⟨rfl, rfl⟩, ⟨rfl, ⟨rfl, ⟨rfl, rfl⟩, trivial⟩, ⟨rfl, ⟨rfl, rfl⟩, trivial⟩, ⟨rfl, ⟨rfl, rfl⟩, trivial⟩, ⟨rfl, rfl, rows_same⟩, ⟨rfl, rfl, rows_same⟩, ⟨rfl, rfl, rows_same⟩, trivial⟩, ⟨rfl, rfl⟩, rfl, ⟨rfl, rfl⟩, rfl, ⟨rfl, rfl⟩, rfl, trivial⟩
        · replace h := iteF h g192
          conv => whnf
          exact CutK.piece (laws_FnExactDropEntry_p20_ct  h) [some 384, some 576, some 896, some 1149000, some 1149001, some 5376] [] ⟨⟨rfl, rfl⟩, ⟨rfl, ⟨rfl, ⟨rfl, rfl⟩, trivial⟩, ⟨rfl, ⟨rfl, rfl⟩, trivial⟩, ⟨rfl, ⟨rfl, rfl⟩, trivial⟩, ⟨rfl, rfl, rows_same⟩, ⟨rfl, rfl, rows_same⟩, ⟨rfl, rfl, rows_same⟩, trivial⟩, ⟨rfl, rfl⟩, rfl, ⟨rfl, rfl⟩, rfl, ⟨rfl, rfl⟩, rfl, trivial⟩
  · replace h := condT h
    conv => whnf
    refine splD (fun g193 => ?_) (fun g193 => ?_)
    · replace h := iteP h g193
      conv => whnf
      cases h
      exact Done.of [] [] rfl rfl ⟨⟨rfl, rfl⟩, ⟨rfl, trivial⟩, rfl, trivial⟩
    · replace h := iteN h g193
      conv => whnf
      refine splN (fun g194 => ?_) (fun g194 => ?_)
      · replace h := iteN h g194
        conv => whnf
        cases h
        exact Done.of [] [] rfl rfl ⟨⟨rfl, rfl⟩, ⟨rfl, trivial⟩, rfl, trivial⟩
      · replace h := iteP h g194
        conv => whnf
        refine Pick.no ?_
        conv => whnf
        obtain ⟨y195, e196, h⟩ := bind_ex h
        refine CallOk.of (laws_toNotebook_ct e196) ?_
        conv => whnf
        refine Pick.no ?_
        conv => whnf
        refine Take.all (rfl) ?_
        conv => whnf
        obtain ⟨y197, e198, h⟩ := bind_ex h
        refine CallOk.of (impl_DropEntry_ct e198) ?_
        conv => whnf
        refine spl (fun g199 => ?_) (fun g199 => ?_)
        · replace h := iteT h g199
          conv => whnf
          exact CutK.piece (laws_FnExactDropEntry_p20_ct  h) [some 384, some 576, some 896, some 1149000, some 1149001, some 5376] [] ⟨⟨rfl, rfl⟩, ⟨rfl, ⟨rfl, ⟨rfl, rfl⟩, trivial⟩, ⟨rfl, ⟨rfl, rfl⟩, trivial⟩, ⟨rfl, ⟨rfl, rfl⟩, trivial⟩, ⟨rfl, rfl, rows_same⟩, ⟨rfl, rfl, rows_same⟩, ⟨rfl, rfl, rows_same⟩, trivial⟩, ⟨rfl, rfl⟩, rfl, ⟨rfl, rfl⟩, rfl, ⟨rfl, rfl⟩, rfl, trivial⟩
        · replace h := iteF h g199
          conv => whnf
          exact CutK.piece (laws_FnExactDropEntry_p20_ct  h) [some 384, some 576, some 896, some 1149000, some 1149001, some 5376] [] ⟨⟨rfl, rfl⟩, ⟨rfl, ⟨rfl, ⟨rfl, rfl⟩, trivial⟩, ⟨rfl, ⟨rfl, rfl⟩, trivial⟩, ⟨rfl, ⟨rfl, rfl⟩, trivial⟩, ⟨rfl, rfl, rows_same⟩, ⟨rfl, rfl, rows_same⟩, ⟨rfl, rfl, rows_same⟩, trivial⟩, ⟨rfl, rfl⟩, rfl, ⟨rfl, rfl⟩, rfl, ⟨rfl, rfl⟩, rfl, trivial⟩
def laws_FnExactDropEntry_p15 (k : Nat) (a1 : Rw) (a2 : ByteArray) (o114 : Int) (o115 : Rw) (o116 : Rw) (v120 : Bool) : Option Bool :=
  (cond v120 ((laws_heldNotebook k o116 1).bind fun y202 => (laws_FnExactDropEntry_p17 k a1 a2 o114 y202 o115 o116 true)) ((laws_heldNotebook k o116 1).bind fun y200 => (laws_FnExactDropEntry_p17 k a1 a2 o114 y200 o115 o116 false)))
set_option maxHeartbeats 4000000 in
set_option maxRecDepth 100000 in
theorem laws_FnExactDropEntry_p15_ct {k : Nat} {a1 : Rw} {a2 : ByteArray} {o114 : Int} {o115 : Rw} {o116 : Rw} {v120 : Bool} {r : Bool} (h : laws_FnExactDropEntry_p15 k a1 a2 o114 o115 o116 v120 = some r) : X prog 0 (tlF f6 15) (mk 104 [(1, .d (D.str a2)), (2, .ptr 128 0), (6, .ptr 384 0), (7, .d (D.bool v120)), (9, .ptr 576 0), (12, .d (D.int .i64 o114))] [(128, .box 67 [.d (D.sl a1)]), (384, .box 71 [.os 1139000 o115.length]), (576, .box 71 [.os 1139001 o116.length]), (1139000, .arr 132 true o115), (1139001, .arr 132 true o116)]) (finK prog f6 0 (.d (D.bool r)) (⟨[], []⟩)) := by
  rw [laws_FnExactDropEntry_p15] at h
  cases v120
  · replace h := condF h
    conv => whnf
    refine Choice.old ?_
    conv => whnf
    refine Pick.no ?_
    conv => whnf
    refine Take.all (rfl) ?_
    conv => whnf
    obtain ⟨y200, e201, h⟩ := bind_ex h
    refine CallOk.of (laws_heldNotebook_ct e201) ?_
    conv => whnf
    exact CutK.piece (laws_FnExactDropEntry_p17_ct  h) [some 128, some 384, some 576, some 1139000, some 1139001] [] ⟨⟨rfl, rfl⟩, ⟨rfl, ⟨rfl, rfl, trivial⟩, ⟨rfl, ⟨rfl, rfl⟩, trivial⟩, ⟨rfl, ⟨rfl, rfl⟩, trivial⟩, ⟨rfl, rfl, rows_same⟩, ⟨rfl, rfl, rows_same⟩, trivial⟩, rfl, ⟨rfl, rfl⟩, ⟨rfl, rfl⟩, rfl, ⟨rfl, rfl⟩, rfl, rfl, trivial⟩
  · replace h := condT h
    conv => whnf
    refine Choice.old ?_
    conv => whnf
    refine Pick.no ?_
    conv => whnf
    refine Take.all (rfl) ?_
    conv => whnf
    obtain ⟨y202, e203, h⟩ := bind_ex h
    refine CallOk.of (laws_heldNotebook_ct e203) ?_
    conv => whnf
    exact CutK.piece (laws_FnExactDropEntry_p17_ct  h) [some 128, some 384, some 576, some 1139000, some 1139001] [] ⟨⟨rfl, rfl⟩, ⟨rfl, ⟨rfl, rfl, trivial⟩, ⟨rfl, ⟨rfl, rfl⟩, trivial⟩, ⟨rfl, ⟨rfl, rfl⟩, trivial⟩, ⟨rfl, rfl, rows_same⟩, ⟨rfl, rfl, rows_same⟩, trivial⟩, rfl, ⟨rfl, rfl⟩, ⟨rfl, rfl⟩, rfl, ⟨rfl, rfl⟩, rfl, rfl, trivial⟩
def laws_FnExactDropEntry_p13 (k : Nat) (a1 : Rw) (a2 : ByteArray) (o96 : Rw) (o97 : Rw) (v110 : Bool) : Option Bool :=
  (cond v110 ((laws_markNotebook k o97 1).bind fun y207 => (if y207.2.length = o97.length then (laws_FnExactDropEntry_p15 k a1 a2 y207.1 o96 y207.2 true) else none)) ((laws_markNotebook k o97 1).bind fun y204 => (if y204.2.length = o97.length then (laws_FnExactDropEntry_p15 k a1 a2 y204.1 o96 y204.2 false) else none)))
set_option maxHeartbeats 4000000 in
set_option maxRecDepth 100000 in
theorem laws_FnExactDropEntry_p13_ct {k : Nat} {a1 : Rw} {a2 : ByteArray} {o96 : Rw} {o97 : Rw} {v110 : Bool} {r : Bool} (h : laws_FnExactDropEntry_p13 k a1 a2 o96 o97 v110 = some r) : X prog 0 (tlF f6 13) (mk 104 [(1, .d (D.str a2)), (2, .ptr 128 0), (6, .ptr 384 0), (7, .d (D.bool v110)), (9, .ptr 576 0)] [(128, .box 67 [.d (D.sl a1)]), (384, .box 71 [.os 1129000 o96.length]), (576, .box 71 [.os 1129001 o97.length]), (1129000, .arr 132 true o96), (1129001, .arr 132 true o97)]) (finK prog f6 0 (.d (D.bool r)) (⟨[], []⟩)) := by
  rw [laws_FnExactDropEntry_p13] at h
  cases v110
  · replace h := condF h
    conv => whnf
    refine Choice.new ?_
    conv => whnf
    refine Req.of (rfl) ?_
    conv => whnf
    obtain ⟨y204, e205, h⟩ := bind_ex h
    refine MarkOk.of (laws_markNotebook_ct e205) ?_
    conv => whnf
    obtain ⟨g206, h⟩ := req_ex h
    exact CutK.piece (laws_FnExactDropEntry_p15_ct  h) [some 128, some 384, some 576, some 1129000, some 1129001] [] ⟨⟨rfl, rfl⟩, ⟨rfl, ⟨rfl, rfl, trivial⟩, ⟨rfl, ⟨rfl, rfl⟩, trivial⟩, ⟨rfl, ⟨(by first | rfl | exact List.length_append.symm | (simp; done) | omega | (dsimp only; omega)), rfl⟩, trivial⟩, ⟨rfl, rfl, rows_same⟩, ⟨rfl, rfl, rows_same⟩, trivial⟩, rfl, ⟨rfl, rfl⟩, ⟨rfl, rfl⟩, rfl, ⟨rfl, rfl⟩, rfl, trivial⟩
  · replace h := condT h
    conv => whnf
    refine Choice.new ?_
    conv => whnf
    refine Req.of (rfl) ?_
    conv => whnf
    obtain ⟨y207, e208, h⟩ := bind_ex h
    refine MarkOk.of (laws_markNotebook_ct e208) ?_
    conv => whnf
    obtain ⟨g209, h⟩ := req_ex h
    exact CutK.piece (laws_FnExactDropEntry_p15_ct  h) [some 128, some 384, some 576, some 1129000, some 1129001] [] ⟨⟨rfl, rfl⟩, ⟨rfl, ⟨rfl, rfl, trivial⟩, ⟨rfl, ⟨rfl, rfl⟩, trivial⟩, ⟨rfl, ⟨(by first | rfl | exact List.length_append.symm | (simp; done) | omega | (dsimp only; omega)), rfl⟩, trivial⟩, ⟨rfl, rfl, rows_same⟩, ⟨rfl, rfl, rows_same⟩, trivial⟩, rfl, ⟨rfl, rfl⟩, ⟨rfl, rfl⟩, rfl, ⟨rfl, rfl⟩, rfl, trivial⟩
def laws_FnExactDropEntry_p12 (k : Nat) (a1 : Rw) (a2 : ByteArray) (o78 : Int) (o79 : Rw) (o80 : Rw) (v84 : Bool) (v88 : Bool) : Option Bool :=
  (cond v84 (cond v88 (if o78 < (0 : Int) then some false else ((laws_eqNotebook k o80 o79).bind fun y223 => (if y223 = true then (laws_FnExactDropEntry_p13 k a1 a2 o79 o80 true) else some false))) (if o78 < (0 : Int) then some false else ((laws_eqNotebook k o80 o79).bind fun y219 => (if y219 = true then some false else some false)))) (cond v88 (if o78 < (0 : Int) then some false else ((laws_eqNotebook k o80 o79).bind fun y215 => (if y215 = true then some false else some false))) (if o78 < (0 : Int) then some false else ((laws_eqNotebook k o80 o79).bind fun y211 => (if y211 = true then (laws_FnExactDropEntry_p13 k a1 a2 o79 o80 false) else some false)))))
set_option maxHeartbeats 4000000 in
set_option maxRecDepth 100000 in
theorem laws_FnExactDropEntry_p12_ct {k : Nat} {a1 : Rw} {a2 : ByteArray} {o78 : Int} {o79 : Rw} {o80 : Rw} {v84 : Bool} {v88 : Bool} {r : Bool} (h : laws_FnExactDropEntry_p12 k a1 a2 o78 o79 o80 v84 v88 = some r) : X prog 0 (tlF f6 12) (mk 104 [(1, .d (D.str a2)), (2, .ptr 128 0), (6, .ptr 384 0), (7, .d (D.bool v84)), (9, .ptr 576 0), (10, .d (D.bool v88)), (11, .d (D.int .i64 o78))] [(128, .box 67 [.d (D.sl a1)]), (384, .box 71 [.os 1124000 o79.length]), (576, .box 71 [.os 1124001 o80.length]), (1124000, .arr 132 true o79), (1124001, .arr 132 true o80)]) (finK prog f6 0 (.d (D.bool r)) (⟨[], []⟩)) := by
  rw [laws_FnExactDropEntry_p12] at h
  cases v84
  · replace h := condF h
    cases v88
    · replace h := condF h
      conv => whnf
      refine splD (fun g210 => ?_) (fun g210 => ?_)
      · replace h := iteP h g210
        conv => whnf
        refine CutK.norm [1, 2, 6, 7, 9, 68] [128, 384, 576, 1124000, 1124001] ?_
        conv => whnf
        cases h
        exact Done.of [] [] rfl rfl ⟨⟨rfl, rfl⟩, ⟨rfl, trivial⟩, rfl, trivial⟩
      · replace h := iteN h g210
        conv => whnf
        refine Pick.no ?_
        conv => whnf
        refine Take.all (rfl) ?_
        conv => whnf
        refine Take.all (rfl) ?_
        conv => whnf
        obtain ⟨y211, e212, h⟩ := bind_ex h
        refine CallOk.of (laws_eqNotebook_ct e212) ?_
        conv => whnf
        refine spl (fun g213 => ?_) (fun g213 => ?_)
        · replace h := iteT h g213
          conv => whnf
          refine splF ?_
          conv => whnf
          refine CutK.norm [1, 2, 6, 7, 9, 68] [128, 384, 576, 1124000, 1124001] ?_
          conv => whnf
          exact CutK.piece (laws_FnExactDropEntry_p13_ct  h) [some 128, some 384, some 576, some 1124000, some 1124001] [] ⟨⟨rfl, rfl⟩, ⟨rfl, ⟨rfl, rfl, trivial⟩, ⟨rfl, ⟨rfl, rfl⟩, trivial⟩, ⟨rfl, ⟨rfl, rfl⟩, trivial⟩, ⟨rfl, rfl, rows_same⟩, ⟨rfl, rfl, rows_same⟩, trivial⟩, rfl, ⟨rfl, rfl⟩, ⟨rfl, rfl⟩, rfl, ⟨rfl, rfl⟩, trivial⟩
        · replace h := iteF h g213
          conv => whnf
          refine CutK.norm [1, 2, 6, 7, 9, 68] [128, 384, 576, 1124000, 1124001] ?_
          conv => whnf
          cases h
          exact Done.of [] [] rfl rfl ⟨⟨rfl, rfl⟩, ⟨rfl, trivial⟩, rfl, trivial⟩
    · replace h := condT h
      conv => whnf
      refine splD (fun g214 => ?_) (fun g214 => ?_)
      · replace h := iteP h g214
        conv => whnf
        refine CutK.norm [1, 2, 6, 7, 9, 68] [128, 384, 576, 1124000, 1124001] ?_
        conv => whnf
        cases h
        exact Done.of [] [] rfl rfl ⟨⟨rfl, rfl⟩, ⟨rfl, trivial⟩, rfl, trivial⟩
      · replace h := iteN h g214
        conv => whnf
        refine Pick.no ?_
        conv => whnf
        refine Take.all (rfl) ?_
        conv => whnf
        refine Take.all (rfl) ?_
        conv => whnf
        obtain ⟨y215, e216, h⟩ := bind_ex h
        refine CallOk.of (laws_eqNotebook_ct e216) ?_
        conv => whnf
        refine spl (fun g217 => ?_) (fun g217 => ?_)
        · replace h := iteT h g217
          conv => whnf
          refine splT ?_
          conv => whnf
          refine CutK.norm [1, 2, 6, 7, 9, 68] [128, 384, 576, 1124000, 1124001] ?_
          conv => whnf
          cases h
          exact Done.of [] [] rfl rfl ⟨⟨rfl, rfl⟩, ⟨rfl, trivial⟩, rfl, trivial⟩
        · replace h := iteF h g217
          conv => whnf
          refine CutK.norm [1, 2, 6, 7, 9, 68] [128, 384, 576, 1124000, 1124001] ?_
          conv => whnf
          cases h
          exact Done.of [] [] rfl rfl ⟨⟨rfl, rfl⟩, ⟨rfl, trivial⟩, rfl, trivial⟩
  · replace h := condT h
    cases v88
    · replace h := condF h
      conv => whnf
      refine splD (fun g218 => ?_) (fun g218 => ?_)
      · replace h := iteP h g218
        conv => whnf
        refine CutK.norm [1, 2, 6, 7, 9, 68] [128, 384, 576, 1124000, 1124001] ?_
        conv => whnf
        cases h
        exact Done.of [] [] rfl rfl ⟨⟨rfl, rfl⟩, ⟨rfl, trivial⟩, rfl, trivial⟩
      · replace h := iteN h g218
        conv => whnf
        refine Pick.no ?_
        conv => whnf
        refine Take.all (rfl) ?_
        conv => whnf
        refine Take.all (rfl) ?_
        conv => whnf
        obtain ⟨y219, e220, h⟩ := bind_ex h
        refine CallOk.of (laws_eqNotebook_ct e220) ?_
        conv => whnf
        refine spl (fun g221 => ?_) (fun g221 => ?_)
        · replace h := iteT h g221
          conv => whnf
          refine splT ?_
          conv => whnf
          refine CutK.norm [1, 2, 6, 7, 9, 68] [128, 384, 576, 1124000, 1124001] ?_
          conv => whnf
          cases h
          exact Done.of [] [] rfl rfl ⟨⟨rfl, rfl⟩, ⟨rfl, trivial⟩, rfl, trivial⟩
        · replace h := iteF h g221
          conv => whnf
          refine CutK.norm [1, 2, 6, 7, 9, 68] [128, 384, 576, 1124000, 1124001] ?_
          conv => whnf
          cases h
          exact Done.of [] [] rfl rfl ⟨⟨rfl, rfl⟩, ⟨rfl, trivial⟩, rfl, trivial⟩
    · replace h := condT h
      conv => whnf
      refine splD (fun g222 => ?_) (fun g222 => ?_)
      · replace h := iteP h g222
        conv => whnf
        refine CutK.norm [1, 2, 6, 7, 9, 68] [128, 384, 576, 1124000, 1124001] ?_
        conv => whnf
        cases h
        exact Done.of [] [] rfl rfl ⟨⟨rfl, rfl⟩, ⟨rfl, trivial⟩, rfl, trivial⟩
      · replace h := iteN h g222
        conv => whnf
        refine Pick.no ?_
        conv => whnf
        refine Take.all (rfl) ?_
        conv => whnf
        refine Take.all (rfl) ?_
        conv => whnf
        obtain ⟨y223, e224, h⟩ := bind_ex h
        refine CallOk.of (laws_eqNotebook_ct e224) ?_
        conv => whnf
        refine spl (fun g225 => ?_) (fun g225 => ?_)
        · replace h := iteT h g225
          conv => whnf
          refine splF ?_
          conv => whnf
          refine CutK.norm [1, 2, 6, 7, 9, 68] [128, 384, 576, 1124000, 1124001] ?_
          conv => whnf
          exact CutK.piece (laws_FnExactDropEntry_p13_ct  h) [some 128, some 384, some 576, some 1124000, some 1124001] [] ⟨⟨rfl, rfl⟩, ⟨rfl, ⟨rfl, rfl, trivial⟩, ⟨rfl, ⟨rfl, rfl⟩, trivial⟩, ⟨rfl, ⟨rfl, rfl⟩, trivial⟩, ⟨rfl, rfl, rows_same⟩, ⟨rfl, rfl, rows_same⟩, trivial⟩, rfl, ⟨rfl, rfl⟩, ⟨rfl, rfl⟩, rfl, ⟨rfl, rfl⟩, trivial⟩
        · replace h := iteF h g225
          conv => whnf
          refine CutK.norm [1, 2, 6, 7, 9, 68] [128, 384, 576, 1124000, 1124001] ?_
          conv => whnf
          cases h
          exact Done.of [] [] rfl rfl ⟨⟨rfl, rfl⟩, ⟨rfl, trivial⟩, rfl, trivial⟩
def laws_FnExactDropEntry_p10 (k : Nat) (a1 : Rw) (a2 : ByteArray) (o55 : Rw) (o56 : Rw) (o57 : Rw) (v63 : Bool) (v69 : Bool) : Option Bool :=
  (cond v63 (cond v69 ((laws_markNotebook k o56 1).bind fun y235 => (if y235.2.length = o56.length then (laws_FnExactDropEntry_p12 k a1 a2 y235.1 o55 o57 true true) else none)) ((laws_markNotebook k o56 1).bind fun y232 => (if y232.2.length = o56.length then (laws_FnExactDropEntry_p12 k a1 a2 y232.1 o55 o57 false true) else none))) (cond v69 ((laws_markNotebook k o56 1).bind fun y229 => (if y229.2.length = o56.length then (laws_FnExactDropEntry_p12 k a1 a2 y229.1 o55 o57 true false) else none)) ((laws_markNotebook k o56 1).bind fun y226 => (if y226.2.length = o56.length then (laws_FnExactDropEntry_p12 k a1 a2 y226.1 o55 o57 false false) else none))))
set_option maxHeartbeats 4000000 in
set_option maxRecDepth 100000 in
theorem laws_FnExactDropEntry_p10_ct {k : Nat} {a1 : Rw} {a2 : ByteArray} {o55 : Rw} {o56 : Rw} {o57 : Rw} {v63 : Bool} {v69 : Bool} {r : Bool} (h : laws_FnExactDropEntry_p10 k a1 a2 o55 o56 o57 v63 v69 = some r) : X prog 0 (tlF f6 10) (mk 104 [(1, .d (D.str a2)), (2, .ptr 128 0), (6, .ptr 384 0), (7, .d (D.bool v69)), (8, .ptr 512 0), (9, .ptr 576 0), (10, .d (D.bool v63))] [(128, .box 67 [.d (D.sl a1)]), (384, .box 71 [.os 1114000 o55.length]), (512, .box 71 [.os 1114001 o56.length]), (576, .box 71 [.os 1114002 o57.length]), (1114000, .arr 132 true o55), (1114001, .arr 132 true o56), (1114002, .arr 132 true o57)]) (finK prog f6 0 (.d (D.bool r)) (⟨[], []⟩)) := by
  rw [laws_FnExactDropEntry_p10] at h
  cases v63
  · replace h := condF h
    cases v69
    · replace h := condF h
      conv => whnf
      refine Choice.new ?_
      conv => whnf
      refine Req.of (rfl) ?_
      conv => whnf
      obtain ⟨y226, e227, h⟩ := bind_ex h
      refine MarkOk.of (laws_markNotebook_ct e227) ?_
      conv => whnf
      obtain ⟨g228, h⟩ := req_ex h
      exact CutK.piece (laws_FnExactDropEntry_p12_ct  h) [some 128, some 384, some 576, some 1114000, some 1114002] [] ⟨⟨rfl, rfl⟩, ⟨rfl, ⟨rfl, rfl, trivial⟩, ⟨rfl, ⟨rfl, rfl⟩, trivial⟩, ⟨rfl, ⟨rfl, rfl⟩, trivial⟩, ⟨rfl, rfl, rows_same⟩, ⟨rfl, rfl, rows_same⟩, trivial⟩, rfl, ⟨rfl, rfl⟩, ⟨rfl, rfl⟩, rfl, ⟨rfl, rfl⟩, rfl, rfl, trivial⟩
    · replace h := condT h
      conv => whnf
      refine Choice.new ?_
      conv => whnf
      refine Req.of (rfl) ?_
      conv => whnf
      obtain ⟨y229, e230, h⟩ := bind_ex h
      refine MarkOk.of (laws_markNotebook_ct e230) ?_
      conv => whnf
      obtain ⟨g231, h⟩ := req_ex h
      exact CutK.piece (laws_FnExactDropEntry_p12_ct  h) [some 128, some 384, some 576, some 1114000, some 1114002] [] ⟨⟨rfl, rfl⟩, ⟨rfl, ⟨rfl, rfl, trivial⟩, ⟨rfl, ⟨rfl, rfl⟩, trivial⟩, ⟨rfl, ⟨rfl, rfl⟩, trivial⟩, ⟨rfl, rfl, rows_same⟩, ⟨rfl, rfl, rows_same⟩, trivial⟩, rfl, ⟨rfl, rfl⟩, ⟨rfl, rfl⟩, rfl, ⟨rfl, rfl⟩, rfl, rfl, trivial⟩
  · replace h := condT h
    cases v69
    · replace h := condF h
      conv => whnf
      refine Choice.new ?_
      conv => whnf
      refine Req.of (rfl) ?_
      conv => whnf
      obtain ⟨y232, e233, h⟩ := bind_ex h
      refine MarkOk.of (laws_markNotebook_ct e233) ?_
      conv => whnf
      obtain ⟨g234, h⟩ := req_ex h
      exact CutK.piece (laws_FnExactDropEntry_p12_ct  h) [some 128, some 384, some 576, some 1114000, some 1114002] [] ⟨⟨rfl, rfl⟩, ⟨rfl, ⟨rfl, rfl, trivial⟩, ⟨rfl, ⟨rfl, rfl⟩, trivial⟩, ⟨rfl, ⟨rfl, rfl⟩, trivial⟩, ⟨rfl, rfl, rows_same⟩, ⟨rfl, rfl, rows_same⟩, trivial⟩, rfl, ⟨rfl, rfl⟩, ⟨rfl, rfl⟩, rfl, ⟨rfl, rfl⟩, rfl, rfl, trivial⟩
    · replace h := condT h
      conv => whnf
      refine Choice.new ?_
      conv => whnf
      refine Req.of (rfl) ?_
      conv => whnf
      obtain ⟨y235, e236, h⟩ := bind_ex h
      refine MarkOk.of (laws_markNotebook_ct e236) ?_
      conv => whnf
      obtain ⟨g237, h⟩ := req_ex h
      exact CutK.piece (laws_FnExactDropEntry_p12_ct  h) [some 128, some 384, some 576, some 1114000, some 1114002] [] ⟨⟨rfl, rfl⟩, ⟨rfl, ⟨rfl, rfl, trivial⟩, ⟨rfl, ⟨rfl, rfl⟩, trivial⟩, ⟨rfl, ⟨rfl, rfl⟩, trivial⟩, ⟨rfl, rfl, rows_same⟩, ⟨rfl, rfl, rows_same⟩, trivial⟩, rfl, ⟨rfl, rfl⟩, ⟨rfl, rfl⟩, rfl, ⟨rfl, rfl⟩, rfl, rfl, trivial⟩
def laws_FnExactDropEntry_p9 (k : Nat) (a1 : Rw) (a2 : ByteArray) (o36 : Rw) (o37 : Rw) (o38 : Rw) (v48 : Bool) (v49 : Bool) : Option Bool :=
  (cond v48 (cond v49 ((laws_toNotebook k a1).bind fun y253 => ((laws_eqNotebook k o37 y253).bind fun y255 => (if y255 = true then (laws_FnExactDropEntry_p10 k a1 a2 o36 o37 o38 true true) else some false))) ((laws_toNotebook k a1).bind fun y248 => ((laws_eqNotebook k o37 y248).bind fun y250 => (if y250 = true then (laws_FnExactDropEntry_p10 k a1 a2 o36 o37 o38 false true) else some false)))) (cond v49 ((laws_toNotebook k a1).bind fun y243 => ((laws_eqNotebook k o37 y243).bind fun y245 => (if y245 = true then (laws_FnExactDropEntry_p10 k a1 a2 o36 o37 o38 true false) else some false))) ((laws_toNotebook k a1).bind fun y238 => ((laws_eqNotebook k o37 y238).bind fun y240 => (if y240 = true then (laws_FnExactDropEntry_p10 k a1 a2 o36 o37 o38 false false) else some false)))))
set_option maxHeartbeats 4000000 in
set_option maxRecDepth 100000 in
theorem laws_FnExactDropEntry_p9_ct {k : Nat} {a1 : Rw} {a2 : ByteArray} {o36 : Rw} {o37 : Rw} {o38 : Rw} {v48 : Bool} {v49 : Bool} {r : Bool} (h : laws_FnExactDropEntry_p9 k a1 a2 o36 o37 o38 v48 v49 = some r) : X prog 0 (tlF f6 9) (mk 104 [(1, .d (D.str a2)), (2, .ptr 128 0), (6, .ptr 384 0), (7, .d (D.bool v48)), (8, .ptr 512 0), (9, .ptr 576 0), (10, .d (D.bool v49))] [(128, .box 67 [.d (D.sl a1)]), (384, .box 71 [.os 1109000 o36.length]), (512, .box 71 [.os 1109001 o37.length]), (576, .box 71 [.os 1109002 o38.length]), (1109000, .arr 132 true o36), (1109001, .arr 132 true o37), (1109002, .arr 132 true o38)]) (finK prog f6 0 (.d (D.bool r)) (⟨[], []⟩)) := by
  rw [laws_FnExactDropEntry_p9] at h
  cases v48
  · replace h := condF h
    cases v49
    · replace h := condF h
      conv => whnf
      refine Pick.no ?_
      conv => whnf
      obtain ⟨y238, e239, h⟩ := bind_ex h
      refine CallOk.of (laws_toNotebook_ct e239) ?_
      conv => whnf
      refine Pick.no ?_
      conv => whnf
      refine Take.all (rfl) ?_
      conv => whnf
      refine Take.all (rfl) ?_
      conv => whnf
      obtain ⟨y240, e241, h⟩ := bind_ex h
      refine CallOk.of (laws_eqNotebook_ct e241) ?_
      conv => whnf
      refine spl (fun g242 => ?_) (fun g242 => ?_)
      · replace h := iteT h g242
        conv => whnf
        refine CutK.norm [1, 2, 6, 7, 8, 9, 10, 52] [128, 384, 512, 576, 1109000, 1109001, 1109002] ?_
        conv => whnf
        exact CutK.piece (laws_FnExactDropEntry_p10_ct  h) [some 128, some 384, some 512, some 576, some 1109000, some 1109001, some 1109002] [] ⟨⟨rfl, rfl⟩, ⟨rfl, ⟨rfl, rfl, trivial⟩, ⟨rfl, ⟨rfl, rfl⟩, trivial⟩, ⟨rfl, ⟨rfl, rfl⟩, trivial⟩, ⟨rfl, ⟨rfl, rfl⟩, trivial⟩, ⟨rfl, rfl, rows_same⟩, ⟨rfl, rfl, rows_same⟩, ⟨rfl, rfl, rows_same⟩, trivial⟩, rfl, ⟨rfl, rfl⟩, ⟨rfl, rfl⟩, rfl, ⟨rfl, rfl⟩, ⟨rfl, rfl⟩, rfl, trivial⟩
      · replace h := iteF h g242
        conv => whnf
        refine CutK.norm [1, 2, 6, 7, 8, 9, 10, 52] [128, 384, 512, 576, 1109000, 1109001, 1109002] ?_
        conv => whnf
        cases h
        exact Done.of [] [] rfl rfl ⟨⟨rfl, rfl⟩, ⟨rfl, trivial⟩, rfl, trivial⟩
    · replace h := condT h
      conv => whnf
      refine Pick.no ?_
      conv => whnf
      obtain ⟨y243, e244, h⟩ := bind_ex h
      refine CallOk.of (laws_toNotebook_ct e244) ?_
      conv => whnf
      refine Pick.no ?_
      conv => whnf
      refine Take.all (rfl) ?_
      conv => whnf
      refine Take.all (rfl) ?_
      conv => whnf
      obtain ⟨y245, e246, h⟩ := bind_ex h
      refine CallOk.of (laws_eqNotebook_ct e246) ?_
      conv => whnf
      refine spl (fun g247 => ?_) (fun g247 => ?_)
      · replace h := iteT h g247
        conv => whnf
        refine CutK.norm [1, 2, 6, 7, 8, 9, 10, 52] [128, 384, 512, 576, 1109000, 1109001, 1109002] ?_
        conv => whnf
        exact CutK.piece (laws_FnExactDropEntry_p10_ct  h) [some 128, some 384, some 512, some 576, some 1109000, some 1109001, some 1109002] [] ⟨⟨rfl, rfl⟩, ⟨rfl, ⟨rfl, rfl, trivial⟩, ⟨rfl, ⟨rfl, rfl⟩, trivial⟩, ⟨rfl, ⟨rfl, rfl⟩, trivial⟩, ⟨rfl, ⟨rfl, rfl⟩, trivial⟩, ⟨rfl, rfl, rows_same⟩, ⟨rfl, rfl, rows_same⟩, ⟨rfl, rfl, rows_same⟩, trivial⟩, rfl, ⟨rfl, rfl⟩, ⟨rfl, rfl⟩, rfl, ⟨rfl, rfl⟩, ⟨rfl, rfl⟩, rfl, trivial⟩
      · replace h := iteF h g247
        conv => whnf
        refine CutK.norm [1, 2, 6, 7, 8, 9, 10, 52] [128, 384, 512, 576, 1109000, 1109001, 1109002] ?_
        conv => whnf
        cases h
        exact Done.of [] [] rfl rfl ⟨⟨rfl, rfl⟩, ⟨rfl, trivial⟩, rfl, trivial⟩
  · replace h := condT h
    cases v49
    · replace h := condF h
      conv => whnf
      refine Pick.no ?_
      conv => whnf
      obtain ⟨y248, e249, h⟩ := bind_ex h
      refine CallOk.of (laws_toNotebook_ct e249) ?_
      conv => whnf
      refine Pick.no ?_
      conv => whnf
      refine Take.all (rfl) ?_
      conv => whnf
      refine Take.all (rfl) ?_
      conv => whnf
      obtain ⟨y250, e251, h⟩ := bind_ex h
      refine CallOk.of (laws_eqNotebook_ct e251) ?_
      conv => whnf
      refine spl (fun g252 => ?_) (fun g252 => ?_)
      · replace h := iteT h g252
        conv => whnf
        refine CutK.norm [1, 2, 6, 7, 8, 9, 10, 52] [128, 384, 512, 576, 1109000, 1109001, 1109002] ?_
        conv => whnf
        exact CutK.piece (laws_FnExactDropEntry_p10_ct  h) [some 128, some 384, some 512, some 576, some 1109000, some 1109001, some 1109002] [] ⟨⟨rfl, rfl⟩, ⟨rfl, ⟨rfl, rfl, trivial⟩, ⟨rfl, ⟨rfl, rfl⟩, trivial⟩, ⟨rfl, ⟨rfl, rfl⟩, trivial⟩, ⟨rfl, ⟨rfl, rfl⟩, trivial⟩, ⟨rfl, rfl, rows_same⟩, ⟨rfl, rfl, rows_same⟩, ⟨rfl, rfl, rows_same⟩, trivial⟩, rfl, ⟨rfl, rfl⟩, ⟨rfl, rfl⟩, rfl, ⟨rfl, rfl⟩, ⟨rfl, rfl⟩, rfl, trivial⟩
      · replace h := iteF h g252
        conv => whnf
        refine CutK.norm [1, 2, 6, 7, 8, 9, 10, 52] [128, 384, 512, 576, 1109000, 1109001, 1109002] ?_
        conv => whnf
        cases h
        exact Done.of [] [] rfl rfl ⟨⟨rfl, rfl⟩, ⟨rfl, trivial⟩, rfl, trivial⟩
    · replace h := condT h
      conv => whnf
      refine Pick.no ?_
      conv => whnf
      obtain ⟨y253, e254, h⟩ := bind_ex h
      refine CallOk.of (laws_toNotebook_ct e254) ?_
      conv => whnf
      refine Pick.no ?_
      conv => whnf
      refine Take.all (rfl) ?_
      conv => whnf
      refine Take.all (rfl) ?_
      conv => whnf
      obtain ⟨y255, e256, h⟩ := bind_ex h
      refine CallOk.of (laws_eqNotebook_ct e256) ?_
      conv => whnf
      refine spl (fun g257 => ?_) (fun g257 => ?_)
      · replace h := iteT h g257
        conv => whnf
        refine CutK.norm [1, 2, 6, 7, 8, 9, 10, 52] [128, 384, 512, 576, 1109000, 1109001, 1109002] ?_
        conv => whnf
        exact CutK.piece (laws_FnExactDropEntry_p10_ct  h) [some 128, some 384, some 512, some 576, some 1109000, some 1109001, some 1109002] [] ⟨⟨rfl, rfl⟩, ⟨rfl, ⟨rfl, rfl, trivial⟩, ⟨rfl, ⟨rfl, rfl⟩, trivial⟩, ⟨rfl, ⟨rfl, rfl⟩, trivial⟩, ⟨rfl, ⟨rfl, rfl⟩, trivial⟩, ⟨rfl, rfl, rows_same⟩, ⟨rfl, rfl, rows_same⟩, ⟨rfl, rfl, rows_same⟩, trivial⟩, rfl, ⟨rfl, rfl⟩, ⟨rfl, rfl⟩, rfl, ⟨rfl, rfl⟩, ⟨rfl, rfl⟩, rfl, trivial⟩
      · replace h := iteF h g257
        conv => whnf
        refine CutK.norm [1, 2, 6, 7, 8, 9, 10, 52] [128, 384, 512, 576, 1109000, 1109001, 1109002] ?_
        conv => whnf
        cases h
        exact Done.of [] [] rfl rfl ⟨⟨rfl, rfl⟩, ⟨rfl, trivial⟩, rfl, trivial⟩
def laws_FnExactDropEntry_p8 (k : Nat) (a1 : Rw) (a2 : ByteArray) (o25 : Rw) (o26 : Rw) (o27 : Rw) (v28 : Bool) (v32 : Bool) : Option Bool :=
  (cond v28 (cond v32 ((laws_eqNotebook k o27 o25).bind fun y267 => (if y267 = true then (laws_FnExactDropEntry_p9 k a1 a2 o25 o26 o27 true true) else some false)) ((laws_eqNotebook k o27 o25).bind fun y264 => (if y264 = true then some false else some false))) (cond v32 ((laws_eqNotebook k o27 o25).bind fun y261 => (if y261 = true then some false else some false)) ((laws_eqNotebook k o27 o25).bind fun y258 => (if y258 = true then (laws_FnExactDropEntry_p9 k a1 a2 o25 o26 o27 false false) else some false))))
set_option maxHeartbeats 4000000 in
set_option maxRecDepth 100000 in
theorem laws_FnExactDropEntry_p8_ct {k : Nat} {a1 : Rw} {a2 : ByteArray} {o25 : Rw} {o26 : Rw} {o27 : Rw} {v28 : Bool} {v32 : Bool} {r : Bool} (h : laws_FnExactDropEntry_p8 k a1 a2 o25 o26 o27 v28 v32 = some r) : X prog 0 (tlF f6 8) (mk 104 [(1, .d (D.str a2)), (2, .ptr 128 0), (6, .ptr 384 0), (7, .d (D.bool v32)), (8, .ptr 512 0), (9, .ptr 576 0), (10, .d (D.bool v28))] [(128, .box 67 [.d (D.sl a1)]), (384, .box 71 [.os 1104000 o25.length]), (512, .box 71 [.os 1104001 o26.length]), (576, .box 71 [.os 1104002 o27.length]), (1104000, .arr 132 true o25), (1104001, .arr 132 true o26), (1104002, .arr 132 true o27)]) (finK prog f6 0 (.d (D.bool r)) (⟨[], []⟩)) := by
  rw [laws_FnExactDropEntry_p8] at h
  cases v28
  · replace h := condF h
    cases v32
    · replace h := condF h
      conv => whnf
      refine Pick.no ?_
      conv => whnf
      refine Take.all (rfl) ?_
      conv => whnf
      refine Take.all (rfl) ?_
      conv => whnf
      obtain ⟨y258, e259, h⟩ := bind_ex h
      refine CallOk.of (laws_eqNotebook_ct e259) ?_
      conv => whnf
      refine spl (fun g260 => ?_) (fun g260 => ?_)
      · replace h := iteT h g260
        conv => whnf
        refine splF ?_
        conv => whnf
        refine CutK.norm [1, 2, 6, 7, 8, 9, 10, 47] [128, 384, 512, 576, 1104000, 1104001, 1104002] ?_
        conv => whnf
        exact CutK.piece (laws_FnExactDropEntry_p9_ct  h) [some 128, some 384, some 512, some 576, some 1104000, some 1104001, some 1104002] [] ⟨⟨rfl, rfl⟩, ⟨rfl, ⟨rfl, rfl, trivial⟩, ⟨rfl, ⟨rfl, rfl⟩, trivial⟩, ⟨rfl, ⟨rfl, rfl⟩, trivial⟩, ⟨rfl, ⟨rfl, rfl⟩, trivial⟩, ⟨rfl, rfl, rows_same⟩, ⟨rfl, rfl, rows_same⟩, ⟨rfl, rfl, rows_same⟩, trivial⟩, rfl, ⟨rfl, rfl⟩, ⟨rfl, rfl⟩, rfl, ⟨rfl, rfl⟩, ⟨rfl, rfl⟩, rfl, trivial⟩
      · replace h := iteF h g260
        conv => whnf
        refine CutK.norm [1, 2, 6, 7, 8, 9, 10, 47] [128, 384, 512, 576, 1104000, 1104001, 1104002] ?_
        conv => whnf
        cases h
        exact Done.of [] [] rfl rfl ⟨⟨rfl, rfl⟩, ⟨rfl, trivial⟩, rfl, trivial⟩
    · replace h := condT h
      conv => whnf
      refine Pick.no ?_
      conv => whnf
      refine Take.all (rfl) ?_
      conv => whnf
      refine Take.all (rfl) ?_
      conv => whnf
      obtain ⟨y261, e262, h⟩ := bind_ex h
      refine CallOk.of (laws_eqNotebook_ct e262) ?_
      conv => whnf
      refine spl (fun g263 => ?_) (fun g263 => ?_)
      · replace h := iteT h g263
        conv => whnf
        refine splT ?_
        conv => whnf
        refine CutK.norm [1, 2, 6, 7, 8, 9, 10, 47] [128, 384, 512, 576, 1104000, 1104001, 1104002] ?_
        conv => whnf
        cases h
        exact Done.of [] [] rfl rfl ⟨⟨rfl, rfl⟩, ⟨rfl, trivial⟩, rfl, trivial⟩
      · replace h := iteF h g263
        conv => whnf
        refine CutK.norm [1, 2, 6, 7, 8, 9, 10, 47] [128, 384, 512, 576, 1104000, 1104001, 1104002] ?_
        conv => whnf
        cases h
        exact Done.of [] [] rfl rfl ⟨⟨rfl, rfl⟩, ⟨rfl, trivial⟩, rfl, trivial⟩
  · replace h := condT h
    cases v32
    · replace h := condF h
      conv => whnf
      refine Pick.no ?_
      conv => whnf
      refine Take.all (rfl) ?_
      conv => whnf
      refine Take.all (rfl) ?_
      conv => whnf
      obtain ⟨y264, e265, h⟩ := bind_ex h
      refine CallOk.of (laws_eqNotebook_ct e265) ?_
      conv => whnf
      refine spl (fun g266 => ?_) (fun g266 => ?_)
      · replace h := iteT h g266
        conv => whnf
        refine splT ?_
        conv => whnf
        refine CutK.norm [1, 2, 6, 7, 8, 9, 10, 47] [128, 384, 512, 576, 1104000, 1104001, 1104002] ?_
        conv => whnf
        cases h
        exact Done.of [] [] rfl rfl ⟨⟨rfl, rfl⟩, ⟨rfl, trivial⟩, rfl, trivial⟩
      · replace h := iteF h g266
        conv => whnf
        refine CutK.norm [1, 2, 6, 7, 8, 9, 10, 47] [128, 384, 512, 576, 1104000, 1104001, 1104002] ?_
        conv => whnf
        cases h
        exact Done.of [] [] rfl rfl ⟨⟨rfl, rfl⟩, ⟨rfl, trivial⟩, rfl, trivial⟩
    · replace h := condT h
      conv => whnf
      refine Pick.no ?_
      conv => whnf
      refine Take.all (rfl) ?_
      conv => whnf
      refine Take.all (rfl) ?_
      conv => whnf
      obtain ⟨y267, e268, h⟩ := bind_ex h
      refine CallOk.of (laws_eqNotebook_ct e268) ?_
      conv => whnf
      refine spl (fun g269 => ?_) (fun g269 => ?_)
      · replace h := iteT h g269
        conv => whnf
        refine splF ?_
        conv => whnf
        refine CutK.norm [1, 2, 6, 7, 8, 9, 10, 47] [128, 384, 512, 576, 1104000, 1104001, 1104002] ?_
        conv => whnf
        exact CutK.piece (laws_FnExactDropEntry_p9_ct  h) [some 128, some 384, some 512, some 576, some 1104000, some 1104001, some 1104002] [] ⟨⟨rfl, rfl⟩, ⟨rfl, ⟨rfl, rfl, trivial⟩, ⟨rfl, ⟨rfl, rfl⟩, trivial⟩, ⟨rfl, ⟨rfl, rfl⟩, trivial⟩, ⟨rfl, ⟨rfl, rfl⟩, trivial⟩, ⟨rfl, rfl, rows_same⟩, ⟨rfl, rfl, rows_same⟩, ⟨rfl, rfl, rows_same⟩, trivial⟩, rfl, ⟨rfl, rfl⟩, ⟨rfl, rfl⟩, rfl, ⟨rfl, rfl⟩, ⟨rfl, rfl⟩, rfl, trivial⟩
      · replace h := iteF h g269
        conv => whnf
        refine CutK.norm [1, 2, 6, 7, 8, 9, 10, 47] [128, 384, 512, 576, 1104000, 1104001, 1104002] ?_
        conv => whnf
        cases h
        exact Done.of [] [] rfl rfl ⟨⟨rfl, rfl⟩, ⟨rfl, trivial⟩, rfl, trivial⟩
def laws_FnExactDropEntry_p7 (k : Nat) (a1 : Rw) (a2 : ByteArray) (o17 : Rw) (o18 : Rw) (v21 : Bool) : Option Bool :=
  (cond v21 ((impl_DropEntry k o18 a2).bind fun y273 => (if y273.2 = true then (laws_FnExactDropEntry_p8 k a1 a2 o17 o18 y273.1 true true) else (laws_FnExactDropEntry_p8 k a1 a2 o17 o18 y273.1 false true))) ((impl_DropEntry k o18 a2).bind fun y270 => (if y270.2 = true then (laws_FnExactDropEntry_p8 k a1 a2 o17 o18 y270.1 true false) else (laws_FnExactDropEntry_p8 k a1 a2 o17 o18 y270.1 false false))))
set_option maxHeartbeats 4000000 in
set_option maxRecDepth 100000 in
theorem laws_FnExactDropEntry_p7_ct {k : Nat} {a1 : Rw} {a2 : ByteArray} {o17 : Rw} {o18 : Rw} {v21 : Bool} {r : Bool} (h : laws_FnExactDropEntry_p7 k a1 a2 o17 o18 v21 = some r) : X prog 0 (tlF f6 7) (mk 104 [(1, .d (D.str a2)), (2, .ptr 128 0), (6, .ptr 384 0), (7, .d (D.bool v21)), (8, .ptr 512 0)] [(128, .box 67 [.d (D.sl a1)]), (384, .box 71 [.os 1099000 o17.length]), (512, .box 71 [.os 1099001 o18.length]), (1099000, .arr 132 true o17), (1099001, .arr 132 true o18)]) (finK prog f6 0 (.d (D.bool r)) (⟨[], []⟩)) := by
  rw [laws_FnExactDropEntry_p7] at h
  cases v21
  · replace h := condF h
    conv => whnf
    refine Pick.no ?_
    conv => whnf
    refine Take.all (rfl) ?_
    conv => whnf
    obtain ⟨y270, e271, h⟩ := bind_ex h
    refine CallOk.of (impl_DropEntry_ct e271) ?_
    conv => whnf
    refine spl (fun g272 => ?_) (fun g272 => ?_)
    · replace h := iteT h g272
      conv => whnf
      exact CutK.piece (laws_FnExactDropEntry_p8_ct  h) [some 128, some 384, some 512, some 576, some 1099000, some 1099001, some 2304] [] ⟨⟨rfl, rfl⟩, ⟨rfl, ⟨rfl, rfl, trivial⟩, ⟨rfl, ⟨rfl, rfl⟩, trivial⟩, ⟨rfl, ⟨rfl, rfl⟩, trivial⟩, ⟨rfl, ⟨rfl, rfl⟩, trivial⟩, ⟨rfl, rfl, rows_same⟩, ⟨rfl, rfl, rows_same⟩, ⟨rfl, rfl, rows_same⟩, trivial⟩, rfl, ⟨rfl, rfl⟩, ⟨rfl, rfl⟩, rfl, ⟨rfl, rfl⟩, ⟨rfl, rfl⟩, rfl, trivial⟩
    · replace h := iteF h g272
      conv => whnf
      exact CutK.piece (laws_FnExactDropEntry_p8_ct  h) [some 128, some 384, some 512, some 576, some 1099000, some 1099001, some 2304] [] ⟨⟨rfl, rfl⟩, ⟨rfl, ⟨rfl, rfl, trivial⟩, ⟨rfl, ⟨rfl, rfl⟩, trivial⟩, ⟨rfl, ⟨rfl, rfl⟩, trivial⟩, ⟨rfl, ⟨rfl, rfl⟩, trivial⟩, ⟨rfl, rfl, rows_same⟩, ⟨rfl, rfl, rows_same⟩, ⟨rfl, rfl, rows_same⟩, trivial⟩, rfl, ⟨rfl, rfl⟩, ⟨rfl, rfl⟩, rfl, ⟨rfl, rfl⟩, ⟨rfl, rfl⟩, rfl, trivial⟩
  · replace h := condT h
    conv => whnf
    refine Pick.no ?_
    conv => whnf
    refine Take.all (rfl) ?_
    conv => whnf
    obtain ⟨y273, e274, h⟩ := bind_ex h
    refine CallOk.of (impl_DropEntry_ct e274) ?_
    conv => whnf
    refine spl (fun g275 => ?_) (fun g275 => ?_)
    · replace h := iteT h g275
      conv => whnf
      exact CutK.piece (laws_FnExactDropEntry_p8_ct  h) [some 128, some 384, some 512, some 576, some 1099000, some 1099001, some 2304] [] ⟨⟨rfl, rfl⟩, ⟨rfl, ⟨rfl, rfl, trivial⟩, ⟨rfl, ⟨rfl, rfl⟩, trivial⟩, ⟨rfl, ⟨rfl, rfl⟩, trivial⟩, ⟨rfl, ⟨rfl, rfl⟩, trivial⟩, ⟨rfl, rfl, rows_same⟩, ⟨rfl, rfl, rows_same⟩, ⟨rfl, rfl, rows_same⟩, trivial⟩, rfl, ⟨rfl, rfl⟩, ⟨rfl, rfl⟩, rfl, ⟨rfl, rfl⟩, ⟨rfl, rfl⟩, rfl, trivial⟩
    · replace h := iteF h g275
      conv => whnf
      exact CutK.piece (laws_FnExactDropEntry_p8_ct  h) [some 128, some 384, some 512, some 576, some 1099000, some 1099001, some 2304] [] ⟨⟨rfl, rfl⟩, ⟨rfl, ⟨rfl, rfl, trivial⟩, ⟨rfl, ⟨rfl, rfl⟩, trivial⟩, ⟨rfl, ⟨rfl, rfl⟩, trivial⟩, ⟨rfl, ⟨rfl, rfl⟩, trivial⟩, ⟨rfl, rfl, rows_same⟩, ⟨rfl, rfl, rows_same⟩, ⟨rfl, rfl, rows_same⟩, trivial⟩, rfl, ⟨rfl, rfl⟩, ⟨rfl, rfl⟩, rfl, ⟨rfl, rfl⟩, ⟨rfl, rfl⟩, rfl, trivial⟩
def laws_FnExactDropEntry_p6 (k : Nat) (a1 : Rw) (a2 : ByteArray) (o13 : Rw) (v14 : Bool) : Option Bool :=
  (cond v14 ((laws_toNotebook k a1).bind fun y278 => (laws_FnExactDropEntry_p7 k a1 a2 o13 y278 true)) ((laws_toNotebook k a1).bind fun y276 => (laws_FnExactDropEntry_p7 k a1 a2 o13 y276 false)))
set_option maxHeartbeats 4000000 in
set_option maxRecDepth 100000 in
theorem laws_FnExactDropEntry_p6_ct {k : Nat} {a1 : Rw} {a2 : ByteArray} {o13 : Rw} {v14 : Bool} {r : Bool} (h : laws_FnExactDropEntry_p6 k a1 a2 o13 v14 = some r) : X prog 0 (tlF f6 6) (mk 104 [(1, .d (D.str a2)), (2, .ptr 128 0), (6, .ptr 384 0), (7, .d (D.bool v14))] [(128, .box 67 [.d (D.sl a1)]), (384, .box 71 [.os 1094000 o13.length]), (1094000, .arr 132 true o13)]) (finK prog f6 0 (.d (D.bool r)) (⟨[], []⟩)) := by
  rw [laws_FnExactDropEntry_p6] at h
  cases v14
  · replace h := condF h
    conv => whnf
    refine Pick.no ?_
    conv => whnf
    obtain ⟨y276, e277, h⟩ := bind_ex h
    refine CallOk.of (laws_toNotebook_ct e277) ?_
    conv => whnf
    exact CutK.piece (laws_FnExactDropEntry_p7_ct  h) [some 128, some 384, some 512, some 1094000, some 2048] [] ⟨⟨rfl, rfl⟩, ⟨rfl, ⟨rfl, rfl, trivial⟩, ⟨rfl, ⟨rfl, rfl⟩, trivial⟩, ⟨rfl, ⟨rfl, rfl⟩, trivial⟩, ⟨rfl, rfl, rows_same⟩, ⟨rfl, rfl, rows_same⟩, trivial⟩, rfl, ⟨rfl, rfl⟩, ⟨rfl, rfl⟩, rfl, ⟨rfl, rfl⟩, trivial⟩
  · replace h := condT h
    conv => whnf
    refine Pick.no ?_
    conv => whnf
    obtain ⟨y278, e279, h⟩ := bind_ex h
    refine CallOk.of (laws_toNotebook_ct e279) ?_
    conv => whnf
    exact CutK.piece (laws_FnExactDropEntry_p7_ct  h) [some 128, some 384, some 512, some 1094000, some 2048] [] ⟨⟨rfl, rfl⟩, ⟨rfl, ⟨rfl, rfl, trivial⟩, ⟨rfl, ⟨rfl, rfl⟩, trivial⟩, ⟨rfl, ⟨rfl, rfl⟩, trivial⟩, ⟨rfl, rfl, rows_same⟩, ⟨rfl, rfl, rows_same⟩, trivial⟩, rfl, ⟨rfl, rfl⟩, ⟨rfl, rfl⟩, rfl, ⟨rfl, rfl⟩, trivial⟩
def laws_FnExactDropEntry_p4 (k : Nat) (a1 : Rw) (a2 : ByteArray) (o6 : Int) : Option Bool :=
  (if o6 < (0 : Int) then some true else ((laws_toNotebook k a1).bind fun y281 => ((spec_DropEntry k y281 a2).bind fun y283 => (if y283.2 = true then (laws_FnExactDropEntry_p6 k a1 a2 y283.1 true) else (laws_FnExactDropEntry_p6 k a1 a2 y283.1 false)))))
set_option maxHeartbeats 4000000 in
set_option maxRecDepth 100000 in
theorem laws_FnExactDropEntry_p4_ct {k : Nat} {a1 : Rw} {a2 : ByteArray} {o6 : Int} {r : Bool} (h : laws_FnExactDropEntry_p4 k a1 a2 o6 = some r) : X prog 0 (tlF f6 4) (mk 104 [(1, .d (D.str a2)), (2, .ptr 128 0), (5, .d (D.int .i64 o6))] [(128, .box 67 [.d (D.sl a1)])]) (finK prog f6 0 (.d (D.bool r)) (⟨[], []⟩)) := by
  rw [laws_FnExactDropEntry_p4] at h
  conv => whnf
  refine splD (fun g280 => ?_) (fun g280 => ?_)
  · replace h := iteP h g280
    conv => whnf
    cases h
    exact Done.of [] [] rfl rfl ⟨⟨rfl, rfl⟩, ⟨rfl, trivial⟩, rfl, trivial⟩
  · replace h := iteN h g280
    conv => whnf
    refine Pick.no ?_
    conv => whnf
    obtain ⟨y281, e282, h⟩ := bind_ex h
    refine CallOk.of (laws_toNotebook_ct e282) ?_
    conv => whnf
    refine Pick.no ?_
    conv => whnf
    refine Take.all (rfl) ?_
    conv => whnf
    obtain ⟨y283, e284, h⟩ := bind_ex h
    refine CallOk.of (spec_DropEntry_ct e284) ?_
    conv => whnf
    refine spl (fun g285 => ?_) (fun g285 => ?_)
    · replace h := iteT h g285
      conv => whnf
      exact CutK.piece (laws_FnExactDropEntry_p6_ct  h) [some 128, some 384, some 1792] [] ⟨⟨rfl, rfl⟩, ⟨rfl, ⟨rfl, rfl, trivial⟩, ⟨rfl, ⟨rfl, rfl⟩, trivial⟩, ⟨rfl, rfl, rows_same⟩, trivial⟩, rfl, ⟨rfl, rfl⟩, ⟨rfl, rfl⟩, rfl, trivial⟩
    · replace h := iteF h g285
      conv => whnf
      exact CutK.piece (laws_FnExactDropEntry_p6_ct  h) [some 128, some 384, some 1792] [] ⟨⟨rfl, rfl⟩, ⟨rfl, ⟨rfl, rfl, trivial⟩, ⟨rfl, ⟨rfl, rfl⟩, trivial⟩, ⟨rfl, rfl, rows_same⟩, trivial⟩, rfl, ⟨rfl, rfl⟩, ⟨rfl, rfl⟩, rfl, trivial⟩
def laws_FnExactDropEntry (k : Nat) (a1 : Rw) (a2 : ByteArray) : Option Bool :=
  (if (1048576 : Int) < (a2.size : Int) then some true else ((laws_szNotebook k a1 1048576).bind fun y287 => (laws_FnExactDropEntry_p4 k a1 a2 y287)))
set_option maxHeartbeats 4000000 in
set_option maxRecDepth 100000 in
theorem laws_FnExactDropEntry_ct {k : Nat} {a1 : Rw} {a2 : ByteArray} {r : Bool} (h : laws_FnExactDropEntry k a1 a2 = some r) : Ct prog 6 [.agg [.d (D.sl a1)], .d (D.str a2)] (⟨[], []⟩) (.d (D.bool r)) (⟨[], []⟩) := by
  rw [laws_FnExactDropEntry] at h
  refine Ct.of (c := _) mixed func6 ⟨rfl, rfl, rfl⟩ ?_ rfl
  conv => whnf
  refine splD (fun g286 => ?_) (fun g286 => ?_)
  · replace h := iteP h g286
    conv => whnf
    cases h
    exact Done.of [] [] rfl rfl ⟨⟨rfl, rfl⟩, ⟨rfl, trivial⟩, rfl, trivial⟩
  · replace h := iteN h g286
    conv => whnf
    refine Pick.no ?_
    conv => whnf
    obtain ⟨y287, e288, h⟩ := bind_ex h
    refine CallOk.of (laws_szNotebook_ct e288) ?_
    conv => whnf
    exact CutK.piece (laws_FnExactDropEntry_p4_ct  h) [some 128] [] ⟨⟨rfl, rfl⟩, ⟨rfl, ⟨rfl, rfl, trivial⟩, trivial⟩, rfl, ⟨rfl, rfl⟩, rfl, trivial⟩
end
end Go.Proofs.Try
