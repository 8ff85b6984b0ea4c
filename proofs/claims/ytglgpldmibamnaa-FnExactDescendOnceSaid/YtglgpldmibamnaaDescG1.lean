/- Printed by program (axgen): pure functions, and that the Go functions compute them. -/
import Derived.Test.YtglgpldmibamnaaDescG0
namespace Go.Proofs.Try
open Go Go.AX
noncomputable section
def laws_FnExactDescendOnce_p22 (o192 : Int) (o193 : Int) : Option Bool :=
  (if o193 < (0 : Int) then some false else (if o193 = o192 then some true else some false))
set_option maxHeartbeats 4000000 in
set_option maxRecDepth 100000 in
theorem laws_FnExactDescendOnce_p22_ct {o192 : Int} {o193 : Int} {r : Bool} (h : laws_FnExactDescendOnce_p22 o192 o193 = some r) : X prog 0 (tlF f5 22) (mk 122 [(14, .d (D.int .i64 o192)), (15, .d (D.int .i64 o193))] []) (finK prog f5 0 (.d (D.bool r)) (⟨[], []⟩)) := by
  rw [laws_FnExactDescendOnce_p22] at h
  conv => whnf
  refine splD (fun g196 => ?_) (fun g196 => ?_)
  · replace h := iteP h g196
    conv => whnf
    cases h
    exact Done.of [] [] rfl rfl ⟨⟨rfl, rfl⟩, ⟨rfl, trivial⟩, rfl, trivial⟩
  · replace h := iteN h g196
    conv => whnf
    refine splN (fun g197 => ?_) (fun g197 => ?_)
    · replace h := iteN h g197
      conv => whnf
      cases h
      exact Done.of [] [] rfl rfl ⟨⟨rfl, rfl⟩, ⟨rfl, trivial⟩, rfl, trivial⟩
    · replace h := iteP h g197
      conv => whnf
      cases h
      exact Done.of [] [] rfl rfl ⟨⟨rfl, rfl⟩, ⟨rfl, trivial⟩, rfl, trivial⟩
def laws_FnExactDescendOnce_p20 (k : Nat) (o176 : Int) (o177 : Rw) : Option Bool :=
  ((laws_heldOrdinal k o177 1).bind fun y198 => (laws_FnExactDescendOnce_p22 o176 y198))
set_option maxHeartbeats 4000000 in
set_option maxRecDepth 100000 in
theorem laws_FnExactDescendOnce_p20_ct {k : Nat} {o176 : Int} {o177 : Rw} {r : Bool} (h : laws_FnExactDescendOnce_p20 k o176 o177 = some r) : X prog 0 (tlF f5 20) (mk 122 [(10, .ptr 640 0), (14, .d (D.int .i64 o176))] [(640, .box 26 [.os 1164000 o177.length]), (1164000, .arr 98 true o177)]) (finK prog f5 0 (.d (D.bool r)) (⟨[], []⟩)) := by
  rw [laws_FnExactDescendOnce_p20] at h
  conv => whnf
  refine Choice.old ?_
  conv => whnf
  refine Take.all (rfl) ?_
  conv => whnf
  obtain ⟨y198, e199, h⟩ := bind_ex h
  refine CallOk.of (laws_heldOrdinal_ct e199) ?_
  conv => whnf
  exact CutK.piece (laws_FnExactDescendOnce_p22_ct  h) [] [] ⟨⟨rfl, rfl⟩, ⟨rfl, trivial⟩, rfl, rfl, trivial⟩
def laws_FnExactDescendOnce_p19 (k : Nat) (o157 : Int) (o158 : Int) (o159 : Int) (o160 : Rw) (o161 : Rw) (o162 : Rw) (v163 : Bool) (v171 : Bool) : Option Bool :=
  (cond v163 (cond v171 ((laws_eqOrdinal k o162 o160).bind fun y212 => (if y212 = true then (if o159 = o157 then (laws_FnExactDescendOnce_p20 k o158 o161) else some false) else some false)) ((laws_eqOrdinal k o162 o160).bind fun y208 => (if y208 = true then (if o159 = o157 then some false else some false) else some false))) (cond v171 ((laws_eqOrdinal k o162 o160).bind fun y204 => (if y204 = true then (if o159 = o157 then some false else some false) else some false)) ((laws_eqOrdinal k o162 o160).bind fun y200 => (if y200 = true then (if o159 = o157 then (laws_FnExactDescendOnce_p20 k o158 o161) else some false) else some false))))
set_option maxHeartbeats 4000000 in
set_option maxRecDepth 100000 in
theorem laws_FnExactDescendOnce_p19_ct {k : Nat} {o157 : Int} {o158 : Int} {o159 : Int} {o160 : Rw} {o161 : Rw} {o162 : Rw} {v163 : Bool} {v171 : Bool} {r : Bool} (h : laws_FnExactDescendOnce_p19 k o157 o158 o159 o160 o161 o162 v163 v171 = some r) : X prog 0 (tlF f5 19) (mk 122 [(6, .ptr 384 0), (7, .d (D.int .i64 o157)), (8, .d (D.bool v171)), (10, .ptr 640 0), (14, .d (D.int .i64 o158)), (16, .ptr 1024 0), (17, .d (D.int .i64 o159)), (18, .d (D.bool v163))] [(384, .box 26 [.os 1159000 o160.length]), (640, .box 26 [.os 1159001 o161.length]), (1024, .box 26 [.os 1159002 o162.length]), (1159000, .arr 98 true o160), (1159001, .arr 98 true o161), (1159002, .arr 98 true o162)]) (finK prog f5 0 (.d (D.bool r)) (⟨[], []⟩)) := by
  rw [laws_FnExactDescendOnce_p19] at h
  cases v163
  · replace h := condF h
    cases v171
    · replace h := condF h
      conv => whnf
      refine Take.all (rfl) ?_
      conv => whnf
      refine Take.all (rfl) ?_
      conv => whnf
      obtain ⟨y200, e201, h⟩ := bind_ex h
      refine CallOk.of (laws_eqOrdinal_ct e201) ?_
      conv => whnf
      refine spl (fun g202 => ?_) (fun g202 => ?_)
      · replace h := iteT h g202
        conv => whnf
        refine splN (fun g203 => ?_) (fun g203 => ?_)
        · replace h := iteN h g203
          conv => whnf
          refine CutK.norm [10, 14, 113] [640, 1159001] ?_
          conv => whnf
          cases h
          exact Done.of [] [] rfl rfl ⟨⟨rfl, rfl⟩, ⟨rfl, trivial⟩, rfl, trivial⟩
        · replace h := iteP h g203
          conv => whnf
          refine splF ?_
          conv => whnf
          refine CutK.norm [10, 14, 113] [640, 1159001] ?_
          conv => whnf
          exact CutK.piece (laws_FnExactDescendOnce_p20_ct  h) [some 640, some 1159001] [] ⟨⟨rfl, rfl⟩, ⟨rfl, ⟨rfl, ⟨rfl, rfl⟩, trivial⟩, ⟨rfl, rfl, rows_same⟩, trivial⟩, ⟨rfl, rfl⟩, rfl, trivial⟩
      · replace h := iteF h g202
        conv => whnf
        refine CutK.norm [10, 14, 113] [640, 1159001] ?_
        conv => whnf
        cases h
        exact Done.of [] [] rfl rfl ⟨⟨rfl, rfl⟩, ⟨rfl, trivial⟩, rfl, trivial⟩
    · replace h := condT h
      conv => whnf
      refine Take.all (rfl) ?_
      conv => whnf
      refine Take.all (rfl) ?_
      conv => whnf
      obtain ⟨y204, e205, h⟩ := bind_ex h
      refine CallOk.of (laws_eqOrdinal_ct e205) ?_
      conv => whnf
      refine spl (fun g206 => ?_) (fun g206 => ?_)
      · replace h := iteT h g206
        conv => whnf
        refine splN (fun g207 => ?_) (fun g207 => ?_)
        · replace h := iteN h g207
          conv => whnf
          refine CutK.norm [10, 14, 113] [640, 1159001] ?_
          conv => whnf
          cases h
          exact Done.of [] [] rfl rfl ⟨⟨rfl, rfl⟩, ⟨rfl, trivial⟩, rfl, trivial⟩
        · replace h := iteP h g207
          conv => whnf
          refine splT ?_
          conv => whnf
          refine CutK.norm [10, 14, 113] [640, 1159001] ?_
          conv => whnf
          cases h
          exact Done.of [] [] rfl rfl ⟨⟨rfl, rfl⟩, ⟨rfl, trivial⟩, rfl, trivial⟩
      · replace h := iteF h g206
        conv => whnf
        refine CutK.norm [10, 14, 113] [640, 1159001] ?_
        conv => whnf
        cases h
        exact Done.of [] [] rfl rfl ⟨⟨rfl, rfl⟩, ⟨rfl, trivial⟩, rfl, trivial⟩
  · replace h := condT h
    cases v171
    · replace h := condF h
      conv => whnf
      refine Take.all (rfl) ?_
      conv => whnf
      refine Take.all (rfl) ?_
      conv => whnf
      obtain ⟨y208, e209, h⟩ := bind_ex h
      refine CallOk.of (laws_eqOrdinal_ct e209) ?_
      conv => whnf
      refine spl (fun g210 => ?_) (fun g210 => ?_)
      · replace h := iteT h g210
        conv => whnf
        refine splN (fun g211 => ?_) (fun g211 => ?_)
        · replace h := iteN h g211
          conv => whnf
          refine CutK.norm [10, 14, 113] [640, 1159001] ?_
          conv => whnf
          cases h
          exact Done.of [] [] rfl rfl ⟨⟨rfl, rfl⟩, ⟨rfl, trivial⟩, rfl, trivial⟩
        · replace h := iteP h g211
          conv => whnf
          refine splT ?_
          conv => whnf
          refine CutK.norm [10, 14, 113] [640, 1159001] ?_
          conv => whnf
          cases h
          exact Done.of [] [] rfl rfl ⟨⟨rfl, rfl⟩, ⟨rfl, trivial⟩, rfl, trivial⟩
      · replace h := iteF h g210
        conv => whnf
        refine CutK.norm [10, 14, 113] [640, 1159001] ?_
        conv => whnf
        cases h
        exact Done.of [] [] rfl rfl ⟨⟨rfl, rfl⟩, ⟨rfl, trivial⟩, rfl, trivial⟩
    · replace h := condT h
      conv => whnf
      refine Take.all (rfl) ?_
      conv => whnf
      refine Take.all (rfl) ?_
      conv => whnf
      obtain ⟨y212, e213, h⟩ := bind_ex h
      refine CallOk.of (laws_eqOrdinal_ct e213) ?_
      conv => whnf
      refine spl (fun g214 => ?_) (fun g214 => ?_)
      · replace h := iteT h g214
        conv => whnf
        refine splN (fun g215 => ?_) (fun g215 => ?_)
        · replace h := iteN h g215
          conv => whnf
          refine CutK.norm [10, 14, 113] [640, 1159001] ?_
          conv => whnf
          cases h
          exact Done.of [] [] rfl rfl ⟨⟨rfl, rfl⟩, ⟨rfl, trivial⟩, rfl, trivial⟩
        · replace h := iteP h g215
          conv => whnf
          refine splF ?_
          conv => whnf
          refine CutK.norm [10, 14, 113] [640, 1159001] ?_
          conv => whnf
          exact CutK.piece (laws_FnExactDescendOnce_p20_ct  h) [some 640, some 1159001] [] ⟨⟨rfl, rfl⟩, ⟨rfl, ⟨rfl, ⟨rfl, rfl⟩, trivial⟩, ⟨rfl, rfl, rows_same⟩, trivial⟩, ⟨rfl, rfl⟩, rfl, trivial⟩
      · replace h := iteF h g214
        conv => whnf
        refine CutK.norm [10, 14, 113] [640, 1159001] ?_
        conv => whnf
        cases h
        exact Done.of [] [] rfl rfl ⟨⟨rfl, rfl⟩, ⟨rfl, trivial⟩, rfl, trivial⟩
def laws_FnExactDescendOnce_p16 (k : Nat) (a1 : Rw) (a2 : Int) (o142 : Int) (o143 : Int) (o144 : Int) (o145 : Rw) (o146 : Rw) (v149 : Bool) : Option Bool :=
  (cond v149 (if o144 < (0 : Int) then some false else (if o144 = o143 then ((laws_toOrdinal k a1).bind fun y225 => ((impl_DescendOnce k y225 a2).bind fun y227 => (if y227.2.2 = true then (laws_FnExactDescendOnce_p19 k o142 o143 y227.2.1 o145 o146 y227.1 true true) else (laws_FnExactDescendOnce_p19 k o142 o143 y227.2.1 o145 o146 y227.1 false true)))) else some false)) (if o144 < (0 : Int) then some false else (if o144 = o143 then ((laws_toOrdinal k a1).bind fun y218 => ((impl_DescendOnce k y218 a2).bind fun y220 => (if y220.2.2 = true then (laws_FnExactDescendOnce_p19 k o142 o143 y220.2.1 o145 o146 y220.1 true false) else (laws_FnExactDescendOnce_p19 k o142 o143 y220.2.1 o145 o146 y220.1 false false)))) else some false)))
set_option maxHeartbeats 4000000 in
set_option maxRecDepth 100000 in
theorem laws_FnExactDescendOnce_p16_ct {k : Nat} {a1 : Rw} {a2 : Int} {o142 : Int} {o143 : Int} {o144 : Int} {o145 : Rw} {o146 : Rw} {v149 : Bool} {r : Bool} (h : laws_FnExactDescendOnce_p16 k a1 a2 o142 o143 o144 o145 o146 v149 = some r) : X prog 0 (tlF f5 16) (mk 122 [(1, .d (D.int .i64 a2)), (2, .ptr 128 0), (6, .ptr 384 0), (7, .d (D.int .i64 o142)), (8, .d (D.bool v149)), (10, .ptr 640 0), (14, .d (D.int .i64 o143)), (15, .d (D.int .i64 o144))] [(128, .box 36 [.d (D.sl a1)]), (384, .box 26 [.os 1144000 o145.length]), (640, .box 26 [.os 1144001 o146.length]), (1144000, .arr 98 true o145), (1144001, .arr 98 true o146)]) (finK prog f5 0 (.d (D.bool r)) (⟨[], []⟩)) := by
  rw [laws_FnExactDescendOnce_p16] at h
  cases v149
  · replace h := condF h
    conv => whnf
    refine splD (fun g216 => ?_) (fun g216 => ?_)
    · replace h := iteP h g216
      conv => whnf
      cases h
      exact Done.of [] [] rfl rfl ⟨⟨rfl, rfl⟩, ⟨rfl, trivial⟩, rfl, trivial⟩
    · replace h := iteN h g216
      conv => whnf
      refine splN (fun g217 => ?_) (fun g217 => ?_)
      · replace h := iteN h g217
        conv => whnf
        cases h
        exact Done.of [] [] rfl rfl ⟨⟨rfl, rfl⟩, ⟨rfl, trivial⟩, rfl, trivial⟩
      · replace h := iteP h g217
        conv => whnf
        obtain ⟨y218, e219, h⟩ := bind_ex h
        refine CallOk.of (laws_toOrdinal_ct e219) ?_
        conv => whnf
        refine Choice.old ?_
        conv => whnf
        refine Take.all (rfl) ?_
        conv => whnf
        obtain ⟨y220, e221, h⟩ := bind_ex h
        refine CallOk.of (impl_DescendOnce_ct e221) ?_
        conv => whnf
        refine spl (fun g222 => ?_) (fun g222 => ?_)
        · replace h := iteT h g222
          conv => whnf
          exact CutK.piece (laws_FnExactDescendOnce_p19_ct  h) [some 384, some 640, some 1024, some 1144000, some 1144001, some 6144] [] ⟨⟨rfl, rfl⟩, ⟨rfl, ⟨rfl, ⟨rfl, rfl⟩, trivial⟩, ⟨rfl, ⟨rfl, rfl⟩, trivial⟩, ⟨rfl, ⟨rfl, rfl⟩, trivial⟩, ⟨rfl, rfl, rows_same⟩, ⟨rfl, rfl, rows_same⟩, ⟨rfl, rfl, rows_same⟩, trivial⟩, ⟨rfl, rfl⟩, rfl, rfl, ⟨rfl, rfl⟩, rfl, ⟨rfl, rfl⟩, rfl, rfl, trivial⟩
        · replace h := iteF h g222
          conv => whnf
          exact CutK.piece (laws_FnExactDescendOnce_p19_ct  h) [some 384, some 640, some 1024, some 1144000, some 1144001, some 6144] [] ⟨⟨rfl, rfl⟩, ⟨rfl, ⟨rfl, ⟨rfl, rfl⟩, trivial⟩, ⟨rfl, ⟨rfl, rfl⟩, trivial⟩, ⟨rfl, ⟨rfl, rfl⟩, trivial⟩, ⟨rfl, rfl, rows_same⟩, ⟨rfl, rfl, rows_same⟩, ⟨rfl, rfl, rows_same⟩, trivial⟩, ⟨rfl, rfl⟩, rfl, rfl, ⟨rfl, rfl⟩, rfl, ⟨rfl, rfl⟩, rfl, rfl, trivial⟩
  · replace h := condT h
    conv => whnf
    refine splD (fun g223 => ?_) (fun g223 => ?_)
    · replace h := iteP h g223
      conv => whnf
      cases h
      exact Done.of [] [] rfl rfl ⟨⟨rfl, rfl⟩, ⟨rfl, trivial⟩, rfl, trivial⟩
    · replace h := iteN h g223
      conv => whnf
      refine splN (fun g224 => ?_) (fun g224 => ?_)
      · replace h := iteN h g224
        conv => whnf
        cases h
        exact Done.of [] [] rfl rfl ⟨⟨rfl, rfl⟩, ⟨rfl, trivial⟩, rfl, trivial⟩
      · replace h := iteP h g224
        conv => whnf
        obtain ⟨y225, e226, h⟩ := bind_ex h
        refine CallOk.of (laws_toOrdinal_ct e226) ?_
        conv => whnf
        refine Choice.old ?_
        conv => whnf
        refine Take.all (rfl) ?_
        conv => whnf
        obtain ⟨y227, e228, h⟩ := bind_ex h
        refine CallOk.of (impl_DescendOnce_ct e228) ?_
        conv => whnf
        refine spl (fun g229 => ?_) (fun g229 => ?_)
        · replace h := iteT h g229
          conv => whnf
          exact CutK.piece (laws_FnExactDescendOnce_p19_ct  h) [some 384, some 640, some 1024, some 1144000, some 1144001, some 6144] [] ⟨⟨rfl, rfl⟩, ⟨rfl, ⟨rfl, ⟨rfl, rfl⟩, trivial⟩, ⟨rfl, ⟨rfl, rfl⟩, trivial⟩, ⟨rfl, ⟨rfl, rfl⟩, trivial⟩, ⟨rfl, rfl, rows_same⟩, ⟨rfl, rfl, rows_same⟩, ⟨rfl, rfl, rows_same⟩, trivial⟩, ⟨rfl, rfl⟩, rfl, rfl, ⟨rfl, rfl⟩, rfl, ⟨rfl, rfl⟩, rfl, rfl, trivial⟩
        · replace h := iteF h g229
          conv => whnf
          exact CutK.piece (laws_FnExactDescendOnce_p19_ct  h) [some 384, some 640, some 1024, some 1144000, some 1144001, some 6144] [] ⟨⟨rfl, rfl⟩, ⟨rfl, ⟨rfl, ⟨rfl, rfl⟩, trivial⟩, ⟨rfl, ⟨rfl, rfl⟩, trivial⟩, ⟨rfl, ⟨rfl, rfl⟩, trivial⟩, ⟨rfl, rfl, rows_same⟩, ⟨rfl, rfl, rows_same⟩, ⟨rfl, rfl, rows_same⟩, trivial⟩, ⟨rfl, rfl⟩, rfl, rfl, ⟨rfl, rfl⟩, rfl, ⟨rfl, rfl⟩, rfl, rfl, trivial⟩
def laws_FnExactDescendOnce_p14 (k : Nat) (a1 : Rw) (a2 : Int) (o132 : Int) (o133 : Int) (o134 : Rw) (o135 : Rw) (v139 : Bool) : Option Bool :=
  (cond v139 ((laws_heldOrdinal k o135 1).bind fun y232 => (laws_FnExactDescendOnce_p16 k a1 a2 o132 o133 y232 o134 o135 true)) ((laws_heldOrdinal k o135 1).bind fun y230 => (laws_FnExactDescendOnce_p16 k a1 a2 o132 o133 y230 o134 o135 false)))
set_option maxHeartbeats 4000000 in
set_option maxRecDepth 100000 in
theorem laws_FnExactDescendOnce_p14_ct {k : Nat} {a1 : Rw} {a2 : Int} {o132 : Int} {o133 : Int} {o134 : Rw} {o135 : Rw} {v139 : Bool} {r : Bool} (h : laws_FnExactDescendOnce_p14 k a1 a2 o132 o133 o134 o135 v139 = some r) : X prog 0 (tlF f5 14) (mk 122 [(1, .d (D.int .i64 a2)), (2, .ptr 128 0), (6, .ptr 384 0), (7, .d (D.int .i64 o132)), (8, .d (D.bool v139)), (10, .ptr 640 0), (14, .d (D.int .i64 o133))] [(128, .box 36 [.d (D.sl a1)]), (384, .box 26 [.os 1134000 o134.length]), (640, .box 26 [.os 1134001 o135.length]), (1134000, .arr 98 true o134), (1134001, .arr 98 true o135)]) (finK prog f5 0 (.d (D.bool r)) (⟨[], []⟩)) := by
  rw [laws_FnExactDescendOnce_p14] at h
  cases v139
  · replace h := condF h
    conv => whnf
    refine Choice.old ?_
    conv => whnf
    refine Take.all (rfl) ?_
    conv => whnf
    obtain ⟨y230, e231, h⟩ := bind_ex h
    refine CallOk.of (laws_heldOrdinal_ct e231) ?_
    conv => whnf
    exact CutK.piece (laws_FnExactDescendOnce_p16_ct  h) [some 128, some 384, some 640, some 1134000, some 1134001] [] ⟨⟨rfl, rfl⟩, ⟨rfl, ⟨rfl, rfl, trivial⟩, ⟨rfl, ⟨rfl, rfl⟩, trivial⟩, ⟨rfl, ⟨rfl, rfl⟩, trivial⟩, ⟨rfl, rfl, rows_same⟩, ⟨rfl, rfl, rows_same⟩, trivial⟩, rfl, ⟨rfl, rfl⟩, ⟨rfl, rfl⟩, rfl, rfl, ⟨rfl, rfl⟩, rfl, rfl, trivial⟩
  · replace h := condT h
    conv => whnf
    refine Choice.old ?_
    conv => whnf
    refine Take.all (rfl) ?_
    conv => whnf
    obtain ⟨y232, e233, h⟩ := bind_ex h
    refine CallOk.of (laws_heldOrdinal_ct e233) ?_
    conv => whnf
    exact CutK.piece (laws_FnExactDescendOnce_p16_ct  h) [some 128, some 384, some 640, some 1134000, some 1134001] [] ⟨⟨rfl, rfl⟩, ⟨rfl, ⟨rfl, rfl, trivial⟩, ⟨rfl, ⟨rfl, rfl⟩, trivial⟩, ⟨rfl, ⟨rfl, rfl⟩, trivial⟩, ⟨rfl, rfl, rows_same⟩, ⟨rfl, rfl, rows_same⟩, trivial⟩, rfl, ⟨rfl, rfl⟩, ⟨rfl, rfl⟩, rfl, rfl, ⟨rfl, rfl⟩, rfl, rfl, trivial⟩
def laws_FnExactDescendOnce_p12 (k : Nat) (a1 : Rw) (a2 : Int) (o110 : Int) (o111 : Rw) (o112 : Rw) (v128 : Bool) : Option Bool :=
  (cond v128 ((laws_markOrdinal k o112 1).bind fun y237 => (if y237.2.length = o112.length then (laws_FnExactDescendOnce_p14 k a1 a2 o110 y237.1 o111 y237.2 true) else none)) ((laws_markOrdinal k o112 1).bind fun y234 => (if y234.2.length = o112.length then (laws_FnExactDescendOnce_p14 k a1 a2 o110 y234.1 o111 y234.2 false) else none)))
set_option maxHeartbeats 4000000 in
set_option maxRecDepth 100000 in
theorem laws_FnExactDescendOnce_p12_ct {k : Nat} {a1 : Rw} {a2 : Int} {o110 : Int} {o111 : Rw} {o112 : Rw} {v128 : Bool} {r : Bool} (h : laws_FnExactDescendOnce_p12 k a1 a2 o110 o111 o112 v128 = some r) : X prog 0 (tlF f5 12) (mk 122 [(1, .d (D.int .i64 a2)), (2, .ptr 128 0), (6, .ptr 384 0), (7, .d (D.int .i64 o110)), (8, .d (D.bool v128)), (10, .ptr 640 0)] [(128, .box 36 [.d (D.sl a1)]), (384, .box 26 [.os 1124000 o111.length]), (640, .box 26 [.os 1124001 o112.length]), (1124000, .arr 98 true o111), (1124001, .arr 98 true o112)]) (finK prog f5 0 (.d (D.bool r)) (⟨[], []⟩)) := by
  rw [laws_FnExactDescendOnce_p12] at h
  cases v128
  · replace h := condF h
    conv => whnf
    refine Choice.new ?_
    conv => whnf
    refine Req.of (rfl) ?_
    conv => whnf
    obtain ⟨y234, e235, h⟩ := bind_ex h
    refine MarkOk.of (laws_markOrdinal_ct e235) ?_
    conv => whnf
    obtain ⟨g236, h⟩ := req_ex h
    exact CutK.piece (laws_FnExactDescendOnce_p14_ct  h) [some 128, some 384, some 640, some 1124000, some 1124001] [] ⟨⟨rfl, rfl⟩, ⟨rfl, ⟨rfl, rfl, trivial⟩, ⟨rfl, ⟨rfl, rfl⟩, trivial⟩, ⟨rfl, ⟨(by first | rfl | exact List.length_append.symm | (simp; done) | omega), rfl⟩, trivial⟩, ⟨rfl, rfl, rows_same⟩, ⟨rfl, rfl, rows_same⟩, trivial⟩, rfl, ⟨rfl, rfl⟩, ⟨rfl, rfl⟩, rfl, rfl, ⟨rfl, rfl⟩, rfl, trivial⟩
  · replace h := condT h
    conv => whnf
    refine Choice.new ?_
    conv => whnf
    refine Req.of (rfl) ?_
    conv => whnf
    obtain ⟨y237, e238, h⟩ := bind_ex h
    refine MarkOk.of (laws_markOrdinal_ct e238) ?_
    conv => whnf
    obtain ⟨g239, h⟩ := req_ex h
    exact CutK.piece (laws_FnExactDescendOnce_p14_ct  h) [some 128, some 384, some 640, some 1124000, some 1124001] [] ⟨⟨rfl, rfl⟩, ⟨rfl, ⟨rfl, rfl, trivial⟩, ⟨rfl, ⟨rfl, rfl⟩, trivial⟩, ⟨rfl, ⟨(by first | rfl | exact List.length_append.symm | (simp; done) | omega), rfl⟩, trivial⟩, ⟨rfl, rfl, rows_same⟩, ⟨rfl, rfl, rows_same⟩, trivial⟩, rfl, ⟨rfl, rfl⟩, ⟨rfl, rfl⟩, rfl, rfl, ⟨rfl, rfl⟩, rfl, trivial⟩
def laws_FnExactDescendOnce_p11 (k : Nat) (a1 : Rw) (a2 : Int) (o89 : Int) (o90 : Int) (o91 : Int) (o92 : Rw) (o93 : Rw) (v97 : Bool) (v101 : Bool) : Option Bool :=
  (cond v97 (cond v101 (if o91 < (0 : Int) then some false else ((laws_eqOrdinal k o93 o92).bind fun y256 => (if y256 = true then (if o90 = o89 then (laws_FnExactDescendOnce_p12 k a1 a2 o89 o92 o93 true) else some false) else some false))) (if o91 < (0 : Int) then some false else ((laws_eqOrdinal k o93 o92).bind fun y251 => (if y251 = true then (if o90 = o89 then some false else some false) else some false)))) (cond v101 (if o91 < (0 : Int) then some false else ((laws_eqOrdinal k o93 o92).bind fun y246 => (if y246 = true then (if o90 = o89 then some false else some false) else some false))) (if o91 < (0 : Int) then some false else ((laws_eqOrdinal k o93 o92).bind fun y241 => (if y241 = true then (if o90 = o89 then (laws_FnExactDescendOnce_p12 k a1 a2 o89 o92 o93 false) else some false) else some false)))))
set_option maxHeartbeats 4000000 in
set_option maxRecDepth 100000 in
theorem laws_FnExactDescendOnce_p11_ct {k : Nat} {a1 : Rw} {a2 : Int} {o89 : Int} {o90 : Int} {o91 : Int} {o92 : Rw} {o93 : Rw} {v97 : Bool} {v101 : Bool} {r : Bool} (h : laws_FnExactDescendOnce_p11 k a1 a2 o89 o90 o91 o92 o93 v97 v101 = some r) : X prog 0 (tlF f5 11) (mk 122 [(1, .d (D.int .i64 a2)), (2, .ptr 128 0), (6, .ptr 384 0), (7, .d (D.int .i64 o89)), (8, .d (D.bool v97)), (10, .ptr 640 0), (11, .d (D.int .i64 o90)), (12, .d (D.bool v101)), (13, .d (D.int .i64 o91))] [(128, .box 36 [.d (D.sl a1)]), (384, .box 26 [.os 1119000 o92.length]), (640, .box 26 [.os 1119001 o93.length]), (1119000, .arr 98 true o92), (1119001, .arr 98 true o93)]) (finK prog f5 0 (.d (D.bool r)) (⟨[], []⟩)) := by
  rw [laws_FnExactDescendOnce_p11] at h
  cases v97
  · replace h := condF h
    cases v101
    · replace h := condF h
      conv => whnf
      refine splD (fun g240 => ?_) (fun g240 => ?_)
      · replace h := iteP h g240
        conv => whnf
        refine CutK.norm [1, 2, 6, 7, 8, 10, 80] [128, 384, 640, 1119000, 1119001] ?_
        conv => whnf
        cases h
        exact Done.of [] [] rfl rfl ⟨⟨rfl, rfl⟩, ⟨rfl, trivial⟩, rfl, trivial⟩
      · replace h := iteN h g240
        conv => whnf
        refine Take.all (rfl) ?_
        conv => whnf
        refine Take.all (rfl) ?_
        conv => whnf
        obtain ⟨y241, e242, h⟩ := bind_ex h
        refine CallOk.of (laws_eqOrdinal_ct e242) ?_
        conv => whnf
        refine spl (fun g243 => ?_) (fun g243 => ?_)
        · replace h := iteT h g243
          conv => whnf
          refine splN (fun g244 => ?_) (fun g244 => ?_)
          · replace h := iteN h g244
            conv => whnf
            refine CutK.norm [1, 2, 6, 7, 8, 10, 80] [128, 384, 640, 1119000, 1119001] ?_
            conv => whnf
            cases h
            exact Done.of [] [] rfl rfl ⟨⟨rfl, rfl⟩, ⟨rfl, trivial⟩, rfl, trivial⟩
          · replace h := iteP h g244
            conv => whnf
            refine splF ?_
            conv => whnf
            refine CutK.norm [1, 2, 6, 7, 8, 10, 80] [128, 384, 640, 1119000, 1119001] ?_
            conv => whnf
            exact CutK.piece (laws_FnExactDescendOnce_p12_ct  h) [some 128, some 384, some 640, some 1119000, some 1119001] [] ⟨⟨rfl, rfl⟩, ⟨rfl, ⟨rfl, rfl, trivial⟩, ⟨rfl, ⟨rfl, rfl⟩, trivial⟩, ⟨rfl, ⟨rfl, rfl⟩, trivial⟩, ⟨rfl, rfl, rows_same⟩, ⟨rfl, rfl, rows_same⟩, trivial⟩, rfl, ⟨rfl, rfl⟩, ⟨rfl, rfl⟩, rfl, rfl, ⟨rfl, rfl⟩, trivial⟩
        · replace h := iteF h g243
          conv => whnf
          refine CutK.norm [1, 2, 6, 7, 8, 10, 80] [128, 384, 640, 1119000, 1119001] ?_
          conv => whnf
          cases h
          exact Done.of [] [] rfl rfl ⟨⟨rfl, rfl⟩, ⟨rfl, trivial⟩, rfl, trivial⟩
    · replace h := condT h
      conv => whnf
      refine splD (fun g245 => ?_) (fun g245 => ?_)
      · replace h := iteP h g245
        conv => whnf
        refine CutK.norm [1, 2, 6, 7, 8, 10, 80] [128, 384, 640, 1119000, 1119001] ?_
        conv => whnf
        cases h
        exact Done.of [] [] rfl rfl ⟨⟨rfl, rfl⟩, ⟨rfl, trivial⟩, rfl, trivial⟩
      · replace h := iteN h g245
        conv => whnf
        refine Take.all (rfl) ?_
        conv => whnf
        refine Take.all (rfl) ?_
        conv => whnf
        obtain ⟨y246, e247, h⟩ := bind_ex h
        refine CallOk.of (laws_eqOrdinal_ct e247) ?_
        conv => whnf
        refine spl (fun g248 => ?_) (fun g248 => ?_)
        · replace h := iteT h g248
          conv => whnf
          refine splN (fun g249 => ?_) (fun g249 => ?_)
          · replace h := iteN h g249
            conv => whnf
            refine CutK.norm [1, 2, 6, 7, 8, 10, 80] [128, 384, 640, 1119000, 1119001] ?_
            conv => whnf
            cases h
            exact Done.of [] [] rfl rfl ⟨⟨rfl, rfl⟩, ⟨rfl, trivial⟩, rfl, trivial⟩
          · replace h := iteP h g249
            conv => whnf
            refine splT ?_
            conv => whnf
            refine CutK.norm [1, 2, 6, 7, 8, 10, 80] [128, 384, 640, 1119000, 1119001] ?_
            conv => whnf
            cases h
            exact Done.of [] [] rfl rfl ⟨⟨rfl, rfl⟩, ⟨rfl, trivial⟩, rfl, trivial⟩
        · replace h := iteF h g248
          conv => whnf
          refine CutK.norm [1, 2, 6, 7, 8, 10, 80] [128, 384, 640, 1119000, 1119001] ?_
          conv => whnf
          cases h
          exact Done.of [] [] rfl rfl ⟨⟨rfl, rfl⟩, ⟨rfl, trivial⟩, rfl, trivial⟩
  · replace h := condT h
    cases v101
    · replace h := condF h
      conv => whnf
      refine splD (fun g250 => ?_) (fun g250 => ?_)
      · replace h := iteP h g250
        conv => whnf
        refine CutK.norm [1, 2, 6, 7, 8, 10, 80] [128, 384, 640, 1119000, 1119001] ?_
        conv => whnf
        cases h
        exact Done.of [] [] rfl rfl ⟨⟨rfl, rfl⟩, ⟨rfl, trivial⟩, rfl, trivial⟩
      · replace h := iteN h g250
        conv => whnf
        refine Take.all (rfl) ?_
        conv => whnf
        refine Take.all (rfl) ?_
        conv => whnf
        obtain ⟨y251, e252, h⟩ := bind_ex h
        refine CallOk.of (laws_eqOrdinal_ct e252) ?_
        conv => whnf
        refine spl (fun g253 => ?_) (fun g253 => ?_)
        · replace h := iteT h g253
          conv => whnf
          refine splN (fun g254 => ?_) (fun g254 => ?_)
          · replace h := iteN h g254
            conv => whnf
            refine CutK.norm [1, 2, 6, 7, 8, 10, 80] [128, 384, 640, 1119000, 1119001] ?_
            conv => whnf
            cases h
            exact Done.of [] [] rfl rfl ⟨⟨rfl, rfl⟩, ⟨rfl, trivial⟩, rfl, trivial⟩
          · replace h := iteP h g254
            conv => whnf
            refine splT ?_
            conv => whnf
            refine CutK.norm [1, 2, 6, 7, 8, 10, 80] [128, 384, 640, 1119000, 1119001] ?_
            conv => whnf
            cases h
            exact Done.of [] [] rfl rfl ⟨⟨rfl, rfl⟩, ⟨rfl, trivial⟩, rfl, trivial⟩
        · replace h := iteF h g253
          conv => whnf
          refine CutK.norm [1, 2, 6, 7, 8, 10, 80] [128, 384, 640, 1119000, 1119001] ?_
          conv => whnf
          cases h
          exact Done.of [] [] rfl rfl ⟨⟨rfl, rfl⟩, ⟨rfl, trivial⟩, rfl, trivial⟩
    · replace h := condT h
      conv => whnf
      refine splD (fun g255 => ?_) (fun g255 => ?_)
      · replace h := iteP h g255
        conv => whnf
        refine CutK.norm [1, 2, 6, 7, 8, 10, 80] [128, 384, 640, 1119000, 1119001] ?_
        conv => whnf
        cases h
        exact Done.of [] [] rfl rfl ⟨⟨rfl, rfl⟩, ⟨rfl, trivial⟩, rfl, trivial⟩
      · replace h := iteN h g255
        conv => whnf
        refine Take.all (rfl) ?_
        conv => whnf
        refine Take.all (rfl) ?_
        conv => whnf
        obtain ⟨y256, e257, h⟩ := bind_ex h
        refine CallOk.of (laws_eqOrdinal_ct e257) ?_
        conv => whnf
        refine spl (fun g258 => ?_) (fun g258 => ?_)
        · replace h := iteT h g258
          conv => whnf
          refine splN (fun g259 => ?_) (fun g259 => ?_)
          · replace h := iteN h g259
            conv => whnf
            refine CutK.norm [1, 2, 6, 7, 8, 10, 80] [128, 384, 640, 1119000, 1119001] ?_
            conv => whnf
            cases h
            exact Done.of [] [] rfl rfl ⟨⟨rfl, rfl⟩, ⟨rfl, trivial⟩, rfl, trivial⟩
          · replace h := iteP h g259
            conv => whnf
            refine splF ?_
            conv => whnf
            refine CutK.norm [1, 2, 6, 7, 8, 10, 80] [128, 384, 640, 1119000, 1119001] ?_
            conv => whnf
            exact CutK.piece (laws_FnExactDescendOnce_p12_ct  h) [some 128, some 384, some 640, some 1119000, some 1119001] [] ⟨⟨rfl, rfl⟩, ⟨rfl, ⟨rfl, rfl, trivial⟩, ⟨rfl, ⟨rfl, rfl⟩, trivial⟩, ⟨rfl, ⟨rfl, rfl⟩, trivial⟩, ⟨rfl, rfl, rows_same⟩, ⟨rfl, rfl, rows_same⟩, trivial⟩, rfl, ⟨rfl, rfl⟩, ⟨rfl, rfl⟩, rfl, rfl, ⟨rfl, rfl⟩, trivial⟩
        · replace h := iteF h g258
          conv => whnf
          refine CutK.norm [1, 2, 6, 7, 8, 10, 80] [128, 384, 640, 1119000, 1119001] ?_
          conv => whnf
          cases h
          exact Done.of [] [] rfl rfl ⟨⟨rfl, rfl⟩, ⟨rfl, trivial⟩, rfl, trivial⟩
def laws_FnExactDescendOnce_p9 (k : Nat) (a1 : Rw) (a2 : Int) (o64 : Int) (o65 : Int) (o66 : Rw) (o67 : Rw) (o68 : Rw) (v74 : Bool) (v80 : Bool) : Option Bool :=
  (cond v74 (cond v80 ((laws_markOrdinal k o67 1).bind fun y269 => (if y269.2.length = o67.length then (laws_FnExactDescendOnce_p11 k a1 a2 o64 o65 y269.1 o66 o68 true true) else none)) ((laws_markOrdinal k o67 1).bind fun y266 => (if y266.2.length = o67.length then (laws_FnExactDescendOnce_p11 k a1 a2 o64 o65 y266.1 o66 o68 false true) else none))) (cond v80 ((laws_markOrdinal k o67 1).bind fun y263 => (if y263.2.length = o67.length then (laws_FnExactDescendOnce_p11 k a1 a2 o64 o65 y263.1 o66 o68 true false) else none)) ((laws_markOrdinal k o67 1).bind fun y260 => (if y260.2.length = o67.length then (laws_FnExactDescendOnce_p11 k a1 a2 o64 o65 y260.1 o66 o68 false false) else none))))
set_option maxHeartbeats 4000000 in
set_option maxRecDepth 100000 in
theorem laws_FnExactDescendOnce_p9_ct {k : Nat} {a1 : Rw} {a2 : Int} {o64 : Int} {o65 : Int} {o66 : Rw} {o67 : Rw} {o68 : Rw} {v74 : Bool} {v80 : Bool} {r : Bool} (h : laws_FnExactDescendOnce_p9 k a1 a2 o64 o65 o66 o67 o68 v74 v80 = some r) : X prog 0 (tlF f5 9) (mk 122 [(1, .d (D.int .i64 a2)), (2, .ptr 128 0), (6, .ptr 384 0), (7, .d (D.int .i64 o64)), (8, .d (D.bool v80)), (9, .ptr 576 0), (10, .ptr 640 0), (11, .d (D.int .i64 o65)), (12, .d (D.bool v74))] [(128, .box 36 [.d (D.sl a1)]), (384, .box 26 [.os 1109000 o66.length]), (576, .box 26 [.os 1109001 o67.length]), (640, .box 26 [.os 1109002 o68.length]), (1109000, .arr 98 true o66), (1109001, .arr 98 true o67), (1109002, .arr 98 true o68)]) (finK prog f5 0 (.d (D.bool r)) (⟨[], []⟩)) := by
  rw [laws_FnExactDescendOnce_p9] at h
  cases v74
  · replace h := condF h
    cases v80
    · replace h := condF h
      conv => whnf
      refine Choice.new ?_
      conv => whnf
      refine Req.of (rfl) ?_
      conv => whnf
      obtain ⟨y260, e261, h⟩ := bind_ex h
      refine MarkOk.of (laws_markOrdinal_ct e261) ?_
      conv => whnf
      obtain ⟨g262, h⟩ := req_ex h
      exact CutK.piece (laws_FnExactDescendOnce_p11_ct  h) [some 128, some 384, some 640, some 1109000, some 1109002] [] ⟨⟨rfl, rfl⟩, ⟨rfl, ⟨rfl, rfl, trivial⟩, ⟨rfl, ⟨rfl, rfl⟩, trivial⟩, ⟨rfl, ⟨rfl, rfl⟩, trivial⟩, ⟨rfl, rfl, rows_same⟩, ⟨rfl, rfl, rows_same⟩, trivial⟩, rfl, ⟨rfl, rfl⟩, ⟨rfl, rfl⟩, rfl, rfl, ⟨rfl, rfl⟩, rfl, rfl, rfl, trivial⟩
    · replace h := condT h
      conv => whnf
      refine Choice.new ?_
      conv => whnf
      refine Req.of (rfl) ?_
      conv => whnf
      obtain ⟨y263, e264, h⟩ := bind_ex h
      refine MarkOk.of (laws_markOrdinal_ct e264) ?_
      conv => whnf
      obtain ⟨g265, h⟩ := req_ex h
      exact CutK.piece (laws_FnExactDescendOnce_p11_ct  h) [some 128, some 384, some 640, some 1109000, some 1109002] [] ⟨⟨rfl, rfl⟩, ⟨rfl, ⟨rfl, rfl, trivial⟩, ⟨rfl, ⟨rfl, rfl⟩, trivial⟩, ⟨rfl, ⟨rfl, rfl⟩, trivial⟩, ⟨rfl, rfl, rows_same⟩, ⟨rfl, rfl, rows_same⟩, trivial⟩, rfl, ⟨rfl, rfl⟩, ⟨rfl, rfl⟩, rfl, rfl, ⟨rfl, rfl⟩, rfl, rfl, rfl, trivial⟩
  · replace h := condT h
    cases v80
    · replace h := condF h
      conv => whnf
      refine Choice.new ?_
      conv => whnf
      refine Req.of (rfl) ?_
      conv => whnf
      obtain ⟨y266, e267, h⟩ := bind_ex h
      refine MarkOk.of (laws_markOrdinal_ct e267) ?_
      conv => whnf
      obtain ⟨g268, h⟩ := req_ex h
      exact CutK.piece (laws_FnExactDescendOnce_p11_ct  h) [some 128, some 384, some 640, some 1109000, some 1109002] [] ⟨⟨rfl, rfl⟩, ⟨rfl, ⟨rfl, rfl, trivial⟩, ⟨rfl, ⟨rfl, rfl⟩, trivial⟩, ⟨rfl, ⟨rfl, rfl⟩, trivial⟩, ⟨rfl, rfl, rows_same⟩, ⟨rfl, rfl, rows_same⟩, trivial⟩, rfl, ⟨rfl, rfl⟩, ⟨rfl, rfl⟩, rfl, rfl, ⟨rfl, rfl⟩, rfl, rfl, rfl, trivial⟩
    · replace h := condT h
      conv => whnf
      refine Choice.new ?_
      conv => whnf
      refine Req.of (rfl) ?_
      conv => whnf
      obtain ⟨y269, e270, h⟩ := bind_ex h
      refine MarkOk.of (laws_markOrdinal_ct e270) ?_
      conv => whnf
      obtain ⟨g271, h⟩ := req_ex h
      exact CutK.piece (laws_FnExactDescendOnce_p11_ct  h) [some 128, some 384, some 640, some 1109000, some 1109002] [] ⟨⟨rfl, rfl⟩, ⟨rfl, ⟨rfl, rfl, trivial⟩, ⟨rfl, ⟨rfl, rfl⟩, trivial⟩, ⟨rfl, ⟨rfl, rfl⟩, trivial⟩, ⟨rfl, rfl, rows_same⟩, ⟨rfl, rfl, rows_same⟩, trivial⟩, rfl, ⟨rfl, rfl⟩, ⟨rfl, rfl⟩, rfl, rfl, ⟨rfl, rfl⟩, rfl, rfl, rfl, trivial⟩
def laws_FnExactDescendOnce_p8 (k : Nat) (a1 : Rw) (a2 : Int) (o40 : Int) (o41 : Int) (o42 : Rw) (o43 : Rw) (o44 : Rw) (v57 : Bool) (v58 : Bool) : Option Bool :=
  (cond v57 (cond v58 ((laws_toOrdinal k a1).bind fun y287 => ((laws_eqOrdinal k o43 y287).bind fun y289 => (if y289 = true then (laws_FnExactDescendOnce_p9 k a1 a2 o40 o41 o42 o43 o44 true true) else some false))) ((laws_toOrdinal k a1).bind fun y282 => ((laws_eqOrdinal k o43 y282).bind fun y284 => (if y284 = true then (laws_FnExactDescendOnce_p9 k a1 a2 o40 o41 o42 o43 o44 false true) else some false)))) (cond v58 ((laws_toOrdinal k a1).bind fun y277 => ((laws_eqOrdinal k o43 y277).bind fun y279 => (if y279 = true then (laws_FnExactDescendOnce_p9 k a1 a2 o40 o41 o42 o43 o44 true false) else some false))) ((laws_toOrdinal k a1).bind fun y272 => ((laws_eqOrdinal k o43 y272).bind fun y274 => (if y274 = true then (laws_FnExactDescendOnce_p9 k a1 a2 o40 o41 o42 o43 o44 false false) else some false)))))
set_option maxHeartbeats 4000000 in
set_option maxRecDepth 100000 in
theorem laws_FnExactDescendOnce_p8_ct {k : Nat} {a1 : Rw} {a2 : Int} {o40 : Int} {o41 : Int} {o42 : Rw} {o43 : Rw} {o44 : Rw} {v57 : Bool} {v58 : Bool} {r : Bool} (h : laws_FnExactDescendOnce_p8 k a1 a2 o40 o41 o42 o43 o44 v57 v58 = some r) : X prog 0 (tlF f5 8) (mk 122 [(1, .d (D.int .i64 a2)), (2, .ptr 128 0), (6, .ptr 384 0), (7, .d (D.int .i64 o40)), (8, .d (D.bool v57)), (9, .ptr 576 0), (10, .ptr 640 0), (11, .d (D.int .i64 o41)), (12, .d (D.bool v58))] [(128, .box 36 [.d (D.sl a1)]), (384, .box 26 [.os 1104000 o42.length]), (576, .box 26 [.os 1104001 o43.length]), (640, .box 26 [.os 1104002 o44.length]), (1104000, .arr 98 true o42), (1104001, .arr 98 true o43), (1104002, .arr 98 true o44)]) (finK prog f5 0 (.d (D.bool r)) (⟨[], []⟩)) := by
  rw [laws_FnExactDescendOnce_p8] at h
  cases v57
  · replace h := condF h
    cases v58
    · replace h := condF h
      conv => whnf
      obtain ⟨y272, e273, h⟩ := bind_ex h
      refine CallOk.of (laws_toOrdinal_ct e273) ?_
      conv => whnf
      refine Take.all (rfl) ?_
      conv => whnf
      refine Take.all (rfl) ?_
      conv => whnf
      obtain ⟨y274, e275, h⟩ := bind_ex h
      refine CallOk.of (laws_eqOrdinal_ct e275) ?_
      conv => whnf
      refine spl (fun g276 => ?_) (fun g276 => ?_)
      · replace h := iteT h g276
        conv => whnf
        refine CutK.norm [1, 2, 6, 7, 8, 9, 10, 11, 12, 59] [128, 384, 576, 640, 1104000, 1104001, 1104002] ?_
        conv => whnf
        exact CutK.piece (laws_FnExactDescendOnce_p9_ct  h) [some 128, some 384, some 576, some 640, some 1104000, some 1104001, some 1104002] [] ⟨⟨rfl, rfl⟩, ⟨rfl, ⟨rfl, rfl, trivial⟩, ⟨rfl, ⟨rfl, rfl⟩, trivial⟩, ⟨rfl, ⟨rfl, rfl⟩, trivial⟩, ⟨rfl, ⟨rfl, rfl⟩, trivial⟩, ⟨rfl, rfl, rows_same⟩, ⟨rfl, rfl, rows_same⟩, ⟨rfl, rfl, rows_same⟩, trivial⟩, rfl, ⟨rfl, rfl⟩, ⟨rfl, rfl⟩, rfl, rfl, ⟨rfl, rfl⟩, ⟨rfl, rfl⟩, rfl, rfl, trivial⟩
      · replace h := iteF h g276
        conv => whnf
        refine CutK.norm [1, 2, 6, 7, 8, 9, 10, 11, 12, 59] [128, 384, 576, 640, 1104000, 1104001, 1104002] ?_
        conv => whnf
        cases h
        exact Done.of [] [] rfl rfl ⟨⟨rfl, rfl⟩, ⟨rfl, trivial⟩, rfl, trivial⟩
    · replace h := condT h
      conv => whnf
      obtain ⟨y277, e278, h⟩ := bind_ex h
      refine CallOk.of (laws_toOrdinal_ct e278) ?_
      conv => whnf
      refine Take.all (rfl) ?_
      conv => whnf
      refine Take.all (rfl) ?_
      conv => whnf
      obtain ⟨y279, e280, h⟩ := bind_ex h
      refine CallOk.of (laws_eqOrdinal_ct e280) ?_
      conv => whnf
      refine spl (fun g281 => ?_) (fun g281 => ?_)
      · replace h := iteT h g281
        conv => whnf
        refine CutK.norm [1, 2, 6, 7, 8, 9, 10, 11, 12, 59] [128, 384, 576, 640, 1104000, 1104001, 1104002] ?_
        conv => whnf
        exact CutK.piece (laws_FnExactDescendOnce_p9_ct  h) [some 128, some 384, some 576, some 640, some 1104000, some 1104001, some 1104002] [] ⟨⟨rfl, rfl⟩, ⟨rfl, ⟨rfl, rfl, trivial⟩, ⟨rfl, ⟨rfl, rfl⟩, trivial⟩, ⟨rfl, ⟨rfl, rfl⟩, trivial⟩, ⟨rfl, ⟨rfl, rfl⟩, trivial⟩, ⟨rfl, rfl, rows_same⟩, ⟨rfl, rfl, rows_same⟩, ⟨rfl, rfl, rows_same⟩, trivial⟩, rfl, ⟨rfl, rfl⟩, ⟨rfl, rfl⟩, rfl, rfl, ⟨rfl, rfl⟩, ⟨rfl, rfl⟩, rfl, rfl, trivial⟩
      · replace h := iteF h g281
        conv => whnf
        refine CutK.norm [1, 2, 6, 7, 8, 9, 10, 11, 12, 59] [128, 384, 576, 640, 1104000, 1104001, 1104002] ?_
        conv => whnf
        cases h
        exact Done.of [] [] rfl rfl ⟨⟨rfl, rfl⟩, ⟨rfl, trivial⟩, rfl, trivial⟩
  · replace h := condT h
    cases v58
    · replace h := condF h
      conv => whnf
      obtain ⟨y282, e283, h⟩ := bind_ex h
      refine CallOk.of (laws_toOrdinal_ct e283) ?_
      conv => whnf
      refine Take.all (rfl) ?_
      conv => whnf
      refine Take.all (rfl) ?_
      conv => whnf
      obtain ⟨y284, e285, h⟩ := bind_ex h
      refine CallOk.of (laws_eqOrdinal_ct e285) ?_
      conv => whnf
      refine spl (fun g286 => ?_) (fun g286 => ?_)
      · replace h := iteT h g286
        conv => whnf
        refine CutK.norm [1, 2, 6, 7, 8, 9, 10, 11, 12, 59] [128, 384, 576, 640, 1104000, 1104001, 1104002] ?_
        conv => whnf
        exact CutK.piece (laws_FnExactDescendOnce_p9_ct  h) [some 128, some 384, some 576, some 640, some 1104000, some 1104001, some 1104002] [] ⟨⟨rfl, rfl⟩, ⟨rfl, ⟨rfl, rfl, trivial⟩, ⟨rfl, ⟨rfl, rfl⟩, trivial⟩, ⟨rfl, ⟨rfl, rfl⟩, trivial⟩, ⟨rfl, ⟨rfl, rfl⟩, trivial⟩, ⟨rfl, rfl, rows_same⟩, ⟨rfl, rfl, rows_same⟩, ⟨rfl, rfl, rows_same⟩, trivial⟩, rfl, ⟨rfl, rfl⟩, ⟨rfl, rfl⟩, rfl, rfl, ⟨rfl, rfl⟩, ⟨rfl, rfl⟩, rfl, rfl, trivial⟩
      · replace h := iteF h g286
        conv => whnf
        refine CutK.norm [1, 2, 6, 7, 8, 9, 10, 11, 12, 59] [128, 384, 576, 640, 1104000, 1104001, 1104002] ?_
        conv => whnf
        cases h
        exact Done.of [] [] rfl rfl ⟨⟨rfl, rfl⟩, ⟨rfl, trivial⟩, rfl, trivial⟩
    · replace h := condT h
      conv => whnf
      obtain ⟨y287, e288, h⟩ := bind_ex h
      refine CallOk.of (laws_toOrdinal_ct e288) ?_
      conv => whnf
      refine Take.all (rfl) ?_
      conv => whnf
      refine Take.all (rfl) ?_
      conv => whnf
      obtain ⟨y289, e290, h⟩ := bind_ex h
      refine CallOk.of (laws_eqOrdinal_ct e290) ?_
      conv => whnf
      refine spl (fun g291 => ?_) (fun g291 => ?_)
      · replace h := iteT h g291
        conv => whnf
        refine CutK.norm [1, 2, 6, 7, 8, 9, 10, 11, 12, 59] [128, 384, 576, 640, 1104000, 1104001, 1104002] ?_
        conv => whnf
        exact CutK.piece (laws_FnExactDescendOnce_p9_ct  h) [some 128, some 384, some 576, some 640, some 1104000, some 1104001, some 1104002] [] ⟨⟨rfl, rfl⟩, ⟨rfl, ⟨rfl, rfl, trivial⟩, ⟨rfl, ⟨rfl, rfl⟩, trivial⟩, ⟨rfl, ⟨rfl, rfl⟩, trivial⟩, ⟨rfl, ⟨rfl, rfl⟩, trivial⟩, ⟨rfl, rfl, rows_same⟩, ⟨rfl, rfl, rows_same⟩, ⟨rfl, rfl, rows_same⟩, trivial⟩, rfl, ⟨rfl, rfl⟩, ⟨rfl, rfl⟩, rfl, rfl, ⟨rfl, rfl⟩, ⟨rfl, rfl⟩, rfl, rfl, trivial⟩
      · replace h := iteF h g291
        conv => whnf
        refine CutK.norm [1, 2, 6, 7, 8, 9, 10, 11, 12, 59] [128, 384, 576, 640, 1104000, 1104001, 1104002] ?_
        conv => whnf
        cases h
        exact Done.of [] [] rfl rfl ⟨⟨rfl, rfl⟩, ⟨rfl, trivial⟩, rfl, trivial⟩
def laws_FnExactDescendOnce_p7 (k : Nat) (a1 : Rw) (a2 : Int) (o26 : Int) (o27 : Int) (o28 : Rw) (o29 : Rw) (o30 : Rw) (v31 : Bool) (v35 : Bool) : Option Bool :=
  (cond v31 (cond v35 ((laws_eqOrdinal k o30 o28).bind fun y304 => (if y304 = true then (if o27 = o26 then (laws_FnExactDescendOnce_p8 k a1 a2 o26 o27 o28 o29 o30 true true) else some false) else some false)) ((laws_eqOrdinal k o30 o28).bind fun y300 => (if y300 = true then (if o27 = o26 then some false else some false) else some false))) (cond v35 ((laws_eqOrdinal k o30 o28).bind fun y296 => (if y296 = true then (if o27 = o26 then some false else some false) else some false)) ((laws_eqOrdinal k o30 o28).bind fun y292 => (if y292 = true then (if o27 = o26 then (laws_FnExactDescendOnce_p8 k a1 a2 o26 o27 o28 o29 o30 false false) else some false) else some false))))
set_option maxHeartbeats 4000000 in
set_option maxRecDepth 100000 in
theorem laws_FnExactDescendOnce_p7_ct {k : Nat} {a1 : Rw} {a2 : Int} {o26 : Int} {o27 : Int} {o28 : Rw} {o29 : Rw} {o30 : Rw} {v31 : Bool} {v35 : Bool} {r : Bool} (h : laws_FnExactDescendOnce_p7 k a1 a2 o26 o27 o28 o29 o30 v31 v35 = some r) : X prog 0 (tlF f5 7) (mk 122 [(1, .d (D.int .i64 a2)), (2, .ptr 128 0), (6, .ptr 384 0), (7, .d (D.int .i64 o26)), (8, .d (D.bool v35)), (9, .ptr 576 0), (10, .ptr 640 0), (11, .d (D.int .i64 o27)), (12, .d (D.bool v31))] [(128, .box 36 [.d (D.sl a1)]), (384, .box 26 [.os 1099000 o28.length]), (576, .box 26 [.os 1099001 o29.length]), (640, .box 26 [.os 1099002 o30.length]), (1099000, .arr 98 true o28), (1099001, .arr 98 true o29), (1099002, .arr 98 true o30)]) (finK prog f5 0 (.d (D.bool r)) (⟨[], []⟩)) := by
  rw [laws_FnExactDescendOnce_p7] at h
  cases v31
  · replace h := condF h
    cases v35
    · replace h := condF h
      conv => whnf
      refine Take.all (rfl) ?_
      conv => whnf
      refine Take.all (rfl) ?_
      conv => whnf
      obtain ⟨y292, e293, h⟩ := bind_ex h
      refine CallOk.of (laws_eqOrdinal_ct e293) ?_
      conv => whnf
      refine spl (fun g294 => ?_) (fun g294 => ?_)
      · replace h := iteT h g294
        conv => whnf
        refine splN (fun g295 => ?_) (fun g295 => ?_)
        · replace h := iteN h g295
          conv => whnf
          refine CutK.norm [1, 2, 6, 7, 8, 9, 10, 11, 12, 54] [128, 384, 576, 640, 1099000, 1099001, 1099002] ?_
          conv => whnf
          cases h
          exact Done.of [] [] rfl rfl ⟨⟨rfl, rfl⟩, ⟨rfl, trivial⟩, rfl, trivial⟩
        · replace h := iteP h g295
          conv => whnf
          refine splF ?_
          conv => whnf
          refine CutK.norm [1, 2, 6, 7, 8, 9, 10, 11, 12, 54] [128, 384, 576, 640, 1099000, 1099001, 1099002] ?_
          conv => whnf
          exact CutK.piece (laws_FnExactDescendOnce_p8_ct  h) [some 128, some 384, some 576, some 640, some 1099000, some 1099001, some 1099002] [] ⟨⟨rfl, rfl⟩, ⟨rfl, ⟨rfl, rfl, trivial⟩, ⟨rfl, ⟨rfl, rfl⟩, trivial⟩, ⟨rfl, ⟨rfl, rfl⟩, trivial⟩, ⟨rfl, ⟨rfl, rfl⟩, trivial⟩, ⟨rfl, rfl, rows_same⟩, ⟨rfl, rfl, rows_same⟩, ⟨rfl, rfl, rows_same⟩, trivial⟩, rfl, ⟨rfl, rfl⟩, ⟨rfl, rfl⟩, rfl, rfl, ⟨rfl, rfl⟩, ⟨rfl, rfl⟩, rfl, rfl, trivial⟩
      · replace h := iteF h g294
        conv => whnf
        refine CutK.norm [1, 2, 6, 7, 8, 9, 10, 11, 12, 54] [128, 384, 576, 640, 1099000, 1099001, 1099002] ?_
        conv => whnf
        cases h
        exact Done.of [] [] rfl rfl ⟨⟨rfl, rfl⟩, ⟨rfl, trivial⟩, rfl, trivial⟩
    · replace h := condT h
      conv => whnf
      refine Take.all (rfl) ?_
      conv => whnf
      refine Take.all (rfl) ?_
      conv => whnf
      obtain ⟨y296, e297, h⟩ := bind_ex h
      refine CallOk.of (laws_eqOrdinal_ct e297) ?_
      conv => whnf
      refine spl (fun g298 => ?_) (fun g298 => ?_)
      · replace h := iteT h g298
        conv => whnf
        refine splN (fun g299 => ?_) (fun g299 => ?_)
        · replace h := iteN h g299
          conv => whnf
          refine CutK.norm [1, 2, 6, 7, 8, 9, 10, 11, 12, 54] [128, 384, 576, 640, 1099000, 1099001, 1099002] ?_
          conv => whnf
          cases h
          exact Done.of [] [] rfl rfl ⟨⟨rfl, rfl⟩, ⟨rfl, trivial⟩, rfl, trivial⟩
        · replace h := iteP h g299
          conv => whnf
          refine splT ?_
          conv => whnf
          refine CutK.norm [1, 2, 6, 7, 8, 9, 10, 11, 12, 54] [128, 384, 576, 640, 1099000, 1099001, 1099002] ?_
          conv => whnf
          cases h
          exact Done.of [] [] rfl rfl ⟨⟨rfl, rfl⟩, ⟨rfl, trivial⟩, rfl, trivial⟩
      · replace h := iteF h g298
        conv => whnf
        refine CutK.norm [1, 2, 6, 7, 8, 9, 10, 11, 12, 54] [128, 384, 576, 640, 1099000, 1099001, 1099002] ?_
        conv => whnf
        cases h
        exact Done.of [] [] rfl rfl ⟨⟨rfl, rfl⟩, ⟨rfl, trivial⟩, rfl, trivial⟩
  · replace h := condT h
    cases v35
    · replace h := condF h
      conv => whnf
      refine Take.all (rfl) ?_
      conv => whnf
      refine Take.all (rfl) ?_
      conv => whnf
      obtain ⟨y300, e301, h⟩ := bind_ex h
      refine CallOk.of (laws_eqOrdinal_ct e301) ?_
      conv => whnf
      refine spl (fun g302 => ?_) (fun g302 => ?_)
      · replace h := iteT h g302
        conv => whnf
        refine splN (fun g303 => ?_) (fun g303 => ?_)
        · replace h := iteN h g303
          conv => whnf
          refine CutK.norm [1, 2, 6, 7, 8, 9, 10, 11, 12, 54] [128, 384, 576, 640, 1099000, 1099001, 1099002] ?_
          conv => whnf
          cases h
          exact Done.of [] [] rfl rfl ⟨⟨rfl, rfl⟩, ⟨rfl, trivial⟩, rfl, trivial⟩
        · replace h := iteP h g303
          conv => whnf
          refine splT ?_
          conv => whnf
          refine CutK.norm [1, 2, 6, 7, 8, 9, 10, 11, 12, 54] [128, 384, 576, 640, 1099000, 1099001, 1099002] ?_
          conv => whnf
          cases h
          exact Done.of [] [] rfl rfl ⟨⟨rfl, rfl⟩, ⟨rfl, trivial⟩, rfl, trivial⟩
      · replace h := iteF h g302
        conv => whnf
        refine CutK.norm [1, 2, 6, 7, 8, 9, 10, 11, 12, 54] [128, 384, 576, 640, 1099000, 1099001, 1099002] ?_
        conv => whnf
        cases h
        exact Done.of [] [] rfl rfl ⟨⟨rfl, rfl⟩, ⟨rfl, trivial⟩, rfl, trivial⟩
    · replace h := condT h
      conv => whnf
      refine Take.all (rfl) ?_
      conv => whnf
      refine Take.all (rfl) ?_
      conv => whnf
      obtain ⟨y304, e305, h⟩ := bind_ex h
      refine CallOk.of (laws_eqOrdinal_ct e305) ?_
      conv => whnf
      refine spl (fun g306 => ?_) (fun g306 => ?_)
      · replace h := iteT h g306
        conv => whnf
        refine splN (fun g307 => ?_) (fun g307 => ?_)
        · replace h := iteN h g307
          conv => whnf
          refine CutK.norm [1, 2, 6, 7, 8, 9, 10, 11, 12, 54] [128, 384, 576, 640, 1099000, 1099001, 1099002] ?_
          conv => whnf
          cases h
          exact Done.of [] [] rfl rfl ⟨⟨rfl, rfl⟩, ⟨rfl, trivial⟩, rfl, trivial⟩
        · replace h := iteP h g307
          conv => whnf
          refine splF ?_
          conv => whnf
          refine CutK.norm [1, 2, 6, 7, 8, 9, 10, 11, 12, 54] [128, 384, 576, 640, 1099000, 1099001, 1099002] ?_
          conv => whnf
          exact CutK.piece (laws_FnExactDescendOnce_p8_ct  h) [some 128, some 384, some 576, some 640, some 1099000, some 1099001, some 1099002] [] ⟨⟨rfl, rfl⟩, ⟨rfl, ⟨rfl, rfl, trivial⟩, ⟨rfl, ⟨rfl, rfl⟩, trivial⟩, ⟨rfl, ⟨rfl, rfl⟩, trivial⟩, ⟨rfl, ⟨rfl, rfl⟩, trivial⟩, ⟨rfl, rfl, rows_same⟩, ⟨rfl, rfl, rows_same⟩, ⟨rfl, rfl, rows_same⟩, trivial⟩, rfl, ⟨rfl, rfl⟩, ⟨rfl, rfl⟩, rfl, rfl, ⟨rfl, rfl⟩, ⟨rfl, rfl⟩, rfl, rfl, trivial⟩
      · replace h := iteF h g306
        conv => whnf
        refine CutK.norm [1, 2, 6, 7, 8, 9, 10, 11, 12, 54] [128, 384, 576, 640, 1099000, 1099001, 1099002] ?_
        conv => whnf
        cases h
        exact Done.of [] [] rfl rfl ⟨⟨rfl, rfl⟩, ⟨rfl, trivial⟩, rfl, trivial⟩
def laws_FnExactDescendOnce_p6 (k : Nat) (a1 : Rw) (a2 : Int) (o17 : Int) (o18 : Rw) (o19 : Rw) (v22 : Bool) : Option Bool :=
  (cond v22 ((impl_DescendOnce k o19 a2).bind fun y311 => (if y311.2.2 = true then (laws_FnExactDescendOnce_p7 k a1 a2 o17 y311.2.1 o18 o19 y311.1 true true) else (laws_FnExactDescendOnce_p7 k a1 a2 o17 y311.2.1 o18 o19 y311.1 false true))) ((impl_DescendOnce k o19 a2).bind fun y308 => (if y308.2.2 = true then (laws_FnExactDescendOnce_p7 k a1 a2 o17 y308.2.1 o18 o19 y308.1 true false) else (laws_FnExactDescendOnce_p7 k a1 a2 o17 y308.2.1 o18 o19 y308.1 false false))))
set_option maxHeartbeats 4000000 in
set_option maxRecDepth 100000 in
theorem laws_FnExactDescendOnce_p6_ct {k : Nat} {a1 : Rw} {a2 : Int} {o17 : Int} {o18 : Rw} {o19 : Rw} {v22 : Bool} {r : Bool} (h : laws_FnExactDescendOnce_p6 k a1 a2 o17 o18 o19 v22 = some r) : X prog 0 (tlF f5 6) (mk 122 [(1, .d (D.int .i64 a2)), (2, .ptr 128 0), (6, .ptr 384 0), (7, .d (D.int .i64 o17)), (8, .d (D.bool v22)), (9, .ptr 576 0)] [(128, .box 36 [.d (D.sl a1)]), (384, .box 26 [.os 1094000 o18.length]), (576, .box 26 [.os 1094001 o19.length]), (1094000, .arr 98 true o18), (1094001, .arr 98 true o19)]) (finK prog f5 0 (.d (D.bool r)) (⟨[], []⟩)) := by
  rw [laws_FnExactDescendOnce_p6] at h
  cases v22
  · replace h := condF h
    conv => whnf
    refine Choice.old ?_
    conv => whnf
    refine Take.all (rfl) ?_
    conv => whnf
    obtain ⟨y308, e309, h⟩ := bind_ex h
    refine CallOk.of (impl_DescendOnce_ct e309) ?_
    conv => whnf
    refine spl (fun g310 => ?_) (fun g310 => ?_)
    · replace h := iteT h g310
      conv => whnf
      exact CutK.piece (laws_FnExactDescendOnce_p7_ct  h) [some 128, some 384, some 576, some 640, some 1094000, some 1094001, some 2368] [] ⟨⟨rfl, rfl⟩, ⟨rfl, ⟨rfl, rfl, trivial⟩, ⟨rfl, ⟨rfl, rfl⟩, trivial⟩, ⟨rfl, ⟨rfl, rfl⟩, trivial⟩, ⟨rfl, ⟨rfl, rfl⟩, trivial⟩, ⟨rfl, rfl, rows_same⟩, ⟨rfl, rfl, rows_same⟩, ⟨rfl, rfl, rows_same⟩, trivial⟩, rfl, ⟨rfl, rfl⟩, ⟨rfl, rfl⟩, rfl, rfl, ⟨rfl, rfl⟩, ⟨rfl, rfl⟩, rfl, rfl, trivial⟩
    · replace h := iteF h g310
      conv => whnf
      exact CutK.piece (laws_FnExactDescendOnce_p7_ct  h) [some 128, some 384, some 576, some 640, some 1094000, some 1094001, some 2368] [] ⟨⟨rfl, rfl⟩, ⟨rfl, ⟨rfl, rfl, trivial⟩, ⟨rfl, ⟨rfl, rfl⟩, trivial⟩, ⟨rfl, ⟨rfl, rfl⟩, trivial⟩, ⟨rfl, ⟨rfl, rfl⟩, trivial⟩, ⟨rfl, rfl, rows_same⟩, ⟨rfl, rfl, rows_same⟩, ⟨rfl, rfl, rows_same⟩, trivial⟩, rfl, ⟨rfl, rfl⟩, ⟨rfl, rfl⟩, rfl, rfl, ⟨rfl, rfl⟩, ⟨rfl, rfl⟩, rfl, rfl, trivial⟩
  · replace h := condT h
    conv => whnf
    refine Choice.old ?_
    conv => whnf
    refine Take.all (rfl) ?_
    conv => whnf
    obtain ⟨y311, e312, h⟩ := bind_ex h
    refine CallOk.of (impl_DescendOnce_ct e312) ?_
    conv => whnf
    refine spl (fun g313 => ?_) (fun g313 => ?_)
    · replace h := iteT h g313
      conv => whnf
      exact CutK.piece (laws_FnExactDescendOnce_p7_ct  h) [some 128, some 384, some 576, some 640, some 1094000, some 1094001, some 2368] [] ⟨⟨rfl, rfl⟩, ⟨rfl, ⟨rfl, rfl, trivial⟩, ⟨rfl, ⟨rfl, rfl⟩, trivial⟩, ⟨rfl, ⟨rfl, rfl⟩, trivial⟩, ⟨rfl, ⟨rfl, rfl⟩, trivial⟩, ⟨rfl, rfl, rows_same⟩, ⟨rfl, rfl, rows_same⟩, ⟨rfl, rfl, rows_same⟩, trivial⟩, rfl, ⟨rfl, rfl⟩, ⟨rfl, rfl⟩, rfl, rfl, ⟨rfl, rfl⟩, ⟨rfl, rfl⟩, rfl, rfl, trivial⟩
    · replace h := iteF h g313
      conv => whnf
      exact CutK.piece (laws_FnExactDescendOnce_p7_ct  h) [some 128, some 384, some 576, some 640, some 1094000, some 1094001, some 2368] [] ⟨⟨rfl, rfl⟩, ⟨rfl, ⟨rfl, rfl, trivial⟩, ⟨rfl, ⟨rfl, rfl⟩, trivial⟩, ⟨rfl, ⟨rfl, rfl⟩, trivial⟩, ⟨rfl, ⟨rfl, rfl⟩, trivial⟩, ⟨rfl, rfl, rows_same⟩, ⟨rfl, rfl, rows_same⟩, ⟨rfl, rfl, rows_same⟩, trivial⟩, rfl, ⟨rfl, rfl⟩, ⟨rfl, rfl⟩, rfl, rfl, ⟨rfl, rfl⟩, ⟨rfl, rfl⟩, rfl, rfl, trivial⟩
def laws_FnExactDescendOnce_p5 (k : Nat) (a1 : Rw) (a2 : Int) (o12 : Int) (o13 : Rw) (v14 : Bool) : Option Bool :=
  (cond v14 ((laws_toOrdinal k a1).bind fun y316 => (laws_FnExactDescendOnce_p6 k a1 a2 o12 o13 y316 true)) ((laws_toOrdinal k a1).bind fun y314 => (laws_FnExactDescendOnce_p6 k a1 a2 o12 o13 y314 false)))
set_option maxHeartbeats 4000000 in
set_option maxRecDepth 100000 in
theorem laws_FnExactDescendOnce_p5_ct {k : Nat} {a1 : Rw} {a2 : Int} {o12 : Int} {o13 : Rw} {v14 : Bool} {r : Bool} (h : laws_FnExactDescendOnce_p5 k a1 a2 o12 o13 v14 = some r) : X prog 0 (tlF f5 5) (mk 122 [(1, .d (D.int .i64 a2)), (2, .ptr 128 0), (6, .ptr 384 0), (7, .d (D.int .i64 o12)), (8, .d (D.bool v14))] [(128, .box 36 [.d (D.sl a1)]), (384, .box 26 [.os 1089000 o13.length]), (1089000, .arr 98 true o13)]) (finK prog f5 0 (.d (D.bool r)) (⟨[], []⟩)) := by
  rw [laws_FnExactDescendOnce_p5] at h
  cases v14
  · replace h := condF h
    conv => whnf
    obtain ⟨y314, e315, h⟩ := bind_ex h
    refine CallOk.of (laws_toOrdinal_ct e315) ?_
    conv => whnf
    exact CutK.piece (laws_FnExactDescendOnce_p6_ct  h) [some 128, some 384, some 576, some 1089000, some 2112] [] ⟨⟨rfl, rfl⟩, ⟨rfl, ⟨rfl, rfl, trivial⟩, ⟨rfl, ⟨rfl, rfl⟩, trivial⟩, ⟨rfl, ⟨rfl, rfl⟩, trivial⟩, ⟨rfl, rfl, rows_same⟩, ⟨rfl, rfl, rows_same⟩, trivial⟩, rfl, ⟨rfl, rfl⟩, ⟨rfl, rfl⟩, rfl, rfl, ⟨rfl, rfl⟩, trivial⟩
  · replace h := condT h
    conv => whnf
    obtain ⟨y316, e317, h⟩ := bind_ex h
    refine CallOk.of (laws_toOrdinal_ct e317) ?_
    conv => whnf
    exact CutK.piece (laws_FnExactDescendOnce_p6_ct  h) [some 128, some 384, some 576, some 1089000, some 2112] [] ⟨⟨rfl, rfl⟩, ⟨rfl, ⟨rfl, rfl, trivial⟩, ⟨rfl, ⟨rfl, rfl⟩, trivial⟩, ⟨rfl, ⟨rfl, rfl⟩, trivial⟩, ⟨rfl, rfl, rows_same⟩, ⟨rfl, rfl, rows_same⟩, trivial⟩, rfl, ⟨rfl, rfl⟩, ⟨rfl, rfl⟩, rfl, rfl, ⟨rfl, rfl⟩, trivial⟩
def laws_FnExactDescendOnce_p3 (k : Nat) (a1 : Rw) (a2 : Int) (o5 : Int) : Option Bool :=
  (if o5 < (0 : Int) then some true else ((laws_toOrdinal k a1).bind fun y319 => ((spec_DescendOnce k y319 a2).bind fun y321 => (if y321.2.2 = true then (laws_FnExactDescendOnce_p5 k a1 a2 y321.2.1 y321.1 true) else (laws_FnExactDescendOnce_p5 k a1 a2 y321.2.1 y321.1 false)))))
set_option maxHeartbeats 4000000 in
set_option maxRecDepth 100000 in
theorem laws_FnExactDescendOnce_p3_ct {k : Nat} {a1 : Rw} {a2 : Int} {o5 : Int} {r : Bool} (h : laws_FnExactDescendOnce_p3 k a1 a2 o5 = some r) : X prog 0 (tlF f5 3) (mk 122 [(1, .d (D.int .i64 a2)), (2, .ptr 128 0), (5, .d (D.int .i64 o5))] [(128, .box 36 [.d (D.sl a1)])]) (finK prog f5 0 (.d (D.bool r)) (⟨[], []⟩)) := by
  rw [laws_FnExactDescendOnce_p3] at h
  conv => whnf
  refine splD (fun g318 => ?_) (fun g318 => ?_)
  · replace h := iteP h g318
    conv => whnf
    cases h
    exact Done.of [] [] rfl rfl ⟨⟨rfl, rfl⟩, ⟨rfl, trivial⟩, rfl, trivial⟩
  · replace h := iteN h g318
    conv => whnf
    obtain ⟨y319, e320, h⟩ := bind_ex h
    refine CallOk.of (laws_toOrdinal_ct e320) ?_
    conv => whnf
    refine Choice.old ?_
    conv => whnf
    refine Take.all (rfl) ?_
    conv => whnf
    obtain ⟨y321, e322, h⟩ := bind_ex h
    refine CallOk.of (spec_DescendOnce_ct e322) ?_
    conv => whnf
    refine spl (fun g323 => ?_) (fun g323 => ?_)
    · replace h := iteT h g323
      conv => whnf
      exact CutK.piece (laws_FnExactDescendOnce_p5_ct  h) [some 128, some 384, some 1792] [] ⟨⟨rfl, rfl⟩, ⟨rfl, ⟨rfl, rfl, trivial⟩, ⟨rfl, ⟨rfl, rfl⟩, trivial⟩, ⟨rfl, rfl, rows_same⟩, trivial⟩, rfl, ⟨rfl, rfl⟩, ⟨rfl, rfl⟩, rfl, rfl, trivial⟩
    · replace h := iteF h g323
      conv => whnf
      exact CutK.piece (laws_FnExactDescendOnce_p5_ct  h) [some 128, some 384, some 1792] [] ⟨⟨rfl, rfl⟩, ⟨rfl, ⟨rfl, rfl, trivial⟩, ⟨rfl, ⟨rfl, rfl⟩, trivial⟩, ⟨rfl, rfl, rows_same⟩, trivial⟩, rfl, ⟨rfl, rfl⟩, ⟨rfl, rfl⟩, rfl, rfl, trivial⟩
def laws_FnExactDescendOnce (k : Nat) (a1 : Rw) (a2 : Int) : Option Bool :=
  ((laws_szOrdinal k a1 1048576).bind fun y324 => (laws_FnExactDescendOnce_p3 k a1 a2 y324))
set_option maxHeartbeats 4000000 in
set_option maxRecDepth 100000 in
theorem laws_FnExactDescendOnce_ct {k : Nat} {a1 : Rw} {a2 : Int} {r : Bool} (h : laws_FnExactDescendOnce k a1 a2 = some r) : Ct prog 5 [.agg [.d (D.sl a1)], .d (D.int .i64 a2)] (⟨[], []⟩) (.d (D.bool r)) (⟨[], []⟩) := by
  rw [laws_FnExactDescendOnce] at h
  refine Ct.of (c := _) mixed func5 ⟨rfl, rfl, rfl⟩ ?_ rfl
  conv => whnf
  obtain ⟨y324, e325, h⟩ := bind_ex h
  refine CallOk.of (laws_szOrdinal_ct e325) ?_
  conv => whnf
  exact CutK.piece (laws_FnExactDescendOnce_p3_ct  h) [some 128] [] ⟨⟨rfl, rfl⟩, ⟨rfl, ⟨rfl, rfl, trivial⟩, trivial⟩, rfl, ⟨rfl, rfl⟩, rfl, trivial⟩
end
end Go.Proofs.Try
