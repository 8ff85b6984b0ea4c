/- Printed by program (axgen): pure functions, and that the Go functions compute them. -/
import Derived.Test.YteafgkfaclhgkaaDoorSW0
set_option linter.unusedVariables false
set_option linter.unusedSimpArgs false
namespace Go.Proofs.Tryd
open Go Go.AX
noncomputable section
def spec_l1Cur_spoilt_p2 (o95 : ByteArray) (o96 : Rw) (o97 : Int) (o98 : Int) : Option (ByteArray × Rw × Int × Int) :=
  some (o95, o96, o97, o98)
set_option maxHeartbeats 4000000 in
set_option maxRecDepth 100000 in
theorem spec_l1Cur_spoilt_p2_ct {o95 : ByteArray} {o96 : Rw} {o97 : Int} {o98 : Int} {r : ByteArray × Rw × Int × Int} (h : spec_l1Cur_spoilt_p2 o95 o96 o97 o98 = some r) : X prog 1 (tlF f15 2) (mk 68 [(1, .d (D.str o95))] [(0, .box 38 [.d (D.sl o96), .d (D.int .i64 o97), .d (D.int .u64 o98)])]) (finK prog f15 1 (.d (D.str r.1)) (⟨[(38, [.d (D.sl r.2.1), .d (D.int .i64 r.2.2.1), .d (D.int .u64 r.2.2.2)])], []⟩)) := by
  rw [spec_l1Cur_spoilt_p2] at h
  conv => whnf
  cases h
  exact Done.of [some 0] [] rfl rfl ⟨⟨rfl, rfl⟩, ⟨rfl, ⟨rfl, rfl, rfl, rfl, trivial⟩, trivial⟩, rfl, trivial⟩
def spec_l1Cur_spoilt_l0 (a5 : ByteArray) (K0 : ByteArray → Rw → Int → Int → Option (ByteArray × Rw × Int × Int)) : Nat → ByteArray → Int → Rw → Int → Int → Option (ByteArray × Rw × Int × Int)
  | 0, _, _, _, _, _ => none
  | n + 1, v119, v120, v121, v122, v123 => (if (0 : Int) < v120 then (if (0 : Int) < (v119.size : Int) then ((spec_l1Cur_pick v121 v122 v123 (v119.size : Int)).bind fun y190 => ((spec_l1Cur_pick y190.2.1 y190.2.2.1 y190.2.2.2 (a5.size : Int)).bind fun y192 => (byteD a5 y192.1 fun b194 => ((strD ([[D.int .u8 (b194.toNat : Int)]] : Rw)).bind fun y197 => ((spec_l1Cur_pick y192.2.1 y192.2.2.1 y192.2.2.2 3).bind fun y199 => (if y199.1 = (0 : Int) then (if 0 ≤ (0 : Int) ∧ (0 : Int) ≤ y190.1 ∧ y190.1 ≤ (v119.size : Int) then (if (v119.extract (0 : Int).toNat (y190.1 : Int).toNat).size + y197.size ≤ 9223372036854775807 then (if 0 ≤ y190.1 ∧ y190.1 ≤ (v119.size : Int) ∧ (v119.size : Int) ≤ (v119.size : Int) then (if ((v119.extract (0 : Int).toNat (y190.1 : Int).toNat) ++ y197).size + (v119.extract (y190.1 : Int).toNat ((v119.size : Int) : Int).toNat).size ≤ 9223372036854775807 then (spec_l1Cur_spoilt_l0 a5 K0 n (((v119.extract (0 : Int).toNat (y190.1 : Int).toNat) ++ y197) ++ (v119.extract (y190.1 : Int).toNat ((v119.size : Int) : Int).toNat)) (IntKind.i64.wrap (v120 - 1)) y199.2.1 y199.2.2.1 y199.2.2.2) else none) else none) else none) else none) else (if y199.1 = (1 : Int) then (if 0 ≤ (0 : Int) ∧ (0 : Int) ≤ y190.1 ∧ y190.1 ≤ (v119.size : Int) then (if (v119.extract (0 : Int).toNat (y190.1 : Int).toNat).size + y197.size ≤ 9223372036854775807 then (if 0 ≤ (IntKind.i64.wrap (y190.1 + 1)) ∧ (IntKind.i64.wrap (y190.1 + 1)) ≤ (v119.size : Int) ∧ (v119.size : Int) ≤ (v119.size : Int) then (if ((v119.extract (0 : Int).toNat (y190.1 : Int).toNat) ++ y197).size + (v119.extract (IntKind.i64.wrap (y190.1 + 1) : Int).toNat ((v119.size : Int) : Int).toNat).size ≤ 9223372036854775807 then (spec_l1Cur_spoilt_l0 a5 K0 n (((v119.extract (0 : Int).toNat (y190.1 : Int).toNat) ++ y197) ++ (v119.extract (IntKind.i64.wrap (y190.1 + 1) : Int).toNat ((v119.size : Int) : Int).toNat)) (IntKind.i64.wrap (v120 - 1)) y199.2.1 y199.2.2.1 y199.2.2.2) else none) else none) else none) else none) else (if 0 ≤ (0 : Int) ∧ (0 : Int) ≤ y190.1 ∧ y190.1 ≤ (v119.size : Int) then (if 0 ≤ (IntKind.i64.wrap (y190.1 + 1)) ∧ (IntKind.i64.wrap (y190.1 + 1)) ≤ (v119.size : Int) ∧ (v119.size : Int) ≤ (v119.size : Int) then (if (v119.extract (0 : Int).toNat (y190.1 : Int).toNat).size + (v119.extract (IntKind.i64.wrap (y190.1 + 1) : Int).toNat ((v119.size : Int) : Int).toNat).size ≤ 9223372036854775807 then (spec_l1Cur_spoilt_l0 a5 K0 n ((v119.extract (0 : Int).toNat (y190.1 : Int).toNat) ++ (v119.extract (IntKind.i64.wrap (y190.1 + 1) : Int).toNat ((v119.size : Int) : Int).toNat)) (IntKind.i64.wrap (v120 - 1)) y199.2.1 y199.2.2.1 y199.2.2.2) else none) else none) else none)))))))) else (K0 v119 v121 v122 v123)) else (K0 v119 v121 v122 v123))
set_option maxHeartbeats 4000000 in
set_option maxRecDepth 100000 in
theorem spec_l1Cur_spoilt_l0_ct {a5 : ByteArray} {K0 : ByteArray → Rw → Int → Int → Option (ByteArray × Rw × Int × Int)} {r : ByteArray × Rw × Int × Int} : ∀ (n : Nat) (v119 : ByteArray) (v120 : Int) (v121 : Rw) (v122 : Int) (v123 : Int), spec_l1Cur_spoilt_l0 a5 K0 n v119 v120 v121 v122 v123 = some r → LoopOk prog 1 (lp f15 0) (mk 68 [(0, .ptr 0 0), (1, .d (D.str v119)), (2, .d (D.str a5)), (7, .d (D.int .i64 v120))] [(0, .box 38 [.d (D.sl v121), .d (D.int .i64 v122), .d (D.int .u64 v123)])]) (LoopEnd prog f15 1 68 (.d (D.str r.1)) (⟨[(38, [.d (D.sl r.2.1), .d (D.int .i64 r.2.2.1), .d (D.int .u64 r.2.2.2)])], []⟩) (fun i ts os => (i = 0 ∧ ∃ v158 : ByteArray, ∃ v159 : Rw, ∃ v160 : Int, ∃ v161 : Int, K0 v158 v159 v160 v161 = some r ∧ ts = [(1, .d (D.str v158))] ∧ os = [(0, .box 38 [.d (D.sl v159), .d (D.int .i64 v160), .d (D.int .u64 v161)])])))
  | 0, _, _, _, _, _, h => by
      rw [spec_l1Cur_spoilt_l0] at h; cases h
  | n + 1, v119, v120, v121, v122, v123, h => by
      rw [spec_l1Cur_spoilt_l0] at h
      refine LoopOk.step ?_
      conv => whnf
      refine splD (fun g188 => ?_) (fun g188 => ?_)
      · replace h := iteP h g188
        conv => whnf
        refine splD (fun g189 => ?_) (fun g189 => ?_)
        · replace h := iteP h g189
          conv => whnf
          refine Pick.no ?_
          conv => whnf
          obtain ⟨y190, e191, h⟩ := bind_ex h
          refine CallOk.of (spec_l1Cur_pick_ct e191) ?_
          conv => whnf
          refine CutK.norm [0, 1, 2, 7, 8] [0] ?_
          conv => whnf
          refine Pick.no ?_
          conv => whnf
          obtain ⟨y192, e193, h⟩ := bind_ex h
          refine CallOk.of (spec_l1Cur_pick_ct e193) ?_
          conv => whnf
          obtain ⟨g195, b194, e196, h⟩ := byteD_ex h
          refine Req.of g195 ?_
          refine Byte.of _ e196 ?_
          conv => whnf
          obtain ⟨y197, e198, h⟩ := bind_ex h
          refine StrOk.of e198 (by first | rfl | exact List.length_append.symm | (simp; done) | omega) ?_
          conv => whnf
          refine CutK.norm [0, 1, 2, 7, 8, 9] [0] ?_
          conv => whnf
          refine Pick.no ?_
          conv => whnf
          obtain ⟨y199, e200, h⟩ := bind_ex h
          refine CallOk.of (spec_l1Cur_pick_ct e200) ?_
          conv => whnf
          refine CutK.norm [0, 1, 2, 7, 8, 9, 35] [0] ?_
          conv => whnf
          refine splD (fun g201 => ?_) (fun g201 => ?_)
          · replace h := iteP h g201
            conv => whnf
            obtain ⟨g202, h⟩ := req_ex h
            refine Req.of g202 ?_
            conv => whnf
            obtain ⟨g203, h⟩ := req_ex h
            refine Req.of g203 ?_
            conv => whnf
            obtain ⟨g204, h⟩ := req_ex h
            refine Req.of g204 ?_
            conv => whnf
            obtain ⟨g205, h⟩ := req_ex h
            refine Req.of g205 ?_
            conv => whnf
            refine CutK.norm [0, 1, 2, 7] [0] ?_
            conv => whnf
            exact LoopOk.back (spec_l1Cur_spoilt_l0_ct  n _ _ _ _ _ h) [some 0] [] ⟨⟨rfl, rfl⟩, ⟨rfl, ⟨rfl, rfl, rfl, rfl, trivial⟩, trivial⟩, ⟨rfl, rfl⟩, rfl, rfl, rfl, trivial⟩
          · replace h := iteN h g201
            conv => whnf
            refine splD (fun g206 => ?_) (fun g206 => ?_)
            · replace h := iteP h g206
              conv => whnf
              obtain ⟨g207, h⟩ := req_ex h
              refine Req.of g207 ?_
              conv => whnf
              obtain ⟨g208, h⟩ := req_ex h
              refine Req.of g208 ?_
              conv => whnf
              obtain ⟨g209, h⟩ := req_ex h
              refine Req.of g209 ?_
              conv => whnf
              obtain ⟨g210, h⟩ := req_ex h
              refine Req.of g210 ?_
              conv => whnf
              refine CutK.norm [0, 1, 2, 7] [0] ?_
              conv => whnf
              exact LoopOk.back (spec_l1Cur_spoilt_l0_ct  n _ _ _ _ _ h) [some 0] [] ⟨⟨rfl, rfl⟩, ⟨rfl, ⟨rfl, rfl, rfl, rfl, trivial⟩, trivial⟩, ⟨rfl, rfl⟩, rfl, rfl, rfl, trivial⟩
            · replace h := iteN h g206
              conv => whnf
              obtain ⟨g211, h⟩ := req_ex h
              refine Req.of g211 ?_
              conv => whnf
              obtain ⟨g212, h⟩ := req_ex h
              refine Req.of g212 ?_
              conv => whnf
              obtain ⟨g213, h⟩ := req_ex h
              refine Req.of g213 ?_
              conv => whnf
              refine CutK.norm [0, 1, 2, 7] [0] ?_
              conv => whnf
              exact LoopOk.back (spec_l1Cur_spoilt_l0_ct  n _ _ _ _ _ h) [some 0] [] ⟨⟨rfl, rfl⟩, ⟨rfl, ⟨rfl, rfl, rfl, rfl, trivial⟩, trivial⟩, ⟨rfl, rfl⟩, rfl, rfl, rfl, trivial⟩
        · replace h := iteN h g189
          conv => whnf
          exact ⟨_, _, [some 0], [], ⟨rfl, _, _, _, _, h, rfl, rfl⟩, ⟨⟨rfl, rfl⟩, ⟨rfl, ⟨rfl, rfl, rfl, rfl, trivial⟩, trivial⟩, rfl, trivial⟩⟩
      · replace h := iteN h g188
        conv => whnf
        exact ⟨_, _, [some 0], [], ⟨rfl, _, _, _, _, h, rfl, rfl⟩, ⟨⟨rfl, rfl⟩, ⟨rfl, ⟨rfl, rfl, rfl, rfl, trivial⟩, trivial⟩, rfl, trivial⟩⟩
def spec_l1Cur_spoilt (k : Nat) (a1 : Rw) (a2 : Int) (a3 : Int) (a4 : ByteArray) (a5 : ByteArray) : Option (ByteArray × Rw × Int × Int) :=
  ((spec_l1Cur_pick a1 a2 a3 2).bind fun y99 => (spec_l1Cur_spoilt_l0 a5 (fun (v158 : ByteArray) (v159 : Rw) (v160 : Int) (v161 : Int) => (spec_l1Cur_spoilt_p2 v158 v159 v160 v161)) k a4 (IntKind.i64.wrap (1 + y99.1)) y99.2.1 y99.2.2.1 y99.2.2.2))
set_option maxHeartbeats 4000000 in
set_option maxRecDepth 100000 in
theorem spec_l1Cur_spoilt_ct {k : Nat} {a1 : Rw} {a2 : Int} {a3 : Int} {a4 : ByteArray} {a5 : ByteArray} {r : ByteArray × Rw × Int × Int} (h : spec_l1Cur_spoilt k a1 a2 a3 a4 a5 = some r) : Ct prog 15 [.ptr 0 0, .d (D.str a4), .d (D.str a5)] (⟨[(38, [.d (D.sl a1), .d (D.int .i64 a2), .d (D.int .u64 a3)])], []⟩) (.d (D.str r.1)) (⟨[(38, [.d (D.sl r.2.1), .d (D.int .i64 r.2.2.1), .d (D.int .u64 r.2.2.2)])], []⟩) := by
  rw [spec_l1Cur_spoilt] at h
  refine Ct.of (c := _) mixed func15 ⟨rfl, rfl, rfl⟩ ?_ rfl
  conv => whnf
  refine Pick.no ?_
  conv => whnf
  obtain ⟨y99, e100, h⟩ := bind_ex h
  refine CallOk.of (spec_l1Cur_pick_ct e100) ?_
  conv => whnf
  refine CutK.norm [0, 1, 2, 7] [0] ?_
  conv => whnf
  refine LoopOk.into (spec_l1Cur_spoilt_l0_ct  _ _ _ _ _ _ h) [some 0] [] ⟨⟨rfl, rfl⟩, ⟨rfl, ⟨rfl, rfl, rfl, rfl, trivial⟩, trivial⟩, ⟨rfl, rfl⟩, rfl, rfl, rfl, trivial⟩ ?_ (fun _ hs => hs)
  rintro i ts os ⟨rfl, v158, v159, v160, v161, h, rfl, rfl⟩
  conv => whnf
  exact CutK.piece (spec_l1Cur_spoilt_p2_ct  h) [some 0] [] ⟨⟨rfl, rfl⟩, ⟨rfl, ⟨rfl, rfl, rfl, rfl, trivial⟩, trivial⟩, rfl, trivial⟩

def spec_DrawFromWord (k : Nat) (a1 : Rw) : Option ByteArray :=
  ((spec_l1Cur_among a1 0 0 ([[D.int .i64 3], [D.int .i64 8], [D.int .i64 20], [D.int .i64 21]] : Rw)).bind fun y2 => ((spec_l1Cur_word k y2.2.1 y2.2.2.1 y2.2.2.2 y2.1).bind fun y4 => ((spec_l1Cur_one y4.2.1 y4.2.2.1 y4.2.2.2 8).bind fun y6 => (if y6.1 = true then (if y4.1.size + (ByteArray.mk #[43]).size ≤ 9223372036854775807 then ((spec_l1Cur_spoilt k y6.2.1 y6.2.2.1 y6.2.2.2 (y4.1 ++ (ByteArray.mk #[43])) (ByteArray.mk #[43, 45, 48, 32, 120])).bind fun y10 => some y10.1) else none) else some y4.1))))
set_option maxHeartbeats 4000000 in
set_option maxRecDepth 100000 in
theorem spec_DrawFromWord_ct {k : Nat} {a1 : Rw} {r : ByteArray} (h : spec_DrawFromWord k a1 = some r) : Ct prog 5 [.d (D.sl a1)] (⟨[], []⟩) (.d (D.str r)) (⟨[], []⟩) := by
  rw [spec_DrawFromWord] at h
  refine Ct.of (c := _) mixed func5 ⟨rfl, rfl, rfl⟩ ?_ rfl
  conv => whnf
  refine Pick.no ?_
  conv => whnf
  refine Take.all (by first | rfl | exact List.length_append.symm | (simp; done) | omega) ?_
  conv => whnf
  obtain ⟨y2, e3, h⟩ := bind_ex h
  refine CallOk.of (spec_l1Cur_among_ct e3) ?_
  conv => whnf
  refine Pick.no ?_
  conv => whnf
  obtain ⟨y4, e5, h⟩ := bind_ex h
  refine CallOk.of (spec_l1Cur_word_ct e5) ?_
  conv => whnf
  refine CutK.go ?_
  conv => whnf
  refine Pick.no ?_
  conv => whnf
  obtain ⟨y6, e7, h⟩ := bind_ex h
  refine CallOk.of (spec_l1Cur_one_ct e7) ?_
  conv => whnf
  refine spl (fun g8 => ?_) (fun g8 => ?_)
  · replace h := iteT h g8
    conv => whnf
    refine CutK.go ?_
    conv => whnf
    obtain ⟨g9, h⟩ := req_ex h
    refine Req.of g9 ?_
    conv => whnf
    refine Pick.no ?_
    conv => whnf
    obtain ⟨y10, e11, h⟩ := bind_ex h
    refine CallOk.of (spec_l1Cur_spoilt_ct e11) ?_
    conv => whnf
    refine CutK.go ?_
    conv => whnf
    cases h
    exact Done.of [] [] rfl rfl ⟨⟨rfl, rfl⟩, ⟨rfl, trivial⟩, rfl, trivial⟩
  · replace h := iteF h g8
    conv => whnf
    refine CutK.go ?_
    conv => whnf
    refine CutK.go ?_
    conv => whnf
    cases h
    exact Done.of [] [] rfl rfl ⟨⟨rfl, rfl⟩, ⟨rfl, trivial⟩, rfl, trivial⟩

def laws_big  (a1 : Rw) (a2 : Rw) : Option Bool :=
  (if (1048576 : Int) < (a1.length : Int) then some true else (if (IntKind.i64.wrap (1048576 - (a1.length : Int))) < (a2.length : Int) then some true else some false))
set_option maxHeartbeats 4000000 in
set_option maxRecDepth 100000 in
theorem laws_big_ct  {a1 : Rw} {a2 : Rw} {r : Bool} (h : laws_big a1 a2 = some r) : Ct prog 4 [.d (D.sl a1), .d (D.sl a2)] (⟨[], []⟩) (.d (D.bool r)) (⟨[], []⟩) := by
  rw [laws_big] at h
  refine Ct.of (c := _) mixed func4 ⟨rfl, rfl, rfl⟩ ?_ rfl
  conv => whnf
  refine splD (fun g3 => ?_) (fun g3 => ?_)
  · replace h := iteP h g3
    conv => whnf
    cases h
    exact Done.of [] [] rfl rfl ⟨⟨rfl, rfl⟩, ⟨rfl, trivial⟩, rfl, trivial⟩
  · replace h := iteN h g3
    conv => whnf
    refine splD (fun g4 => ?_) (fun g4 => ?_)
    · replace h := iteP h g4
      conv => whnf
      cases h
      exact Done.of [] [] rfl rfl ⟨⟨rfl, rfl⟩, ⟨rfl, trivial⟩, rfl, trivial⟩
    · replace h := iteN h g4
      conv => whnf
      cases h
      exact Done.of [] [] rfl rfl ⟨⟨rfl, rfl⟩, ⟨rfl, trivial⟩, rfl, trivial⟩

def laws_FnShortWords_p17 (o160 : Int) (o161 : Int) : Option Bool :=
  (if (0 : Int) < o161 then (if (0 : Int) < o160 then some true else (if o161 < (0 : Int) then none else (if o161 = (0 : Int) then none else some false))) else (if o161 < (0 : Int) then (if o160 < (0 : Int) then some true else (if o161 = (0 : Int) then none else some false)) else (if o161 = (0 : Int) then (if o160 = (0 : Int) then some true else some false) else none)))
set_option maxHeartbeats 4000000 in
set_option maxRecDepth 100000 in
theorem laws_FnShortWords_p17_ct {o160 : Int} {o161 : Int} {r : Bool} (h : laws_FnShortWords_p17 o160 o161 = some r) : X prog 0 (tlF f3 17) (mk 155 [(15, .d (D.int .i64 o160)), (22, .d (D.int .i64 o161))] []) (finK prog f3 0 (.d (D.bool r)) (⟨[], []⟩)) := by
  rw [laws_FnShortWords_p17] at h
  conv => whnf
  refine splD (fun g171 => ?_) (fun g171 => ?_)
  · replace h := iteP h g171
    conv => whnf
    refine splD (fun g172 => ?_) (fun g172 => ?_)
    · replace h := iteP h g172
      conv => whnf
      cases h
      exact Done.of [] [] rfl rfl ⟨⟨rfl, rfl⟩, ⟨rfl, trivial⟩, rfl, trivial⟩
    · replace h := iteN h g172
      conv => whnf
      refine splD (fun g173 => ?_) (fun g173 => ?_)
      · replace h := iteP h g173
        exfalso; omega
      · replace h := iteN h g173
        conv => whnf
        refine splD (fun g174 => ?_) (fun g174 => ?_)
        · replace h := iteP h g174
          exfalso; omega
        · replace h := iteN h g174
          conv => whnf
          cases h
          exact Done.of [] [] rfl rfl ⟨⟨rfl, rfl⟩, ⟨rfl, trivial⟩, rfl, trivial⟩
  · replace h := iteN h g171
    conv => whnf
    refine splD (fun g175 => ?_) (fun g175 => ?_)
    · replace h := iteP h g175
      conv => whnf
      refine splD (fun g176 => ?_) (fun g176 => ?_)
      · replace h := iteP h g176
        conv => whnf
        cases h
        exact Done.of [] [] rfl rfl ⟨⟨rfl, rfl⟩, ⟨rfl, trivial⟩, rfl, trivial⟩
      · replace h := iteN h g176
        conv => whnf
        refine splD (fun g177 => ?_) (fun g177 => ?_)
        · replace h := iteP h g177
          exfalso; omega
        · replace h := iteN h g177
          conv => whnf
          cases h
          exact Done.of [] [] rfl rfl ⟨⟨rfl, rfl⟩, ⟨rfl, trivial⟩, rfl, trivial⟩
    · replace h := iteN h g175
      conv => whnf
      refine splD (fun g178 => ?_) (fun g178 => ?_)
      · replace h := iteP h g178
        conv => whnf
        refine splD (fun g179 => ?_) (fun g179 => ?_)
        · replace h := iteP h g179
          conv => whnf
          cases h
          exact Done.of [] [] rfl rfl ⟨⟨rfl, rfl⟩, ⟨rfl, trivial⟩, rfl, trivial⟩
        · replace h := iteN h g179
          conv => whnf
          cases h
          exact Done.of [] [] rfl rfl ⟨⟨rfl, rfl⟩, ⟨rfl, trivial⟩, rfl, trivial⟩
      · replace h := iteN h g178
        exfalso; omega
def laws_FnShortWords_p15 (o141 : ByteArray) (o142 : ByteArray) (o143 : Int) (o144 : Int) (o145 : Int) (o146 : Int) (o147 : Int) (o148 : Int) (v149 : Bool) (v154 : Bool) : Option Bool :=
  (cond v149 (cond v154 (if (!(decide (o145 = o147) && (decide (o146 = o148) && true))) = true then some false else ((laws_qLetter o141 o144).bind fun y181 => ((laws_qLetter o142 o144).bind fun y183 => (laws_FnShortWords_p17 o143 (IntKind.i64.wrap (y181 - y183)))))) (some false)) (cond v154 (some false) (some false)))
set_option maxHeartbeats 4000000 in
set_option maxRecDepth 100000 in
theorem laws_FnShortWords_p15_ct {o141 : ByteArray} {o142 : ByteArray} {o143 : Int} {o144 : Int} {o145 : Int} {o146 : Int} {o147 : Int} {o148 : Int} {v149 : Bool} {v154 : Bool} {r : Bool} (h : laws_FnShortWords_p15 o141 o142 o143 o144 o145 o146 o147 o148 v149 v154 = some r) : X prog 0 (tlF f3 15) (mk 155 [(5, .d (D.str o141)), (6, .d (D.str o142)), (15, .d (D.int .i64 o143)), (17, .d (D.int .i64 o144)), (18, .ptr 1152 0), (19, .d (D.bool v154)), (20, .ptr 1280 0), (21, .d (D.bool v149))] [(1152, .box 26 [.d (D.int .i64 o145), .d (D.int .i64 o146)]), (1280, .box 26 [.d (D.int .i64 o147), .d (D.int .i64 o148)])]) (finK prog f3 0 (.d (D.bool r)) (⟨[], []⟩)) := by
  rw [laws_FnShortWords_p15] at h
  cases v149
  · replace h := condF h
    cases v154
    · replace h := condF h
      conv => whnf
      cases h
      exact Done.of [] [] rfl rfl ⟨⟨rfl, rfl⟩, ⟨rfl, trivial⟩, rfl, trivial⟩
    · replace h := condT h
      conv => whnf
      cases h
      exact Done.of [] [] rfl rfl ⟨⟨rfl, rfl⟩, ⟨rfl, trivial⟩, rfl, trivial⟩
  · replace h := condT h
    cases v154
    · replace h := condF h
      conv => whnf
      cases h
      exact Done.of [] [] rfl rfl ⟨⟨rfl, rfl⟩, ⟨rfl, trivial⟩, rfl, trivial⟩
    · replace h := condT h
      conv => whnf
      refine Req.of ⟨by kernel_rfl, by kernel_rfl⟩ ?_
      conv => whnf
      refine spl (fun g180 => ?_) (fun g180 => ?_)
      · replace h := iteT h g180
        conv => whnf
        cases h
        exact Done.of [] [] rfl rfl ⟨⟨rfl, rfl⟩, ⟨rfl, trivial⟩, rfl, trivial⟩
      · replace h := iteF h g180
        conv => whnf
        refine Pick.no ?_
        conv => whnf
        obtain ⟨y181, e182, h⟩ := bind_ex h
        refine CallOk.of (laws_qLetter_ct e182) ?_
        conv => whnf
        refine Pick.no ?_
        conv => whnf
        obtain ⟨y183, e184, h⟩ := bind_ex h
        refine CallOk.of (laws_qLetter_ct e184) ?_
        conv => whnf
        exact CutK.piece (laws_FnShortWords_p17_ct  h) [] [] ⟨⟨rfl, rfl⟩, ⟨rfl, trivial⟩, rfl, rfl, trivial⟩
def laws_FnShortWords_p14 (k : Nat) (o130 : ByteArray) (o131 : ByteArray) (o132 : Int) (o133 : Int) (o134 : Int) (o135 : Int) (v136 : Bool) : Option Bool :=
  (cond v136 (if 0 ≤ (0 : Int) ∧ (0 : Int) ≤ o133 ∧ o133 ≤ (o130.size : Int) then ((impl_FromWord k (o130.extract (0 : Int).toNat (o133 : Int).toNat)).bind fun y190 => (if y190.2.2 = true then (laws_FnShortWords_p15 o130 o131 o132 o133 o134 o135 y190.1 y190.2.1 true true) else (laws_FnShortWords_p15 o130 o131 o132 o133 o134 o135 y190.1 y190.2.1 false true))) else none) (if 0 ≤ (0 : Int) ∧ (0 : Int) ≤ o133 ∧ o133 ≤ (o130.size : Int) then ((impl_FromWord k (o130.extract (0 : Int).toNat (o133 : Int).toNat)).bind fun y186 => (if y186.2.2 = true then (laws_FnShortWords_p15 o130 o131 o132 o133 o134 o135 y186.1 y186.2.1 true false) else (laws_FnShortWords_p15 o130 o131 o132 o133 o134 o135 y186.1 y186.2.1 false false))) else none))
set_option maxHeartbeats 4000000 in
set_option maxRecDepth 100000 in
theorem laws_FnShortWords_p14_ct {k : Nat} {o130 : ByteArray} {o131 : ByteArray} {o132 : Int} {o133 : Int} {o134 : Int} {o135 : Int} {v136 : Bool} {r : Bool} (h : laws_FnShortWords_p14 k o130 o131 o132 o133 o134 o135 v136 = some r) : X prog 0 (tlF f3 14) (mk 155 [(5, .d (D.str o130)), (6, .d (D.str o131)), (15, .d (D.int .i64 o132)), (17, .d (D.int .i64 o133)), (18, .ptr 1152 0), (19, .d (D.bool v136))] [(1152, .box 26 [.d (D.int .i64 o134), .d (D.int .i64 o135)])]) (finK prog f3 0 (.d (D.bool r)) (⟨[], []⟩)) := by
  rw [laws_FnShortWords_p14] at h
  cases v136
  · replace h := condF h
    conv => whnf
    obtain ⟨g185, h⟩ := req_ex h
    refine Req.of g185 ?_
    conv => whnf
    refine Pick.no ?_
    conv => whnf
    obtain ⟨y186, e187, h⟩ := bind_ex h
    refine CallOk.of (impl_FromWord_ct e187) ?_
    conv => whnf
    refine spl (fun g188 => ?_) (fun g188 => ?_)
    · replace h := iteT h g188
      conv => whnf
      exact CutK.piece (laws_FnShortWords_p15_ct  h) [some 1152, some 1280] [] ⟨⟨rfl, rfl⟩, ⟨rfl, ⟨rfl, rfl, rfl, trivial⟩, ⟨rfl, rfl, rfl, trivial⟩, trivial⟩, rfl, rfl, rfl, rfl, ⟨rfl, rfl⟩, rfl, ⟨rfl, rfl⟩, rfl, trivial⟩
    · replace h := iteF h g188
      conv => whnf
      exact CutK.piece (laws_FnShortWords_p15_ct  h) [some 1152, some 1280] [] ⟨⟨rfl, rfl⟩, ⟨rfl, ⟨rfl, rfl, rfl, trivial⟩, ⟨rfl, rfl, rfl, trivial⟩, trivial⟩, rfl, rfl, rfl, rfl, ⟨rfl, rfl⟩, rfl, ⟨rfl, rfl⟩, rfl, trivial⟩
  · replace h := condT h
    conv => whnf
    obtain ⟨g189, h⟩ := req_ex h
    refine Req.of g189 ?_
    conv => whnf
    refine Pick.no ?_
    conv => whnf
    obtain ⟨y190, e191, h⟩ := bind_ex h
    refine CallOk.of (impl_FromWord_ct e191) ?_
    conv => whnf
    refine spl (fun g192 => ?_) (fun g192 => ?_)
    · replace h := iteT h g192
      conv => whnf
      exact CutK.piece (laws_FnShortWords_p15_ct  h) [some 1152, some 1280] [] ⟨⟨rfl, rfl⟩, ⟨rfl, ⟨rfl, rfl, rfl, trivial⟩, ⟨rfl, rfl, rfl, trivial⟩, trivial⟩, rfl, rfl, rfl, rfl, ⟨rfl, rfl⟩, rfl, ⟨rfl, rfl⟩, rfl, trivial⟩
    · replace h := iteF h g192
      conv => whnf
      exact CutK.piece (laws_FnShortWords_p15_ct  h) [some 1152, some 1280] [] ⟨⟨rfl, rfl⟩, ⟨rfl, ⟨rfl, rfl, rfl, trivial⟩, ⟨rfl, rfl, rfl, trivial⟩, trivial⟩, rfl, rfl, rfl, rfl, ⟨rfl, rfl⟩, rfl, ⟨rfl, rfl⟩, rfl, trivial⟩
def laws_FnShortWords_p13 (k : Nat) (o119 : ByteArray) (o120 : ByteArray) (o121 : Int) (o122 : Int) (o123 : Int) (o124 : Int) (o125 : Int) (o126 : Int) : Option Bool :=
  ((impl_MeetOf k o123 o124 o125 o126).bind fun y193 => (if y193.2.2 = true then (laws_FnShortWords_p14 k o119 o120 o121 o122 y193.1 y193.2.1 true) else (laws_FnShortWords_p14 k o119 o120 o121 o122 y193.1 y193.2.1 false)))
set_option maxHeartbeats 4000000 in
set_option maxRecDepth 100000 in
theorem laws_FnShortWords_p13_ct {k : Nat} {o119 : ByteArray} {o120 : ByteArray} {o121 : Int} {o122 : Int} {o123 : Int} {o124 : Int} {o125 : Int} {o126 : Int} {r : Bool} (h : laws_FnShortWords_p13 k o119 o120 o121 o122 o123 o124 o125 o126 = some r) : X prog 0 (tlF f3 13) (mk 155 [(5, .d (D.str o119)), (6, .d (D.str o120)), (7, .ptr 448 0), (11, .ptr 704 0), (15, .d (D.int .i64 o121)), (17, .d (D.int .i64 o122))] [(448, .box 26 [.d (D.int .i64 o123), .d (D.int .i64 o124)]), (704, .box 26 [.d (D.int .i64 o125), .d (D.int .i64 o126)])]) (finK prog f3 0 (.d (D.bool r)) (⟨[], []⟩)) := by
  rw [laws_FnShortWords_p13] at h
  conv => whnf
  refine Pick.no ?_
  conv => whnf
  obtain ⟨y193, e194, h⟩ := bind_ex h
  refine CallOk.of (impl_MeetOf_ct e194) ?_
  conv => whnf
  refine spl (fun g195 => ?_) (fun g195 => ?_)
  · replace h := iteT h g195
    conv => whnf
    exact CutK.piece (laws_FnShortWords_p14_ct  h) [some 1152] [] ⟨⟨rfl, rfl⟩, ⟨rfl, ⟨rfl, rfl, rfl, trivial⟩, trivial⟩, rfl, rfl, rfl, rfl, ⟨rfl, rfl⟩, rfl, trivial⟩
  · replace h := iteF h g195
    conv => whnf
    exact CutK.piece (laws_FnShortWords_p14_ct  h) [some 1152] [] ⟨⟨rfl, rfl⟩, ⟨rfl, ⟨rfl, rfl, rfl, trivial⟩, trivial⟩, rfl, rfl, rfl, rfl, ⟨rfl, rfl⟩, rfl, trivial⟩
def laws_FnShortWords_l0 (o75 : ByteArray) (o76 : ByteArray) (o78 : Int) (o79 : Int) (o80 : Int) (o81 : Int) (o82 : Int) (K0 : Int → Option Bool) : Nat → Int → Option Bool
  | 0, _ => none
  | n + 1, v207 => (if v207 < (o75.size : Int) then (if v207 < (o76.size : Int) then (byteD o75 v207 fun b229 => (byteD o76 v207 fun b232 => (if (b229.toNat : Int) = (b232.toNat : Int) then (laws_FnShortWords_l0 o75 o76 o78 o79 o80 o81 o82 K0 n (IntKind.i64.wrap (v207 + 1))) else (K0 v207)))) else (K0 v207)) else (K0 v207))
set_option maxHeartbeats 4000000 in
set_option maxRecDepth 100000 in
theorem laws_FnShortWords_l0_ct {o75 : ByteArray} {o76 : ByteArray} {o78 : Int} {o79 : Int} {o80 : Int} {o81 : Int} {o82 : Int} {K0 : Int → Option Bool} {r : Bool} : ∀ (n : Nat) (v207 : Int), laws_FnShortWords_l0 o75 o76 o78 o79 o80 o81 o82 K0 n v207 = some r → LoopOk prog 0 (lp f3 0) (mk 155 [(5, .d (D.str o75)), (6, .d (D.str o76)), (7, .ptr 448 0), (11, .ptr 704 0), (15, .d (D.int .i64 o78)), (17, .d (D.int .i64 v207))] [(448, .box 26 [.d (D.int .i64 o79), .d (D.int .i64 o80)]), (704, .box 26 [.d (D.int .i64 o81), .d (D.int .i64 o82)])]) (LoopEnd prog f3 0 155 (.d (D.bool r)) (⟨[], []⟩) (fun i ts os => (i = 0 ∧ ∃ v217 : Int, K0 v217 = some r ∧ ts = [(5, .d (D.str o75)), (6, .d (D.str o76)), (7, .ptr 448 0), (11, .ptr 704 0), (15, .d (D.int .i64 o78)), (17, .d (D.int .i64 v217))] ∧ os = [(448, .box 26 [.d (D.int .i64 o79), .d (D.int .i64 o80)]), (704, .box 26 [.d (D.int .i64 o81), .d (D.int .i64 o82)])])))
  | 0, _, h => by
      rw [laws_FnShortWords_l0] at h; cases h
  | n + 1, v207, h => by
      rw [laws_FnShortWords_l0] at h
      refine LoopOk.step ?_
      conv => whnf
      refine splD (fun g227 => ?_) (fun g227 => ?_)
      · replace h := iteP h g227
        conv => whnf
        refine splD (fun g228 => ?_) (fun g228 => ?_)
        · replace h := iteP h g228
          conv => whnf
          obtain ⟨g230, b229, e231, h⟩ := byteD_ex h
          refine Req.of g230 ?_
          refine Byte.of _ e231 ?_
          conv => whnf
          obtain ⟨g233, b232, e234, h⟩ := byteD_ex h
          refine Req.of g233 ?_
          refine Byte.of _ e234 ?_
          conv => whnf
          refine splD (fun g235 => ?_) (fun g235 => ?_)
          · replace h := iteP h g235
            conv => whnf
            exact LoopOk.back (laws_FnShortWords_l0_ct  n _ h) [some 448, some 704] [] ⟨⟨rfl, rfl⟩, ⟨rfl, ⟨rfl, rfl, rfl, trivial⟩, ⟨rfl, rfl, rfl, trivial⟩, trivial⟩, rfl, rfl, ⟨rfl, rfl⟩, ⟨rfl, rfl⟩, rfl, rfl, trivial⟩
          · replace h := iteN h g235
            conv => whnf
            exact ⟨_, _, [some 448, some 704], [], ⟨rfl, _, h, rfl, rfl⟩, ⟨⟨rfl, rfl⟩, ⟨rfl, ⟨rfl, rfl, rfl, trivial⟩, ⟨rfl, rfl, rfl, trivial⟩, trivial⟩, rfl, rfl, ⟨rfl, rfl⟩, ⟨rfl, rfl⟩, rfl, rfl, trivial⟩⟩
        · replace h := iteN h g228
          conv => whnf
          exact ⟨_, _, [some 448, some 704], [], ⟨rfl, _, h, rfl, rfl⟩, ⟨⟨rfl, rfl⟩, ⟨rfl, ⟨rfl, rfl, rfl, trivial⟩, ⟨rfl, rfl, rfl, trivial⟩, trivial⟩, rfl, rfl, ⟨rfl, rfl⟩, ⟨rfl, rfl⟩, rfl, rfl, trivial⟩⟩
      · replace h := iteN h g227
        conv => whnf
        exact ⟨_, _, [some 448, some 704], [], ⟨rfl, _, h, rfl, rfl⟩, ⟨⟨rfl, rfl⟩, ⟨rfl, ⟨rfl, rfl, rfl, trivial⟩, ⟨rfl, rfl, rfl, trivial⟩, trivial⟩, rfl, rfl, ⟨rfl, rfl⟩, ⟨rfl, rfl⟩, rfl, rfl, trivial⟩⟩
def laws_FnShortWords_p10 (k : Nat) (o75 : ByteArray) (o76 : ByteArray) (o77 : ByteArray) (o78 : Int) (o79 : Int) (o80 : Int) (o81 : Int) (o82 : Int) (v83 : Bool) (v87 : Bool) : Option Bool :=
  (cond v83 (cond v87 (if (!(o77.toList == o75.toList)) = true then some false else (laws_FnShortWords_l0 o75 o76 o78 o79 o80 o81 o82 (fun (v217 : Int) => (laws_FnShortWords_p13 k o75 o76 o78 v217 o79 o80 o81 o82)) k 0)) (some false)) (cond v87 (if (!(o77.toList == o75.toList)) = true then some false else some false) (some false)))
set_option maxHeartbeats 4000000 in
set_option maxRecDepth 100000 in
theorem laws_FnShortWords_p10_ct {k : Nat} {o75 : ByteArray} {o76 : ByteArray} {o77 : ByteArray} {o78 : Int} {o79 : Int} {o80 : Int} {o81 : Int} {o82 : Int} {v83 : Bool} {v87 : Bool} {r : Bool} (h : laws_FnShortWords_p10 k o75 o76 o77 o78 o79 o80 o81 o82 v83 v87 = some r) : X prog 0 (tlF f3 10) (mk 155 [(5, .d (D.str o75)), (6, .d (D.str o76)), (7, .ptr 448 0), (11, .ptr 704 0), (13, .d (D.str o77)), (14, .d (D.bool v87)), (15, .d (D.int .i64 o78)), (16, .d (D.bool v83))] [(448, .box 26 [.d (D.int .i64 o79), .d (D.int .i64 o80)]), (704, .box 26 [.d (D.int .i64 o81), .d (D.int .i64 o82)])]) (finK prog f3 0 (.d (D.bool r)) (⟨[], []⟩)) := by
  rw [laws_FnShortWords_p10] at h
  cases v83
  · replace h := condF h
    cases v87
    · replace h := condF h
      conv => whnf
      cases h
      exact Done.of [] [] rfl rfl ⟨⟨rfl, rfl⟩, ⟨rfl, trivial⟩, rfl, trivial⟩
    · replace h := condT h
      conv => whnf
      refine spl (fun g196 => ?_) (fun g196 => ?_)
      · replace h := iteT h g196
        conv => whnf
        cases h
        exact Done.of [] [] rfl rfl ⟨⟨rfl, rfl⟩, ⟨rfl, trivial⟩, rfl, trivial⟩
      · replace h := iteF h g196
        conv => whnf
        cases h
        exact Done.of [] [] rfl rfl ⟨⟨rfl, rfl⟩, ⟨rfl, trivial⟩, rfl, trivial⟩
  · replace h := condT h
    cases v87
    · replace h := condF h
      conv => whnf
      cases h
      exact Done.of [] [] rfl rfl ⟨⟨rfl, rfl⟩, ⟨rfl, trivial⟩, rfl, trivial⟩
    · replace h := condT h
      conv => whnf
      refine spl (fun g197 => ?_) (fun g197 => ?_)
      · replace h := iteT h g197
        conv => whnf
        cases h
        exact Done.of [] [] rfl rfl ⟨⟨rfl, rfl⟩, ⟨rfl, trivial⟩, rfl, trivial⟩
      · replace h := iteF h g197
        conv => whnf
        refine LoopOk.into (laws_FnShortWords_l0_ct  _ _ h) [some 448, some 704] [] ⟨⟨rfl, rfl⟩, ⟨rfl, ⟨rfl, rfl, rfl, trivial⟩, ⟨rfl, rfl, rfl, trivial⟩, trivial⟩, rfl, rfl, ⟨rfl, rfl⟩, ⟨rfl, rfl⟩, rfl, rfl, trivial⟩ ?_ (fun _ hs => hs)
        rintro i ts os ⟨rfl, v217, h, rfl, rfl⟩
        conv => whnf
        exact CutK.piece (laws_FnShortWords_p13_ct  h) [some 448, some 704] [] ⟨⟨rfl, rfl⟩, ⟨rfl, ⟨rfl, rfl, rfl, trivial⟩, ⟨rfl, rfl, rfl, trivial⟩, trivial⟩, rfl, rfl, ⟨rfl, rfl⟩, ⟨rfl, rfl⟩, rfl, rfl, trivial⟩
def laws_FnShortWords_p9 (k : Nat) (o64 : ByteArray) (o65 : ByteArray) (o66 : ByteArray) (o67 : Int) (o68 : Int) (o69 : Int) (o70 : Int) (v71 : Bool) : Option Bool :=
  (cond v71 ((impl_CompareFractions k o67 o68 o69 o70).bind fun y239 => (if y239.2 = true then (laws_FnShortWords_p10 k o64 o65 o66 y239.1 o67 o68 o69 o70 true true) else (laws_FnShortWords_p10 k o64 o65 o66 y239.1 o67 o68 o69 o70 false true))) ((impl_CompareFractions k o67 o68 o69 o70).bind fun y236 => (if y236.2 = true then (laws_FnShortWords_p10 k o64 o65 o66 y236.1 o67 o68 o69 o70 true false) else (laws_FnShortWords_p10 k o64 o65 o66 y236.1 o67 o68 o69 o70 false false))))
set_option maxHeartbeats 4000000 in
set_option maxRecDepth 100000 in
theorem laws_FnShortWords_p9_ct {k : Nat} {o64 : ByteArray} {o65 : ByteArray} {o66 : ByteArray} {o67 : Int} {o68 : Int} {o69 : Int} {o70 : Int} {v71 : Bool} {r : Bool} (h : laws_FnShortWords_p9 k o64 o65 o66 o67 o68 o69 o70 v71 = some r) : X prog 0 (tlF f3 9) (mk 155 [(5, .d (D.str o64)), (6, .d (D.str o65)), (7, .ptr 448 0), (11, .ptr 704 0), (13, .d (D.str o66)), (14, .d (D.bool v71))] [(448, .box 26 [.d (D.int .i64 o67), .d (D.int .i64 o68)]), (704, .box 26 [.d (D.int .i64 o69), .d (D.int .i64 o70)])]) (finK prog f3 0 (.d (D.bool r)) (⟨[], []⟩)) := by
  rw [laws_FnShortWords_p9] at h
  cases v71
  · replace h := condF h
    conv => whnf
    refine Pick.no ?_
    conv => whnf
    obtain ⟨y236, e237, h⟩ := bind_ex h
    refine CallOk.of (impl_CompareFractions_ct e237) ?_
    conv => whnf
    refine spl (fun g238 => ?_) (fun g238 => ?_)
    · replace h := iteT h g238
      conv => whnf
      exact CutK.piece (laws_FnShortWords_p10_ct  h) [some 448, some 704] [] ⟨⟨rfl, rfl⟩, ⟨rfl, ⟨rfl, rfl, rfl, trivial⟩, ⟨rfl, rfl, rfl, trivial⟩, trivial⟩, rfl, rfl, ⟨rfl, rfl⟩, ⟨rfl, rfl⟩, rfl, rfl, rfl, rfl, trivial⟩
    · replace h := iteF h g238
      conv => whnf
      exact CutK.piece (laws_FnShortWords_p10_ct  h) [some 448, some 704] [] ⟨⟨rfl, rfl⟩, ⟨rfl, ⟨rfl, rfl, rfl, trivial⟩, ⟨rfl, rfl, rfl, trivial⟩, trivial⟩, rfl, rfl, ⟨rfl, rfl⟩, ⟨rfl, rfl⟩, rfl, rfl, rfl, rfl, trivial⟩
  · replace h := condT h
    conv => whnf
    refine Pick.no ?_
    conv => whnf
    obtain ⟨y239, e240, h⟩ := bind_ex h
    refine CallOk.of (impl_CompareFractions_ct e240) ?_
    conv => whnf
    refine spl (fun g241 => ?_) (fun g241 => ?_)
    · replace h := iteT h g241
      conv => whnf
      exact CutK.piece (laws_FnShortWords_p10_ct  h) [some 448, some 704] [] ⟨⟨rfl, rfl⟩, ⟨rfl, ⟨rfl, rfl, rfl, trivial⟩, ⟨rfl, rfl, rfl, trivial⟩, trivial⟩, rfl, rfl, ⟨rfl, rfl⟩, ⟨rfl, rfl⟩, rfl, rfl, rfl, rfl, trivial⟩
    · replace h := iteF h g241
      conv => whnf
      exact CutK.piece (laws_FnShortWords_p10_ct  h) [some 448, some 704] [] ⟨⟨rfl, rfl⟩, ⟨rfl, ⟨rfl, rfl, rfl, trivial⟩, ⟨rfl, rfl, rfl, trivial⟩, trivial⟩, rfl, rfl, ⟨rfl, rfl⟩, ⟨rfl, rfl⟩, rfl, rfl, rfl, rfl, trivial⟩
def laws_FnShortWords_p6 (k : Nat) (o37 : ByteArray) (o38 : ByteArray) (o39 : Int) (o40 : Int) (o41 : Int) (o42 : Int) (o43 : Int) (o44 : Int) (v45 : Bool) (v49 : Bool) (v53 : Bool) : Option Bool :=
  (cond v45 (cond v49 (cond v53 (if (!(decide (o39 = o41) && (decide (o40 = o42) && true))) = true then some false else ((impl_WordOf k o39 o40).bind fun y246 => (if y246.2 = true then (laws_FnShortWords_p9 k o37 o38 y246.1 o39 o40 o43 o44 true) else (laws_FnShortWords_p9 k o37 o38 y246.1 o39 o40 o43 o44 false)))) (some false)) (cond v53 (some false) (if (!(decide (o39 = o41) && (decide (o40 = o42) && true))) = true then some false else some true))) (cond v49 (cond v53 (if (!(decide (o39 = o41) && (decide (o40 = o42) && true))) = true then some false else some true) (some false)) (cond v53 (some false) (if (!(decide (o39 = o41) && (decide (o40 = o42) && true))) = true then some false else some true))))
set_option maxHeartbeats 4000000 in
set_option maxRecDepth 100000 in
theorem laws_FnShortWords_p6_ct {k : Nat} {o37 : ByteArray} {o38 : ByteArray} {o39 : Int} {o40 : Int} {o41 : Int} {o42 : Int} {o43 : Int} {o44 : Int} {v45 : Bool} {v49 : Bool} {v53 : Bool} {r : Bool} (h : laws_FnShortWords_p6 k o37 o38 o39 o40 o41 o42 o43 o44 v45 v49 v53 = some r) : X prog 0 (tlF f3 6) (mk 155 [(5, .d (D.str o37)), (6, .d (D.str o38)), (7, .ptr 448 0), (8, .d (D.bool v49)), (9, .ptr 576 0), (10, .d (D.bool v53)), (11, .ptr 704 0), (12, .d (D.bool v45))] [(448, .box 26 [.d (D.int .i64 o39), .d (D.int .i64 o40)]), (576, .box 26 [.d (D.int .i64 o41), .d (D.int .i64 o42)]), (704, .box 26 [.d (D.int .i64 o43), .d (D.int .i64 o44)])]) (finK prog f3 0 (.d (D.bool r)) (⟨[], []⟩)) := by
  rw [laws_FnShortWords_p6] at h
  cases v45
  · replace h := condF h
    cases v49
    · replace h := condF h
      cases v53
      · replace h := condF h
        conv => whnf
        refine splF ?_
        conv => whnf
        refine Req.of ⟨by kernel_rfl, by kernel_rfl⟩ ?_
        conv => whnf
        refine spl (fun g242 => ?_) (fun g242 => ?_)
        · replace h := iteT h g242
          conv => whnf
          cases h
          exact Done.of [] [] rfl rfl ⟨⟨rfl, rfl⟩, ⟨rfl, trivial⟩, rfl, trivial⟩
        · replace h := iteF h g242
          conv => whnf
          cases h
          exact Done.of [] [] rfl rfl ⟨⟨rfl, rfl⟩, ⟨rfl, trivial⟩, rfl, trivial⟩
      · replace h := condT h
        conv => whnf
        refine splT ?_
        conv => whnf
        cases h
        exact Done.of [] [] rfl rfl ⟨⟨rfl, rfl⟩, ⟨rfl, trivial⟩, rfl, trivial⟩
    · replace h := condT h
      cases v53
      · replace h := condF h
        conv => whnf
        refine splT ?_
        conv => whnf
        cases h
        exact Done.of [] [] rfl rfl ⟨⟨rfl, rfl⟩, ⟨rfl, trivial⟩, rfl, trivial⟩
      · replace h := condT h
        conv => whnf
        refine splF ?_
        conv => whnf
        refine Req.of ⟨by kernel_rfl, by kernel_rfl⟩ ?_
        conv => whnf
        refine spl (fun g243 => ?_) (fun g243 => ?_)
        · replace h := iteT h g243
          conv => whnf
          cases h
          exact Done.of [] [] rfl rfl ⟨⟨rfl, rfl⟩, ⟨rfl, trivial⟩, rfl, trivial⟩
        · replace h := iteF h g243
          conv => whnf
          cases h
          exact Done.of [] [] rfl rfl ⟨⟨rfl, rfl⟩, ⟨rfl, trivial⟩, rfl, trivial⟩
  · replace h := condT h
    cases v49
    · replace h := condF h
      cases v53
      · replace h := condF h
        conv => whnf
        refine splF ?_
        conv => whnf
        refine Req.of ⟨by kernel_rfl, by kernel_rfl⟩ ?_
        conv => whnf
        refine spl (fun g244 => ?_) (fun g244 => ?_)
        · replace h := iteT h g244
          conv => whnf
          cases h
          exact Done.of [] [] rfl rfl ⟨⟨rfl, rfl⟩, ⟨rfl, trivial⟩, rfl, trivial⟩
        · replace h := iteF h g244
          conv => whnf
          cases h
          exact Done.of [] [] rfl rfl ⟨⟨rfl, rfl⟩, ⟨rfl, trivial⟩, rfl, trivial⟩
      · replace h := condT h
        conv => whnf
        refine splT ?_
        conv => whnf
        cases h
        exact Done.of [] [] rfl rfl ⟨⟨rfl, rfl⟩, ⟨rfl, trivial⟩, rfl, trivial⟩
    · replace h := condT h
      cases v53
      · replace h := condF h
        conv => whnf
        refine splT ?_
        conv => whnf
        cases h
        exact Done.of [] [] rfl rfl ⟨⟨rfl, rfl⟩, ⟨rfl, trivial⟩, rfl, trivial⟩
      · replace h := condT h
        conv => whnf
        refine splF ?_
        conv => whnf
        refine Req.of ⟨by kernel_rfl, by kernel_rfl⟩ ?_
        conv => whnf
        refine spl (fun g245 => ?_) (fun g245 => ?_)
        · replace h := iteT h g245
          conv => whnf
          cases h
          exact Done.of [] [] rfl rfl ⟨⟨rfl, rfl⟩, ⟨rfl, trivial⟩, rfl, trivial⟩
        · replace h := iteF h g245
          conv => whnf
          refine Pick.no ?_
          conv => whnf
          obtain ⟨y246, e247, h⟩ := bind_ex h
          refine CallOk.of (impl_WordOf_ct e247) ?_
          conv => whnf
          refine spl (fun g248 => ?_) (fun g248 => ?_)
          · replace h := iteT h g248
            conv => whnf
            exact CutK.piece (laws_FnShortWords_p9_ct  h) [some 448, some 704] [] ⟨⟨rfl, rfl⟩, ⟨rfl, ⟨rfl, rfl, rfl, trivial⟩, ⟨rfl, rfl, rfl, trivial⟩, trivial⟩, rfl, rfl, ⟨rfl, rfl⟩, ⟨rfl, rfl⟩, rfl, rfl, trivial⟩
          · replace h := iteF h g248
            conv => whnf
            exact CutK.piece (laws_FnShortWords_p9_ct  h) [some 448, some 704] [] ⟨⟨rfl, rfl⟩, ⟨rfl, ⟨rfl, rfl, rfl, trivial⟩, ⟨rfl, rfl, rfl, trivial⟩, trivial⟩, rfl, rfl, ⟨rfl, rfl⟩, ⟨rfl, rfl⟩, rfl, rfl, trivial⟩
def laws_FnShortWords_p5 (k : Nat) (o23 : ByteArray) (o24 : ByteArray) (o25 : Int) (o26 : Int) (o27 : Int) (o28 : Int) (v29 : Bool) (v33 : Bool) : Option Bool :=
  (cond v29 (cond v33 ((impl_FromWord k o24).bind fun y258 => (if y258.2.2 = true then (laws_FnShortWords_p6 k o23 o24 o25 o26 o27 o28 y258.1 y258.2.1 true true true) else (laws_FnShortWords_p6 k o23 o24 o25 o26 o27 o28 y258.1 y258.2.1 false true true))) ((impl_FromWord k o24).bind fun y255 => (if y255.2.2 = true then (laws_FnShortWords_p6 k o23 o24 o25 o26 o27 o28 y255.1 y255.2.1 true false true) else (laws_FnShortWords_p6 k o23 o24 o25 o26 o27 o28 y255.1 y255.2.1 false false true)))) (cond v33 ((impl_FromWord k o24).bind fun y252 => (if y252.2.2 = true then (laws_FnShortWords_p6 k o23 o24 o25 o26 o27 o28 y252.1 y252.2.1 true true false) else (laws_FnShortWords_p6 k o23 o24 o25 o26 o27 o28 y252.1 y252.2.1 false true false))) ((impl_FromWord k o24).bind fun y249 => (if y249.2.2 = true then (laws_FnShortWords_p6 k o23 o24 o25 o26 o27 o28 y249.1 y249.2.1 true false false) else (laws_FnShortWords_p6 k o23 o24 o25 o26 o27 o28 y249.1 y249.2.1 false false false)))))
set_option maxHeartbeats 4000000 in
set_option maxRecDepth 100000 in
theorem laws_FnShortWords_p5_ct {k : Nat} {o23 : ByteArray} {o24 : ByteArray} {o25 : Int} {o26 : Int} {o27 : Int} {o28 : Int} {v29 : Bool} {v33 : Bool} {r : Bool} (h : laws_FnShortWords_p5 k o23 o24 o25 o26 o27 o28 v29 v33 = some r) : X prog 0 (tlF f3 5) (mk 155 [(5, .d (D.str o23)), (6, .d (D.str o24)), (7, .ptr 448 0), (8, .d (D.bool v33)), (9, .ptr 576 0), (10, .d (D.bool v29))] [(448, .box 26 [.d (D.int .i64 o25), .d (D.int .i64 o26)]), (576, .box 26 [.d (D.int .i64 o27), .d (D.int .i64 o28)])]) (finK prog f3 0 (.d (D.bool r)) (⟨[], []⟩)) := by
  rw [laws_FnShortWords_p5] at h
  cases v29
  · replace h := condF h
    cases v33
    · replace h := condF h
      conv => whnf
      refine Pick.no ?_
      conv => whnf
      obtain ⟨y249, e250, h⟩ := bind_ex h
      refine CallOk.of (impl_FromWord_ct e250) ?_
      conv => whnf
      refine spl (fun g251 => ?_) (fun g251 => ?_)
      · replace h := iteT h g251
        conv => whnf
        exact CutK.piece (laws_FnShortWords_p6_ct  h) [some 448, some 576, some 704] [] ⟨⟨rfl, rfl⟩, ⟨rfl, ⟨rfl, rfl, rfl, trivial⟩, ⟨rfl, rfl, rfl, trivial⟩, ⟨rfl, rfl, rfl, trivial⟩, trivial⟩, rfl, rfl, ⟨rfl, rfl⟩, rfl, ⟨rfl, rfl⟩, rfl, ⟨rfl, rfl⟩, rfl, trivial⟩
      · replace h := iteF h g251
        conv => whnf
        exact CutK.piece (laws_FnShortWords_p6_ct  h) [some 448, some 576, some 704] [] ⟨⟨rfl, rfl⟩, ⟨rfl, ⟨rfl, rfl, rfl, trivial⟩, ⟨rfl, rfl, rfl, trivial⟩, ⟨rfl, rfl, rfl, trivial⟩, trivial⟩, rfl, rfl, ⟨rfl, rfl⟩, rfl, ⟨rfl, rfl⟩, rfl, ⟨rfl, rfl⟩, rfl, trivial⟩
    · replace h := condT h
      conv => whnf
      refine Pick.no ?_
      conv => whnf
      obtain ⟨y252, e253, h⟩ := bind_ex h
      refine CallOk.of (impl_FromWord_ct e253) ?_
      conv => whnf
      refine spl (fun g254 => ?_) (fun g254 => ?_)
      · replace h := iteT h g254
        conv => whnf
        exact CutK.piece (laws_FnShortWords_p6_ct  h) [some 448, some 576, some 704] [] ⟨⟨rfl, rfl⟩, ⟨rfl, ⟨rfl, rfl, rfl, trivial⟩, ⟨rfl, rfl, rfl, trivial⟩, ⟨rfl, rfl, rfl, trivial⟩, trivial⟩, rfl, rfl, ⟨rfl, rfl⟩, rfl, ⟨rfl, rfl⟩, rfl, ⟨rfl, rfl⟩, rfl, trivial⟩
      · replace h := iteF h g254
        conv => whnf
        exact CutK.piece (laws_FnShortWords_p6_ct  h) [some 448, some 576, some 704] [] ⟨⟨rfl, rfl⟩, ⟨rfl, ⟨rfl, rfl, rfl, trivial⟩, ⟨rfl, rfl, rfl, trivial⟩, ⟨rfl, rfl, rfl, trivial⟩, trivial⟩, rfl, rfl, ⟨rfl, rfl⟩, rfl, ⟨rfl, rfl⟩, rfl, ⟨rfl, rfl⟩, rfl, trivial⟩
  · replace h := condT h
    cases v33
    · replace h := condF h
      conv => whnf
      refine Pick.no ?_
      conv => whnf
      obtain ⟨y255, e256, h⟩ := bind_ex h
      refine CallOk.of (impl_FromWord_ct e256) ?_
      conv => whnf
      refine spl (fun g257 => ?_) (fun g257 => ?_)
      · replace h := iteT h g257
        conv => whnf
        exact CutK.piece (laws_FnShortWords_p6_ct  h) [some 448, some 576, some 704] [] ⟨⟨rfl, rfl⟩, ⟨rfl, ⟨rfl, rfl, rfl, trivial⟩, ⟨rfl, rfl, rfl, trivial⟩, ⟨rfl, rfl, rfl, trivial⟩, trivial⟩, rfl, rfl, ⟨rfl, rfl⟩, rfl, ⟨rfl, rfl⟩, rfl, ⟨rfl, rfl⟩, rfl, trivial⟩
      · replace h := iteF h g257
        conv => whnf
        exact CutK.piece (laws_FnShortWords_p6_ct  h) [some 448, some 576, some 704] [] ⟨⟨rfl, rfl⟩, ⟨rfl, ⟨rfl, rfl, rfl, trivial⟩, ⟨rfl, rfl, rfl, trivial⟩, ⟨rfl, rfl, rfl, trivial⟩, trivial⟩, rfl, rfl, ⟨rfl, rfl⟩, rfl, ⟨rfl, rfl⟩, rfl, ⟨rfl, rfl⟩, rfl, trivial⟩
    · replace h := condT h
      conv => whnf
      refine Pick.no ?_
      conv => whnf
      obtain ⟨y258, e259, h⟩ := bind_ex h
      refine CallOk.of (impl_FromWord_ct e259) ?_
      conv => whnf
      refine spl (fun g260 => ?_) (fun g260 => ?_)
      · replace h := iteT h g260
        conv => whnf
        exact CutK.piece (laws_FnShortWords_p6_ct  h) [some 448, some 576, some 704] [] ⟨⟨rfl, rfl⟩, ⟨rfl, ⟨rfl, rfl, rfl, trivial⟩, ⟨rfl, rfl, rfl, trivial⟩, ⟨rfl, rfl, rfl, trivial⟩, trivial⟩, rfl, rfl, ⟨rfl, rfl⟩, rfl, ⟨rfl, rfl⟩, rfl, ⟨rfl, rfl⟩, rfl, trivial⟩
      · replace h := iteF h g260
        conv => whnf
        exact CutK.piece (laws_FnShortWords_p6_ct  h) [some 448, some 576, some 704] [] ⟨⟨rfl, rfl⟩, ⟨rfl, ⟨rfl, rfl, rfl, trivial⟩, ⟨rfl, rfl, rfl, trivial⟩, ⟨rfl, rfl, rfl, trivial⟩, trivial⟩, rfl, rfl, ⟨rfl, rfl⟩, rfl, ⟨rfl, rfl⟩, rfl, ⟨rfl, rfl⟩, rfl, trivial⟩
def laws_FnShortWords_p4 (k : Nat) (o15 : ByteArray) (o16 : ByteArray) (o17 : Int) (o18 : Int) (v19 : Bool) : Option Bool :=
  (cond v19 ((spec_FromWord k o15).bind fun y264 => (if y264.2.2 = true then (laws_FnShortWords_p5 k o15 o16 o17 o18 y264.1 y264.2.1 true true) else (laws_FnShortWords_p5 k o15 o16 o17 o18 y264.1 y264.2.1 false true))) ((spec_FromWord k o15).bind fun y261 => (if y261.2.2 = true then (laws_FnShortWords_p5 k o15 o16 o17 o18 y261.1 y261.2.1 true false) else (laws_FnShortWords_p5 k o15 o16 o17 o18 y261.1 y261.2.1 false false))))
set_option maxHeartbeats 4000000 in
set_option maxRecDepth 100000 in
theorem laws_FnShortWords_p4_ct {k : Nat} {o15 : ByteArray} {o16 : ByteArray} {o17 : Int} {o18 : Int} {v19 : Bool} {r : Bool} (h : laws_FnShortWords_p4 k o15 o16 o17 o18 v19 = some r) : X prog 0 (tlF f3 4) (mk 155 [(5, .d (D.str o15)), (6, .d (D.str o16)), (7, .ptr 448 0), (8, .d (D.bool v19))] [(448, .box 26 [.d (D.int .i64 o17), .d (D.int .i64 o18)])]) (finK prog f3 0 (.d (D.bool r)) (⟨[], []⟩)) := by
  rw [laws_FnShortWords_p4] at h
  cases v19
  · replace h := condF h
    conv => whnf
    refine Pick.no ?_
    conv => whnf
    obtain ⟨y261, e262, h⟩ := bind_ex h
    refine CallOk.of (spec_FromWord_ct e262) ?_
    conv => whnf
    refine spl (fun g263 => ?_) (fun g263 => ?_)
    · replace h := iteT h g263
      conv => whnf
      exact CutK.piece (laws_FnShortWords_p5_ct  h) [some 448, some 576] [] ⟨⟨rfl, rfl⟩, ⟨rfl, ⟨rfl, rfl, rfl, trivial⟩, ⟨rfl, rfl, rfl, trivial⟩, trivial⟩, rfl, rfl, ⟨rfl, rfl⟩, rfl, ⟨rfl, rfl⟩, rfl, trivial⟩
    · replace h := iteF h g263
      conv => whnf
      exact CutK.piece (laws_FnShortWords_p5_ct  h) [some 448, some 576] [] ⟨⟨rfl, rfl⟩, ⟨rfl, ⟨rfl, rfl, rfl, trivial⟩, ⟨rfl, rfl, rfl, trivial⟩, trivial⟩, rfl, rfl, ⟨rfl, rfl⟩, rfl, ⟨rfl, rfl⟩, rfl, trivial⟩
  · replace h := condT h
    conv => whnf
    refine Pick.no ?_
    conv => whnf
    obtain ⟨y264, e265, h⟩ := bind_ex h
    refine CallOk.of (spec_FromWord_ct e265) ?_
    conv => whnf
    refine spl (fun g266 => ?_) (fun g266 => ?_)
    · replace h := iteT h g266
      conv => whnf
      exact CutK.piece (laws_FnShortWords_p5_ct  h) [some 448, some 576] [] ⟨⟨rfl, rfl⟩, ⟨rfl, ⟨rfl, rfl, rfl, trivial⟩, ⟨rfl, rfl, rfl, trivial⟩, trivial⟩, rfl, rfl, ⟨rfl, rfl⟩, rfl, ⟨rfl, rfl⟩, rfl, trivial⟩
    · replace h := iteF h g266
      conv => whnf
      exact CutK.piece (laws_FnShortWords_p5_ct  h) [some 448, some 576] [] ⟨⟨rfl, rfl⟩, ⟨rfl, ⟨rfl, rfl, rfl, trivial⟩, ⟨rfl, rfl, rfl, trivial⟩, trivial⟩, rfl, rfl, ⟨rfl, rfl⟩, rfl, ⟨rfl, rfl⟩, rfl, trivial⟩
def laws_FnShortWords_p3 (k : Nat) (o10 : ByteArray) (o11 : ByteArray) : Option Bool :=
  ((impl_FromWord k o10).bind fun y267 => (if y267.2.2 = true then (laws_FnShortWords_p4 k o10 o11 y267.1 y267.2.1 true) else (laws_FnShortWords_p4 k o10 o11 y267.1 y267.2.1 false)))
set_option maxHeartbeats 4000000 in
set_option maxRecDepth 100000 in
theorem laws_FnShortWords_p3_ct {k : Nat} {o10 : ByteArray} {o11 : ByteArray} {r : Bool} (h : laws_FnShortWords_p3 k o10 o11 = some r) : X prog 0 (tlF f3 3) (mk 155 [(5, .d (D.str o10)), (6, .d (D.str o11))] []) (finK prog f3 0 (.d (D.bool r)) (⟨[], []⟩)) := by
  rw [laws_FnShortWords_p3] at h
  conv => whnf
  refine Pick.no ?_
  conv => whnf
  obtain ⟨y267, e268, h⟩ := bind_ex h
  refine CallOk.of (impl_FromWord_ct e268) ?_
  conv => whnf
  refine spl (fun g269 => ?_) (fun g269 => ?_)
  · replace h := iteT h g269
    conv => whnf
    exact CutK.piece (laws_FnShortWords_p4_ct  h) [some 448] [] ⟨⟨rfl, rfl⟩, ⟨rfl, ⟨rfl, rfl, rfl, trivial⟩, trivial⟩, rfl, rfl, ⟨rfl, rfl⟩, rfl, trivial⟩
  · replace h := iteF h g269
    conv => whnf
    exact CutK.piece (laws_FnShortWords_p4_ct  h) [some 448] [] ⟨⟨rfl, rfl⟩, ⟨rfl, ⟨rfl, rfl, rfl, trivial⟩, trivial⟩, rfl, rfl, ⟨rfl, rfl⟩, rfl, trivial⟩
def laws_FnShortWords_p2 (k : Nat) (a1 : Rw) (a2 : Rw) : Option Bool :=
  ((spec_DrawFromWord k a1).bind fun y270 => ((spec_DrawFromWord k a2).bind fun y272 => (laws_FnShortWords_p3 k y270 y272)))
set_option maxHeartbeats 4000000 in
set_option maxRecDepth 100000 in
theorem laws_FnShortWords_p2_ct {k : Nat} {a1 : Rw} {a2 : Rw} {r : Bool} (h : laws_FnShortWords_p2 k a1 a2 = some r) : X prog 0 (tlF f3 2) (mk 155 [(0, .d (D.sl a1)), (1, .d (D.sl a2))] []) (finK prog f3 0 (.d (D.bool r)) (⟨[], []⟩)) := by
  rw [laws_FnShortWords_p2] at h
  conv => whnf
  refine Pick.no ?_
  conv => whnf
  obtain ⟨y270, e271, h⟩ := bind_ex h
  refine CallOk.of (spec_DrawFromWord_ct e271) ?_
  conv => whnf
  refine Pick.no ?_
  conv => whnf
  obtain ⟨y272, e273, h⟩ := bind_ex h
  refine CallOk.of (spec_DrawFromWord_ct e273) ?_
  conv => whnf
  exact CutK.piece (laws_FnShortWords_p3_ct  h) [] [] ⟨⟨rfl, rfl⟩, ⟨rfl, trivial⟩, rfl, rfl, trivial⟩
def laws_FnShortWords (k : Nat) (a1 : Rw) (a2 : Rw) : Option Bool :=
  ((laws_big a1 a2).bind fun y274 => (if y274 = true then some true else (laws_FnShortWords_p2 k a1 a2)))
set_option maxHeartbeats 4000000 in
set_option maxRecDepth 100000 in
theorem laws_FnShortWords_ct {k : Nat} {a1 : Rw} {a2 : Rw} {r : Bool} (h : laws_FnShortWords k a1 a2 = some r) : Ct prog 3 [.d (D.sl a1), .d (D.sl a2)] (⟨[], []⟩) (.d (D.bool r)) (⟨[], []⟩) := by
  rw [laws_FnShortWords] at h
  refine Ct.of (c := _) mixed func3 ⟨rfl, rfl, rfl⟩ ?_ rfl
  conv => whnf
  refine Pick.no ?_
  conv => whnf
  obtain ⟨y274, e275, h⟩ := bind_ex h
  refine CallOk.of (laws_big_ct e275) ?_
  conv => whnf
  refine spl (fun g276 => ?_) (fun g276 => ?_)
  · replace h := iteT h g276
    conv => whnf
    refine CutK.norm [0, 1, 25] [] ?_
    conv => whnf
    cases h
    exact Done.of [] [] rfl rfl ⟨⟨rfl, rfl⟩, ⟨rfl, trivial⟩, rfl, trivial⟩
  · replace h := iteF h g276
    conv => whnf
    refine CutK.norm [0, 1, 25] [] ?_
    conv => whnf
    exact CutK.piece (laws_FnShortWords_p2_ct  h) [] [] ⟨⟨rfl, rfl⟩, ⟨rfl, trivial⟩, rfl, rfl, trivial⟩
end
end Go.Proofs.Tryd
