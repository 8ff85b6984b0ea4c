/- Printed by program (axgen): pure functions, and that the Go functions compute them. -/
import Derived.Test.YthboihanakagnaaNC0
set_option linter.unusedVariables false
set_option linter.unusedSimpArgs false
namespace Go.Proofs.Try
open Go Go.AX
noncomputable section
def spec_shValue_l0 (k : Nat) (a1 : ByteArray) (K0 : Int → Int → Int → Int → Int → Int → Bool → Bool → Option (Int × Int)) : Nat → Int → Int → Int → Int → Int → Int → Int → Bool → Bool → Option (Int × Int)
  | 0, _, _, _, _, _, _, _, _, _ => none
  | n + 1, v15, v16, v17, v18, v19, v20, v21, v22, v24 => (cond v22 (cond v24 (if v15 < (a1.size : Int) then (byteD a1 v15 fun b204 => (if (b204.toNat : Int) = (43 : Int) then ((spec_shWalk_step k v16 v17 v18 v19 v20 v21 true true true).bind fun y208 => (if y208.2.2.2.2.2.2.1 = true then (if y208.2.2.2.2.2.2.2 = true then (spec_shValue_l0 k a1 K0 n (IntKind.i64.wrap (v15 + 1)) y208.1 y208.2.1 y208.2.2.1 y208.2.2.2.1 y208.2.2.2.2.1 y208.2.2.2.2.2.1 true true) else (spec_shValue_l0 k a1 K0 n (IntKind.i64.wrap (v15 + 1)) y208.1 y208.2.1 y208.2.2.1 y208.2.2.2.1 y208.2.2.2.2.1 y208.2.2.2.2.2.1 false true)) else (if y208.2.2.2.2.2.2.2 = true then (spec_shValue_l0 k a1 K0 n (IntKind.i64.wrap (v15 + 1)) y208.1 y208.2.1 y208.2.2.1 y208.2.2.2.1 y208.2.2.2.2.1 y208.2.2.2.2.2.1 true false) else (spec_shValue_l0 k a1 K0 n (IntKind.i64.wrap (v15 + 1)) y208.1 y208.2.1 y208.2.2.1 y208.2.2.2.1 y208.2.2.2.2.1 y208.2.2.2.2.2.1 false false)))) else ((spec_shWalk_step k v16 v17 v18 v19 v20 v21 true true false).bind fun y213 => (if y213.2.2.2.2.2.2.1 = true then (if y213.2.2.2.2.2.2.2 = true then (spec_shValue_l0 k a1 K0 n (IntKind.i64.wrap (v15 + 1)) y213.1 y213.2.1 y213.2.2.1 y213.2.2.2.1 y213.2.2.2.2.1 y213.2.2.2.2.2.1 true true) else (spec_shValue_l0 k a1 K0 n (IntKind.i64.wrap (v15 + 1)) y213.1 y213.2.1 y213.2.2.1 y213.2.2.2.1 y213.2.2.2.2.1 y213.2.2.2.2.2.1 false true)) else (if y213.2.2.2.2.2.2.2 = true then (spec_shValue_l0 k a1 K0 n (IntKind.i64.wrap (v15 + 1)) y213.1 y213.2.1 y213.2.2.1 y213.2.2.2.1 y213.2.2.2.2.1 y213.2.2.2.2.2.1 true false) else (spec_shValue_l0 k a1 K0 n (IntKind.i64.wrap (v15 + 1)) y213.1 y213.2.1 y213.2.2.1 y213.2.2.2.1 y213.2.2.2.2.1 y213.2.2.2.2.2.1 false false)))))) else (K0 v16 v17 v18 v19 v20 v21 true true)) (if v15 < (a1.size : Int) then (byteD a1 v15 fun b189 => (if (b189.toNat : Int) = (43 : Int) then ((spec_shWalk_step k v16 v17 v18 v19 v20 v21 false true true).bind fun y193 => (if y193.2.2.2.2.2.2.1 = true then (if y193.2.2.2.2.2.2.2 = true then (spec_shValue_l0 k a1 K0 n (IntKind.i64.wrap (v15 + 1)) y193.1 y193.2.1 y193.2.2.1 y193.2.2.2.1 y193.2.2.2.2.1 y193.2.2.2.2.2.1 true true) else (spec_shValue_l0 k a1 K0 n (IntKind.i64.wrap (v15 + 1)) y193.1 y193.2.1 y193.2.2.1 y193.2.2.2.1 y193.2.2.2.2.1 y193.2.2.2.2.2.1 false true)) else (if y193.2.2.2.2.2.2.2 = true then (spec_shValue_l0 k a1 K0 n (IntKind.i64.wrap (v15 + 1)) y193.1 y193.2.1 y193.2.2.1 y193.2.2.2.1 y193.2.2.2.2.1 y193.2.2.2.2.2.1 true false) else (spec_shValue_l0 k a1 K0 n (IntKind.i64.wrap (v15 + 1)) y193.1 y193.2.1 y193.2.2.1 y193.2.2.2.1 y193.2.2.2.2.1 y193.2.2.2.2.2.1 false false)))) else ((spec_shWalk_step k v16 v17 v18 v19 v20 v21 false true false).bind fun y198 => (if y198.2.2.2.2.2.2.1 = true then (if y198.2.2.2.2.2.2.2 = true then (spec_shValue_l0 k a1 K0 n (IntKind.i64.wrap (v15 + 1)) y198.1 y198.2.1 y198.2.2.1 y198.2.2.2.1 y198.2.2.2.2.1 y198.2.2.2.2.2.1 true true) else (spec_shValue_l0 k a1 K0 n (IntKind.i64.wrap (v15 + 1)) y198.1 y198.2.1 y198.2.2.1 y198.2.2.2.1 y198.2.2.2.2.1 y198.2.2.2.2.2.1 false true)) else (if y198.2.2.2.2.2.2.2 = true then (spec_shValue_l0 k a1 K0 n (IntKind.i64.wrap (v15 + 1)) y198.1 y198.2.1 y198.2.2.1 y198.2.2.2.1 y198.2.2.2.2.1 y198.2.2.2.2.2.1 true false) else (spec_shValue_l0 k a1 K0 n (IntKind.i64.wrap (v15 + 1)) y198.1 y198.2.1 y198.2.2.1 y198.2.2.2.1 y198.2.2.2.2.1 y198.2.2.2.2.2.1 false false)))))) else (K0 v16 v17 v18 v19 v20 v21 false true))) (cond v24 (if v15 < (a1.size : Int) then (byteD a1 v15 fun b174 => (if (b174.toNat : Int) = (43 : Int) then ((spec_shWalk_step k v16 v17 v18 v19 v20 v21 true false true).bind fun y178 => (if y178.2.2.2.2.2.2.1 = true then (if y178.2.2.2.2.2.2.2 = true then (spec_shValue_l0 k a1 K0 n (IntKind.i64.wrap (v15 + 1)) y178.1 y178.2.1 y178.2.2.1 y178.2.2.2.1 y178.2.2.2.2.1 y178.2.2.2.2.2.1 true true) else (spec_shValue_l0 k a1 K0 n (IntKind.i64.wrap (v15 + 1)) y178.1 y178.2.1 y178.2.2.1 y178.2.2.2.1 y178.2.2.2.2.1 y178.2.2.2.2.2.1 false true)) else (if y178.2.2.2.2.2.2.2 = true then (spec_shValue_l0 k a1 K0 n (IntKind.i64.wrap (v15 + 1)) y178.1 y178.2.1 y178.2.2.1 y178.2.2.2.1 y178.2.2.2.2.1 y178.2.2.2.2.2.1 true false) else (spec_shValue_l0 k a1 K0 n (IntKind.i64.wrap (v15 + 1)) y178.1 y178.2.1 y178.2.2.1 y178.2.2.2.1 y178.2.2.2.2.1 y178.2.2.2.2.2.1 false false)))) else ((spec_shWalk_step k v16 v17 v18 v19 v20 v21 true false false).bind fun y183 => (if y183.2.2.2.2.2.2.1 = true then (if y183.2.2.2.2.2.2.2 = true then (spec_shValue_l0 k a1 K0 n (IntKind.i64.wrap (v15 + 1)) y183.1 y183.2.1 y183.2.2.1 y183.2.2.2.1 y183.2.2.2.2.1 y183.2.2.2.2.2.1 true true) else (spec_shValue_l0 k a1 K0 n (IntKind.i64.wrap (v15 + 1)) y183.1 y183.2.1 y183.2.2.1 y183.2.2.2.1 y183.2.2.2.2.1 y183.2.2.2.2.2.1 false true)) else (if y183.2.2.2.2.2.2.2 = true then (spec_shValue_l0 k a1 K0 n (IntKind.i64.wrap (v15 + 1)) y183.1 y183.2.1 y183.2.2.1 y183.2.2.2.1 y183.2.2.2.2.1 y183.2.2.2.2.2.1 true false) else (spec_shValue_l0 k a1 K0 n (IntKind.i64.wrap (v15 + 1)) y183.1 y183.2.1 y183.2.2.1 y183.2.2.2.1 y183.2.2.2.2.1 y183.2.2.2.2.2.1 false false)))))) else (K0 v16 v17 v18 v19 v20 v21 true false)) (if v15 < (a1.size : Int) then (byteD a1 v15 fun b159 => (if (b159.toNat : Int) = (43 : Int) then ((spec_shWalk_step k v16 v17 v18 v19 v20 v21 false false true).bind fun y163 => (if y163.2.2.2.2.2.2.1 = true then (if y163.2.2.2.2.2.2.2 = true then (spec_shValue_l0 k a1 K0 n (IntKind.i64.wrap (v15 + 1)) y163.1 y163.2.1 y163.2.2.1 y163.2.2.2.1 y163.2.2.2.2.1 y163.2.2.2.2.2.1 true true) else (spec_shValue_l0 k a1 K0 n (IntKind.i64.wrap (v15 + 1)) y163.1 y163.2.1 y163.2.2.1 y163.2.2.2.1 y163.2.2.2.2.1 y163.2.2.2.2.2.1 false true)) else (if y163.2.2.2.2.2.2.2 = true then (spec_shValue_l0 k a1 K0 n (IntKind.i64.wrap (v15 + 1)) y163.1 y163.2.1 y163.2.2.1 y163.2.2.2.1 y163.2.2.2.2.1 y163.2.2.2.2.2.1 true false) else (spec_shValue_l0 k a1 K0 n (IntKind.i64.wrap (v15 + 1)) y163.1 y163.2.1 y163.2.2.1 y163.2.2.2.1 y163.2.2.2.2.1 y163.2.2.2.2.2.1 false false)))) else ((spec_shWalk_step k v16 v17 v18 v19 v20 v21 false false false).bind fun y168 => (if y168.2.2.2.2.2.2.1 = true then (if y168.2.2.2.2.2.2.2 = true then (spec_shValue_l0 k a1 K0 n (IntKind.i64.wrap (v15 + 1)) y168.1 y168.2.1 y168.2.2.1 y168.2.2.2.1 y168.2.2.2.2.1 y168.2.2.2.2.2.1 true true) else (spec_shValue_l0 k a1 K0 n (IntKind.i64.wrap (v15 + 1)) y168.1 y168.2.1 y168.2.2.1 y168.2.2.2.1 y168.2.2.2.2.1 y168.2.2.2.2.2.1 false true)) else (if y168.2.2.2.2.2.2.2 = true then (spec_shValue_l0 k a1 K0 n (IntKind.i64.wrap (v15 + 1)) y168.1 y168.2.1 y168.2.2.1 y168.2.2.2.1 y168.2.2.2.2.1 y168.2.2.2.2.2.1 true false) else (spec_shValue_l0 k a1 K0 n (IntKind.i64.wrap (v15 + 1)) y168.1 y168.2.1 y168.2.2.1 y168.2.2.2.1 y168.2.2.2.2.1 y168.2.2.2.2.2.1 false false)))))) else (K0 v16 v17 v18 v19 v20 v21 false false))))
set_option maxRecDepth 100000 in
theorem spec_shValue_l0_ct {k : Nat} {a1 : ByteArray} {K0 : Int → Int → Int → Int → Int → Int → Bool → Bool → Option (Int × Int)} {r : Int × Int} : ∀ (n : Nat) (v15 : Int) (v16 : Int) (v17 : Int) (v18 : Int) (v19 : Int) (v20 : Int) (v21 : Int) (v22 : Bool) (v24 : Bool), spec_shValue_l0 k a1 K0 n v15 v16 v17 v18 v19 v20 v21 v22 v24 = some r → LoopOk prog 0 (lp f117 0) (mk 20 [(0, .d (D.str a1)), (2, .ptr 128 0), (3, .ptr 192 0), (4, .d (D.int .i64 v15))] [(128, .box 35 [.d (D.int .i64 0), .d (D.int .i64 0)]), (192, .box 193 [.d (D.int .i64 v16), .d (D.int .i64 v17), .d (D.int .i64 v18), .d (D.int .i64 v19), .d (D.int .i64 v20), .d (D.int .i64 v21), .d (D.bool v24), .d (D.bool v22)])]) (LoopEnd prog f117 0 20 (.agg [.d (D.int .i64 r.1), .d (D.int .i64 r.2)]) (⟨[], []⟩) (fun i ts os => (i = 0 ∧ ∃ v45 : Int, ∃ v46 : Int, ∃ v47 : Int, ∃ v48 : Int, ∃ v49 : Int, ∃ v50 : Int, ∃ v51 : Bool, ∃ v52 : Bool, K0 v45 v46 v47 v48 v49 v50 v51 v52 = some r ∧ ts = [(2, .ptr 128 0), (3, .ptr 192 0)] ∧ os = [(128, .box 35 [.d (D.int .i64 0), .d (D.int .i64 0)]), (192, .box 193 [.d (D.int .i64 v45), .d (D.int .i64 v46), .d (D.int .i64 v47), .d (D.int .i64 v48), .d (D.int .i64 v49), .d (D.int .i64 v50), .d (D.bool v51), .d (D.bool v52)])])))
  | 0, _, _, _, _, _, _, _, _, _, h => by
      rw [spec_shValue_l0] at h; cases h
  | n + 1, v15, v16, v17, v18, v19, v20, v21, v22, v24, h => by
      rw [spec_shValue_l0] at h
      cases v22
      · replace h := condF h
        cases v24
        · replace h := condF h
          refine LoopOk.step ?_
          conv => whnf
          refine splD (fun g158 => ?_) (fun g158 => ?_)
          · replace h := iteP h g158
            conv => whnf
            refine splF ?_
            conv => whnf
            refine splF ?_
            conv => whnf
            obtain ⟨g160, b159, e161, h⟩ := byteD_ex h
            refine Req.of g160 ?_
            refine Byte.of _ e161 ?_
            conv => whnf
            refine splD (fun g162 => ?_) (fun g162 => ?_)
            · replace h := iteP h g162
              conv => whnf
              refine Pick.no ?_
              conv => whnf
              obtain ⟨y163, e164, h⟩ := bind_ex h
              refine CallOk.of (spec_shWalk_step_ct e164) ?_
              conv => whnf
              refine spl (fun g165 => ?_) (fun g165 => ?_)
              · replace h := iteT h g165
                conv => whnf
                refine spl (fun g166 => ?_) (fun g166 => ?_)
                · replace h := iteT h g166
                  conv => whnf
                  refine CutK.go ?_
                  conv => whnf
                  exact LoopOk.back (spec_shValue_l0_ct  n _ _ _ _ _ _ _ _ _ h) [some 128, some 192] [] ⟨⟨rfl, rfl⟩, ⟨rfl, ⟨rfl, rfl, rfl, trivial⟩, ⟨rfl, rfl, rfl, rfl, rfl, rfl, rfl, rfl, rfl, trivial⟩, trivial⟩, rfl, ⟨rfl, rfl⟩, ⟨rfl, rfl⟩, rfl, trivial⟩
                · replace h := iteF h g166
                  conv => whnf
                  refine CutK.go ?_
                  conv => whnf
                  exact LoopOk.back (spec_shValue_l0_ct  n _ _ _ _ _ _ _ _ _ h) [some 128, some 192] [] ⟨⟨rfl, rfl⟩, ⟨rfl, ⟨rfl, rfl, rfl, trivial⟩, ⟨rfl, rfl, rfl, rfl, rfl, rfl, rfl, rfl, rfl, trivial⟩, trivial⟩, rfl, ⟨rfl, rfl⟩, ⟨rfl, rfl⟩, rfl, trivial⟩
              · replace h := iteF h g165
                conv => whnf
                refine spl (fun g167 => ?_) (fun g167 => ?_)
                · replace h := iteT h g167
                  conv => whnf
                  refine CutK.go ?_
                  conv => whnf
                  exact LoopOk.back (spec_shValue_l0_ct  n _ _ _ _ _ _ _ _ _ h) [some 128, some 192] [] ⟨⟨rfl, rfl⟩, ⟨rfl, ⟨rfl, rfl, rfl, trivial⟩, ⟨rfl, rfl, rfl, rfl, rfl, rfl, rfl, rfl, rfl, trivial⟩, trivial⟩, rfl, ⟨rfl, rfl⟩, ⟨rfl, rfl⟩, rfl, trivial⟩
                · replace h := iteF h g167
                  conv => whnf
                  refine CutK.go ?_
                  conv => whnf
                  exact LoopOk.back (spec_shValue_l0_ct  n _ _ _ _ _ _ _ _ _ h) [some 128, some 192] [] ⟨⟨rfl, rfl⟩, ⟨rfl, ⟨rfl, rfl, rfl, trivial⟩, ⟨rfl, rfl, rfl, rfl, rfl, rfl, rfl, rfl, rfl, trivial⟩, trivial⟩, rfl, ⟨rfl, rfl⟩, ⟨rfl, rfl⟩, rfl, trivial⟩
            · replace h := iteN h g162
              conv => whnf
              refine Pick.no ?_
              conv => whnf
              obtain ⟨y168, e169, h⟩ := bind_ex h
              refine CallOk.of (spec_shWalk_step_ct e169) ?_
              conv => whnf
              refine spl (fun g170 => ?_) (fun g170 => ?_)
              · replace h := iteT h g170
                conv => whnf
                refine spl (fun g171 => ?_) (fun g171 => ?_)
                · replace h := iteT h g171
                  conv => whnf
                  refine CutK.go ?_
                  conv => whnf
                  exact LoopOk.back (spec_shValue_l0_ct  n _ _ _ _ _ _ _ _ _ h) [some 128, some 192] [] ⟨⟨rfl, rfl⟩, ⟨rfl, ⟨rfl, rfl, rfl, trivial⟩, ⟨rfl, rfl, rfl, rfl, rfl, rfl, rfl, rfl, rfl, trivial⟩, trivial⟩, rfl, ⟨rfl, rfl⟩, ⟨rfl, rfl⟩, rfl, trivial⟩
                · replace h := iteF h g171
                  conv => whnf
                  refine CutK.go ?_
                  conv => whnf
                  exact LoopOk.back (spec_shValue_l0_ct  n _ _ _ _ _ _ _ _ _ h) [some 128, some 192] [] ⟨⟨rfl, rfl⟩, ⟨rfl, ⟨rfl, rfl, rfl, trivial⟩, ⟨rfl, rfl, rfl, rfl, rfl, rfl, rfl, rfl, rfl, trivial⟩, trivial⟩, rfl, ⟨rfl, rfl⟩, ⟨rfl, rfl⟩, rfl, trivial⟩
              · replace h := iteF h g170
                conv => whnf
                refine spl (fun g172 => ?_) (fun g172 => ?_)
                · replace h := iteT h g172
                  conv => whnf
                  refine CutK.go ?_
                  conv => whnf
                  exact LoopOk.back (spec_shValue_l0_ct  n _ _ _ _ _ _ _ _ _ h) [some 128, some 192] [] ⟨⟨rfl, rfl⟩, ⟨rfl, ⟨rfl, rfl, rfl, trivial⟩, ⟨rfl, rfl, rfl, rfl, rfl, rfl, rfl, rfl, rfl, trivial⟩, trivial⟩, rfl, ⟨rfl, rfl⟩, ⟨rfl, rfl⟩, rfl, trivial⟩
                · replace h := iteF h g172
                  conv => whnf
                  refine CutK.go ?_
                  conv => whnf
                  exact LoopOk.back (spec_shValue_l0_ct  n _ _ _ _ _ _ _ _ _ h) [some 128, some 192] [] ⟨⟨rfl, rfl⟩, ⟨rfl, ⟨rfl, rfl, rfl, trivial⟩, ⟨rfl, rfl, rfl, rfl, rfl, rfl, rfl, rfl, rfl, trivial⟩, trivial⟩, rfl, ⟨rfl, rfl⟩, ⟨rfl, rfl⟩, rfl, trivial⟩
          · replace h := iteN h g158
            conv => whnf
            exact ⟨_, _, [some 128, some 192], [], ⟨rfl, _, _, _, _, _, _, _, _, h, rfl, rfl⟩, ⟨⟨rfl, rfl⟩, ⟨rfl, ⟨rfl, rfl, rfl, trivial⟩, ⟨rfl, rfl, rfl, rfl, rfl, rfl, rfl, rfl, rfl, trivial⟩, trivial⟩, ⟨rfl, rfl⟩, ⟨rfl, rfl⟩, trivial⟩⟩
        · replace h := condT h
          refine LoopOk.step ?_
          conv => whnf
          refine splD (fun g173 => ?_) (fun g173 => ?_)
          · replace h := iteP h g173
            conv => whnf
            refine splT ?_
            conv => whnf
            refine splF ?_
            conv => whnf
            obtain ⟨g175, b174, e176, h⟩ := byteD_ex h
            refine Req.of g175 ?_
            refine Byte.of _ e176 ?_
            conv => whnf
            refine splD (fun g177 => ?_) (fun g177 => ?_)
            · replace h := iteP h g177
              conv => whnf
              refine Pick.no ?_
              conv => whnf
              obtain ⟨y178, e179, h⟩ := bind_ex h
              refine CallOk.of (spec_shWalk_step_ct e179) ?_
              conv => whnf
              refine spl (fun g180 => ?_) (fun g180 => ?_)
              · replace h := iteT h g180
                conv => whnf
                refine spl (fun g181 => ?_) (fun g181 => ?_)
                · replace h := iteT h g181
                  conv => whnf
                  refine CutK.go ?_
                  conv => whnf
                  exact LoopOk.back (spec_shValue_l0_ct  n _ _ _ _ _ _ _ _ _ h) [some 128, some 192] [] ⟨⟨rfl, rfl⟩, ⟨rfl, ⟨rfl, rfl, rfl, trivial⟩, ⟨rfl, rfl, rfl, rfl, rfl, rfl, rfl, rfl, rfl, trivial⟩, trivial⟩, rfl, ⟨rfl, rfl⟩, ⟨rfl, rfl⟩, rfl, trivial⟩
                · replace h := iteF h g181
                  conv => whnf
                  refine CutK.go ?_
                  conv => whnf
                  exact LoopOk.back (spec_shValue_l0_ct  n _ _ _ _ _ _ _ _ _ h) [some 128, some 192] [] ⟨⟨rfl, rfl⟩, ⟨rfl, ⟨rfl, rfl, rfl, trivial⟩, ⟨rfl, rfl, rfl, rfl, rfl, rfl, rfl, rfl, rfl, trivial⟩, trivial⟩, rfl, ⟨rfl, rfl⟩, ⟨rfl, rfl⟩, rfl, trivial⟩
              · replace h := iteF h g180
                conv => whnf
                refine spl (fun g182 => ?_) (fun g182 => ?_)
                · replace h := iteT h g182
                  conv => whnf
                  refine CutK.go ?_
                  conv => whnf
                  exact LoopOk.back (spec_shValue_l0_ct  n _ _ _ _ _ _ _ _ _ h) [some 128, some 192] [] ⟨⟨rfl, rfl⟩, ⟨rfl, ⟨rfl, rfl, rfl, trivial⟩, ⟨rfl, rfl, rfl, rfl, rfl, rfl, rfl, rfl, rfl, trivial⟩, trivial⟩, rfl, ⟨rfl, rfl⟩, ⟨rfl, rfl⟩, rfl, trivial⟩
                · replace h := iteF h g182
                  conv => whnf
                  refine CutK.go ?_
                  conv => whnf
                  exact LoopOk.back (spec_shValue_l0_ct  n _ _ _ _ _ _ _ _ _ h) [some 128, some 192] [] ⟨⟨rfl, rfl⟩, ⟨rfl, ⟨rfl, rfl, rfl, trivial⟩, ⟨rfl, rfl, rfl, rfl, rfl, rfl, rfl, rfl, rfl, trivial⟩, trivial⟩, rfl, ⟨rfl, rfl⟩, ⟨rfl, rfl⟩, rfl, trivial⟩
            · replace h := iteN h g177
              conv => whnf
              refine Pick.no ?_
              conv => whnf
              obtain ⟨y183, e184, h⟩ := bind_ex h
              refine CallOk.of (spec_shWalk_step_ct e184) ?_
              conv => whnf
              refine spl (fun g185 => ?_) (fun g185 => ?_)
              · replace h := iteT h g185
                conv => whnf
                refine spl (fun g186 => ?_) (fun g186 => ?_)
                · replace h := iteT h g186
                  conv => whnf
                  refine CutK.go ?_
                  conv => whnf
                  exact LoopOk.back (spec_shValue_l0_ct  n _ _ _ _ _ _ _ _ _ h) [some 128, some 192] [] ⟨⟨rfl, rfl⟩, ⟨rfl, ⟨rfl, rfl, rfl, trivial⟩, ⟨rfl, rfl, rfl, rfl, rfl, rfl, rfl, rfl, rfl, trivial⟩, trivial⟩, rfl, ⟨rfl, rfl⟩, ⟨rfl, rfl⟩, rfl, trivial⟩
                · replace h := iteF h g186
                  conv => whnf
                  refine CutK.go ?_
                  conv => whnf
                  exact LoopOk.back (spec_shValue_l0_ct  n _ _ _ _ _ _ _ _ _ h) [some 128, some 192] [] ⟨⟨rfl, rfl⟩, ⟨rfl, ⟨rfl, rfl, rfl, trivial⟩, ⟨rfl, rfl, rfl, rfl, rfl, rfl, rfl, rfl, rfl, trivial⟩, trivial⟩, rfl, ⟨rfl, rfl⟩, ⟨rfl, rfl⟩, rfl, trivial⟩
              · replace h := iteF h g185
                conv => whnf
                refine spl (fun g187 => ?_) (fun g187 => ?_)
                · replace h := iteT h g187
                  conv => whnf
                  refine CutK.go ?_
                  conv => whnf
                  exact LoopOk.back (spec_shValue_l0_ct  n _ _ _ _ _ _ _ _ _ h) [some 128, some 192] [] ⟨⟨rfl, rfl⟩, ⟨rfl, ⟨rfl, rfl, rfl, trivial⟩, ⟨rfl, rfl, rfl, rfl, rfl, rfl, rfl, rfl, rfl, trivial⟩, trivial⟩, rfl, ⟨rfl, rfl⟩, ⟨rfl, rfl⟩, rfl, trivial⟩
                · replace h := iteF h g187
                  conv => whnf
                  refine CutK.go ?_
                  conv => whnf
                  exact LoopOk.back (spec_shValue_l0_ct  n _ _ _ _ _ _ _ _ _ h) [some 128, some 192] [] ⟨⟨rfl, rfl⟩, ⟨rfl, ⟨rfl, rfl, rfl, trivial⟩, ⟨rfl, rfl, rfl, rfl, rfl, rfl, rfl, rfl, rfl, trivial⟩, trivial⟩, rfl, ⟨rfl, rfl⟩, ⟨rfl, rfl⟩, rfl, trivial⟩
          · replace h := iteN h g173
            conv => whnf
            exact ⟨_, _, [some 128, some 192], [], ⟨rfl, _, _, _, _, _, _, _, _, h, rfl, rfl⟩, ⟨⟨rfl, rfl⟩, ⟨rfl, ⟨rfl, rfl, rfl, trivial⟩, ⟨rfl, rfl, rfl, rfl, rfl, rfl, rfl, rfl, rfl, trivial⟩, trivial⟩, ⟨rfl, rfl⟩, ⟨rfl, rfl⟩, trivial⟩⟩
      · replace h := condT h
        cases v24
        · replace h := condF h
          refine LoopOk.step ?_
          conv => whnf
          refine splD (fun g188 => ?_) (fun g188 => ?_)
          · replace h := iteP h g188
            conv => whnf
            refine splF ?_
            conv => whnf
            refine splT ?_
            conv => whnf
            obtain ⟨g190, b189, e191, h⟩ := byteD_ex h
            refine Req.of g190 ?_
            refine Byte.of _ e191 ?_
            conv => whnf
            refine splD (fun g192 => ?_) (fun g192 => ?_)
            · replace h := iteP h g192
              conv => whnf
              refine Pick.no ?_
              conv => whnf
              obtain ⟨y193, e194, h⟩ := bind_ex h
              refine CallOk.of (spec_shWalk_step_ct e194) ?_
              conv => whnf
              refine spl (fun g195 => ?_) (fun g195 => ?_)
              · replace h := iteT h g195
                conv => whnf
                refine spl (fun g196 => ?_) (fun g196 => ?_)
                · replace h := iteT h g196
                  conv => whnf
                  refine CutK.go ?_
                  conv => whnf
                  exact LoopOk.back (spec_shValue_l0_ct  n _ _ _ _ _ _ _ _ _ h) [some 128, some 192] [] ⟨⟨rfl, rfl⟩, ⟨rfl, ⟨rfl, rfl, rfl, trivial⟩, ⟨rfl, rfl, rfl, rfl, rfl, rfl, rfl, rfl, rfl, trivial⟩, trivial⟩, rfl, ⟨rfl, rfl⟩, ⟨rfl, rfl⟩, rfl, trivial⟩
                · replace h := iteF h g196
                  conv => whnf
                  refine CutK.go ?_
                  conv => whnf
                  exact LoopOk.back (spec_shValue_l0_ct  n _ _ _ _ _ _ _ _ _ h) [some 128, some 192] [] ⟨⟨rfl, rfl⟩, ⟨rfl, ⟨rfl, rfl, rfl, trivial⟩, ⟨rfl, rfl, rfl, rfl, rfl, rfl, rfl, rfl, rfl, trivial⟩, trivial⟩, rfl, ⟨rfl, rfl⟩, ⟨rfl, rfl⟩, rfl, trivial⟩
              · replace h := iteF h g195
                conv => whnf
                refine spl (fun g197 => ?_) (fun g197 => ?_)
                · replace h := iteT h g197
                  conv => whnf
                  refine CutK.go ?_
                  conv => whnf
                  exact LoopOk.back (spec_shValue_l0_ct  n _ _ _ _ _ _ _ _ _ h) [some 128, some 192] [] ⟨⟨rfl, rfl⟩, ⟨rfl, ⟨rfl, rfl, rfl, trivial⟩, ⟨rfl, rfl, rfl, rfl, rfl, rfl, rfl, rfl, rfl, trivial⟩, trivial⟩, rfl, ⟨rfl, rfl⟩, ⟨rfl, rfl⟩, rfl, trivial⟩
                · replace h := iteF h g197
                  conv => whnf
                  refine CutK.go ?_
                  conv => whnf
                  exact LoopOk.back (spec_shValue_l0_ct  n _ _ _ _ _ _ _ _ _ h) [some 128, some 192] [] ⟨⟨rfl, rfl⟩, ⟨rfl, ⟨rfl, rfl, rfl, trivial⟩, ⟨rfl, rfl, rfl, rfl, rfl, rfl, rfl, rfl, rfl, trivial⟩, trivial⟩, rfl, ⟨rfl, rfl⟩, ⟨rfl, rfl⟩, rfl, trivial⟩
            · replace h := iteN h g192
              conv => whnf
              refine Pick.no ?_
              conv => whnf
              obtain ⟨y198, e199, h⟩ := bind_ex h
              refine CallOk.of (spec_shWalk_step_ct e199) ?_
              conv => whnf
              refine spl (fun g200 => ?_) (fun g200 => ?_)
              · replace h := iteT h g200
                conv => whnf
                refine spl (fun g201 => ?_) (fun g201 => ?_)
                · replace h := iteT h g201
                  conv => whnf
                  refine CutK.go ?_
                  conv => whnf
                  exact LoopOk.back (spec_shValue_l0_ct  n _ _ _ _ _ _ _ _ _ h) [some 128, some 192] [] ⟨⟨rfl, rfl⟩, ⟨rfl, ⟨rfl, rfl, rfl, trivial⟩, ⟨rfl, rfl, rfl, rfl, rfl, rfl, rfl, rfl, rfl, trivial⟩, trivial⟩, rfl, ⟨rfl, rfl⟩, ⟨rfl, rfl⟩, rfl, trivial⟩
                · replace h := iteF h g201
                  conv => whnf
                  refine CutK.go ?_
                  conv => whnf
                  exact LoopOk.back (spec_shValue_l0_ct  n _ _ _ _ _ _ _ _ _ h) [some 128, some 192] [] ⟨⟨rfl, rfl⟩, ⟨rfl, ⟨rfl, rfl, rfl, trivial⟩, ⟨rfl, rfl, rfl, rfl, rfl, rfl, rfl, rfl, rfl, trivial⟩, trivial⟩, rfl, ⟨rfl, rfl⟩, ⟨rfl, rfl⟩, rfl, trivial⟩
              · replace h := iteF h g200
                conv => whnf
                refine spl (fun g202 => ?_) (fun g202 => ?_)
                · replace h := iteT h g202
                  conv => whnf
                  refine CutK.go ?_
                  conv => whnf
                  exact LoopOk.back (spec_shValue_l0_ct  n _ _ _ _ _ _ _ _ _ h) [some 128, some 192] [] ⟨⟨rfl, rfl⟩, ⟨rfl, ⟨rfl, rfl, rfl, trivial⟩, ⟨rfl, rfl, rfl, rfl, rfl, rfl, rfl, rfl, rfl, trivial⟩, trivial⟩, rfl, ⟨rfl, rfl⟩, ⟨rfl, rfl⟩, rfl, trivial⟩
                · replace h := iteF h g202
                  conv => whnf
                  refine CutK.go ?_
                  conv => whnf
                  exact LoopOk.back (spec_shValue_l0_ct  n _ _ _ _ _ _ _ _ _ h) [some 128, some 192] [] ⟨⟨rfl, rfl⟩, ⟨rfl, ⟨rfl, rfl, rfl, trivial⟩, ⟨rfl, rfl, rfl, rfl, rfl, rfl, rfl, rfl, rfl, trivial⟩, trivial⟩, rfl, ⟨rfl, rfl⟩, ⟨rfl, rfl⟩, rfl, trivial⟩
          · replace h := iteN h g188
            conv => whnf
            exact ⟨_, _, [some 128, some 192], [], ⟨rfl, _, _, _, _, _, _, _, _, h, rfl, rfl⟩, ⟨⟨rfl, rfl⟩, ⟨rfl, ⟨rfl, rfl, rfl, trivial⟩, ⟨rfl, rfl, rfl, rfl, rfl, rfl, rfl, rfl, rfl, trivial⟩, trivial⟩, ⟨rfl, rfl⟩, ⟨rfl, rfl⟩, trivial⟩⟩
        · replace h := condT h
          refine LoopOk.step ?_
          conv => whnf
          refine splD (fun g203 => ?_) (fun g203 => ?_)
          · replace h := iteP h g203
            conv => whnf
            refine splT ?_
            conv => whnf
            refine splT ?_
            conv => whnf
            obtain ⟨g205, b204, e206, h⟩ := byteD_ex h
            refine Req.of g205 ?_
            refine Byte.of _ e206 ?_
            conv => whnf
            refine splD (fun g207 => ?_) (fun g207 => ?_)
            · replace h := iteP h g207
              conv => whnf
              refine Pick.no ?_
              conv => whnf
              obtain ⟨y208, e209, h⟩ := bind_ex h
              refine CallOk.of (spec_shWalk_step_ct e209) ?_
              conv => whnf
              refine spl (fun g210 => ?_) (fun g210 => ?_)
              · replace h := iteT h g210
                conv => whnf
                refine spl (fun g211 => ?_) (fun g211 => ?_)
                · replace h := iteT h g211
                  conv => whnf
                  refine CutK.go ?_
                  conv => whnf
                  exact LoopOk.back (spec_shValue_l0_ct  n _ _ _ _ _ _ _ _ _ h) [some 128, some 192] [] ⟨⟨rfl, rfl⟩, ⟨rfl, ⟨rfl, rfl, rfl, trivial⟩, ⟨rfl, rfl, rfl, rfl, rfl, rfl, rfl, rfl, rfl, trivial⟩, trivial⟩, rfl, ⟨rfl, rfl⟩, ⟨rfl, rfl⟩, rfl, trivial⟩
                · replace h := iteF h g211
                  conv => whnf
                  refine CutK.go ?_
                  conv => whnf
                  exact LoopOk.back (spec_shValue_l0_ct  n _ _ _ _ _ _ _ _ _ h) [some 128, some 192] [] ⟨⟨rfl, rfl⟩, ⟨rfl, ⟨rfl, rfl, rfl, trivial⟩, ⟨rfl, rfl, rfl, rfl, rfl, rfl, rfl, rfl, rfl, trivial⟩, trivial⟩, rfl, ⟨rfl, rfl⟩, ⟨rfl, rfl⟩, rfl, trivial⟩
              · replace h := iteF h g210
                conv => whnf
                refine spl (fun g212 => ?_) (fun g212 => ?_)
                · replace h := iteT h g212
                  conv => whnf
                  refine CutK.go ?_
                  conv => whnf
                  exact LoopOk.back (spec_shValue_l0_ct  n _ _ _ _ _ _ _ _ _ h) [some 128, some 192] [] ⟨⟨rfl, rfl⟩, ⟨rfl, ⟨rfl, rfl, rfl, trivial⟩, ⟨rfl, rfl, rfl, rfl, rfl, rfl, rfl, rfl, rfl, trivial⟩, trivial⟩, rfl, ⟨rfl, rfl⟩, ⟨rfl, rfl⟩, rfl, trivial⟩
                · replace h := iteF h g212
                  conv => whnf
                  refine CutK.go ?_
                  conv => whnf
                  exact LoopOk.back (spec_shValue_l0_ct  n _ _ _ _ _ _ _ _ _ h) [some 128, some 192] [] ⟨⟨rfl, rfl⟩, ⟨rfl, ⟨rfl, rfl, rfl, trivial⟩, ⟨rfl, rfl, rfl, rfl, rfl, rfl, rfl, rfl, rfl, trivial⟩, trivial⟩, rfl, ⟨rfl, rfl⟩, ⟨rfl, rfl⟩, rfl, trivial⟩
            · replace h := iteN h g207
              conv => whnf
              refine Pick.no ?_
              conv => whnf
              obtain ⟨y213, e214, h⟩ := bind_ex h
              refine CallOk.of (spec_shWalk_step_ct e214) ?_
              conv => whnf
              refine spl (fun g215 => ?_) (fun g215 => ?_)
              · replace h := iteT h g215
                conv => whnf
                refine spl (fun g216 => ?_) (fun g216 => ?_)
                · replace h := iteT h g216
                  conv => whnf
                  refine CutK.go ?_
                  conv => whnf
                  exact LoopOk.back (spec_shValue_l0_ct  n _ _ _ _ _ _ _ _ _ h) [some 128, some 192] [] ⟨⟨rfl, rfl⟩, ⟨rfl, ⟨rfl, rfl, rfl, trivial⟩, ⟨rfl, rfl, rfl, rfl, rfl, rfl, rfl, rfl, rfl, trivial⟩, trivial⟩, rfl, ⟨rfl, rfl⟩, ⟨rfl, rfl⟩, rfl, trivial⟩
                · replace h := iteF h g216
                  conv => whnf
                  refine CutK.go ?_
                  conv => whnf
                  exact LoopOk.back (spec_shValue_l0_ct  n _ _ _ _ _ _ _ _ _ h) [some 128, some 192] [] ⟨⟨rfl, rfl⟩, ⟨rfl, ⟨rfl, rfl, rfl, trivial⟩, ⟨rfl, rfl, rfl, rfl, rfl, rfl, rfl, rfl, rfl, trivial⟩, trivial⟩, rfl, ⟨rfl, rfl⟩, ⟨rfl, rfl⟩, rfl, trivial⟩
              · replace h := iteF h g215
                conv => whnf
                refine spl (fun g217 => ?_) (fun g217 => ?_)
                · replace h := iteT h g217
                  conv => whnf
                  refine CutK.go ?_
                  conv => whnf
                  exact LoopOk.back (spec_shValue_l0_ct  n _ _ _ _ _ _ _ _ _ h) [some 128, some 192] [] ⟨⟨rfl, rfl⟩, ⟨rfl, ⟨rfl, rfl, rfl, trivial⟩, ⟨rfl, rfl, rfl, rfl, rfl, rfl, rfl, rfl, rfl, trivial⟩, trivial⟩, rfl, ⟨rfl, rfl⟩, ⟨rfl, rfl⟩, rfl, trivial⟩
                · replace h := iteF h g217
                  conv => whnf
                  refine CutK.go ?_
                  conv => whnf
                  exact LoopOk.back (spec_shValue_l0_ct  n _ _ _ _ _ _ _ _ _ h) [some 128, some 192] [] ⟨⟨rfl, rfl⟩, ⟨rfl, ⟨rfl, rfl, rfl, trivial⟩, ⟨rfl, rfl, rfl, rfl, rfl, rfl, rfl, rfl, rfl, trivial⟩, trivial⟩, rfl, ⟨rfl, rfl⟩, ⟨rfl, rfl⟩, rfl, trivial⟩
          · replace h := iteN h g203
            conv => whnf
            exact ⟨_, _, [some 128, some 192], [], ⟨rfl, _, _, _, _, _, _, _, _, h, rfl, rfl⟩, ⟨⟨rfl, rfl⟩, ⟨rfl, ⟨rfl, rfl, rfl, trivial⟩, ⟨rfl, rfl, rfl, rfl, rfl, rfl, rfl, rfl, rfl, trivial⟩, trivial⟩, ⟨rfl, rfl⟩, ⟨rfl, rfl⟩, trivial⟩⟩
def spec_shValue_l0_2 (k : Nat) (a1 : ByteArray) (K0 : Int → Int → Int → Int → Int → Int → Bool → Bool → Option (Int × Int)) : Nat → Int → Int → Int → Int → Int → Int → Int → Bool → Bool → Option (Int × Int)
  | 0, _, _, _, _, _, _, _, _, _ => none
  | n + 1, v227, v228, v229, v230, v231, v232, v233, v234, v236 => (cond v234 (cond v236 (if v227 < (a1.size : Int) then (byteD a1 v227 fun b416 => (if (b416.toNat : Int) = (43 : Int) then ((spec_shWalk_step k v228 v229 v230 v231 v232 v233 true true true).bind fun y420 => (if y420.2.2.2.2.2.2.1 = true then (if y420.2.2.2.2.2.2.2 = true then (spec_shValue_l0_2 k a1 K0 n (IntKind.i64.wrap (v227 + 1)) y420.1 y420.2.1 y420.2.2.1 y420.2.2.2.1 y420.2.2.2.2.1 y420.2.2.2.2.2.1 true true) else (spec_shValue_l0_2 k a1 K0 n (IntKind.i64.wrap (v227 + 1)) y420.1 y420.2.1 y420.2.2.1 y420.2.2.2.1 y420.2.2.2.2.1 y420.2.2.2.2.2.1 false true)) else (if y420.2.2.2.2.2.2.2 = true then (spec_shValue_l0_2 k a1 K0 n (IntKind.i64.wrap (v227 + 1)) y420.1 y420.2.1 y420.2.2.1 y420.2.2.2.1 y420.2.2.2.2.1 y420.2.2.2.2.2.1 true false) else (spec_shValue_l0_2 k a1 K0 n (IntKind.i64.wrap (v227 + 1)) y420.1 y420.2.1 y420.2.2.1 y420.2.2.2.1 y420.2.2.2.2.1 y420.2.2.2.2.2.1 false false)))) else ((spec_shWalk_step k v228 v229 v230 v231 v232 v233 true true false).bind fun y425 => (if y425.2.2.2.2.2.2.1 = true then (if y425.2.2.2.2.2.2.2 = true then (spec_shValue_l0_2 k a1 K0 n (IntKind.i64.wrap (v227 + 1)) y425.1 y425.2.1 y425.2.2.1 y425.2.2.2.1 y425.2.2.2.2.1 y425.2.2.2.2.2.1 true true) else (spec_shValue_l0_2 k a1 K0 n (IntKind.i64.wrap (v227 + 1)) y425.1 y425.2.1 y425.2.2.1 y425.2.2.2.1 y425.2.2.2.2.1 y425.2.2.2.2.2.1 false true)) else (if y425.2.2.2.2.2.2.2 = true then (spec_shValue_l0_2 k a1 K0 n (IntKind.i64.wrap (v227 + 1)) y425.1 y425.2.1 y425.2.2.1 y425.2.2.2.1 y425.2.2.2.2.1 y425.2.2.2.2.2.1 true false) else (spec_shValue_l0_2 k a1 K0 n (IntKind.i64.wrap (v227 + 1)) y425.1 y425.2.1 y425.2.2.1 y425.2.2.2.1 y425.2.2.2.2.1 y425.2.2.2.2.2.1 false false)))))) else (K0 v228 v229 v230 v231 v232 v233 true true)) (if v227 < (a1.size : Int) then (byteD a1 v227 fun b401 => (if (b401.toNat : Int) = (43 : Int) then ((spec_shWalk_step k v228 v229 v230 v231 v232 v233 false true true).bind fun y405 => (if y405.2.2.2.2.2.2.1 = true then (if y405.2.2.2.2.2.2.2 = true then (spec_shValue_l0_2 k a1 K0 n (IntKind.i64.wrap (v227 + 1)) y405.1 y405.2.1 y405.2.2.1 y405.2.2.2.1 y405.2.2.2.2.1 y405.2.2.2.2.2.1 true true) else (spec_shValue_l0_2 k a1 K0 n (IntKind.i64.wrap (v227 + 1)) y405.1 y405.2.1 y405.2.2.1 y405.2.2.2.1 y405.2.2.2.2.1 y405.2.2.2.2.2.1 false true)) else (if y405.2.2.2.2.2.2.2 = true then (spec_shValue_l0_2 k a1 K0 n (IntKind.i64.wrap (v227 + 1)) y405.1 y405.2.1 y405.2.2.1 y405.2.2.2.1 y405.2.2.2.2.1 y405.2.2.2.2.2.1 true false) else (spec_shValue_l0_2 k a1 K0 n (IntKind.i64.wrap (v227 + 1)) y405.1 y405.2.1 y405.2.2.1 y405.2.2.2.1 y405.2.2.2.2.1 y405.2.2.2.2.2.1 false false)))) else ((spec_shWalk_step k v228 v229 v230 v231 v232 v233 false true false).bind fun y410 => (if y410.2.2.2.2.2.2.1 = true then (if y410.2.2.2.2.2.2.2 = true then (spec_shValue_l0_2 k a1 K0 n (IntKind.i64.wrap (v227 + 1)) y410.1 y410.2.1 y410.2.2.1 y410.2.2.2.1 y410.2.2.2.2.1 y410.2.2.2.2.2.1 true true) else (spec_shValue_l0_2 k a1 K0 n (IntKind.i64.wrap (v227 + 1)) y410.1 y410.2.1 y410.2.2.1 y410.2.2.2.1 y410.2.2.2.2.1 y410.2.2.2.2.2.1 false true)) else (if y410.2.2.2.2.2.2.2 = true then (spec_shValue_l0_2 k a1 K0 n (IntKind.i64.wrap (v227 + 1)) y410.1 y410.2.1 y410.2.2.1 y410.2.2.2.1 y410.2.2.2.2.1 y410.2.2.2.2.2.1 true false) else (spec_shValue_l0_2 k a1 K0 n (IntKind.i64.wrap (v227 + 1)) y410.1 y410.2.1 y410.2.2.1 y410.2.2.2.1 y410.2.2.2.2.1 y410.2.2.2.2.2.1 false false)))))) else (K0 v228 v229 v230 v231 v232 v233 false true))) (cond v236 (if v227 < (a1.size : Int) then (byteD a1 v227 fun b386 => (if (b386.toNat : Int) = (43 : Int) then ((spec_shWalk_step k v228 v229 v230 v231 v232 v233 true false true).bind fun y390 => (if y390.2.2.2.2.2.2.1 = true then (if y390.2.2.2.2.2.2.2 = true then (spec_shValue_l0_2 k a1 K0 n (IntKind.i64.wrap (v227 + 1)) y390.1 y390.2.1 y390.2.2.1 y390.2.2.2.1 y390.2.2.2.2.1 y390.2.2.2.2.2.1 true true) else (spec_shValue_l0_2 k a1 K0 n (IntKind.i64.wrap (v227 + 1)) y390.1 y390.2.1 y390.2.2.1 y390.2.2.2.1 y390.2.2.2.2.1 y390.2.2.2.2.2.1 false true)) else (if y390.2.2.2.2.2.2.2 = true then (spec_shValue_l0_2 k a1 K0 n (IntKind.i64.wrap (v227 + 1)) y390.1 y390.2.1 y390.2.2.1 y390.2.2.2.1 y390.2.2.2.2.1 y390.2.2.2.2.2.1 true false) else (spec_shValue_l0_2 k a1 K0 n (IntKind.i64.wrap (v227 + 1)) y390.1 y390.2.1 y390.2.2.1 y390.2.2.2.1 y390.2.2.2.2.1 y390.2.2.2.2.2.1 false false)))) else ((spec_shWalk_step k v228 v229 v230 v231 v232 v233 true false false).bind fun y395 => (if y395.2.2.2.2.2.2.1 = true then (if y395.2.2.2.2.2.2.2 = true then (spec_shValue_l0_2 k a1 K0 n (IntKind.i64.wrap (v227 + 1)) y395.1 y395.2.1 y395.2.2.1 y395.2.2.2.1 y395.2.2.2.2.1 y395.2.2.2.2.2.1 true true) else (spec_shValue_l0_2 k a1 K0 n (IntKind.i64.wrap (v227 + 1)) y395.1 y395.2.1 y395.2.2.1 y395.2.2.2.1 y395.2.2.2.2.1 y395.2.2.2.2.2.1 false true)) else (if y395.2.2.2.2.2.2.2 = true then (spec_shValue_l0_2 k a1 K0 n (IntKind.i64.wrap (v227 + 1)) y395.1 y395.2.1 y395.2.2.1 y395.2.2.2.1 y395.2.2.2.2.1 y395.2.2.2.2.2.1 true false) else (spec_shValue_l0_2 k a1 K0 n (IntKind.i64.wrap (v227 + 1)) y395.1 y395.2.1 y395.2.2.1 y395.2.2.2.1 y395.2.2.2.2.1 y395.2.2.2.2.2.1 false false)))))) else (K0 v228 v229 v230 v231 v232 v233 true false)) (if v227 < (a1.size : Int) then (byteD a1 v227 fun b371 => (if (b371.toNat : Int) = (43 : Int) then ((spec_shWalk_step k v228 v229 v230 v231 v232 v233 false false true).bind fun y375 => (if y375.2.2.2.2.2.2.1 = true then (if y375.2.2.2.2.2.2.2 = true then (spec_shValue_l0_2 k a1 K0 n (IntKind.i64.wrap (v227 + 1)) y375.1 y375.2.1 y375.2.2.1 y375.2.2.2.1 y375.2.2.2.2.1 y375.2.2.2.2.2.1 true true) else (spec_shValue_l0_2 k a1 K0 n (IntKind.i64.wrap (v227 + 1)) y375.1 y375.2.1 y375.2.2.1 y375.2.2.2.1 y375.2.2.2.2.1 y375.2.2.2.2.2.1 false true)) else (if y375.2.2.2.2.2.2.2 = true then (spec_shValue_l0_2 k a1 K0 n (IntKind.i64.wrap (v227 + 1)) y375.1 y375.2.1 y375.2.2.1 y375.2.2.2.1 y375.2.2.2.2.1 y375.2.2.2.2.2.1 true false) else (spec_shValue_l0_2 k a1 K0 n (IntKind.i64.wrap (v227 + 1)) y375.1 y375.2.1 y375.2.2.1 y375.2.2.2.1 y375.2.2.2.2.1 y375.2.2.2.2.2.1 false false)))) else ((spec_shWalk_step k v228 v229 v230 v231 v232 v233 false false false).bind fun y380 => (if y380.2.2.2.2.2.2.1 = true then (if y380.2.2.2.2.2.2.2 = true then (spec_shValue_l0_2 k a1 K0 n (IntKind.i64.wrap (v227 + 1)) y380.1 y380.2.1 y380.2.2.1 y380.2.2.2.1 y380.2.2.2.2.1 y380.2.2.2.2.2.1 true true) else (spec_shValue_l0_2 k a1 K0 n (IntKind.i64.wrap (v227 + 1)) y380.1 y380.2.1 y380.2.2.1 y380.2.2.2.1 y380.2.2.2.2.1 y380.2.2.2.2.2.1 false true)) else (if y380.2.2.2.2.2.2.2 = true then (spec_shValue_l0_2 k a1 K0 n (IntKind.i64.wrap (v227 + 1)) y380.1 y380.2.1 y380.2.2.1 y380.2.2.2.1 y380.2.2.2.2.1 y380.2.2.2.2.2.1 true false) else (spec_shValue_l0_2 k a1 K0 n (IntKind.i64.wrap (v227 + 1)) y380.1 y380.2.1 y380.2.2.1 y380.2.2.2.1 y380.2.2.2.2.1 y380.2.2.2.2.2.1 false false)))))) else (K0 v228 v229 v230 v231 v232 v233 false false))))
set_option maxRecDepth 100000 in
theorem spec_shValue_l0_2_ct {k : Nat} {a1 : ByteArray} {K0 : Int → Int → Int → Int → Int → Int → Bool → Bool → Option (Int × Int)} {r : Int × Int} : ∀ (n : Nat) (v227 : Int) (v228 : Int) (v229 : Int) (v230 : Int) (v231 : Int) (v232 : Int) (v233 : Int) (v234 : Bool) (v236 : Bool), spec_shValue_l0_2 k a1 K0 n v227 v228 v229 v230 v231 v232 v233 v234 v236 = some r → LoopOk prog 0 (lp f117 0) (mk 20 [(0, .d (D.str a1)), (2, .ptr 128 0), (3, .ptr 192 0), (4, .d (D.int .i64 v227))] [(128, .box 35 [.d (D.int .i64 0), .d (D.int .i64 0)]), (192, .box 193 [.d (D.int .i64 v228), .d (D.int .i64 v229), .d (D.int .i64 v230), .d (D.int .i64 v231), .d (D.int .i64 v232), .d (D.int .i64 v233), .d (D.bool v236), .d (D.bool v234)])]) (LoopEnd prog f117 0 20 (.agg [.d (D.int .i64 r.1), .d (D.int .i64 r.2)]) (⟨[], []⟩) (fun i ts os => (i = 0 ∧ ∃ v257 : Int, ∃ v258 : Int, ∃ v259 : Int, ∃ v260 : Int, ∃ v261 : Int, ∃ v262 : Int, ∃ v263 : Bool, ∃ v294 : Bool, K0 v257 v258 v259 v260 v261 v262 v263 v294 = some r ∧ ts = [(2, .ptr 128 0), (3, .ptr 192 0)] ∧ os = [(128, .box 35 [.d (D.int .i64 0), .d (D.int .i64 0)]), (192, .box 193 [.d (D.int .i64 v257), .d (D.int .i64 v258), .d (D.int .i64 v259), .d (D.int .i64 v260), .d (D.int .i64 v261), .d (D.int .i64 v262), .d (D.bool v263), .d (D.bool v294)])])))
  | 0, _, _, _, _, _, _, _, _, _, h => by
      rw [spec_shValue_l0_2] at h; cases h
  | n + 1, v227, v228, v229, v230, v231, v232, v233, v234, v236, h => by
      rw [spec_shValue_l0_2] at h
      cases v234
      · replace h := condF h
        cases v236
        · replace h := condF h
          refine LoopOk.step ?_
          conv => whnf
          refine splD (fun g370 => ?_) (fun g370 => ?_)
          · replace h := iteP h g370
            conv => whnf
            refine splF ?_
            conv => whnf
            refine splF ?_
            conv => whnf
            obtain ⟨g372, b371, e373, h⟩ := byteD_ex h
            refine Req.of g372 ?_
            refine Byte.of _ e373 ?_
            conv => whnf
            refine splD (fun g374 => ?_) (fun g374 => ?_)
            · replace h := iteP h g374
              conv => whnf
              refine Pick.no ?_
              conv => whnf
              obtain ⟨y375, e376, h⟩ := bind_ex h
              refine CallOk.of (spec_shWalk_step_ct e376) ?_
              conv => whnf
              refine spl (fun g377 => ?_) (fun g377 => ?_)
              · replace h := iteT h g377
                conv => whnf
                refine spl (fun g378 => ?_) (fun g378 => ?_)
                · replace h := iteT h g378
                  conv => whnf
                  refine CutK.go ?_
                  conv => whnf
                  exact LoopOk.back (spec_shValue_l0_2_ct  n _ _ _ _ _ _ _ _ _ h) [some 128, some 192] [] ⟨⟨rfl, rfl⟩, ⟨rfl, ⟨rfl, rfl, rfl, trivial⟩, ⟨rfl, rfl, rfl, rfl, rfl, rfl, rfl, rfl, rfl, trivial⟩, trivial⟩, rfl, ⟨rfl, rfl⟩, ⟨rfl, rfl⟩, rfl, trivial⟩
                · replace h := iteF h g378
                  conv => whnf
                  refine CutK.go ?_
                  conv => whnf
                  exact LoopOk.back (spec_shValue_l0_2_ct  n _ _ _ _ _ _ _ _ _ h) [some 128, some 192] [] ⟨⟨rfl, rfl⟩, ⟨rfl, ⟨rfl, rfl, rfl, trivial⟩, ⟨rfl, rfl, rfl, rfl, rfl, rfl, rfl, rfl, rfl, trivial⟩, trivial⟩, rfl, ⟨rfl, rfl⟩, ⟨rfl, rfl⟩, rfl, trivial⟩
              · replace h := iteF h g377
                conv => whnf
                refine spl (fun g379 => ?_) (fun g379 => ?_)
                · replace h := iteT h g379
                  conv => whnf
                  refine CutK.go ?_
                  conv => whnf
                  exact LoopOk.back (spec_shValue_l0_2_ct  n _ _ _ _ _ _ _ _ _ h) [some 128, some 192] [] ⟨⟨rfl, rfl⟩, ⟨rfl, ⟨rfl, rfl, rfl, trivial⟩, ⟨rfl, rfl, rfl, rfl, rfl, rfl, rfl, rfl, rfl, trivial⟩, trivial⟩, rfl, ⟨rfl, rfl⟩, ⟨rfl, rfl⟩, rfl, trivial⟩
                · replace h := iteF h g379
                  conv => whnf
                  refine CutK.go ?_
                  conv => whnf
                  exact LoopOk.back (spec_shValue_l0_2_ct  n _ _ _ _ _ _ _ _ _ h) [some 128, some 192] [] ⟨⟨rfl, rfl⟩, ⟨rfl, ⟨rfl, rfl, rfl, trivial⟩, ⟨rfl, rfl, rfl, rfl, rfl, rfl, rfl, rfl, rfl, trivial⟩, trivial⟩, rfl, ⟨rfl, rfl⟩, ⟨rfl, rfl⟩, rfl, trivial⟩
            · replace h := iteN h g374
              conv => whnf
              refine Pick.no ?_
              conv => whnf
              obtain ⟨y380, e381, h⟩ := bind_ex h
              refine CallOk.of (spec_shWalk_step_ct e381) ?_
              conv => whnf
              refine spl (fun g382 => ?_) (fun g382 => ?_)
              · replace h := iteT h g382
                conv => whnf
                refine spl (fun g383 => ?_) (fun g383 => ?_)
                · replace h := iteT h g383
                  conv => whnf
                  refine CutK.go ?_
                  conv => whnf
                  exact LoopOk.back (spec_shValue_l0_2_ct  n _ _ _ _ _ _ _ _ _ h) [some 128, some 192] [] ⟨⟨rfl, rfl⟩, ⟨rfl, ⟨rfl, rfl, rfl, trivial⟩, ⟨rfl, rfl, rfl, rfl, rfl, rfl, rfl, rfl, rfl, trivial⟩, trivial⟩, rfl, ⟨rfl, rfl⟩, ⟨rfl, rfl⟩, rfl, trivial⟩
                · replace h := iteF h g383
                  conv => whnf
                  refine CutK.go ?_
                  conv => whnf
                  exact LoopOk.back (spec_shValue_l0_2_ct  n _ _ _ _ _ _ _ _ _ h) [some 128, some 192] [] ⟨⟨rfl, rfl⟩, ⟨rfl, ⟨rfl, rfl, rfl, trivial⟩, ⟨rfl, rfl, rfl, rfl, rfl, rfl, rfl, rfl, rfl, trivial⟩, trivial⟩, rfl, ⟨rfl, rfl⟩, ⟨rfl, rfl⟩, rfl, trivial⟩
              · replace h := iteF h g382
                conv => whnf
                refine spl (fun g384 => ?_) (fun g384 => ?_)
                · replace h := iteT h g384
                  conv => whnf
                  refine CutK.go ?_
                  conv => whnf
                  exact LoopOk.back (spec_shValue_l0_2_ct  n _ _ _ _ _ _ _ _ _ h) [some 128, some 192] [] ⟨⟨rfl, rfl⟩, ⟨rfl, ⟨rfl, rfl, rfl, trivial⟩, ⟨rfl, rfl, rfl, rfl, rfl, rfl, rfl, rfl, rfl, trivial⟩, trivial⟩, rfl, ⟨rfl, rfl⟩, ⟨rfl, rfl⟩, rfl, trivial⟩
                · replace h := iteF h g384
                  conv => whnf
                  refine CutK.go ?_
                  conv => whnf
                  exact LoopOk.back (spec_shValue_l0_2_ct  n _ _ _ _ _ _ _ _ _ h) [some 128, some 192] [] ⟨⟨rfl, rfl⟩, ⟨rfl, ⟨rfl, rfl, rfl, trivial⟩, ⟨rfl, rfl, rfl, rfl, rfl, rfl, rfl, rfl, rfl, trivial⟩, trivial⟩, rfl, ⟨rfl, rfl⟩, ⟨rfl, rfl⟩, rfl, trivial⟩
          · replace h := iteN h g370
            conv => whnf
            exact ⟨_, _, [some 128, some 192], [], ⟨rfl, _, _, _, _, _, _, _, _, h, rfl, rfl⟩, ⟨⟨rfl, rfl⟩, ⟨rfl, ⟨rfl, rfl, rfl, trivial⟩, ⟨rfl, rfl, rfl, rfl, rfl, rfl, rfl, rfl, rfl, trivial⟩, trivial⟩, ⟨rfl, rfl⟩, ⟨rfl, rfl⟩, trivial⟩⟩
        · replace h := condT h
          refine LoopOk.step ?_
          conv => whnf
          refine splD (fun g385 => ?_) (fun g385 => ?_)
          · replace h := iteP h g385
            conv => whnf
            refine splT ?_
            conv => whnf
            refine splF ?_
            conv => whnf
            obtain ⟨g387, b386, e388, h⟩ := byteD_ex h
            refine Req.of g387 ?_
            refine Byte.of _ e388 ?_
            conv => whnf
            refine splD (fun g389 => ?_) (fun g389 => ?_)
            · replace h := iteP h g389
              conv => whnf
              refine Pick.no ?_
              conv => whnf
              obtain ⟨y390, e391, h⟩ := bind_ex h
              refine CallOk.of (spec_shWalk_step_ct e391) ?_
              conv => whnf
              refine spl (fun g392 => ?_) (fun g392 => ?_)
              · replace h := iteT h g392
                conv => whnf
                refine spl (fun g393 => ?_) (fun g393 => ?_)
                · replace h := iteT h g393
                  conv => whnf
                  refine CutK.go ?_
                  conv => whnf
                  exact LoopOk.back (spec_shValue_l0_2_ct  n _ _ _ _ _ _ _ _ _ h) [some 128, some 192] [] ⟨⟨rfl, rfl⟩, ⟨rfl, ⟨rfl, rfl, rfl, trivial⟩, ⟨rfl, rfl, rfl, rfl, rfl, rfl, rfl, rfl, rfl, trivial⟩, trivial⟩, rfl, ⟨rfl, rfl⟩, ⟨rfl, rfl⟩, rfl, trivial⟩
                · replace h := iteF h g393
                  conv => whnf
                  refine CutK.go ?_
                  conv => whnf
                  exact LoopOk.back (spec_shValue_l0_2_ct  n _ _ _ _ _ _ _ _ _ h) [some 128, some 192] [] ⟨⟨rfl, rfl⟩, ⟨rfl, ⟨rfl, rfl, rfl, trivial⟩, ⟨rfl, rfl, rfl, rfl, rfl, rfl, rfl, rfl, rfl, trivial⟩, trivial⟩, rfl, ⟨rfl, rfl⟩, ⟨rfl, rfl⟩, rfl, trivial⟩
              · replace h := iteF h g392
                conv => whnf
                refine spl (fun g394 => ?_) (fun g394 => ?_)
                · replace h := iteT h g394
                  conv => whnf
                  refine CutK.go ?_
                  conv => whnf
                  exact LoopOk.back (spec_shValue_l0_2_ct  n _ _ _ _ _ _ _ _ _ h) [some 128, some 192] [] ⟨⟨rfl, rfl⟩, ⟨rfl, ⟨rfl, rfl, rfl, trivial⟩, ⟨rfl, rfl, rfl, rfl, rfl, rfl, rfl, rfl, rfl, trivial⟩, trivial⟩, rfl, ⟨rfl, rfl⟩, ⟨rfl, rfl⟩, rfl, trivial⟩
                · replace h := iteF h g394
                  conv => whnf
                  refine CutK.go ?_
                  conv => whnf
                  exact LoopOk.back (spec_shValue_l0_2_ct  n _ _ _ _ _ _ _ _ _ h) [some 128, some 192] [] ⟨⟨rfl, rfl⟩, ⟨rfl, ⟨rfl, rfl, rfl, trivial⟩, ⟨rfl, rfl, rfl, rfl, rfl, rfl, rfl, rfl, rfl, trivial⟩, trivial⟩, rfl, ⟨rfl, rfl⟩, ⟨rfl, rfl⟩, rfl, trivial⟩
            · replace h := iteN h g389
              conv => whnf
              refine Pick.no ?_
              conv => whnf
              obtain ⟨y395, e396, h⟩ := bind_ex h
              refine CallOk.of (spec_shWalk_step_ct e396) ?_
              conv => whnf
              refine spl (fun g397 => ?_) (fun g397 => ?_)
              · replace h := iteT h g397
                conv => whnf
                refine spl (fun g398 => ?_) (fun g398 => ?_)
                · replace h := iteT h g398
                  conv => whnf
                  refine CutK.go ?_
                  conv => whnf
                  exact LoopOk.back (spec_shValue_l0_2_ct  n _ _ _ _ _ _ _ _ _ h) [some 128, some 192] [] ⟨⟨rfl, rfl⟩, ⟨rfl, ⟨rfl, rfl, rfl, trivial⟩, ⟨rfl, rfl, rfl, rfl, rfl, rfl, rfl, rfl, rfl, trivial⟩, trivial⟩, rfl, ⟨rfl, rfl⟩, ⟨rfl, rfl⟩, rfl, trivial⟩
                · replace h := iteF h g398
                  conv => whnf
                  refine CutK.go ?_
                  conv => whnf
                  exact LoopOk.back (spec_shValue_l0_2_ct  n _ _ _ _ _ _ _ _ _ h) [some 128, some 192] [] ⟨⟨rfl, rfl⟩, ⟨rfl, ⟨rfl, rfl, rfl, trivial⟩, ⟨rfl, rfl, rfl, rfl, rfl, rfl, rfl, rfl, rfl, trivial⟩, trivial⟩, rfl, ⟨rfl, rfl⟩, ⟨rfl, rfl⟩, rfl, trivial⟩
              · replace h := iteF h g397
                conv => whnf
                refine spl (fun g399 => ?_) (fun g399 => ?_)
                · replace h := iteT h g399
                  conv => whnf
                  refine CutK.go ?_
                  conv => whnf
                  exact LoopOk.back (spec_shValue_l0_2_ct  n _ _ _ _ _ _ _ _ _ h) [some 128, some 192] [] ⟨⟨rfl, rfl⟩, ⟨rfl, ⟨rfl, rfl, rfl, trivial⟩, ⟨rfl, rfl, rfl, rfl, rfl, rfl, rfl, rfl, rfl, trivial⟩, trivial⟩, rfl, ⟨rfl, rfl⟩, ⟨rfl, rfl⟩, rfl, trivial⟩
                · replace h := iteF h g399
                  conv => whnf
                  refine CutK.go ?_
                  conv => whnf
                  exact LoopOk.back (spec_shValue_l0_2_ct  n _ _ _ _ _ _ _ _ _ h) [some 128, some 192] [] ⟨⟨rfl, rfl⟩, ⟨rfl, ⟨rfl, rfl, rfl, trivial⟩, ⟨rfl, rfl, rfl, rfl, rfl, rfl, rfl, rfl, rfl, trivial⟩, trivial⟩, rfl, ⟨rfl, rfl⟩, ⟨rfl, rfl⟩, rfl, trivial⟩
          · replace h := iteN h g385
            conv => whnf
            exact ⟨_, _, [some 128, some 192], [], ⟨rfl, _, _, _, _, _, _, _, _, h, rfl, rfl⟩, ⟨⟨rfl, rfl⟩, ⟨rfl, ⟨rfl, rfl, rfl, trivial⟩, ⟨rfl, rfl, rfl, rfl, rfl, rfl, rfl, rfl, rfl, trivial⟩, trivial⟩, ⟨rfl, rfl⟩, ⟨rfl, rfl⟩, trivial⟩⟩
      · replace h := condT h
        cases v236
        · replace h := condF h
          refine LoopOk.step ?_
          conv => whnf
          refine splD (fun g400 => ?_) (fun g400 => ?_)
          · replace h := iteP h g400
            conv => whnf
            refine splF ?_
            conv => whnf
            refine splT ?_
            conv => whnf
            obtain ⟨g402, b401, e403, h⟩ := byteD_ex h
            refine Req.of g402 ?_
            refine Byte.of _ e403 ?_
            conv => whnf
            refine splD (fun g404 => ?_) (fun g404 => ?_)
            · replace h := iteP h g404
              conv => whnf
              refine Pick.no ?_
              conv => whnf
              obtain ⟨y405, e406, h⟩ := bind_ex h
              refine CallOk.of (spec_shWalk_step_ct e406) ?_
              conv => whnf
              refine spl (fun g407 => ?_) (fun g407 => ?_)
              · replace h := iteT h g407
                conv => whnf
                refine spl (fun g408 => ?_) (fun g408 => ?_)
                · replace h := iteT h g408
                  conv => whnf
                  refine CutK.go ?_
                  conv => whnf
                  exact LoopOk.back (spec_shValue_l0_2_ct  n _ _ _ _ _ _ _ _ _ h) [some 128, some 192] [] ⟨⟨rfl, rfl⟩, ⟨rfl, ⟨rfl, rfl, rfl, trivial⟩, ⟨rfl, rfl, rfl, rfl, rfl, rfl, rfl, rfl, rfl, trivial⟩, trivial⟩, rfl, ⟨rfl, rfl⟩, ⟨rfl, rfl⟩, rfl, trivial⟩
                · replace h := iteF h g408
                  conv => whnf
                  refine CutK.go ?_
                  conv => whnf
                  exact LoopOk.back (spec_shValue_l0_2_ct  n _ _ _ _ _ _ _ _ _ h) [some 128, some 192] [] ⟨⟨rfl, rfl⟩, ⟨rfl, ⟨rfl, rfl, rfl, trivial⟩, ⟨rfl, rfl, rfl, rfl, rfl, rfl, rfl, rfl, rfl, trivial⟩, trivial⟩, rfl, ⟨rfl, rfl⟩, ⟨rfl, rfl⟩, rfl, trivial⟩
              · replace h := iteF h g407
                conv => whnf
                refine spl (fun g409 => ?_) (fun g409 => ?_)
                · replace h := iteT h g409
                  conv => whnf
                  refine CutK.go ?_
                  conv => whnf
                  exact LoopOk.back (spec_shValue_l0_2_ct  n _ _ _ _ _ _ _ _ _ h) [some 128, some 192] [] ⟨⟨rfl, rfl⟩, ⟨rfl, ⟨rfl, rfl, rfl, trivial⟩, ⟨rfl, rfl, rfl, rfl, rfl, rfl, rfl, rfl, rfl, trivial⟩, trivial⟩, rfl, ⟨rfl, rfl⟩, ⟨rfl, rfl⟩, rfl, trivial⟩
                · replace h := iteF h g409
                  conv => whnf
                  refine CutK.go ?_
                  conv => whnf
                  exact LoopOk.back (spec_shValue_l0_2_ct  n _ _ _ _ _ _ _ _ _ h) [some 128, some 192] [] ⟨⟨rfl, rfl⟩, ⟨rfl, ⟨rfl, rfl, rfl, trivial⟩, ⟨rfl, rfl, rfl, rfl, rfl, rfl, rfl, rfl, rfl, trivial⟩, trivial⟩, rfl, ⟨rfl, rfl⟩, ⟨rfl, rfl⟩, rfl, trivial⟩
            · replace h := iteN h g404
              conv => whnf
              refine Pick.no ?_
              conv => whnf
              obtain ⟨y410, e411, h⟩ := bind_ex h
              refine CallOk.of (spec_shWalk_step_ct e411) ?_
              conv => whnf
              refine spl (fun g412 => ?_) (fun g412 => ?_)
              · replace h := iteT h g412
                conv => whnf
                refine spl (fun g413 => ?_) (fun g413 => ?_)
                · replace h := iteT h g413
                  conv => whnf
                  refine CutK.go ?_
                  conv => whnf
                  exact LoopOk.back (spec_shValue_l0_2_ct  n _ _ _ _ _ _ _ _ _ h) [some 128, some 192] [] ⟨⟨rfl, rfl⟩, ⟨rfl, ⟨rfl, rfl, rfl, trivial⟩, ⟨rfl, rfl, rfl, rfl, rfl, rfl, rfl, rfl, rfl, trivial⟩, trivial⟩, rfl, ⟨rfl, rfl⟩, ⟨rfl, rfl⟩, rfl, trivial⟩
                · replace h := iteF h g413
                  conv => whnf
                  refine CutK.go ?_
                  conv => whnf
                  exact LoopOk.back (spec_shValue_l0_2_ct  n _ _ _ _ _ _ _ _ _ h) [some 128, some 192] [] ⟨⟨rfl, rfl⟩, ⟨rfl, ⟨rfl, rfl, rfl, trivial⟩, ⟨rfl, rfl, rfl, rfl, rfl, rfl, rfl, rfl, rfl, trivial⟩, trivial⟩, rfl, ⟨rfl, rfl⟩, ⟨rfl, rfl⟩, rfl, trivial⟩
              · replace h := iteF h g412
                conv => whnf
                refine spl (fun g414 => ?_) (fun g414 => ?_)
                · replace h := iteT h g414
                  conv => whnf
                  refine CutK.go ?_
                  conv => whnf
                  exact LoopOk.back (spec_shValue_l0_2_ct  n _ _ _ _ _ _ _ _ _ h) [some 128, some 192] [] ⟨⟨rfl, rfl⟩, ⟨rfl, ⟨rfl, rfl, rfl, trivial⟩, ⟨rfl, rfl, rfl, rfl, rfl, rfl, rfl, rfl, rfl, trivial⟩, trivial⟩, rfl, ⟨rfl, rfl⟩, ⟨rfl, rfl⟩, rfl, trivial⟩
                · replace h := iteF h g414
                  conv => whnf
                  refine CutK.go ?_
                  conv => whnf
                  exact LoopOk.back (spec_shValue_l0_2_ct  n _ _ _ _ _ _ _ _ _ h) [some 128, some 192] [] ⟨⟨rfl, rfl⟩, ⟨rfl, ⟨rfl, rfl, rfl, trivial⟩, ⟨rfl, rfl, rfl, rfl, rfl, rfl, rfl, rfl, rfl, trivial⟩, trivial⟩, rfl, ⟨rfl, rfl⟩, ⟨rfl, rfl⟩, rfl, trivial⟩
          · replace h := iteN h g400
            conv => whnf
            exact ⟨_, _, [some 128, some 192], [], ⟨rfl, _, _, _, _, _, _, _, _, h, rfl, rfl⟩, ⟨⟨rfl, rfl⟩, ⟨rfl, ⟨rfl, rfl, rfl, trivial⟩, ⟨rfl, rfl, rfl, rfl, rfl, rfl, rfl, rfl, rfl, trivial⟩, trivial⟩, ⟨rfl, rfl⟩, ⟨rfl, rfl⟩, trivial⟩⟩
        · replace h := condT h
          refine LoopOk.step ?_
          conv => whnf
          refine splD (fun g415 => ?_) (fun g415 => ?_)
          · replace h := iteP h g415
            conv => whnf
            refine splT ?_
            conv => whnf
            refine splT ?_
            conv => whnf
            obtain ⟨g417, b416, e418, h⟩ := byteD_ex h
            refine Req.of g417 ?_
            refine Byte.of _ e418 ?_
            conv => whnf
            refine splD (fun g419 => ?_) (fun g419 => ?_)
            · replace h := iteP h g419
              conv => whnf
              refine Pick.no ?_
              conv => whnf
              obtain ⟨y420, e421, h⟩ := bind_ex h
              refine CallOk.of (spec_shWalk_step_ct e421) ?_
              conv => whnf
              refine spl (fun g422 => ?_) (fun g422 => ?_)
              · replace h := iteT h g422
                conv => whnf
                refine spl (fun g423 => ?_) (fun g423 => ?_)
                · replace h := iteT h g423
                  conv => whnf
                  refine CutK.go ?_
                  conv => whnf
                  exact LoopOk.back (spec_shValue_l0_2_ct  n _ _ _ _ _ _ _ _ _ h) [some 128, some 192] [] ⟨⟨rfl, rfl⟩, ⟨rfl, ⟨rfl, rfl, rfl, trivial⟩, ⟨rfl, rfl, rfl, rfl, rfl, rfl, rfl, rfl, rfl, trivial⟩, trivial⟩, rfl, ⟨rfl, rfl⟩, ⟨rfl, rfl⟩, rfl, trivial⟩
                · replace h := iteF h g423
                  conv => whnf
                  refine CutK.go ?_
                  conv => whnf
                  exact LoopOk.back (spec_shValue_l0_2_ct  n _ _ _ _ _ _ _ _ _ h) [some 128, some 192] [] ⟨⟨rfl, rfl⟩, ⟨rfl, ⟨rfl, rfl, rfl, trivial⟩, ⟨rfl, rfl, rfl, rfl, rfl, rfl, rfl, rfl, rfl, trivial⟩, trivial⟩, rfl, ⟨rfl, rfl⟩, ⟨rfl, rfl⟩, rfl, trivial⟩
              · replace h := iteF h g422
                conv => whnf
                refine spl (fun g424 => ?_) (fun g424 => ?_)
                · replace h := iteT h g424
                  conv => whnf
                  refine CutK.go ?_
                  conv => whnf
                  exact LoopOk.back (spec_shValue_l0_2_ct  n _ _ _ _ _ _ _ _ _ h) [some 128, some 192] [] ⟨⟨rfl, rfl⟩, ⟨rfl, ⟨rfl, rfl, rfl, trivial⟩, ⟨rfl, rfl, rfl, rfl, rfl, rfl, rfl, rfl, rfl, trivial⟩, trivial⟩, rfl, ⟨rfl, rfl⟩, ⟨rfl, rfl⟩, rfl, trivial⟩
                · replace h := iteF h g424
                  conv => whnf
                  refine CutK.go ?_
                  conv => whnf
                  exact LoopOk.back (spec_shValue_l0_2_ct  n _ _ _ _ _ _ _ _ _ h) [some 128, some 192] [] ⟨⟨rfl, rfl⟩, ⟨rfl, ⟨rfl, rfl, rfl, trivial⟩, ⟨rfl, rfl, rfl, rfl, rfl, rfl, rfl, rfl, rfl, trivial⟩, trivial⟩, rfl, ⟨rfl, rfl⟩, ⟨rfl, rfl⟩, rfl, trivial⟩
            · replace h := iteN h g419
              conv => whnf
              refine Pick.no ?_
              conv => whnf
              obtain ⟨y425, e426, h⟩ := bind_ex h
              refine CallOk.of (spec_shWalk_step_ct e426) ?_
              conv => whnf
              refine spl (fun g427 => ?_) (fun g427 => ?_)
              · replace h := iteT h g427
                conv => whnf
                refine spl (fun g428 => ?_) (fun g428 => ?_)
                · replace h := iteT h g428
                  conv => whnf
                  refine CutK.go ?_
                  conv => whnf
                  exact LoopOk.back (spec_shValue_l0_2_ct  n _ _ _ _ _ _ _ _ _ h) [some 128, some 192] [] ⟨⟨rfl, rfl⟩, ⟨rfl, ⟨rfl, rfl, rfl, trivial⟩, ⟨rfl, rfl, rfl, rfl, rfl, rfl, rfl, rfl, rfl, trivial⟩, trivial⟩, rfl, ⟨rfl, rfl⟩, ⟨rfl, rfl⟩, rfl, trivial⟩
                · replace h := iteF h g428
                  conv => whnf
                  refine CutK.go ?_
                  conv => whnf
                  exact LoopOk.back (spec_shValue_l0_2_ct  n _ _ _ _ _ _ _ _ _ h) [some 128, some 192] [] ⟨⟨rfl, rfl⟩, ⟨rfl, ⟨rfl, rfl, rfl, trivial⟩, ⟨rfl, rfl, rfl, rfl, rfl, rfl, rfl, rfl, rfl, trivial⟩, trivial⟩, rfl, ⟨rfl, rfl⟩, ⟨rfl, rfl⟩, rfl, trivial⟩
              · replace h := iteF h g427
                conv => whnf
                refine spl (fun g429 => ?_) (fun g429 => ?_)
                · replace h := iteT h g429
                  conv => whnf
                  refine CutK.go ?_
                  conv => whnf
                  exact LoopOk.back (spec_shValue_l0_2_ct  n _ _ _ _ _ _ _ _ _ h) [some 128, some 192] [] ⟨⟨rfl, rfl⟩, ⟨rfl, ⟨rfl, rfl, rfl, trivial⟩, ⟨rfl, rfl, rfl, rfl, rfl, rfl, rfl, rfl, rfl, trivial⟩, trivial⟩, rfl, ⟨rfl, rfl⟩, ⟨rfl, rfl⟩, rfl, trivial⟩
                · replace h := iteF h g429
                  conv => whnf
                  refine CutK.go ?_
                  conv => whnf
                  exact LoopOk.back (spec_shValue_l0_2_ct  n _ _ _ _ _ _ _ _ _ h) [some 128, some 192] [] ⟨⟨rfl, rfl⟩, ⟨rfl, ⟨rfl, rfl, rfl, trivial⟩, ⟨rfl, rfl, rfl, rfl, rfl, rfl, rfl, rfl, rfl, trivial⟩, trivial⟩, rfl, ⟨rfl, rfl⟩, ⟨rfl, rfl⟩, rfl, trivial⟩
          · replace h := iteN h g415
            conv => whnf
            exact ⟨_, _, [some 128, some 192], [], ⟨rfl, _, _, _, _, _, _, _, _, h, rfl, rfl⟩, ⟨⟨rfl, rfl⟩, ⟨rfl, ⟨rfl, rfl, rfl, trivial⟩, ⟨rfl, rfl, rfl, rfl, rfl, rfl, rfl, rfl, rfl, trivial⟩, trivial⟩, ⟨rfl, rfl⟩, ⟨rfl, rfl⟩, trivial⟩⟩
def spec_shValue_l0_3 (k : Nat) (a1 : ByteArray) (K0 : Int → Int → Int → Int → Int → Int → Bool → Bool → Option (Int × Int)) : Nat → Int → Int → Int → Int → Int → Int → Int → Bool → Bool → Option (Int × Int)
  | 0, _, _, _, _, _, _, _, _, _ => none
  | n + 1, v440, v441, v442, v443, v444, v445, v446, v447, v448 => (cond v447 (cond v448 (if v440 < (a1.size : Int) then (byteD a1 v440 fun b629 => (if (b629.toNat : Int) = (43 : Int) then ((spec_shWalk_step k v441 v442 v443 v444 v445 v446 true true true).bind fun y633 => (if y633.2.2.2.2.2.2.1 = true then (if y633.2.2.2.2.2.2.2 = true then (spec_shValue_l0_3 k a1 K0 n (IntKind.i64.wrap (v440 + 1)) y633.1 y633.2.1 y633.2.2.1 y633.2.2.2.1 y633.2.2.2.2.1 y633.2.2.2.2.2.1 true true) else (spec_shValue_l0_3 k a1 K0 n (IntKind.i64.wrap (v440 + 1)) y633.1 y633.2.1 y633.2.2.1 y633.2.2.2.1 y633.2.2.2.2.1 y633.2.2.2.2.2.1 true false)) else (if y633.2.2.2.2.2.2.2 = true then (spec_shValue_l0_3 k a1 K0 n (IntKind.i64.wrap (v440 + 1)) y633.1 y633.2.1 y633.2.2.1 y633.2.2.2.1 y633.2.2.2.2.1 y633.2.2.2.2.2.1 false true) else (spec_shValue_l0_3 k a1 K0 n (IntKind.i64.wrap (v440 + 1)) y633.1 y633.2.1 y633.2.2.1 y633.2.2.2.1 y633.2.2.2.2.1 y633.2.2.2.2.2.1 false false)))) else ((spec_shWalk_step k v441 v442 v443 v444 v445 v446 true true false).bind fun y638 => (if y638.2.2.2.2.2.2.1 = true then (if y638.2.2.2.2.2.2.2 = true then (spec_shValue_l0_3 k a1 K0 n (IntKind.i64.wrap (v440 + 1)) y638.1 y638.2.1 y638.2.2.1 y638.2.2.2.1 y638.2.2.2.2.1 y638.2.2.2.2.2.1 true true) else (spec_shValue_l0_3 k a1 K0 n (IntKind.i64.wrap (v440 + 1)) y638.1 y638.2.1 y638.2.2.1 y638.2.2.2.1 y638.2.2.2.2.1 y638.2.2.2.2.2.1 true false)) else (if y638.2.2.2.2.2.2.2 = true then (spec_shValue_l0_3 k a1 K0 n (IntKind.i64.wrap (v440 + 1)) y638.1 y638.2.1 y638.2.2.1 y638.2.2.2.1 y638.2.2.2.2.1 y638.2.2.2.2.2.1 false true) else (spec_shValue_l0_3 k a1 K0 n (IntKind.i64.wrap (v440 + 1)) y638.1 y638.2.1 y638.2.2.1 y638.2.2.2.1 y638.2.2.2.2.1 y638.2.2.2.2.2.1 false false)))))) else (K0 v441 v442 v443 v444 v445 v446 true true)) (if v440 < (a1.size : Int) then (byteD a1 v440 fun b614 => (if (b614.toNat : Int) = (43 : Int) then ((spec_shWalk_step k v441 v442 v443 v444 v445 v446 true false true).bind fun y618 => (if y618.2.2.2.2.2.2.1 = true then (if y618.2.2.2.2.2.2.2 = true then (spec_shValue_l0_3 k a1 K0 n (IntKind.i64.wrap (v440 + 1)) y618.1 y618.2.1 y618.2.2.1 y618.2.2.2.1 y618.2.2.2.2.1 y618.2.2.2.2.2.1 true true) else (spec_shValue_l0_3 k a1 K0 n (IntKind.i64.wrap (v440 + 1)) y618.1 y618.2.1 y618.2.2.1 y618.2.2.2.1 y618.2.2.2.2.1 y618.2.2.2.2.2.1 true false)) else (if y618.2.2.2.2.2.2.2 = true then (spec_shValue_l0_3 k a1 K0 n (IntKind.i64.wrap (v440 + 1)) y618.1 y618.2.1 y618.2.2.1 y618.2.2.2.1 y618.2.2.2.2.1 y618.2.2.2.2.2.1 false true) else (spec_shValue_l0_3 k a1 K0 n (IntKind.i64.wrap (v440 + 1)) y618.1 y618.2.1 y618.2.2.1 y618.2.2.2.1 y618.2.2.2.2.1 y618.2.2.2.2.2.1 false false)))) else ((spec_shWalk_step k v441 v442 v443 v444 v445 v446 true false false).bind fun y623 => (if y623.2.2.2.2.2.2.1 = true then (if y623.2.2.2.2.2.2.2 = true then (spec_shValue_l0_3 k a1 K0 n (IntKind.i64.wrap (v440 + 1)) y623.1 y623.2.1 y623.2.2.1 y623.2.2.2.1 y623.2.2.2.2.1 y623.2.2.2.2.2.1 true true) else (spec_shValue_l0_3 k a1 K0 n (IntKind.i64.wrap (v440 + 1)) y623.1 y623.2.1 y623.2.2.1 y623.2.2.2.1 y623.2.2.2.2.1 y623.2.2.2.2.2.1 true false)) else (if y623.2.2.2.2.2.2.2 = true then (spec_shValue_l0_3 k a1 K0 n (IntKind.i64.wrap (v440 + 1)) y623.1 y623.2.1 y623.2.2.1 y623.2.2.2.1 y623.2.2.2.2.1 y623.2.2.2.2.2.1 false true) else (spec_shValue_l0_3 k a1 K0 n (IntKind.i64.wrap (v440 + 1)) y623.1 y623.2.1 y623.2.2.1 y623.2.2.2.1 y623.2.2.2.2.1 y623.2.2.2.2.2.1 false false)))))) else (K0 v441 v442 v443 v444 v445 v446 false true))) (cond v448 (if v440 < (a1.size : Int) then (byteD a1 v440 fun b599 => (if (b599.toNat : Int) = (43 : Int) then ((spec_shWalk_step k v441 v442 v443 v444 v445 v446 false true true).bind fun y603 => (if y603.2.2.2.2.2.2.1 = true then (if y603.2.2.2.2.2.2.2 = true then (spec_shValue_l0_3 k a1 K0 n (IntKind.i64.wrap (v440 + 1)) y603.1 y603.2.1 y603.2.2.1 y603.2.2.2.1 y603.2.2.2.2.1 y603.2.2.2.2.2.1 true true) else (spec_shValue_l0_3 k a1 K0 n (IntKind.i64.wrap (v440 + 1)) y603.1 y603.2.1 y603.2.2.1 y603.2.2.2.1 y603.2.2.2.2.1 y603.2.2.2.2.2.1 true false)) else (if y603.2.2.2.2.2.2.2 = true then (spec_shValue_l0_3 k a1 K0 n (IntKind.i64.wrap (v440 + 1)) y603.1 y603.2.1 y603.2.2.1 y603.2.2.2.1 y603.2.2.2.2.1 y603.2.2.2.2.2.1 false true) else (spec_shValue_l0_3 k a1 K0 n (IntKind.i64.wrap (v440 + 1)) y603.1 y603.2.1 y603.2.2.1 y603.2.2.2.1 y603.2.2.2.2.1 y603.2.2.2.2.2.1 false false)))) else ((spec_shWalk_step k v441 v442 v443 v444 v445 v446 false true false).bind fun y608 => (if y608.2.2.2.2.2.2.1 = true then (if y608.2.2.2.2.2.2.2 = true then (spec_shValue_l0_3 k a1 K0 n (IntKind.i64.wrap (v440 + 1)) y608.1 y608.2.1 y608.2.2.1 y608.2.2.2.1 y608.2.2.2.2.1 y608.2.2.2.2.2.1 true true) else (spec_shValue_l0_3 k a1 K0 n (IntKind.i64.wrap (v440 + 1)) y608.1 y608.2.1 y608.2.2.1 y608.2.2.2.1 y608.2.2.2.2.1 y608.2.2.2.2.2.1 true false)) else (if y608.2.2.2.2.2.2.2 = true then (spec_shValue_l0_3 k a1 K0 n (IntKind.i64.wrap (v440 + 1)) y608.1 y608.2.1 y608.2.2.1 y608.2.2.2.1 y608.2.2.2.2.1 y608.2.2.2.2.2.1 false true) else (spec_shValue_l0_3 k a1 K0 n (IntKind.i64.wrap (v440 + 1)) y608.1 y608.2.1 y608.2.2.1 y608.2.2.2.1 y608.2.2.2.2.1 y608.2.2.2.2.2.1 false false)))))) else (K0 v441 v442 v443 v444 v445 v446 true false)) (if v440 < (a1.size : Int) then (byteD a1 v440 fun b584 => (if (b584.toNat : Int) = (43 : Int) then ((spec_shWalk_step k v441 v442 v443 v444 v445 v446 false false true).bind fun y588 => (if y588.2.2.2.2.2.2.1 = true then (if y588.2.2.2.2.2.2.2 = true then (spec_shValue_l0_3 k a1 K0 n (IntKind.i64.wrap (v440 + 1)) y588.1 y588.2.1 y588.2.2.1 y588.2.2.2.1 y588.2.2.2.2.1 y588.2.2.2.2.2.1 true true) else (spec_shValue_l0_3 k a1 K0 n (IntKind.i64.wrap (v440 + 1)) y588.1 y588.2.1 y588.2.2.1 y588.2.2.2.1 y588.2.2.2.2.1 y588.2.2.2.2.2.1 true false)) else (if y588.2.2.2.2.2.2.2 = true then (spec_shValue_l0_3 k a1 K0 n (IntKind.i64.wrap (v440 + 1)) y588.1 y588.2.1 y588.2.2.1 y588.2.2.2.1 y588.2.2.2.2.1 y588.2.2.2.2.2.1 false true) else (spec_shValue_l0_3 k a1 K0 n (IntKind.i64.wrap (v440 + 1)) y588.1 y588.2.1 y588.2.2.1 y588.2.2.2.1 y588.2.2.2.2.1 y588.2.2.2.2.2.1 false false)))) else ((spec_shWalk_step k v441 v442 v443 v444 v445 v446 false false false).bind fun y593 => (if y593.2.2.2.2.2.2.1 = true then (if y593.2.2.2.2.2.2.2 = true then (spec_shValue_l0_3 k a1 K0 n (IntKind.i64.wrap (v440 + 1)) y593.1 y593.2.1 y593.2.2.1 y593.2.2.2.1 y593.2.2.2.2.1 y593.2.2.2.2.2.1 true true) else (spec_shValue_l0_3 k a1 K0 n (IntKind.i64.wrap (v440 + 1)) y593.1 y593.2.1 y593.2.2.1 y593.2.2.2.1 y593.2.2.2.2.1 y593.2.2.2.2.2.1 true false)) else (if y593.2.2.2.2.2.2.2 = true then (spec_shValue_l0_3 k a1 K0 n (IntKind.i64.wrap (v440 + 1)) y593.1 y593.2.1 y593.2.2.1 y593.2.2.2.1 y593.2.2.2.2.1 y593.2.2.2.2.2.1 false true) else (spec_shValue_l0_3 k a1 K0 n (IntKind.i64.wrap (v440 + 1)) y593.1 y593.2.1 y593.2.2.1 y593.2.2.2.1 y593.2.2.2.2.1 y593.2.2.2.2.2.1 false false)))))) else (K0 v441 v442 v443 v444 v445 v446 false false))))
set_option maxRecDepth 100000 in
theorem spec_shValue_l0_3_ct {k : Nat} {a1 : ByteArray} {K0 : Int → Int → Int → Int → Int → Int → Bool → Bool → Option (Int × Int)} {r : Int × Int} : ∀ (n : Nat) (v440 : Int) (v441 : Int) (v442 : Int) (v443 : Int) (v444 : Int) (v445 : Int) (v446 : Int) (v447 : Bool) (v448 : Bool), spec_shValue_l0_3 k a1 K0 n v440 v441 v442 v443 v444 v445 v446 v447 v448 = some r → LoopOk prog 0 (lp f117 0) (mk 20 [(0, .d (D.str a1)), (2, .ptr 128 0), (3, .ptr 192 0), (4, .d (D.int .i64 v440))] [(128, .box 35 [.d (D.int .i64 0), .d (D.int .i64 0)]), (192, .box 193 [.d (D.int .i64 v441), .d (D.int .i64 v442), .d (D.int .i64 v443), .d (D.int .i64 v444), .d (D.int .i64 v445), .d (D.int .i64 v446), .d (D.bool v447), .d (D.bool v448)])]) (LoopEnd prog f117 0 20 (.agg [.d (D.int .i64 r.1), .d (D.int .i64 r.2)]) (⟨[], []⟩) (fun i ts os => (i = 0 ∧ ∃ v470 : Int, ∃ v471 : Int, ∃ v472 : Int, ∃ v473 : Int, ∃ v474 : Int, ∃ v475 : Int, ∃ v476 : Bool, ∃ v507 : Bool, K0 v470 v471 v472 v473 v474 v475 v476 v507 = some r ∧ ts = [(2, .ptr 128 0), (3, .ptr 192 0)] ∧ os = [(128, .box 35 [.d (D.int .i64 0), .d (D.int .i64 0)]), (192, .box 193 [.d (D.int .i64 v470), .d (D.int .i64 v471), .d (D.int .i64 v472), .d (D.int .i64 v473), .d (D.int .i64 v474), .d (D.int .i64 v475), .d (D.bool v507), .d (D.bool v476)])])))
  | 0, _, _, _, _, _, _, _, _, _, h => by
      rw [spec_shValue_l0_3] at h; cases h
  | n + 1, v440, v441, v442, v443, v444, v445, v446, v447, v448, h => by
      rw [spec_shValue_l0_3] at h
      cases v447
      · replace h := condF h
        cases v448
        · replace h := condF h
          refine LoopOk.step ?_
          conv => whnf
          refine splD (fun g583 => ?_) (fun g583 => ?_)
          · replace h := iteP h g583
            conv => whnf
            refine splF ?_
            conv => whnf
            refine splF ?_
            conv => whnf
            obtain ⟨g585, b584, e586, h⟩ := byteD_ex h
            refine Req.of g585 ?_
            refine Byte.of _ e586 ?_
            conv => whnf
            refine splD (fun g587 => ?_) (fun g587 => ?_)
            · replace h := iteP h g587
              conv => whnf
              refine Pick.no ?_
              conv => whnf
              obtain ⟨y588, e589, h⟩ := bind_ex h
              refine CallOk.of (spec_shWalk_step_ct e589) ?_
              conv => whnf
              refine spl (fun g590 => ?_) (fun g590 => ?_)
              · replace h := iteT h g590
                conv => whnf
                refine spl (fun g591 => ?_) (fun g591 => ?_)
                · replace h := iteT h g591
                  conv => whnf
                  refine CutK.go ?_
                  conv => whnf
                  exact LoopOk.back (spec_shValue_l0_3_ct  n _ _ _ _ _ _ _ _ _ h) [some 128, some 192] [] ⟨⟨rfl, rfl⟩, ⟨rfl, ⟨rfl, rfl, rfl, trivial⟩, ⟨rfl, rfl, rfl, rfl, rfl, rfl, rfl, rfl, rfl, trivial⟩, trivial⟩, rfl, ⟨rfl, rfl⟩, ⟨rfl, rfl⟩, rfl, trivial⟩
                · replace h := iteF h g591
                  conv => whnf
                  refine CutK.go ?_
                  conv => whnf
                  exact LoopOk.back (spec_shValue_l0_3_ct  n _ _ _ _ _ _ _ _ _ h) [some 128, some 192] [] ⟨⟨rfl, rfl⟩, ⟨rfl, ⟨rfl, rfl, rfl, trivial⟩, ⟨rfl, rfl, rfl, rfl, rfl, rfl, rfl, rfl, rfl, trivial⟩, trivial⟩, rfl, ⟨rfl, rfl⟩, ⟨rfl, rfl⟩, rfl, trivial⟩
              · replace h := iteF h g590
                conv => whnf
                refine spl (fun g592 => ?_) (fun g592 => ?_)
                · replace h := iteT h g592
                  conv => whnf
                  refine CutK.go ?_
                  conv => whnf
                  exact LoopOk.back (spec_shValue_l0_3_ct  n _ _ _ _ _ _ _ _ _ h) [some 128, some 192] [] ⟨⟨rfl, rfl⟩, ⟨rfl, ⟨rfl, rfl, rfl, trivial⟩, ⟨rfl, rfl, rfl, rfl, rfl, rfl, rfl, rfl, rfl, trivial⟩, trivial⟩, rfl, ⟨rfl, rfl⟩, ⟨rfl, rfl⟩, rfl, trivial⟩
                · replace h := iteF h g592
                  conv => whnf
                  refine CutK.go ?_
                  conv => whnf
                  exact LoopOk.back (spec_shValue_l0_3_ct  n _ _ _ _ _ _ _ _ _ h) [some 128, some 192] [] ⟨⟨rfl, rfl⟩, ⟨rfl, ⟨rfl, rfl, rfl, trivial⟩, ⟨rfl, rfl, rfl, rfl, rfl, rfl, rfl, rfl, rfl, trivial⟩, trivial⟩, rfl, ⟨rfl, rfl⟩, ⟨rfl, rfl⟩, rfl, trivial⟩
            · replace h := iteN h g587
              conv => whnf
              refine Pick.no ?_
              conv => whnf
              obtain ⟨y593, e594, h⟩ := bind_ex h
              refine CallOk.of (spec_shWalk_step_ct e594) ?_
              conv => whnf
              refine spl (fun g595 => ?_) (fun g595 => ?_)
              · replace h := iteT h g595
                conv => whnf
                refine spl (fun g596 => ?_) (fun g596 => ?_)
                · replace h := iteT h g596
                  conv => whnf
                  refine CutK.go ?_
                  conv => whnf
                  exact LoopOk.back (spec_shValue_l0_3_ct  n _ _ _ _ _ _ _ _ _ h) [some 128, some 192] [] ⟨⟨rfl, rfl⟩, ⟨rfl, ⟨rfl, rfl, rfl, trivial⟩, ⟨rfl, rfl, rfl, rfl, rfl, rfl, rfl, rfl, rfl, trivial⟩, trivial⟩, rfl, ⟨rfl, rfl⟩, ⟨rfl, rfl⟩, rfl, trivial⟩
                · replace h := iteF h g596
                  conv => whnf
                  refine CutK.go ?_
                  conv => whnf
                  exact LoopOk.back (spec_shValue_l0_3_ct  n _ _ _ _ _ _ _ _ _ h) [some 128, some 192] [] ⟨⟨rfl, rfl⟩, ⟨rfl, ⟨rfl, rfl, rfl, trivial⟩, ⟨rfl, rfl, rfl, rfl, rfl, rfl, rfl, rfl, rfl, trivial⟩, trivial⟩, rfl, ⟨rfl, rfl⟩, ⟨rfl, rfl⟩, rfl, trivial⟩
              · replace h := iteF h g595
                conv => whnf
                refine spl (fun g597 => ?_) (fun g597 => ?_)
                · replace h := iteT h g597
                  conv => whnf
                  refine CutK.go ?_
                  conv => whnf
                  exact LoopOk.back (spec_shValue_l0_3_ct  n _ _ _ _ _ _ _ _ _ h) [some 128, some 192] [] ⟨⟨rfl, rfl⟩, ⟨rfl, ⟨rfl, rfl, rfl, trivial⟩, ⟨rfl, rfl, rfl, rfl, rfl, rfl, rfl, rfl, rfl, trivial⟩, trivial⟩, rfl, ⟨rfl, rfl⟩, ⟨rfl, rfl⟩, rfl, trivial⟩
                · replace h := iteF h g597
                  conv => whnf
                  refine CutK.go ?_
                  conv => whnf
                  exact LoopOk.back (spec_shValue_l0_3_ct  n _ _ _ _ _ _ _ _ _ h) [some 128, some 192] [] ⟨⟨rfl, rfl⟩, ⟨rfl, ⟨rfl, rfl, rfl, trivial⟩, ⟨rfl, rfl, rfl, rfl, rfl, rfl, rfl, rfl, rfl, trivial⟩, trivial⟩, rfl, ⟨rfl, rfl⟩, ⟨rfl, rfl⟩, rfl, trivial⟩
          · replace h := iteN h g583
            conv => whnf
            exact ⟨_, _, [some 128, some 192], [], ⟨rfl, _, _, _, _, _, _, _, _, h, rfl, rfl⟩, ⟨⟨rfl, rfl⟩, ⟨rfl, ⟨rfl, rfl, rfl, trivial⟩, ⟨rfl, rfl, rfl, rfl, rfl, rfl, rfl, rfl, rfl, trivial⟩, trivial⟩, ⟨rfl, rfl⟩, ⟨rfl, rfl⟩, trivial⟩⟩
        · replace h := condT h
          refine LoopOk.step ?_
          conv => whnf
          refine splD (fun g598 => ?_) (fun g598 => ?_)
          · replace h := iteP h g598
            conv => whnf
            refine splF ?_
            conv => whnf
            refine splT ?_
            conv => whnf
            obtain ⟨g600, b599, e601, h⟩ := byteD_ex h
            refine Req.of g600 ?_
            refine Byte.of _ e601 ?_
            conv => whnf
            refine splD (fun g602 => ?_) (fun g602 => ?_)
            · replace h := iteP h g602
              conv => whnf
              refine Pick.no ?_
              conv => whnf
              obtain ⟨y603, e604, h⟩ := bind_ex h
              refine CallOk.of (spec_shWalk_step_ct e604) ?_
              conv => whnf
              refine spl (fun g605 => ?_) (fun g605 => ?_)
              · replace h := iteT h g605
                conv => whnf
                refine spl (fun g606 => ?_) (fun g606 => ?_)
                · replace h := iteT h g606
                  conv => whnf
                  refine CutK.go ?_
                  conv => whnf
                  exact LoopOk.back (spec_shValue_l0_3_ct  n _ _ _ _ _ _ _ _ _ h) [some 128, some 192] [] ⟨⟨rfl, rfl⟩, ⟨rfl, ⟨rfl, rfl, rfl, trivial⟩, ⟨rfl, rfl, rfl, rfl, rfl, rfl, rfl, rfl, rfl, trivial⟩, trivial⟩, rfl, ⟨rfl, rfl⟩, ⟨rfl, rfl⟩, rfl, trivial⟩
                · replace h := iteF h g606
                  conv => whnf
                  refine CutK.go ?_
                  conv => whnf
                  exact LoopOk.back (spec_shValue_l0_3_ct  n _ _ _ _ _ _ _ _ _ h) [some 128, some 192] [] ⟨⟨rfl, rfl⟩, ⟨rfl, ⟨rfl, rfl, rfl, trivial⟩, ⟨rfl, rfl, rfl, rfl, rfl, rfl, rfl, rfl, rfl, trivial⟩, trivial⟩, rfl, ⟨rfl, rfl⟩, ⟨rfl, rfl⟩, rfl, trivial⟩
              · replace h := iteF h g605
                conv => whnf
                refine spl (fun g607 => ?_) (fun g607 => ?_)
                · replace h := iteT h g607
                  conv => whnf
                  refine CutK.go ?_
                  conv => whnf
                  exact LoopOk.back (spec_shValue_l0_3_ct  n _ _ _ _ _ _ _ _ _ h) [some 128, some 192] [] ⟨⟨rfl, rfl⟩, ⟨rfl, ⟨rfl, rfl, rfl, trivial⟩, ⟨rfl, rfl, rfl, rfl, rfl, rfl, rfl, rfl, rfl, trivial⟩, trivial⟩, rfl, ⟨rfl, rfl⟩, ⟨rfl, rfl⟩, rfl, trivial⟩
                · replace h := iteF h g607
                  conv => whnf
                  refine CutK.go ?_
                  conv => whnf
                  exact LoopOk.back (spec_shValue_l0_3_ct  n _ _ _ _ _ _ _ _ _ h) [some 128, some 192] [] ⟨⟨rfl, rfl⟩, ⟨rfl, ⟨rfl, rfl, rfl, trivial⟩, ⟨rfl, rfl, rfl, rfl, rfl, rfl, rfl, rfl, rfl, trivial⟩, trivial⟩, rfl, ⟨rfl, rfl⟩, ⟨rfl, rfl⟩, rfl, trivial⟩
            · replace h := iteN h g602
              conv => whnf
              refine Pick.no ?_
              conv => whnf
              obtain ⟨y608, e609, h⟩ := bind_ex h
              refine CallOk.of (spec_shWalk_step_ct e609) ?_
              conv => whnf
              refine spl (fun g610 => ?_) (fun g610 => ?_)
              · replace h := iteT h g610
                conv => whnf
                refine spl (fun g611 => ?_) (fun g611 => ?_)
                · replace h := iteT h g611
                  conv => whnf
                  refine CutK.go ?_
                  conv => whnf
                  exact LoopOk.back (spec_shValue_l0_3_ct  n _ _ _ _ _ _ _ _ _ h) [some 128, some 192] [] ⟨⟨rfl, rfl⟩, ⟨rfl, ⟨rfl, rfl, rfl, trivial⟩, ⟨rfl, rfl, rfl, rfl, rfl, rfl, rfl, rfl, rfl, trivial⟩, trivial⟩, rfl, ⟨rfl, rfl⟩, ⟨rfl, rfl⟩, rfl, trivial⟩
                · replace h := iteF h g611
                  conv => whnf
                  refine CutK.go ?_
                  conv => whnf
                  exact LoopOk.back (spec_shValue_l0_3_ct  n _ _ _ _ _ _ _ _ _ h) [some 128, some 192] [] ⟨⟨rfl, rfl⟩, ⟨rfl, ⟨rfl, rfl, rfl, trivial⟩, ⟨rfl, rfl, rfl, rfl, rfl, rfl, rfl, rfl, rfl, trivial⟩, trivial⟩, rfl, ⟨rfl, rfl⟩, ⟨rfl, rfl⟩, rfl, trivial⟩
              · replace h := iteF h g610
                conv => whnf
                refine spl (fun g612 => ?_) (fun g612 => ?_)
                · replace h := iteT h g612
                  conv => whnf
                  refine CutK.go ?_
                  conv => whnf
                  exact LoopOk.back (spec_shValue_l0_3_ct  n _ _ _ _ _ _ _ _ _ h) [some 128, some 192] [] ⟨⟨rfl, rfl⟩, ⟨rfl, ⟨rfl, rfl, rfl, trivial⟩, ⟨rfl, rfl, rfl, rfl, rfl, rfl, rfl, rfl, rfl, trivial⟩, trivial⟩, rfl, ⟨rfl, rfl⟩, ⟨rfl, rfl⟩, rfl, trivial⟩
                · replace h := iteF h g612
                  conv => whnf
                  refine CutK.go ?_
                  conv => whnf
                  exact LoopOk.back (spec_shValue_l0_3_ct  n _ _ _ _ _ _ _ _ _ h) [some 128, some 192] [] ⟨⟨rfl, rfl⟩, ⟨rfl, ⟨rfl, rfl, rfl, trivial⟩, ⟨rfl, rfl, rfl, rfl, rfl, rfl, rfl, rfl, rfl, trivial⟩, trivial⟩, rfl, ⟨rfl, rfl⟩, ⟨rfl, rfl⟩, rfl, trivial⟩
          · replace h := iteN h g598
            conv => whnf
            exact ⟨_, _, [some 128, some 192], [], ⟨rfl, _, _, _, _, _, _, _, _, h, rfl, rfl⟩, ⟨⟨rfl, rfl⟩, ⟨rfl, ⟨rfl, rfl, rfl, trivial⟩, ⟨rfl, rfl, rfl, rfl, rfl, rfl, rfl, rfl, rfl, trivial⟩, trivial⟩, ⟨rfl, rfl⟩, ⟨rfl, rfl⟩, trivial⟩⟩
      · replace h := condT h
        cases v448
        · replace h := condF h
          refine LoopOk.step ?_
          conv => whnf
          refine splD (fun g613 => ?_) (fun g613 => ?_)
          · replace h := iteP h g613
            conv => whnf
            refine splT ?_
            conv => whnf
            refine splF ?_
            conv => whnf
            obtain ⟨g615, b614, e616, h⟩ := byteD_ex h
            refine Req.of g615 ?_
            refine Byte.of _ e616 ?_
            conv => whnf
            refine splD (fun g617 => ?_) (fun g617 => ?_)
            · replace h := iteP h g617
              conv => whnf
              refine Pick.no ?_
              conv => whnf
              obtain ⟨y618, e619, h⟩ := bind_ex h
              refine CallOk.of (spec_shWalk_step_ct e619) ?_
              conv => whnf
              refine spl (fun g620 => ?_) (fun g620 => ?_)
              · replace h := iteT h g620
                conv => whnf
                refine spl (fun g621 => ?_) (fun g621 => ?_)
                · replace h := iteT h g621
                  conv => whnf
                  refine CutK.go ?_
                  conv => whnf
                  exact LoopOk.back (spec_shValue_l0_3_ct  n _ _ _ _ _ _ _ _ _ h) [some 128, some 192] [] ⟨⟨rfl, rfl⟩, ⟨rfl, ⟨rfl, rfl, rfl, trivial⟩, ⟨rfl, rfl, rfl, rfl, rfl, rfl, rfl, rfl, rfl, trivial⟩, trivial⟩, rfl, ⟨rfl, rfl⟩, ⟨rfl, rfl⟩, rfl, trivial⟩
                · replace h := iteF h g621
                  conv => whnf
                  refine CutK.go ?_
                  conv => whnf
                  exact LoopOk.back (spec_shValue_l0_3_ct  n _ _ _ _ _ _ _ _ _ h) [some 128, some 192] [] ⟨⟨rfl, rfl⟩, ⟨rfl, ⟨rfl, rfl, rfl, trivial⟩, ⟨rfl, rfl, rfl, rfl, rfl, rfl, rfl, rfl, rfl, trivial⟩, trivial⟩, rfl, ⟨rfl, rfl⟩, ⟨rfl, rfl⟩, rfl, trivial⟩
              · replace h := iteF h g620
                conv => whnf
                refine spl (fun g622 => ?_) (fun g622 => ?_)
                · replace h := iteT h g622
                  conv => whnf
                  refine CutK.go ?_
                  conv => whnf
                  exact LoopOk.back (spec_shValue_l0_3_ct  n _ _ _ _ _ _ _ _ _ h) [some 128, some 192] [] ⟨⟨rfl, rfl⟩, ⟨rfl, ⟨rfl, rfl, rfl, trivial⟩, ⟨rfl, rfl, rfl, rfl, rfl, rfl, rfl, rfl, rfl, trivial⟩, trivial⟩, rfl, ⟨rfl, rfl⟩, ⟨rfl, rfl⟩, rfl, trivial⟩
                · replace h := iteF h g622
                  conv => whnf
                  refine CutK.go ?_
                  conv => whnf
                  exact LoopOk.back (spec_shValue_l0_3_ct  n _ _ _ _ _ _ _ _ _ h) [some 128, some 192] [] ⟨⟨rfl, rfl⟩, ⟨rfl, ⟨rfl, rfl, rfl, trivial⟩, ⟨rfl, rfl, rfl, rfl, rfl, rfl, rfl, rfl, rfl, trivial⟩, trivial⟩, rfl, ⟨rfl, rfl⟩, ⟨rfl, rfl⟩, rfl, trivial⟩
            · replace h := iteN h g617
              conv => whnf
              refine Pick.no ?_
              conv => whnf
              obtain ⟨y623, e624, h⟩ := bind_ex h
              refine CallOk.of (spec_shWalk_step_ct e624) ?_
              conv => whnf
              refine spl (fun g625 => ?_) (fun g625 => ?_)
              · replace h := iteT h g625
                conv => whnf
                refine spl (fun g626 => ?_) (fun g626 => ?_)
                · replace h := iteT h g626
                  conv => whnf
                  refine CutK.go ?_
                  conv => whnf
                  exact LoopOk.back (spec_shValue_l0_3_ct  n _ _ _ _ _ _ _ _ _ h) [some 128, some 192] [] ⟨⟨rfl, rfl⟩, ⟨rfl, ⟨rfl, rfl, rfl, trivial⟩, ⟨rfl, rfl, rfl, rfl, rfl, rfl, rfl, rfl, rfl, trivial⟩, trivial⟩, rfl, ⟨rfl, rfl⟩, ⟨rfl, rfl⟩, rfl, trivial⟩
                · replace h := iteF h g626
                  conv => whnf
                  refine CutK.go ?_
                  conv => whnf
                  exact LoopOk.back (spec_shValue_l0_3_ct  n _ _ _ _ _ _ _ _ _ h) [some 128, some 192] [] ⟨⟨rfl, rfl⟩, ⟨rfl, ⟨rfl, rfl, rfl, trivial⟩, ⟨rfl, rfl, rfl, rfl, rfl, rfl, rfl, rfl, rfl, trivial⟩, trivial⟩, rfl, ⟨rfl, rfl⟩, ⟨rfl, rfl⟩, rfl, trivial⟩
              · replace h := iteF h g625
                conv => whnf
                refine spl (fun g627 => ?_) (fun g627 => ?_)
                · replace h := iteT h g627
                  conv => whnf
                  refine CutK.go ?_
                  conv => whnf
                  exact LoopOk.back (spec_shValue_l0_3_ct  n _ _ _ _ _ _ _ _ _ h) [some 128, some 192] [] ⟨⟨rfl, rfl⟩, ⟨rfl, ⟨rfl, rfl, rfl, trivial⟩, ⟨rfl, rfl, rfl, rfl, rfl, rfl, rfl, rfl, rfl, trivial⟩, trivial⟩, rfl, ⟨rfl, rfl⟩, ⟨rfl, rfl⟩, rfl, trivial⟩
                · replace h := iteF h g627
                  conv => whnf
                  refine CutK.go ?_
                  conv => whnf
                  exact LoopOk.back (spec_shValue_l0_3_ct  n _ _ _ _ _ _ _ _ _ h) [some 128, some 192] [] ⟨⟨rfl, rfl⟩, ⟨rfl, ⟨rfl, rfl, rfl, trivial⟩, ⟨rfl, rfl, rfl, rfl, rfl, rfl, rfl, rfl, rfl, trivial⟩, trivial⟩, rfl, ⟨rfl, rfl⟩, ⟨rfl, rfl⟩, rfl, trivial⟩
          · replace h := iteN h g613
            conv => whnf
            exact ⟨_, _, [some 128, some 192], [], ⟨rfl, _, _, _, _, _, _, _, _, h, rfl, rfl⟩, ⟨⟨rfl, rfl⟩, ⟨rfl, ⟨rfl, rfl, rfl, trivial⟩, ⟨rfl, rfl, rfl, rfl, rfl, rfl, rfl, rfl, rfl, trivial⟩, trivial⟩, ⟨rfl, rfl⟩, ⟨rfl, rfl⟩, trivial⟩⟩
        · replace h := condT h
          refine LoopOk.step ?_
          conv => whnf
          refine splD (fun g628 => ?_) (fun g628 => ?_)
          · replace h := iteP h g628
            conv => whnf
            refine splT ?_
            conv => whnf
            refine splT ?_
            conv => whnf
            obtain ⟨g630, b629, e631, h⟩ := byteD_ex h
            refine Req.of g630 ?_
            refine Byte.of _ e631 ?_
            conv => whnf
            refine splD (fun g632 => ?_) (fun g632 => ?_)
            · replace h := iteP h g632
              conv => whnf
              refine Pick.no ?_
              conv => whnf
              obtain ⟨y633, e634, h⟩ := bind_ex h
              refine CallOk.of (spec_shWalk_step_ct e634) ?_
              conv => whnf
              refine spl (fun g635 => ?_) (fun g635 => ?_)
              · replace h := iteT h g635
                conv => whnf
                refine spl (fun g636 => ?_) (fun g636 => ?_)
                · replace h := iteT h g636
                  conv => whnf
                  refine CutK.go ?_
                  conv => whnf
                  exact LoopOk.back (spec_shValue_l0_3_ct  n _ _ _ _ _ _ _ _ _ h) [some 128, some 192] [] ⟨⟨rfl, rfl⟩, ⟨rfl, ⟨rfl, rfl, rfl, trivial⟩, ⟨rfl, rfl, rfl, rfl, rfl, rfl, rfl, rfl, rfl, trivial⟩, trivial⟩, rfl, ⟨rfl, rfl⟩, ⟨rfl, rfl⟩, rfl, trivial⟩
                · replace h := iteF h g636
                  conv => whnf
                  refine CutK.go ?_
                  conv => whnf
                  exact LoopOk.back (spec_shValue_l0_3_ct  n _ _ _ _ _ _ _ _ _ h) [some 128, some 192] [] ⟨⟨rfl, rfl⟩, ⟨rfl, ⟨rfl, rfl, rfl, trivial⟩, ⟨rfl, rfl, rfl, rfl, rfl, rfl, rfl, rfl, rfl, trivial⟩, trivial⟩, rfl, ⟨rfl, rfl⟩, ⟨rfl, rfl⟩, rfl, trivial⟩
              · replace h := iteF h g635
                conv => whnf
                refine spl (fun g637 => ?_) (fun g637 => ?_)
                · replace h := iteT h g637
                  conv => whnf
                  refine CutK.go ?_
                  conv => whnf
                  exact LoopOk.back (spec_shValue_l0_3_ct  n _ _ _ _ _ _ _ _ _ h) [some 128, some 192] [] ⟨⟨rfl, rfl⟩, ⟨rfl, ⟨rfl, rfl, rfl, trivial⟩, ⟨rfl, rfl, rfl, rfl, rfl, rfl, rfl, rfl, rfl, trivial⟩, trivial⟩, rfl, ⟨rfl, rfl⟩, ⟨rfl, rfl⟩, rfl, trivial⟩
                · replace h := iteF h g637
                  conv => whnf
                  refine CutK.go ?_
                  conv => whnf
                  exact LoopOk.back (spec_shValue_l0_3_ct  n _ _ _ _ _ _ _ _ _ h) [some 128, some 192] [] ⟨⟨rfl, rfl⟩, ⟨rfl, ⟨rfl, rfl, rfl, trivial⟩, ⟨rfl, rfl, rfl, rfl, rfl, rfl, rfl, rfl, rfl, trivial⟩, trivial⟩, rfl, ⟨rfl, rfl⟩, ⟨rfl, rfl⟩, rfl, trivial⟩
            · replace h := iteN h g632
              conv => whnf
              refine Pick.no ?_
              conv => whnf
              obtain ⟨y638, e639, h⟩ := bind_ex h
              refine CallOk.of (spec_shWalk_step_ct e639) ?_
              conv => whnf
              refine spl (fun g640 => ?_) (fun g640 => ?_)
              · replace h := iteT h g640
                conv => whnf
                refine spl (fun g641 => ?_) (fun g641 => ?_)
                · replace h := iteT h g641
                  conv => whnf
                  refine CutK.go ?_
                  conv => whnf
                  exact LoopOk.back (spec_shValue_l0_3_ct  n _ _ _ _ _ _ _ _ _ h) [some 128, some 192] [] ⟨⟨rfl, rfl⟩, ⟨rfl, ⟨rfl, rfl, rfl, trivial⟩, ⟨rfl, rfl, rfl, rfl, rfl, rfl, rfl, rfl, rfl, trivial⟩, trivial⟩, rfl, ⟨rfl, rfl⟩, ⟨rfl, rfl⟩, rfl, trivial⟩
                · replace h := iteF h g641
                  conv => whnf
                  refine CutK.go ?_
                  conv => whnf
                  exact LoopOk.back (spec_shValue_l0_3_ct  n _ _ _ _ _ _ _ _ _ h) [some 128, some 192] [] ⟨⟨rfl, rfl⟩, ⟨rfl, ⟨rfl, rfl, rfl, trivial⟩, ⟨rfl, rfl, rfl, rfl, rfl, rfl, rfl, rfl, rfl, trivial⟩, trivial⟩, rfl, ⟨rfl, rfl⟩, ⟨rfl, rfl⟩, rfl, trivial⟩
              · replace h := iteF h g640
                conv => whnf
                refine spl (fun g642 => ?_) (fun g642 => ?_)
                · replace h := iteT h g642
                  conv => whnf
                  refine CutK.go ?_
                  conv => whnf
                  exact LoopOk.back (spec_shValue_l0_3_ct  n _ _ _ _ _ _ _ _ _ h) [some 128, some 192] [] ⟨⟨rfl, rfl⟩, ⟨rfl, ⟨rfl, rfl, rfl, trivial⟩, ⟨rfl, rfl, rfl, rfl, rfl, rfl, rfl, rfl, rfl, trivial⟩, trivial⟩, rfl, ⟨rfl, rfl⟩, ⟨rfl, rfl⟩, rfl, trivial⟩
                · replace h := iteF h g642
                  conv => whnf
                  refine CutK.go ?_
                  conv => whnf
                  exact LoopOk.back (spec_shValue_l0_3_ct  n _ _ _ _ _ _ _ _ _ h) [some 128, some 192] [] ⟨⟨rfl, rfl⟩, ⟨rfl, ⟨rfl, rfl, rfl, trivial⟩, ⟨rfl, rfl, rfl, rfl, rfl, rfl, rfl, rfl, rfl, trivial⟩, trivial⟩, rfl, ⟨rfl, rfl⟩, ⟨rfl, rfl⟩, rfl, trivial⟩
          · replace h := iteN h g628
            conv => whnf
            exact ⟨_, _, [some 128, some 192], [], ⟨rfl, _, _, _, _, _, _, _, _, h, rfl, rfl⟩, ⟨⟨rfl, rfl⟩, ⟨rfl, ⟨rfl, rfl, rfl, trivial⟩, ⟨rfl, rfl, rfl, rfl, rfl, rfl, rfl, rfl, rfl, trivial⟩, trivial⟩, ⟨rfl, rfl⟩, ⟨rfl, rfl⟩, trivial⟩⟩
def spec_shValue_l0_4 (k : Nat) (a1 : ByteArray) (K0 : Int → Int → Int → Int → Int → Int → Bool → Bool → Option (Int × Int)) : Nat → Int → Int → Int → Int → Int → Int → Int → Bool → Bool → Option (Int × Int)
  | 0, _, _, _, _, _, _, _, _, _ => none
  | n + 1, v652, v653, v654, v655, v656, v657, v658, v659, v660 => (cond v659 (cond v660 (if v652 < (a1.size : Int) then (byteD a1 v652 fun b841 => (if (b841.toNat : Int) = (43 : Int) then ((spec_shWalk_step k v653 v654 v655 v656 v657 v658 true true true).bind fun y845 => (if y845.2.2.2.2.2.2.1 = true then (if y845.2.2.2.2.2.2.2 = true then (spec_shValue_l0_4 k a1 K0 n (IntKind.i64.wrap (v652 + 1)) y845.1 y845.2.1 y845.2.2.1 y845.2.2.2.1 y845.2.2.2.2.1 y845.2.2.2.2.2.1 true true) else (spec_shValue_l0_4 k a1 K0 n (IntKind.i64.wrap (v652 + 1)) y845.1 y845.2.1 y845.2.2.1 y845.2.2.2.1 y845.2.2.2.2.1 y845.2.2.2.2.2.1 true false)) else (if y845.2.2.2.2.2.2.2 = true then (spec_shValue_l0_4 k a1 K0 n (IntKind.i64.wrap (v652 + 1)) y845.1 y845.2.1 y845.2.2.1 y845.2.2.2.1 y845.2.2.2.2.1 y845.2.2.2.2.2.1 false true) else (spec_shValue_l0_4 k a1 K0 n (IntKind.i64.wrap (v652 + 1)) y845.1 y845.2.1 y845.2.2.1 y845.2.2.2.1 y845.2.2.2.2.1 y845.2.2.2.2.2.1 false false)))) else ((spec_shWalk_step k v653 v654 v655 v656 v657 v658 true true false).bind fun y850 => (if y850.2.2.2.2.2.2.1 = true then (if y850.2.2.2.2.2.2.2 = true then (spec_shValue_l0_4 k a1 K0 n (IntKind.i64.wrap (v652 + 1)) y850.1 y850.2.1 y850.2.2.1 y850.2.2.2.1 y850.2.2.2.2.1 y850.2.2.2.2.2.1 true true) else (spec_shValue_l0_4 k a1 K0 n (IntKind.i64.wrap (v652 + 1)) y850.1 y850.2.1 y850.2.2.1 y850.2.2.2.1 y850.2.2.2.2.1 y850.2.2.2.2.2.1 true false)) else (if y850.2.2.2.2.2.2.2 = true then (spec_shValue_l0_4 k a1 K0 n (IntKind.i64.wrap (v652 + 1)) y850.1 y850.2.1 y850.2.2.1 y850.2.2.2.1 y850.2.2.2.2.1 y850.2.2.2.2.2.1 false true) else (spec_shValue_l0_4 k a1 K0 n (IntKind.i64.wrap (v652 + 1)) y850.1 y850.2.1 y850.2.2.1 y850.2.2.2.1 y850.2.2.2.2.1 y850.2.2.2.2.2.1 false false)))))) else (K0 v653 v654 v655 v656 v657 v658 true true)) (if v652 < (a1.size : Int) then (byteD a1 v652 fun b826 => (if (b826.toNat : Int) = (43 : Int) then ((spec_shWalk_step k v653 v654 v655 v656 v657 v658 true false true).bind fun y830 => (if y830.2.2.2.2.2.2.1 = true then (if y830.2.2.2.2.2.2.2 = true then (spec_shValue_l0_4 k a1 K0 n (IntKind.i64.wrap (v652 + 1)) y830.1 y830.2.1 y830.2.2.1 y830.2.2.2.1 y830.2.2.2.2.1 y830.2.2.2.2.2.1 true true) else (spec_shValue_l0_4 k a1 K0 n (IntKind.i64.wrap (v652 + 1)) y830.1 y830.2.1 y830.2.2.1 y830.2.2.2.1 y830.2.2.2.2.1 y830.2.2.2.2.2.1 true false)) else (if y830.2.2.2.2.2.2.2 = true then (spec_shValue_l0_4 k a1 K0 n (IntKind.i64.wrap (v652 + 1)) y830.1 y830.2.1 y830.2.2.1 y830.2.2.2.1 y830.2.2.2.2.1 y830.2.2.2.2.2.1 false true) else (spec_shValue_l0_4 k a1 K0 n (IntKind.i64.wrap (v652 + 1)) y830.1 y830.2.1 y830.2.2.1 y830.2.2.2.1 y830.2.2.2.2.1 y830.2.2.2.2.2.1 false false)))) else ((spec_shWalk_step k v653 v654 v655 v656 v657 v658 true false false).bind fun y835 => (if y835.2.2.2.2.2.2.1 = true then (if y835.2.2.2.2.2.2.2 = true then (spec_shValue_l0_4 k a1 K0 n (IntKind.i64.wrap (v652 + 1)) y835.1 y835.2.1 y835.2.2.1 y835.2.2.2.1 y835.2.2.2.2.1 y835.2.2.2.2.2.1 true true) else (spec_shValue_l0_4 k a1 K0 n (IntKind.i64.wrap (v652 + 1)) y835.1 y835.2.1 y835.2.2.1 y835.2.2.2.1 y835.2.2.2.2.1 y835.2.2.2.2.2.1 true false)) else (if y835.2.2.2.2.2.2.2 = true then (spec_shValue_l0_4 k a1 K0 n (IntKind.i64.wrap (v652 + 1)) y835.1 y835.2.1 y835.2.2.1 y835.2.2.2.1 y835.2.2.2.2.1 y835.2.2.2.2.2.1 false true) else (spec_shValue_l0_4 k a1 K0 n (IntKind.i64.wrap (v652 + 1)) y835.1 y835.2.1 y835.2.2.1 y835.2.2.2.1 y835.2.2.2.2.1 y835.2.2.2.2.2.1 false false)))))) else (K0 v653 v654 v655 v656 v657 v658 false true))) (cond v660 (if v652 < (a1.size : Int) then (byteD a1 v652 fun b811 => (if (b811.toNat : Int) = (43 : Int) then ((spec_shWalk_step k v653 v654 v655 v656 v657 v658 false true true).bind fun y815 => (if y815.2.2.2.2.2.2.1 = true then (if y815.2.2.2.2.2.2.2 = true then (spec_shValue_l0_4 k a1 K0 n (IntKind.i64.wrap (v652 + 1)) y815.1 y815.2.1 y815.2.2.1 y815.2.2.2.1 y815.2.2.2.2.1 y815.2.2.2.2.2.1 true true) else (spec_shValue_l0_4 k a1 K0 n (IntKind.i64.wrap (v652 + 1)) y815.1 y815.2.1 y815.2.2.1 y815.2.2.2.1 y815.2.2.2.2.1 y815.2.2.2.2.2.1 true false)) else (if y815.2.2.2.2.2.2.2 = true then (spec_shValue_l0_4 k a1 K0 n (IntKind.i64.wrap (v652 + 1)) y815.1 y815.2.1 y815.2.2.1 y815.2.2.2.1 y815.2.2.2.2.1 y815.2.2.2.2.2.1 false true) else (spec_shValue_l0_4 k a1 K0 n (IntKind.i64.wrap (v652 + 1)) y815.1 y815.2.1 y815.2.2.1 y815.2.2.2.1 y815.2.2.2.2.1 y815.2.2.2.2.2.1 false false)))) else ((spec_shWalk_step k v653 v654 v655 v656 v657 v658 false true false).bind fun y820 => (if y820.2.2.2.2.2.2.1 = true then (if y820.2.2.2.2.2.2.2 = true then (spec_shValue_l0_4 k a1 K0 n (IntKind.i64.wrap (v652 + 1)) y820.1 y820.2.1 y820.2.2.1 y820.2.2.2.1 y820.2.2.2.2.1 y820.2.2.2.2.2.1 true true) else (spec_shValue_l0_4 k a1 K0 n (IntKind.i64.wrap (v652 + 1)) y820.1 y820.2.1 y820.2.2.1 y820.2.2.2.1 y820.2.2.2.2.1 y820.2.2.2.2.2.1 true false)) else (if y820.2.2.2.2.2.2.2 = true then (spec_shValue_l0_4 k a1 K0 n (IntKind.i64.wrap (v652 + 1)) y820.1 y820.2.1 y820.2.2.1 y820.2.2.2.1 y820.2.2.2.2.1 y820.2.2.2.2.2.1 false true) else (spec_shValue_l0_4 k a1 K0 n (IntKind.i64.wrap (v652 + 1)) y820.1 y820.2.1 y820.2.2.1 y820.2.2.2.1 y820.2.2.2.2.1 y820.2.2.2.2.2.1 false false)))))) else (K0 v653 v654 v655 v656 v657 v658 true false)) (if v652 < (a1.size : Int) then (byteD a1 v652 fun b796 => (if (b796.toNat : Int) = (43 : Int) then ((spec_shWalk_step k v653 v654 v655 v656 v657 v658 false false true).bind fun y800 => (if y800.2.2.2.2.2.2.1 = true then (if y800.2.2.2.2.2.2.2 = true then (spec_shValue_l0_4 k a1 K0 n (IntKind.i64.wrap (v652 + 1)) y800.1 y800.2.1 y800.2.2.1 y800.2.2.2.1 y800.2.2.2.2.1 y800.2.2.2.2.2.1 true true) else (spec_shValue_l0_4 k a1 K0 n (IntKind.i64.wrap (v652 + 1)) y800.1 y800.2.1 y800.2.2.1 y800.2.2.2.1 y800.2.2.2.2.1 y800.2.2.2.2.2.1 true false)) else (if y800.2.2.2.2.2.2.2 = true then (spec_shValue_l0_4 k a1 K0 n (IntKind.i64.wrap (v652 + 1)) y800.1 y800.2.1 y800.2.2.1 y800.2.2.2.1 y800.2.2.2.2.1 y800.2.2.2.2.2.1 false true) else (spec_shValue_l0_4 k a1 K0 n (IntKind.i64.wrap (v652 + 1)) y800.1 y800.2.1 y800.2.2.1 y800.2.2.2.1 y800.2.2.2.2.1 y800.2.2.2.2.2.1 false false)))) else ((spec_shWalk_step k v653 v654 v655 v656 v657 v658 false false false).bind fun y805 => (if y805.2.2.2.2.2.2.1 = true then (if y805.2.2.2.2.2.2.2 = true then (spec_shValue_l0_4 k a1 K0 n (IntKind.i64.wrap (v652 + 1)) y805.1 y805.2.1 y805.2.2.1 y805.2.2.2.1 y805.2.2.2.2.1 y805.2.2.2.2.2.1 true true) else (spec_shValue_l0_4 k a1 K0 n (IntKind.i64.wrap (v652 + 1)) y805.1 y805.2.1 y805.2.2.1 y805.2.2.2.1 y805.2.2.2.2.1 y805.2.2.2.2.2.1 true false)) else (if y805.2.2.2.2.2.2.2 = true then (spec_shValue_l0_4 k a1 K0 n (IntKind.i64.wrap (v652 + 1)) y805.1 y805.2.1 y805.2.2.1 y805.2.2.2.1 y805.2.2.2.2.1 y805.2.2.2.2.2.1 false true) else (spec_shValue_l0_4 k a1 K0 n (IntKind.i64.wrap (v652 + 1)) y805.1 y805.2.1 y805.2.2.1 y805.2.2.2.1 y805.2.2.2.2.1 y805.2.2.2.2.2.1 false false)))))) else (K0 v653 v654 v655 v656 v657 v658 false false))))
set_option maxRecDepth 100000 in
theorem spec_shValue_l0_4_ct {k : Nat} {a1 : ByteArray} {K0 : Int → Int → Int → Int → Int → Int → Bool → Bool → Option (Int × Int)} {r : Int × Int} : ∀ (n : Nat) (v652 : Int) (v653 : Int) (v654 : Int) (v655 : Int) (v656 : Int) (v657 : Int) (v658 : Int) (v659 : Bool) (v660 : Bool), spec_shValue_l0_4 k a1 K0 n v652 v653 v654 v655 v656 v657 v658 v659 v660 = some r → LoopOk prog 0 (lp f117 0) (mk 20 [(0, .d (D.str a1)), (2, .ptr 128 0), (3, .ptr 192 0), (4, .d (D.int .i64 v652))] [(128, .box 35 [.d (D.int .i64 0), .d (D.int .i64 0)]), (192, .box 193 [.d (D.int .i64 v653), .d (D.int .i64 v654), .d (D.int .i64 v655), .d (D.int .i64 v656), .d (D.int .i64 v657), .d (D.int .i64 v658), .d (D.bool v659), .d (D.bool v660)])]) (LoopEnd prog f117 0 20 (.agg [.d (D.int .i64 r.1), .d (D.int .i64 r.2)]) (⟨[], []⟩) (fun i ts os => (i = 0 ∧ ∃ v682 : Int, ∃ v683 : Int, ∃ v684 : Int, ∃ v685 : Int, ∃ v686 : Int, ∃ v687 : Int, ∃ v703 : Bool, ∃ v719 : Bool, K0 v682 v683 v684 v685 v686 v687 v703 v719 = some r ∧ ts = [(2, .ptr 128 0), (3, .ptr 192 0)] ∧ os = [(128, .box 35 [.d (D.int .i64 0), .d (D.int .i64 0)]), (192, .box 193 [.d (D.int .i64 v682), .d (D.int .i64 v683), .d (D.int .i64 v684), .d (D.int .i64 v685), .d (D.int .i64 v686), .d (D.int .i64 v687), .d (D.bool v719), .d (D.bool v703)])])))
  | 0, _, _, _, _, _, _, _, _, _, h => by
      rw [spec_shValue_l0_4] at h; cases h
  | n + 1, v652, v653, v654, v655, v656, v657, v658, v659, v660, h => by
      rw [spec_shValue_l0_4] at h
      cases v659
      · replace h := condF h
        cases v660
        · replace h := condF h
          refine LoopOk.step ?_
          conv => whnf
          refine splD (fun g795 => ?_) (fun g795 => ?_)
          · replace h := iteP h g795
            conv => whnf
            refine splF ?_
            conv => whnf
            refine splF ?_
            conv => whnf
            obtain ⟨g797, b796, e798, h⟩ := byteD_ex h
            refine Req.of g797 ?_
            refine Byte.of _ e798 ?_
            conv => whnf
            refine splD (fun g799 => ?_) (fun g799 => ?_)
            · replace h := iteP h g799
              conv => whnf
              refine Pick.no ?_
              conv => whnf
              obtain ⟨y800, e801, h⟩ := bind_ex h
              refine CallOk.of (spec_shWalk_step_ct e801) ?_
              conv => whnf
              refine spl (fun g802 => ?_) (fun g802 => ?_)
              · replace h := iteT h g802
                conv => whnf
                refine spl (fun g803 => ?_) (fun g803 => ?_)
                · replace h := iteT h g803
                  conv => whnf
                  refine CutK.go ?_
                  conv => whnf
                  exact LoopOk.back (spec_shValue_l0_4_ct  n _ _ _ _ _ _ _ _ _ h) [some 128, some 192] [] ⟨⟨rfl, rfl⟩, ⟨rfl, ⟨rfl, rfl, rfl, trivial⟩, ⟨rfl, rfl, rfl, rfl, rfl, rfl, rfl, rfl, rfl, trivial⟩, trivial⟩, rfl, ⟨rfl, rfl⟩, ⟨rfl, rfl⟩, rfl, trivial⟩
                · replace h := iteF h g803
                  conv => whnf
                  refine CutK.go ?_
                  conv => whnf
                  exact LoopOk.back (spec_shValue_l0_4_ct  n _ _ _ _ _ _ _ _ _ h) [some 128, some 192] [] ⟨⟨rfl, rfl⟩, ⟨rfl, ⟨rfl, rfl, rfl, trivial⟩, ⟨rfl, rfl, rfl, rfl, rfl, rfl, rfl, rfl, rfl, trivial⟩, trivial⟩, rfl, ⟨rfl, rfl⟩, ⟨rfl, rfl⟩, rfl, trivial⟩
              · replace h := iteF h g802
                conv => whnf
                refine spl (fun g804 => ?_) (fun g804 => ?_)
                · replace h := iteT h g804
                  conv => whnf
                  refine CutK.go ?_
                  conv => whnf
                  exact LoopOk.back (spec_shValue_l0_4_ct  n _ _ _ _ _ _ _ _ _ h) [some 128, some 192] [] ⟨⟨rfl, rfl⟩, ⟨rfl, ⟨rfl, rfl, rfl, trivial⟩, ⟨rfl, rfl, rfl, rfl, rfl, rfl, rfl, rfl, rfl, trivial⟩, trivial⟩, rfl, ⟨rfl, rfl⟩, ⟨rfl, rfl⟩, rfl, trivial⟩
                · replace h := iteF h g804
                  conv => whnf
                  refine CutK.go ?_
                  conv => whnf
                  exact LoopOk.back (spec_shValue_l0_4_ct  n _ _ _ _ _ _ _ _ _ h) [some 128, some 192] [] ⟨⟨rfl, rfl⟩, ⟨rfl, ⟨rfl, rfl, rfl, trivial⟩, ⟨rfl, rfl, rfl, rfl, rfl, rfl, rfl, rfl, rfl, trivial⟩, trivial⟩, rfl, ⟨rfl, rfl⟩, ⟨rfl, rfl⟩, rfl, trivial⟩
            · replace h := iteN h g799
              conv => whnf
              refine Pick.no ?_
              conv => whnf
              obtain ⟨y805, e806, h⟩ := bind_ex h
              refine CallOk.of (spec_shWalk_step_ct e806) ?_
              conv => whnf
              refine spl (fun g807 => ?_) (fun g807 => ?_)
              · replace h := iteT h g807
                conv => whnf
                refine spl (fun g808 => ?_) (fun g808 => ?_)
                · replace h := iteT h g808
                  conv => whnf
                  refine CutK.go ?_
                  conv => whnf
                  exact LoopOk.back (spec_shValue_l0_4_ct  n _ _ _ _ _ _ _ _ _ h) [some 128, some 192] [] ⟨⟨rfl, rfl⟩, ⟨rfl, ⟨rfl, rfl, rfl, trivial⟩, ⟨rfl, rfl, rfl, rfl, rfl, rfl, rfl, rfl, rfl, trivial⟩, trivial⟩, rfl, ⟨rfl, rfl⟩, ⟨rfl, rfl⟩, rfl, trivial⟩
                · replace h := iteF h g808
                  conv => whnf
                  refine CutK.go ?_
                  conv => whnf
                  exact LoopOk.back (spec_shValue_l0_4_ct  n _ _ _ _ _ _ _ _ _ h) [some 128, some 192] [] ⟨⟨rfl, rfl⟩, ⟨rfl, ⟨rfl, rfl, rfl, trivial⟩, ⟨rfl, rfl, rfl, rfl, rfl, rfl, rfl, rfl, rfl, trivial⟩, trivial⟩, rfl, ⟨rfl, rfl⟩, ⟨rfl, rfl⟩, rfl, trivial⟩
              · replace h := iteF h g807
                conv => whnf
                refine spl (fun g809 => ?_) (fun g809 => ?_)
                · replace h := iteT h g809
                  conv => whnf
                  refine CutK.go ?_
                  conv => whnf
                  exact LoopOk.back (spec_shValue_l0_4_ct  n _ _ _ _ _ _ _ _ _ h) [some 128, some 192] [] ⟨⟨rfl, rfl⟩, ⟨rfl, ⟨rfl, rfl, rfl, trivial⟩, ⟨rfl, rfl, rfl, rfl, rfl, rfl, rfl, rfl, rfl, trivial⟩, trivial⟩, rfl, ⟨rfl, rfl⟩, ⟨rfl, rfl⟩, rfl, trivial⟩
                · replace h := iteF h g809
                  conv => whnf
                  refine CutK.go ?_
                  conv => whnf
                  exact LoopOk.back (spec_shValue_l0_4_ct  n _ _ _ _ _ _ _ _ _ h) [some 128, some 192] [] ⟨⟨rfl, rfl⟩, ⟨rfl, ⟨rfl, rfl, rfl, trivial⟩, ⟨rfl, rfl, rfl, rfl, rfl, rfl, rfl, rfl, rfl, trivial⟩, trivial⟩, rfl, ⟨rfl, rfl⟩, ⟨rfl, rfl⟩, rfl, trivial⟩
          · replace h := iteN h g795
            conv => whnf
            exact ⟨_, _, [some 128, some 192], [], ⟨rfl, _, _, _, _, _, _, _, _, h, rfl, rfl⟩, ⟨⟨rfl, rfl⟩, ⟨rfl, ⟨rfl, rfl, rfl, trivial⟩, ⟨rfl, rfl, rfl, rfl, rfl, rfl, rfl, rfl, rfl, trivial⟩, trivial⟩, ⟨rfl, rfl⟩, ⟨rfl, rfl⟩, trivial⟩⟩
        · replace h := condT h
          refine LoopOk.step ?_
          conv => whnf
          refine splD (fun g810 => ?_) (fun g810 => ?_)
          · replace h := iteP h g810
            conv => whnf
            refine splF ?_
            conv => whnf
            refine splT ?_
            conv => whnf
            obtain ⟨g812, b811, e813, h⟩ := byteD_ex h
            refine Req.of g812 ?_
            refine Byte.of _ e813 ?_
            conv => whnf
            refine splD (fun g814 => ?_) (fun g814 => ?_)
            · replace h := iteP h g814
              conv => whnf
              refine Pick.no ?_
              conv => whnf
              obtain ⟨y815, e816, h⟩ := bind_ex h
              refine CallOk.of (spec_shWalk_step_ct e816) ?_
              conv => whnf
              refine spl (fun g817 => ?_) (fun g817 => ?_)
              · replace h := iteT h g817
                conv => whnf
                refine spl (fun g818 => ?_) (fun g818 => ?_)
                · replace h := iteT h g818
                  conv => whnf
                  refine CutK.go ?_
                  conv => whnf
                  exact LoopOk.back (spec_shValue_l0_4_ct  n _ _ _ _ _ _ _ _ _ h) [some 128, some 192] [] ⟨⟨rfl, rfl⟩, ⟨rfl, ⟨rfl, rfl, rfl, trivial⟩, ⟨rfl, rfl, rfl, rfl, rfl, rfl, rfl, rfl, rfl, trivial⟩, trivial⟩, rfl, ⟨rfl, rfl⟩, ⟨rfl, rfl⟩, rfl, trivial⟩
                · replace h := iteF h g818
                  conv => whnf
                  refine CutK.go ?_
                  conv => whnf
                  exact LoopOk.back (spec_shValue_l0_4_ct  n _ _ _ _ _ _ _ _ _ h) [some 128, some 192] [] ⟨⟨rfl, rfl⟩, ⟨rfl, ⟨rfl, rfl, rfl, trivial⟩, ⟨rfl, rfl, rfl, rfl, rfl, rfl, rfl, rfl, rfl, trivial⟩, trivial⟩, rfl, ⟨rfl, rfl⟩, ⟨rfl, rfl⟩, rfl, trivial⟩
              · replace h := iteF h g817
                conv => whnf
                refine spl (fun g819 => ?_) (fun g819 => ?_)
                · replace h := iteT h g819
                  conv => whnf
                  refine CutK.go ?_
                  conv => whnf
                  exact LoopOk.back (spec_shValue_l0_4_ct  n _ _ _ _ _ _ _ _ _ h) [some 128, some 192] [] ⟨⟨rfl, rfl⟩, ⟨rfl, ⟨rfl, rfl, rfl, trivial⟩, ⟨rfl, rfl, rfl, rfl, rfl, rfl, rfl, rfl, rfl, trivial⟩, trivial⟩, rfl, ⟨rfl, rfl⟩, ⟨rfl, rfl⟩, rfl, trivial⟩
                · replace h := iteF h g819
                  conv => whnf
                  refine CutK.go ?_
                  conv => whnf
                  exact LoopOk.back (spec_shValue_l0_4_ct  n _ _ _ _ _ _ _ _ _ h) [some 128, some 192] [] ⟨⟨rfl, rfl⟩, ⟨rfl, ⟨rfl, rfl, rfl, trivial⟩, ⟨rfl, rfl, rfl, rfl, rfl, rfl, rfl, rfl, rfl, trivial⟩, trivial⟩, rfl, ⟨rfl, rfl⟩, ⟨rfl, rfl⟩, rfl, trivial⟩
            · replace h := iteN h g814
              conv => whnf
              refine Pick.no ?_
              conv => whnf
              obtain ⟨y820, e821, h⟩ := bind_ex h
              refine CallOk.of (spec_shWalk_step_ct e821) ?_
              conv => whnf
              refine spl (fun g822 => ?_) (fun g822 => ?_)
              · replace h := iteT h g822
                conv => whnf
                refine spl (fun g823 => ?_) (fun g823 => ?_)
                · replace h := iteT h g823
                  conv => whnf
                  refine CutK.go ?_
                  conv => whnf
                  exact LoopOk.back (spec_shValue_l0_4_ct  n _ _ _ _ _ _ _ _ _ h) [some 128, some 192] [] ⟨⟨rfl, rfl⟩, ⟨rfl, ⟨rfl, rfl, rfl, trivial⟩, ⟨rfl, rfl, rfl, rfl, rfl, rfl, rfl, rfl, rfl, trivial⟩, trivial⟩, rfl, ⟨rfl, rfl⟩, ⟨rfl, rfl⟩, rfl, trivial⟩
                · replace h := iteF h g823
                  conv => whnf
                  refine CutK.go ?_
                  conv => whnf
                  exact LoopOk.back (spec_shValue_l0_4_ct  n _ _ _ _ _ _ _ _ _ h) [some 128, some 192] [] ⟨⟨rfl, rfl⟩, ⟨rfl, ⟨rfl, rfl, rfl, trivial⟩, ⟨rfl, rfl, rfl, rfl, rfl, rfl, rfl, rfl, rfl, trivial⟩, trivial⟩, rfl, ⟨rfl, rfl⟩, ⟨rfl, rfl⟩, rfl, trivial⟩
              · replace h := iteF h g822
                conv => whnf
                refine spl (fun g824 => ?_) (fun g824 => ?_)
                · replace h := iteT h g824
                  conv => whnf
                  refine CutK.go ?_
                  conv => whnf
                  exact LoopOk.back (spec_shValue_l0_4_ct  n _ _ _ _ _ _ _ _ _ h) [some 128, some 192] [] ⟨⟨rfl, rfl⟩, ⟨rfl, ⟨rfl, rfl, rfl, trivial⟩, ⟨rfl, rfl, rfl, rfl, rfl, rfl, rfl, rfl, rfl, trivial⟩, trivial⟩, rfl, ⟨rfl, rfl⟩, ⟨rfl, rfl⟩, rfl, trivial⟩
                · replace h := iteF h g824
                  conv => whnf
                  refine CutK.go ?_
                  conv => whnf
                  exact LoopOk.back (spec_shValue_l0_4_ct  n _ _ _ _ _ _ _ _ _ h) [some 128, some 192] [] ⟨⟨rfl, rfl⟩, ⟨rfl, ⟨rfl, rfl, rfl, trivial⟩, ⟨rfl, rfl, rfl, rfl, rfl, rfl, rfl, rfl, rfl, trivial⟩, trivial⟩, rfl, ⟨rfl, rfl⟩, ⟨rfl, rfl⟩, rfl, trivial⟩
          · replace h := iteN h g810
            conv => whnf
            exact ⟨_, _, [some 128, some 192], [], ⟨rfl, _, _, _, _, _, _, _, _, h, rfl, rfl⟩, ⟨⟨rfl, rfl⟩, ⟨rfl, ⟨rfl, rfl, rfl, trivial⟩, ⟨rfl, rfl, rfl, rfl, rfl, rfl, rfl, rfl, rfl, trivial⟩, trivial⟩, ⟨rfl, rfl⟩, ⟨rfl, rfl⟩, trivial⟩⟩
      · replace h := condT h
        cases v660
        · replace h := condF h
          refine LoopOk.step ?_
          conv => whnf
          refine splD (fun g825 => ?_) (fun g825 => ?_)
          · replace h := iteP h g825
            conv => whnf
            refine splT ?_
            conv => whnf
            refine splF ?_
            conv => whnf
            obtain ⟨g827, b826, e828, h⟩ := byteD_ex h
            refine Req.of g827 ?_
            refine Byte.of _ e828 ?_
            conv => whnf
            refine splD (fun g829 => ?_) (fun g829 => ?_)
            · replace h := iteP h g829
              conv => whnf
              refine Pick.no ?_
              conv => whnf
              obtain ⟨y830, e831, h⟩ := bind_ex h
              refine CallOk.of (spec_shWalk_step_ct e831) ?_
              conv => whnf
              refine spl (fun g832 => ?_) (fun g832 => ?_)
              · replace h := iteT h g832
                conv => whnf
                refine spl (fun g833 => ?_) (fun g833 => ?_)
                · replace h := iteT h g833
                  conv => whnf
                  refine CutK.go ?_
                  conv => whnf
                  exact LoopOk.back (spec_shValue_l0_4_ct  n _ _ _ _ _ _ _ _ _ h) [some 128, some 192] [] ⟨⟨rfl, rfl⟩, ⟨rfl, ⟨rfl, rfl, rfl, trivial⟩, ⟨rfl, rfl, rfl, rfl, rfl, rfl, rfl, rfl, rfl, trivial⟩, trivial⟩, rfl, ⟨rfl, rfl⟩, ⟨rfl, rfl⟩, rfl, trivial⟩
                · replace h := iteF h g833
                  conv => whnf
                  refine CutK.go ?_
                  conv => whnf
                  exact LoopOk.back (spec_shValue_l0_4_ct  n _ _ _ _ _ _ _ _ _ h) [some 128, some 192] [] ⟨⟨rfl, rfl⟩, ⟨rfl, ⟨rfl, rfl, rfl, trivial⟩, ⟨rfl, rfl, rfl, rfl, rfl, rfl, rfl, rfl, rfl, trivial⟩, trivial⟩, rfl, ⟨rfl, rfl⟩, ⟨rfl, rfl⟩, rfl, trivial⟩
              · replace h := iteF h g832
                conv => whnf
                refine spl (fun g834 => ?_) (fun g834 => ?_)
                · replace h := iteT h g834
                  conv => whnf
                  refine CutK.go ?_
                  conv => whnf
                  exact LoopOk.back (spec_shValue_l0_4_ct  n _ _ _ _ _ _ _ _ _ h) [some 128, some 192] [] ⟨⟨rfl, rfl⟩, ⟨rfl, ⟨rfl, rfl, rfl, trivial⟩, ⟨rfl, rfl, rfl, rfl, rfl, rfl, rfl, rfl, rfl, trivial⟩, trivial⟩, rfl, ⟨rfl, rfl⟩, ⟨rfl, rfl⟩, rfl, trivial⟩
                · replace h := iteF h g834
                  conv => whnf
                  refine CutK.go ?_
                  conv => whnf
                  exact LoopOk.back (spec_shValue_l0_4_ct  n _ _ _ _ _ _ _ _ _ h) [some 128, some 192] [] ⟨⟨rfl, rfl⟩, ⟨rfl, ⟨rfl, rfl, rfl, trivial⟩, ⟨rfl, rfl, rfl, rfl, rfl, rfl, rfl, rfl, rfl, trivial⟩, trivial⟩, rfl, ⟨rfl, rfl⟩, ⟨rfl, rfl⟩, rfl, trivial⟩
            · replace h := iteN h g829
              conv => whnf
              refine Pick.no ?_
              conv => whnf
              obtain ⟨y835, e836, h⟩ := bind_ex h
              refine CallOk.of (spec_shWalk_step_ct e836) ?_
              conv => whnf
              refine spl (fun g837 => ?_) (fun g837 => ?_)
              · replace h := iteT h g837
                conv => whnf
                refine spl (fun g838 => ?_) (fun g838 => ?_)
                · replace h := iteT h g838
                  conv => whnf
                  refine CutK.go ?_
                  conv => whnf
                  exact LoopOk.back (spec_shValue_l0_4_ct  n _ _ _ _ _ _ _ _ _ h) [some 128, some 192] [] ⟨⟨rfl, rfl⟩, ⟨rfl, ⟨rfl, rfl, rfl, trivial⟩, ⟨rfl, rfl, rfl, rfl, rfl, rfl, rfl, rfl, rfl, trivial⟩, trivial⟩, rfl, ⟨rfl, rfl⟩, ⟨rfl, rfl⟩, rfl, trivial⟩
                · replace h := iteF h g838
                  conv => whnf
                  refine CutK.go ?_
                  conv => whnf
                  exact LoopOk.back (spec_shValue_l0_4_ct  n _ _ _ _ _ _ _ _ _ h) [some 128, some 192] [] ⟨⟨rfl, rfl⟩, ⟨rfl, ⟨rfl, rfl, rfl, trivial⟩, ⟨rfl, rfl, rfl, rfl, rfl, rfl, rfl, rfl, rfl, trivial⟩, trivial⟩, rfl, ⟨rfl, rfl⟩, ⟨rfl, rfl⟩, rfl, trivial⟩
              · replace h := iteF h g837
                conv => whnf
                refine spl (fun g839 => ?_) (fun g839 => ?_)
                · replace h := iteT h g839
                  conv => whnf
                  refine CutK.go ?_
                  conv => whnf
                  exact LoopOk.back (spec_shValue_l0_4_ct  n _ _ _ _ _ _ _ _ _ h) [some 128, some 192] [] ⟨⟨rfl, rfl⟩, ⟨rfl, ⟨rfl, rfl, rfl, trivial⟩, ⟨rfl, rfl, rfl, rfl, rfl, rfl, rfl, rfl, rfl, trivial⟩, trivial⟩, rfl, ⟨rfl, rfl⟩, ⟨rfl, rfl⟩, rfl, trivial⟩
                · replace h := iteF h g839
                  conv => whnf
                  refine CutK.go ?_
                  conv => whnf
                  exact LoopOk.back (spec_shValue_l0_4_ct  n _ _ _ _ _ _ _ _ _ h) [some 128, some 192] [] ⟨⟨rfl, rfl⟩, ⟨rfl, ⟨rfl, rfl, rfl, trivial⟩, ⟨rfl, rfl, rfl, rfl, rfl, rfl, rfl, rfl, rfl, trivial⟩, trivial⟩, rfl, ⟨rfl, rfl⟩, ⟨rfl, rfl⟩, rfl, trivial⟩
          · replace h := iteN h g825
            conv => whnf
            exact ⟨_, _, [some 128, some 192], [], ⟨rfl, _, _, _, _, _, _, _, _, h, rfl, rfl⟩, ⟨⟨rfl, rfl⟩, ⟨rfl, ⟨rfl, rfl, rfl, trivial⟩, ⟨rfl, rfl, rfl, rfl, rfl, rfl, rfl, rfl, rfl, trivial⟩, trivial⟩, ⟨rfl, rfl⟩, ⟨rfl, rfl⟩, trivial⟩⟩
        · replace h := condT h
          refine LoopOk.step ?_
          conv => whnf
          refine splD (fun g840 => ?_) (fun g840 => ?_)
          · replace h := iteP h g840
            conv => whnf
            refine splT ?_
            conv => whnf
            refine splT ?_
            conv => whnf
            obtain ⟨g842, b841, e843, h⟩ := byteD_ex h
            refine Req.of g842 ?_
            refine Byte.of _ e843 ?_
            conv => whnf
            refine splD (fun g844 => ?_) (fun g844 => ?_)
            · replace h := iteP h g844
              conv => whnf
              refine Pick.no ?_
              conv => whnf
              obtain ⟨y845, e846, h⟩ := bind_ex h
              refine CallOk.of (spec_shWalk_step_ct e846) ?_
              conv => whnf
              refine spl (fun g847 => ?_) (fun g847 => ?_)
              · replace h := iteT h g847
                conv => whnf
                refine spl (fun g848 => ?_) (fun g848 => ?_)
                · replace h := iteT h g848
                  conv => whnf
                  refine CutK.go ?_
                  conv => whnf
                  exact LoopOk.back (spec_shValue_l0_4_ct  n _ _ _ _ _ _ _ _ _ h) [some 128, some 192] [] ⟨⟨rfl, rfl⟩, ⟨rfl, ⟨rfl, rfl, rfl, trivial⟩, ⟨rfl, rfl, rfl, rfl, rfl, rfl, rfl, rfl, rfl, trivial⟩, trivial⟩, rfl, ⟨rfl, rfl⟩, ⟨rfl, rfl⟩, rfl, trivial⟩
                · replace h := iteF h g848
                  conv => whnf
                  refine CutK.go ?_
                  conv => whnf
                  exact LoopOk.back (spec_shValue_l0_4_ct  n _ _ _ _ _ _ _ _ _ h) [some 128, some 192] [] ⟨⟨rfl, rfl⟩, ⟨rfl, ⟨rfl, rfl, rfl, trivial⟩, ⟨rfl, rfl, rfl, rfl, rfl, rfl, rfl, rfl, rfl, trivial⟩, trivial⟩, rfl, ⟨rfl, rfl⟩, ⟨rfl, rfl⟩, rfl, trivial⟩
              · replace h := iteF h g847
                conv => whnf
                refine spl (fun g849 => ?_) (fun g849 => ?_)
                · replace h := iteT h g849
                  conv => whnf
                  refine CutK.go ?_
                  conv => whnf
                  exact LoopOk.back (spec_shValue_l0_4_ct  n _ _ _ _ _ _ _ _ _ h) [some 128, some 192] [] ⟨⟨rfl, rfl⟩, ⟨rfl, ⟨rfl, rfl, rfl, trivial⟩, ⟨rfl, rfl, rfl, rfl, rfl, rfl, rfl, rfl, rfl, trivial⟩, trivial⟩, rfl, ⟨rfl, rfl⟩, ⟨rfl, rfl⟩, rfl, trivial⟩
                · replace h := iteF h g849
                  conv => whnf
                  refine CutK.go ?_
                  conv => whnf
                  exact LoopOk.back (spec_shValue_l0_4_ct  n _ _ _ _ _ _ _ _ _ h) [some 128, some 192] [] ⟨⟨rfl, rfl⟩, ⟨rfl, ⟨rfl, rfl, rfl, trivial⟩, ⟨rfl, rfl, rfl, rfl, rfl, rfl, rfl, rfl, rfl, trivial⟩, trivial⟩, rfl, ⟨rfl, rfl⟩, ⟨rfl, rfl⟩, rfl, trivial⟩
            · replace h := iteN h g844
              conv => whnf
              refine Pick.no ?_
              conv => whnf
              obtain ⟨y850, e851, h⟩ := bind_ex h
              refine CallOk.of (spec_shWalk_step_ct e851) ?_
              conv => whnf
              refine spl (fun g852 => ?_) (fun g852 => ?_)
              · replace h := iteT h g852
                conv => whnf
                refine spl (fun g853 => ?_) (fun g853 => ?_)
                · replace h := iteT h g853
                  conv => whnf
                  refine CutK.go ?_
                  conv => whnf
                  exact LoopOk.back (spec_shValue_l0_4_ct  n _ _ _ _ _ _ _ _ _ h) [some 128, some 192] [] ⟨⟨rfl, rfl⟩, ⟨rfl, ⟨rfl, rfl, rfl, trivial⟩, ⟨rfl, rfl, rfl, rfl, rfl, rfl, rfl, rfl, rfl, trivial⟩, trivial⟩, rfl, ⟨rfl, rfl⟩, ⟨rfl, rfl⟩, rfl, trivial⟩
                · replace h := iteF h g853
                  conv => whnf
                  refine CutK.go ?_
                  conv => whnf
                  exact LoopOk.back (spec_shValue_l0_4_ct  n _ _ _ _ _ _ _ _ _ h) [some 128, some 192] [] ⟨⟨rfl, rfl⟩, ⟨rfl, ⟨rfl, rfl, rfl, trivial⟩, ⟨rfl, rfl, rfl, rfl, rfl, rfl, rfl, rfl, rfl, trivial⟩, trivial⟩, rfl, ⟨rfl, rfl⟩, ⟨rfl, rfl⟩, rfl, trivial⟩
              · replace h := iteF h g852
                conv => whnf
                refine spl (fun g854 => ?_) (fun g854 => ?_)
                · replace h := iteT h g854
                  conv => whnf
                  refine CutK.go ?_
                  conv => whnf
                  exact LoopOk.back (spec_shValue_l0_4_ct  n _ _ _ _ _ _ _ _ _ h) [some 128, some 192] [] ⟨⟨rfl, rfl⟩, ⟨rfl, ⟨rfl, rfl, rfl, trivial⟩, ⟨rfl, rfl, rfl, rfl, rfl, rfl, rfl, rfl, rfl, trivial⟩, trivial⟩, rfl, ⟨rfl, rfl⟩, ⟨rfl, rfl⟩, rfl, trivial⟩
                · replace h := iteF h g854
                  conv => whnf
                  refine CutK.go ?_
                  conv => whnf
                  exact LoopOk.back (spec_shValue_l0_4_ct  n _ _ _ _ _ _ _ _ _ h) [some 128, some 192] [] ⟨⟨rfl, rfl⟩, ⟨rfl, ⟨rfl, rfl, rfl, trivial⟩, ⟨rfl, rfl, rfl, rfl, rfl, rfl, rfl, rfl, rfl, trivial⟩, trivial⟩, rfl, ⟨rfl, rfl⟩, ⟨rfl, rfl⟩, rfl, trivial⟩
          · replace h := iteN h g840
            conv => whnf
            exact ⟨_, _, [some 128, some 192], [], ⟨rfl, _, _, _, _, _, _, _, _, h, rfl, rfl⟩, ⟨⟨rfl, rfl⟩, ⟨rfl, ⟨rfl, rfl, rfl, trivial⟩, ⟨rfl, rfl, rfl, rfl, rfl, rfl, rfl, rfl, rfl, trivial⟩, trivial⟩, ⟨rfl, rfl⟩, ⟨rfl, rfl⟩, trivial⟩⟩
def spec_shValue (k : Nat) (a1 : ByteArray) : Option (Int × Int) :=
  ((spec_shStart).bind fun y2 => (if y2.2.2.2.2.2.2.1 = true then (if y2.2.2.2.2.2.2.2 = true then (spec_shValue_l0 k a1 (fun (v45 : Int) (v46 : Int) (v47 : Int) (v48 : Int) (v49 : Int) (v50 : Int) (v51 : Bool) (v52 : Bool) => (cond v51 (cond v52 (some (v45, v46)) (some (v45, v46))) (cond v52 (some (v45, v46)) (some (v45, v46))))) k 0 y2.1 y2.2.1 y2.2.2.1 y2.2.2.2.1 y2.2.2.2.2.1 y2.2.2.2.2.2.1 true true) else (spec_shValue_l0_2 k a1 (fun (v257 : Int) (v258 : Int) (v259 : Int) (v260 : Int) (v261 : Int) (v262 : Int) (v263 : Bool) (v294 : Bool) => (cond v263 (cond v294 (some (v257, v258)) (some (v257, v258))) (cond v294 (some (v257, v258)) (some (v257, v258))))) k 0 y2.1 y2.2.1 y2.2.2.1 y2.2.2.2.1 y2.2.2.2.2.1 y2.2.2.2.2.2.1 false true)) else (if y2.2.2.2.2.2.2.2 = true then (spec_shValue_l0_3 k a1 (fun (v470 : Int) (v471 : Int) (v472 : Int) (v473 : Int) (v474 : Int) (v475 : Int) (v476 : Bool) (v507 : Bool) => (cond v476 (cond v507 (some (v470, v471)) (some (v470, v471))) (cond v507 (some (v470, v471)) (some (v470, v471))))) k 0 y2.1 y2.2.1 y2.2.2.1 y2.2.2.2.1 y2.2.2.2.2.1 y2.2.2.2.2.2.1 false true) else (spec_shValue_l0_4 k a1 (fun (v682 : Int) (v683 : Int) (v684 : Int) (v685 : Int) (v686 : Int) (v687 : Int) (v703 : Bool) (v719 : Bool) => (cond v703 (cond v719 (some (v682, v683)) (some (v682, v683))) (cond v719 (some (v682, v683)) (some (v682, v683))))) k 0 y2.1 y2.2.1 y2.2.2.1 y2.2.2.2.1 y2.2.2.2.2.1 y2.2.2.2.2.2.1 false false))))
set_option maxHeartbeats 4000000 in
set_option maxRecDepth 100000 in
theorem spec_shValue_ct {k : Nat} {a1 : ByteArray} {r : Int × Int} (h : spec_shValue k a1 = some r) : Ct prog 117 [.d (D.str a1)] (⟨[], []⟩) (.agg [.d (D.int .i64 r.1), .d (D.int .i64 r.2)]) (⟨[], []⟩) := by
  rw [spec_shValue] at h
  refine Ct.of (c := _) mixed func117 ⟨rfl, rfl, rfl⟩ ?_ rfl
  conv => whnf
  refine Pick.no ?_
  conv => whnf
  obtain ⟨y2, e3, h⟩ := bind_ex h
  refine CallOk.of (spec_shStart_ct e3) ?_
  conv => whnf
  refine spl (fun g4 => ?_) (fun g4 => ?_)
  · replace h := iteT h g4
    conv => whnf
    refine spl (fun g5 => ?_) (fun g5 => ?_)
    · replace h := iteT h g5
      conv => whnf
      refine CutK.go ?_
      conv => whnf
      refine LoopOk.into (spec_shValue_l0_ct  _ _ _ _ _ _ _ _ _ _ h) [some 128, some 192] [] ⟨⟨rfl, rfl⟩, ⟨rfl, ⟨rfl, rfl, rfl, trivial⟩, ⟨rfl, rfl, rfl, rfl, rfl, rfl, rfl, rfl, rfl, trivial⟩, trivial⟩, rfl, ⟨rfl, rfl⟩, ⟨rfl, rfl⟩, rfl, trivial⟩ ?_ (fun _ hs => hs)
      rintro i ts os ⟨rfl, v45, v46, v47, v48, v49, v50, v51, v52, h, rfl, rfl⟩
      cases v51
      · replace h := condF h
        cases v52
        · replace h := condF h
          conv => whnf
          refine CutK.go ?_
          conv => whnf
          cases h
          exact Done.of [] [] rfl rfl ⟨⟨rfl, rfl⟩, ⟨rfl, trivial⟩, ⟨rfl, rfl, trivial⟩, trivial⟩
        · replace h := condT h
          conv => whnf
          refine CutK.go ?_
          conv => whnf
          cases h
          exact Done.of [] [] rfl rfl ⟨⟨rfl, rfl⟩, ⟨rfl, trivial⟩, ⟨rfl, rfl, trivial⟩, trivial⟩
      · replace h := condT h
        cases v52
        · replace h := condF h
          conv => whnf
          refine CutK.go ?_
          conv => whnf
          cases h
          exact Done.of [] [] rfl rfl ⟨⟨rfl, rfl⟩, ⟨rfl, trivial⟩, ⟨rfl, rfl, trivial⟩, trivial⟩
        · replace h := condT h
          conv => whnf
          refine CutK.go ?_
          conv => whnf
          cases h
          exact Done.of [] [] rfl rfl ⟨⟨rfl, rfl⟩, ⟨rfl, trivial⟩, ⟨rfl, rfl, trivial⟩, trivial⟩
    · replace h := iteF h g5
      conv => whnf
      refine CutK.go ?_
      conv => whnf
      refine LoopOk.into (spec_shValue_l0_2_ct  _ _ _ _ _ _ _ _ _ _ h) [some 128, some 192] [] ⟨⟨rfl, rfl⟩, ⟨rfl, ⟨rfl, rfl, rfl, trivial⟩, ⟨rfl, rfl, rfl, rfl, rfl, rfl, rfl, rfl, rfl, trivial⟩, trivial⟩, rfl, ⟨rfl, rfl⟩, ⟨rfl, rfl⟩, rfl, trivial⟩ ?_ (fun _ hs => hs)
      rintro i ts os ⟨rfl, v257, v258, v259, v260, v261, v262, v263, v294, h, rfl, rfl⟩
      cases v263
      · replace h := condF h
        cases v294
        · replace h := condF h
          conv => whnf
          refine CutK.go ?_
          conv => whnf
          cases h
          exact Done.of [] [] rfl rfl ⟨⟨rfl, rfl⟩, ⟨rfl, trivial⟩, ⟨rfl, rfl, trivial⟩, trivial⟩
        · replace h := condT h
          conv => whnf
          refine CutK.go ?_
          conv => whnf
          cases h
          exact Done.of [] [] rfl rfl ⟨⟨rfl, rfl⟩, ⟨rfl, trivial⟩, ⟨rfl, rfl, trivial⟩, trivial⟩
      · replace h := condT h
        cases v294
        · replace h := condF h
          conv => whnf
          refine CutK.go ?_
          conv => whnf
          cases h
          exact Done.of [] [] rfl rfl ⟨⟨rfl, rfl⟩, ⟨rfl, trivial⟩, ⟨rfl, rfl, trivial⟩, trivial⟩
        · replace h := condT h
          conv => whnf
          refine CutK.go ?_
          conv => whnf
          cases h
          exact Done.of [] [] rfl rfl ⟨⟨rfl, rfl⟩, ⟨rfl, trivial⟩, ⟨rfl, rfl, trivial⟩, trivial⟩
  · replace h := iteF h g4
    conv => whnf
    refine spl (fun g430 => ?_) (fun g430 => ?_)
    · replace h := iteT h g430
      conv => whnf
      refine CutK.go ?_
      conv => whnf
      refine LoopOk.into (spec_shValue_l0_3_ct  _ _ _ _ _ _ _ _ _ _ h) [some 128, some 192] [] ⟨⟨rfl, rfl⟩, ⟨rfl, ⟨rfl, rfl, rfl, trivial⟩, ⟨rfl, rfl, rfl, rfl, rfl, rfl, rfl, rfl, rfl, trivial⟩, trivial⟩, rfl, ⟨rfl, rfl⟩, ⟨rfl, rfl⟩, rfl, trivial⟩ ?_ (fun _ hs => hs)
      rintro i ts os ⟨rfl, v470, v471, v472, v473, v474, v475, v476, v507, h, rfl, rfl⟩
      cases v476
      · replace h := condF h
        cases v507
        · replace h := condF h
          conv => whnf
          refine CutK.go ?_
          conv => whnf
          cases h
          exact Done.of [] [] rfl rfl ⟨⟨rfl, rfl⟩, ⟨rfl, trivial⟩, ⟨rfl, rfl, trivial⟩, trivial⟩
        · replace h := condT h
          conv => whnf
          refine CutK.go ?_
          conv => whnf
          cases h
          exact Done.of [] [] rfl rfl ⟨⟨rfl, rfl⟩, ⟨rfl, trivial⟩, ⟨rfl, rfl, trivial⟩, trivial⟩
      · replace h := condT h
        cases v507
        · replace h := condF h
          conv => whnf
          refine CutK.go ?_
          conv => whnf
          cases h
          exact Done.of [] [] rfl rfl ⟨⟨rfl, rfl⟩, ⟨rfl, trivial⟩, ⟨rfl, rfl, trivial⟩, trivial⟩
        · replace h := condT h
          conv => whnf
          refine CutK.go ?_
          conv => whnf
          cases h
          exact Done.of [] [] rfl rfl ⟨⟨rfl, rfl⟩, ⟨rfl, trivial⟩, ⟨rfl, rfl, trivial⟩, trivial⟩
    · replace h := iteF h g430
      conv => whnf
      refine CutK.go ?_
      conv => whnf
      refine LoopOk.into (spec_shValue_l0_4_ct  _ _ _ _ _ _ _ _ _ _ h) [some 128, some 192] [] ⟨⟨rfl, rfl⟩, ⟨rfl, ⟨rfl, rfl, rfl, trivial⟩, ⟨rfl, rfl, rfl, rfl, rfl, rfl, rfl, rfl, rfl, trivial⟩, trivial⟩, rfl, ⟨rfl, rfl⟩, ⟨rfl, rfl⟩, rfl, trivial⟩ ?_ (fun _ hs => hs)
      rintro i ts os ⟨rfl, v682, v683, v684, v685, v686, v687, v703, v719, h, rfl, rfl⟩
      cases v703
      · replace h := condF h
        cases v719
        · replace h := condF h
          conv => whnf
          refine CutK.go ?_
          conv => whnf
          cases h
          exact Done.of [] [] rfl rfl ⟨⟨rfl, rfl⟩, ⟨rfl, trivial⟩, ⟨rfl, rfl, trivial⟩, trivial⟩
        · replace h := condT h
          conv => whnf
          refine CutK.go ?_
          conv => whnf
          cases h
          exact Done.of [] [] rfl rfl ⟨⟨rfl, rfl⟩, ⟨rfl, trivial⟩, ⟨rfl, rfl, trivial⟩, trivial⟩
      · replace h := condT h
        cases v719
        · replace h := condF h
          conv => whnf
          refine CutK.go ?_
          conv => whnf
          cases h
          exact Done.of [] [] rfl rfl ⟨⟨rfl, rfl⟩, ⟨rfl, trivial⟩, ⟨rfl, rfl, trivial⟩, trivial⟩
        · replace h := condT h
          conv => whnf
          refine CutK.go ?_
          conv => whnf
          cases h
          exact Done.of [] [] rfl rfl ⟨⟨rfl, rfl⟩, ⟨rfl, trivial⟩, ⟨rfl, rfl, trivial⟩, trivial⟩

def spec_l1Cur_fraction (k : Nat) (a1 : Rw) (a2 : Int) (a3 : Int) : Option (Int × Int × Rw × Int × Int) :=
  ((spec_l1Cur_pick a1 a2 a3 8).bind fun y4 => (if y4.1 = (0 : Int) then ((spec_l1Cur_pick y4.2.1 y4.2.2.1 y4.2.2.2 41).bind fun y7 => ((spec_l1Cur_pick y7.2.1 y7.2.2.1 y7.2.2.2 30).bind fun y9 => ((spec_shMake k (IntKind.i64.wrap (y7.1 - 20)) (IntKind.i64.wrap (1 + y9.1))).bind fun y11 => some (y11.1, y11.2, y9.2.1, y9.2.2.1, y9.2.2.2)))) else (if y4.1 = (1 : Int) then ((spec_l1Cur_pick y4.2.1 y4.2.2.1 y4.2.2.2 9).bind fun y14 => ((spec_shInt (IntKind.i64.wrap (y14.1 - 4))).bind fun y16 => some (y16.1, y16.2, y14.2.1, y14.2.2.1, y14.2.2.2))) else (if y4.1 = (2 : Int) then ((spec_l1Cur_among y4.2.1 y4.2.2.1 y4.2.2.2 ([[D.int .i64 0], [D.int .i64 0], [D.int .i64 2], [D.int .i64 (-2)], [D.int .i64 1000000], [D.int .i64 (-999999)], [D.int .i64 (-9223372036854775808)], [D.int .i64 1000001]] : Rw)).bind fun y19 => ((spec_l1Cur_among y19.2.1 y19.2.2.1 y19.2.2.2 ([[D.int .i64 1], [D.int .i64 1], [D.int .i64 1], [D.int .i64 3], [D.int .i64 1000000], [D.int .i64 0], [D.int .i64 (-1)], [D.int .i64 1000001]] : Rw)).bind fun y21 => some (y19.1, y21.1, y21.2.1, y21.2.2.1, y21.2.2.2))) else (if y4.1 = (3 : Int) then ((spec_l1Cur_pick y4.2.1 y4.2.2.1 y4.2.2.2 2000).bind fun y24 => ((spec_l1Cur_pick y24.2.1 y24.2.2.1 y24.2.2.2 2000).bind fun y26 => ((spec_shMake k (IntKind.i64.wrap (y24.1 - 1000)) (IntKind.i64.wrap (1 + y26.1))).bind fun y28 => some (y28.1, y28.2, y26.2.1, y26.2.2.1, y26.2.2.2)))) else ((spec_l1Cur_among y4.2.1 y4.2.2.1 y4.2.2.2 ([[D.int .i64 2], [D.int .i64 4], [D.int .i64 8], [D.int .i64 20]] : Rw)).bind fun y30 => ((spec_l1Cur_word k y30.2.1 y30.2.2.1 y30.2.2.2 y30.1).bind fun y32 => ((spec_shValue k y32.1).bind fun y34 => some (y34.1, y34.2, y32.2.1, y32.2.2.1, y32.2.2.2)))))))))
set_option maxHeartbeats 4000000 in
set_option maxRecDepth 100000 in
theorem spec_l1Cur_fraction_ct {k : Nat} {a1 : Rw} {a2 : Int} {a3 : Int} {r : Int × Int × Rw × Int × Int} (h : spec_l1Cur_fraction k a1 a2 a3 = some r) : Ct prog 72 [.ptr 0 0] (⟨[(66, [.d (D.sl a1), .d (D.int .i64 a2), .d (D.int .u64 a3)])], []⟩) (.agg [.d (D.int .i64 r.1), .d (D.int .i64 r.2.1)]) (⟨[(66, [.d (D.sl r.2.2.1), .d (D.int .i64 r.2.2.2.1), .d (D.int .u64 r.2.2.2.2)])], []⟩) := by
  rw [spec_l1Cur_fraction] at h
  refine Ct.of (c := _) mixed func72 ⟨rfl, rfl, rfl⟩ ?_ rfl
  conv => whnf
  refine Pick.no ?_
  conv => whnf
  obtain ⟨y4, e5, h⟩ := bind_ex h
  refine CallOk.of (spec_l1Cur_pick_ct e5) ?_
  conv => whnf
  refine CutK.norm [0, 2, 4] [0, 128] ?_
  conv => whnf
  refine splD (fun g6 => ?_) (fun g6 => ?_)
  · replace h := iteP h g6
    conv => whnf
    refine Pick.no ?_
    conv => whnf
    obtain ⟨y7, e8, h⟩ := bind_ex h
    refine CallOk.of (spec_l1Cur_pick_ct e8) ?_
    conv => whnf
    refine Pick.no ?_
    conv => whnf
    obtain ⟨y9, e10, h⟩ := bind_ex h
    refine CallOk.of (spec_l1Cur_pick_ct e10) ?_
    conv => whnf
    refine Pick.no ?_
    conv => whnf
    obtain ⟨y11, e12, h⟩ := bind_ex h
    refine CallOk.of (spec_shMake_ct e12) ?_
    conv => whnf
    refine CutK.norm [2] [0, 128] ?_
    conv => whnf
    cases h
    exact Done.of [some 0] [] rfl rfl ⟨⟨rfl, rfl⟩, ⟨rfl, ⟨rfl, rfl, rfl, rfl, trivial⟩, trivial⟩, ⟨rfl, rfl, trivial⟩, trivial⟩
  · replace h := iteN h g6
    conv => whnf
    refine splD (fun g13 => ?_) (fun g13 => ?_)
    · replace h := iteP h g13
      conv => whnf
      refine Pick.no ?_
      conv => whnf
      obtain ⟨y14, e15, h⟩ := bind_ex h
      refine CallOk.of (spec_l1Cur_pick_ct e15) ?_
      conv => whnf
      refine Pick.no ?_
      conv => whnf
      obtain ⟨y16, e17, h⟩ := bind_ex h
      refine CallOk.of (spec_shInt_ct e17) ?_
      conv => whnf
      refine CutK.norm [2] [0, 128] ?_
      conv => whnf
      cases h
      exact Done.of [some 0] [] rfl rfl ⟨⟨rfl, rfl⟩, ⟨rfl, ⟨rfl, rfl, rfl, rfl, trivial⟩, trivial⟩, ⟨rfl, rfl, trivial⟩, trivial⟩
    · replace h := iteN h g13
      conv => whnf
      refine splD (fun g18 => ?_) (fun g18 => ?_)
      · replace h := iteP h g18
        conv => whnf
        refine Pick.no ?_
        conv => whnf
        refine Take.all (by first | rfl | exact List.length_append.symm | (simp; done) | omega) ?_
        conv => whnf
        obtain ⟨y19, e20, h⟩ := bind_ex h
        refine CallOk.of (spec_l1Cur_among_ct e20) ?_
        conv => whnf
        refine Pick.no ?_
        conv => whnf
        refine Take.all (by first | rfl | exact List.length_append.symm | (simp; done) | omega) ?_
        conv => whnf
        obtain ⟨y21, e22, h⟩ := bind_ex h
        refine CallOk.of (spec_l1Cur_among_ct e22) ?_
        conv => whnf
        refine CutK.norm [2] [0, 128] ?_
        conv => whnf
        cases h
        exact Done.of [some 0] [] rfl rfl ⟨⟨rfl, rfl⟩, ⟨rfl, ⟨rfl, rfl, rfl, rfl, trivial⟩, trivial⟩, ⟨rfl, rfl, trivial⟩, trivial⟩
      · replace h := iteN h g18
        conv => whnf
        refine splD (fun g23 => ?_) (fun g23 => ?_)
        · replace h := iteP h g23
          conv => whnf
          refine Pick.no ?_
          conv => whnf
          obtain ⟨y24, e25, h⟩ := bind_ex h
          refine CallOk.of (spec_l1Cur_pick_ct e25) ?_
          conv => whnf
          refine Pick.no ?_
          conv => whnf
          obtain ⟨y26, e27, h⟩ := bind_ex h
          refine CallOk.of (spec_l1Cur_pick_ct e27) ?_
          conv => whnf
          refine Pick.no ?_
          conv => whnf
          obtain ⟨y28, e29, h⟩ := bind_ex h
          refine CallOk.of (spec_shMake_ct e29) ?_
          conv => whnf
          refine CutK.norm [2] [0, 128] ?_
          conv => whnf
          cases h
          exact Done.of [some 0] [] rfl rfl ⟨⟨rfl, rfl⟩, ⟨rfl, ⟨rfl, rfl, rfl, rfl, trivial⟩, trivial⟩, ⟨rfl, rfl, trivial⟩, trivial⟩
        · replace h := iteN h g23
          conv => whnf
          refine CutK.norm [0, 2] [0, 128] ?_
          conv => whnf
          refine Pick.no ?_
          conv => whnf
          refine Take.all (by first | rfl | exact List.length_append.symm | (simp; done) | omega) ?_
          conv => whnf
          obtain ⟨y30, e31, h⟩ := bind_ex h
          refine CallOk.of (spec_l1Cur_among_ct e31) ?_
          conv => whnf
          refine Pick.no ?_
          conv => whnf
          obtain ⟨y32, e33, h⟩ := bind_ex h
          refine CallOk.of (spec_l1Cur_word_ct e33) ?_
          conv => whnf
          refine Pick.no ?_
          conv => whnf
          obtain ⟨y34, e35, h⟩ := bind_ex h
          refine CallOk.of (spec_shValue_ct e35) ?_
          conv => whnf
          refine CutK.norm [2] [0, 128] ?_
          conv => whnf
          cases h
          exact Done.of [some 0] [] rfl rfl ⟨⟨rfl, rfl⟩, ⟨rfl, ⟨rfl, rfl, rfl, rfl, trivial⟩, trivial⟩, ⟨rfl, rfl, trivial⟩, trivial⟩

def spec_l1Cur_good (k : Nat) (a1 : Rw) (a2 : Int) (a3 : Int) : Option (Int × Int × Rw × Int × Int) :=
  ((spec_l1Cur_fraction k a1 a2 a3).bind fun y4 => ((spec_shGood k y4.1 y4.2.1).bind fun y6 => (if y6 = true then some (y4.1, y4.2.1, y4.2.2.1, y4.2.2.2.1, y4.2.2.2.2) else some (1, 2, y4.2.2.1, y4.2.2.2.1, y4.2.2.2.2))))
set_option maxHeartbeats 4000000 in
set_option maxRecDepth 100000 in
theorem spec_l1Cur_good_ct {k : Nat} {a1 : Rw} {a2 : Int} {a3 : Int} {r : Int × Int × Rw × Int × Int} (h : spec_l1Cur_good k a1 a2 a3 = some r) : Ct prog 123 [.ptr 0 0] (⟨[(66, [.d (D.sl a1), .d (D.int .i64 a2), .d (D.int .u64 a3)])], []⟩) (.agg [.d (D.int .i64 r.1), .d (D.int .i64 r.2.1)]) (⟨[(66, [.d (D.sl r.2.2.1), .d (D.int .i64 r.2.2.2.1), .d (D.int .u64 r.2.2.2.2)])], []⟩) := by
  rw [spec_l1Cur_good] at h
  refine Ct.of (c := _) mixed func123 ⟨rfl, rfl, rfl⟩ ?_ rfl
  conv => whnf
  refine Pick.no ?_
  conv => whnf
  obtain ⟨y4, e5, h⟩ := bind_ex h
  refine CallOk.of (spec_l1Cur_fraction_ct e5) ?_
  conv => whnf
  refine CutK.go ?_
  conv => whnf
  refine Pick.no ?_
  conv => whnf
  obtain ⟨y6, e7, h⟩ := bind_ex h
  refine CallOk.of (spec_shGood_ct e7) ?_
  conv => whnf
  refine spl (fun g8 => ?_) (fun g8 => ?_)
  · replace h := iteT h g8
    conv => whnf
    refine CutK.go ?_
    conv => whnf
    refine CutK.go ?_
    conv => whnf
    cases h
    exact Done.of [some 0] [] rfl rfl ⟨⟨rfl, rfl⟩, ⟨rfl, ⟨rfl, rfl, rfl, rfl, trivial⟩, trivial⟩, ⟨rfl, rfl, trivial⟩, trivial⟩
  · replace h := iteF h g8
    conv => whnf
    refine CutK.go ?_
    conv => whnf
    cases h
    exact Done.of [some 0] [] rfl rfl ⟨⟨rfl, rfl⟩, ⟨rfl, ⟨rfl, rfl, rfl, rfl, trivial⟩, trivial⟩, ⟨rfl, rfl, trivial⟩, trivial⟩

def spec_l1Cur_one  (a1 : Rw) (a2 : Int) (a3 : Int) (a4 : Int) : Option (Bool × Rw × Int × Int) :=
  ((spec_l1Cur_pick a1 a2 a3 a4).bind fun y5 => (if y5.1 = (0 : Int) then some (true, y5.2.1, y5.2.2.1, y5.2.2.2) else some (false, y5.2.1, y5.2.2.1, y5.2.2.2)))
set_option maxHeartbeats 4000000 in
set_option maxRecDepth 100000 in
theorem spec_l1Cur_one_ct  {a1 : Rw} {a2 : Int} {a3 : Int} {a4 : Int} {r : Bool × Rw × Int × Int} (h : spec_l1Cur_one a1 a2 a3 a4 = some r) : Ct prog 32 [.ptr 0 0, .d (D.int .i64 a4)] (⟨[(66, [.d (D.sl a1), .d (D.int .i64 a2), .d (D.int .u64 a3)])], []⟩) (.d (D.bool r.1)) (⟨[(66, [.d (D.sl r.2.1), .d (D.int .i64 r.2.2.1), .d (D.int .u64 r.2.2.2)])], []⟩) := by
  rw [spec_l1Cur_one] at h
  refine Ct.of (c := _) mixed func32 ⟨rfl, rfl, rfl⟩ ?_ rfl
  conv => whnf
  refine Pick.no ?_
  conv => whnf
  obtain ⟨y5, e6, h⟩ := bind_ex h
  refine CallOk.of (spec_l1Cur_pick_ct e6) ?_
  conv => whnf
  refine splD (fun g7 => ?_) (fun g7 => ?_)
  · replace h := iteP h g7
    conv => whnf
    refine CutK.go ?_
    conv => whnf
    cases h
    exact Done.of [some 0] [] rfl rfl ⟨⟨rfl, rfl⟩, ⟨rfl, ⟨rfl, rfl, rfl, rfl, trivial⟩, trivial⟩, rfl, trivial⟩
  · replace h := iteN h g7
    conv => whnf
    refine CutK.go ?_
    conv => whnf
    cases h
    exact Done.of [some 0] [] rfl rfl ⟨⟨rfl, rfl⟩, ⟨rfl, ⟨rfl, rfl, rfl, rfl, trivial⟩, trivial⟩, rfl, trivial⟩

def spec_l1Cur_coef (k : Nat) (a1 : Rw) (a2 : Int) (a3 : Int) (a4 : Bool) : Option (Int × Int × Rw × Int × Int) :=
  (cond a4 ((spec_l1Cur_good k a1 a2 a3).bind fun y26 => ((spec_l1Cur_among y26.2.2.1 y26.2.2.2.1 y26.2.2.2.2 ([[D.int .i64 2], [D.int .i64 3], [D.int .i64 5]] : Rw)).bind fun y28 => ((spec_l1Cur_word k y28.2.1 y28.2.2.1 y28.2.2.2 y28.1).bind fun y30 => ((spec_shValue k y30.1).bind fun y32 => (if y32.1 = (0 : Int) then ((spec_l1Cur_among y30.2.1 y30.2.2.1 y30.2.2.2 ([[D.int .i64 1], [D.int .i64 (-1)]] : Rw)).bind fun y35 => ((spec_shInt y35.1).bind fun y37 => some (y37.1, y37.2, y35.2.1, y35.2.2.1, y35.2.2.2))) else some (y32.1, y32.2, y30.2.1, y30.2.2.1, y30.2.2.2)))))) ((spec_l1Cur_good k a1 a2 a3).bind fun y5 => ((spec_l1Cur_one y5.2.2.1 y5.2.2.2.1 y5.2.2.2.2 2).bind fun y7 => (if y7.1 = true then ((spec_l1Cur_among y7.2.1 y7.2.2.1 y7.2.2.2 ([[D.int .i64 2], [D.int .i64 3], [D.int .i64 5]] : Rw)).bind fun y10 => ((spec_l1Cur_word k y10.2.1 y10.2.2.1 y10.2.2.2 y10.1).bind fun y12 => ((spec_shValue k y12.1).bind fun y14 => (if y14.1 = (0 : Int) then ((spec_l1Cur_among y12.2.1 y12.2.2.1 y12.2.2.2 ([[D.int .i64 1], [D.int .i64 (-1)]] : Rw)).bind fun y17 => ((spec_shInt y17.1).bind fun y19 => some (y19.1, y19.2, y17.2.1, y17.2.2.1, y17.2.2.2))) else some (y14.1, y14.2, y12.2.1, y12.2.2.1, y12.2.2.2))))) else (if y5.1 = (0 : Int) then ((spec_l1Cur_among y7.2.1 y7.2.2.1 y7.2.2.2 ([[D.int .i64 1], [D.int .i64 (-1)]] : Rw)).bind fun y22 => ((spec_shInt y22.1).bind fun y24 => some (y24.1, y24.2, y22.2.1, y22.2.2.1, y22.2.2.2))) else some (y5.1, y5.2.1, y7.2.1, y7.2.2.1, y7.2.2.2))))))
set_option maxHeartbeats 4000000 in
set_option maxRecDepth 100000 in
theorem spec_l1Cur_coef_ct {k : Nat} {a1 : Rw} {a2 : Int} {a3 : Int} {a4 : Bool} {r : Int × Int × Rw × Int × Int} (h : spec_l1Cur_coef k a1 a2 a3 a4 = some r) : Ct prog 87 [.ptr 0 0, .d (D.bool a4)] (⟨[(66, [.d (D.sl a1), .d (D.int .i64 a2), .d (D.int .u64 a3)])], []⟩) (.agg [.d (D.int .i64 r.1), .d (D.int .i64 r.2.1)]) (⟨[(66, [.d (D.sl r.2.2.1), .d (D.int .i64 r.2.2.2.1), .d (D.int .u64 r.2.2.2.2)])], []⟩) := by
  rw [spec_l1Cur_coef] at h
  refine Ct.of (c := _) mixed func87 ⟨rfl, rfl, rfl⟩ ?_ rfl
  cases a4
  · replace h := condF h
    conv => whnf
    refine Pick.no ?_
    conv => whnf
    obtain ⟨y5, e6, h⟩ := bind_ex h
    refine CallOk.of (spec_l1Cur_good_ct e6) ?_
    conv => whnf
    refine CutK.go ?_
    conv => whnf
    refine Pick.no ?_
    conv => whnf
    obtain ⟨y7, e8, h⟩ := bind_ex h
    refine CallOk.of (spec_l1Cur_one_ct e8) ?_
    conv => whnf
    refine spl (fun g9 => ?_) (fun g9 => ?_)
    · replace h := iteT h g9
      conv => whnf
      refine CutK.go ?_
      conv => whnf
      refine Pick.no ?_
      conv => whnf
      refine Take.all (by first | rfl | exact List.length_append.symm | (simp; done) | omega) ?_
      conv => whnf
      obtain ⟨y10, e11, h⟩ := bind_ex h
      refine CallOk.of (spec_l1Cur_among_ct e11) ?_
      conv => whnf
      refine Pick.no ?_
      conv => whnf
      obtain ⟨y12, e13, h⟩ := bind_ex h
      refine CallOk.of (spec_l1Cur_word_ct e13) ?_
      conv => whnf
      refine Pick.no ?_
      conv => whnf
      obtain ⟨y14, e15, h⟩ := bind_ex h
      refine CallOk.of (spec_shValue_ct e15) ?_
      conv => whnf
      refine CutK.go ?_
      conv => whnf
      refine splD (fun g16 => ?_) (fun g16 => ?_)
      · replace h := iteP h g16
        conv => whnf
        refine Pick.no ?_
        conv => whnf
        refine Take.all (by first | rfl | exact List.length_append.symm | (simp; done) | omega) ?_
        conv => whnf
        obtain ⟨y17, e18, h⟩ := bind_ex h
        refine CallOk.of (spec_l1Cur_among_ct e18) ?_
        conv => whnf
        refine Pick.no ?_
        conv => whnf
        obtain ⟨y19, e20, h⟩ := bind_ex h
        refine CallOk.of (spec_shInt_ct e20) ?_
        conv => whnf
        refine CutK.go ?_
        conv => whnf
        cases h
        exact Done.of [some 0] [] rfl rfl ⟨⟨rfl, rfl⟩, ⟨rfl, ⟨rfl, rfl, rfl, rfl, trivial⟩, trivial⟩, ⟨rfl, rfl, trivial⟩, trivial⟩
      · replace h := iteN h g16
        conv => whnf
        refine CutK.go ?_
        conv => whnf
        cases h
        exact Done.of [some 0] [] rfl rfl ⟨⟨rfl, rfl⟩, ⟨rfl, ⟨rfl, rfl, rfl, rfl, trivial⟩, trivial⟩, ⟨rfl, rfl, trivial⟩, trivial⟩
    · replace h := iteF h g9
      conv => whnf
      refine CutK.go ?_
      conv => whnf
      refine CutK.go ?_
      conv => whnf
      refine splD (fun g21 => ?_) (fun g21 => ?_)
      · replace h := iteP h g21
        conv => whnf
        refine Pick.no ?_
        conv => whnf
        refine Take.all (by first | rfl | exact List.length_append.symm | (simp; done) | omega) ?_
        conv => whnf
        obtain ⟨y22, e23, h⟩ := bind_ex h
        refine CallOk.of (spec_l1Cur_among_ct e23) ?_
        conv => whnf
        refine Pick.no ?_
        conv => whnf
        obtain ⟨y24, e25, h⟩ := bind_ex h
        refine CallOk.of (spec_shInt_ct e25) ?_
        conv => whnf
        refine CutK.go ?_
        conv => whnf
        cases h
        exact Done.of [some 0] [] rfl rfl ⟨⟨rfl, rfl⟩, ⟨rfl, ⟨rfl, rfl, rfl, rfl, trivial⟩, trivial⟩, ⟨rfl, rfl, trivial⟩, trivial⟩
      · replace h := iteN h g21
        conv => whnf
        refine CutK.go ?_
        conv => whnf
        cases h
        exact Done.of [some 0] [] rfl rfl ⟨⟨rfl, rfl⟩, ⟨rfl, ⟨rfl, rfl, rfl, rfl, trivial⟩, trivial⟩, ⟨rfl, rfl, trivial⟩, trivial⟩
  · replace h := condT h
    conv => whnf
    refine Pick.no ?_
    conv => whnf
    obtain ⟨y26, e27, h⟩ := bind_ex h
    refine CallOk.of (spec_l1Cur_good_ct e27) ?_
    conv => whnf
    refine CutK.go ?_
    conv => whnf
    refine CutK.go ?_
    conv => whnf
    refine Pick.no ?_
    conv => whnf
    refine Take.all (by first | rfl | exact List.length_append.symm | (simp; done) | omega) ?_
    conv => whnf
    obtain ⟨y28, e29, h⟩ := bind_ex h
    refine CallOk.of (spec_l1Cur_among_ct e29) ?_
    conv => whnf
    refine Pick.no ?_
    conv => whnf
    obtain ⟨y30, e31, h⟩ := bind_ex h
    refine CallOk.of (spec_l1Cur_word_ct e31) ?_
    conv => whnf
    refine Pick.no ?_
    conv => whnf
    obtain ⟨y32, e33, h⟩ := bind_ex h
    refine CallOk.of (spec_shValue_ct e33) ?_
    conv => whnf
    refine CutK.go ?_
    conv => whnf
    refine splD (fun g34 => ?_) (fun g34 => ?_)
    · replace h := iteP h g34
      conv => whnf
      refine Pick.no ?_
      conv => whnf
      refine Take.all (by first | rfl | exact List.length_append.symm | (simp; done) | omega) ?_
      conv => whnf
      obtain ⟨y35, e36, h⟩ := bind_ex h
      refine CallOk.of (spec_l1Cur_among_ct e36) ?_
      conv => whnf
      refine Pick.no ?_
      conv => whnf
      obtain ⟨y37, e38, h⟩ := bind_ex h
      refine CallOk.of (spec_shInt_ct e38) ?_
      conv => whnf
      refine CutK.go ?_
      conv => whnf
      cases h
      exact Done.of [some 0] [] rfl rfl ⟨⟨rfl, rfl⟩, ⟨rfl, ⟨rfl, rfl, rfl, rfl, trivial⟩, trivial⟩, ⟨rfl, rfl, trivial⟩, trivial⟩
    · replace h := iteN h g34
      conv => whnf
      refine CutK.go ?_
      conv => whnf
      cases h
      exact Done.of [some 0] [] rfl rfl ⟨⟨rfl, rfl⟩, ⟨rfl, ⟨rfl, rfl, rfl, rfl, trivial⟩, trivial⟩, ⟨rfl, rfl, trivial⟩, trivial⟩

def spec_suTerm  (a1 : Rw) (a2 : Int) (a3 : Int) : Option Rw :=
  (if a2 = (0 : Int) then some ([] : Rw) else some ([[D.sl a1, D.int .i64 a2, D.int .i64 a3]] : Rw))
set_option maxHeartbeats 4000000 in
set_option maxRecDepth 100000 in
theorem spec_suTerm_ct  {a1 : Rw} {a2 : Int} {a3 : Int} {r : Rw} (h : spec_suTerm a1 a2 a3 = some r) : Ct prog 73 [.agg [.d (D.sl a1)], .agg [.d (D.int .i64 a2), .d (D.int .i64 a3)]] (⟨[], []⟩) (.agg [.os 8 r.length]) (⟨[], [(70, false, r)]⟩) := by
  rw [spec_suTerm] at h
  refine Ct.of (c := _) mixed func73 ⟨rfl, rfl, rfl⟩ ?_ rfl
  conv => whnf
  refine splD (fun g4 => ?_) (fun g4 => ?_)
  · replace h := iteP h g4
    conv => whnf
    cases h
    exact Done.of [none] [] rfl rfl ⟨⟨rfl, rfl⟩, ⟨rfl, rfl, trivial⟩, ⟨⟨rfl, rfl⟩, trivial⟩, trivial⟩
  · replace h := iteN h g4
    conv => whnf
    cases h
    exact Done.of [some 768] [] rfl rfl ⟨⟨rfl, rfl⟩, ⟨rfl, ⟨rfl, rfl, rows_same⟩, trivial⟩, ⟨⟨(by first | rfl | exact List.length_append.symm | (simp; done) | omega), rfl⟩, trivial⟩, trivial⟩

def spec_suReal  (a1 : Int) (a2 : Int) : Option Rw :=
  ((spec_suTerm ([] : Rw) a1 a2).bind fun y3 => some y3)
set_option maxHeartbeats 4000000 in
set_option maxRecDepth 100000 in
theorem spec_suReal_ct  {a1 : Int} {a2 : Int} {r : Rw} (h : spec_suReal a1 a2 = some r) : Ct prog 86 [.agg [.d (D.int .i64 a1), .d (D.int .i64 a2)]] (⟨[], []⟩) (.agg [.os 8 r.length]) (⟨[], [(70, false, r)]⟩) := by
  rw [spec_suReal] at h
  refine Ct.of (c := _) mixed func86 ⟨rfl, rfl, rfl⟩ ?_ rfl
  conv => whnf
  refine Pick.no ?_
  conv => whnf
  obtain ⟨y3, e4, h⟩ := bind_ex h
  refine CallOk.of (spec_suTerm_ct e4) ?_
  conv => whnf
  refine CutK.go ?_
  conv => whnf
  cases h
  exact Done.of [some 320] [] rfl rfl ⟨⟨rfl, rfl⟩, ⟨rfl, ⟨rfl, rfl, rows_same⟩, trivial⟩, ⟨⟨rfl, rfl⟩, trivial⟩, trivial⟩

def spec_suPut_p4 (a2 : Rw) (a3 : Int) (a4 : Int) (o89 : Rw) (v90 : Bool) : Option (Rw × Bool) :=
  (cond v90 (some (o89, true)) (if o89.length + 1 ≤ cap then some (o89 ++ ([[D.sl a2, D.int .i64 a3, D.int .i64 a4]]), true) else none))
set_option maxHeartbeats 4000000 in
set_option maxRecDepth 100000 in
theorem spec_suPut_p4_ct {a2 : Rw} {a3 : Int} {a4 : Int} {o89 : Rw} {v90 : Bool} {r : Rw × Bool} (h : spec_suPut_p4 a2 a3 a4 o89 v90 = some r) : X prog 0 (tlF f74 4) (mk 73 [(3, .ptr 192 0), (4, .ptr 256 0), (6, .ptr 384 0), (7, .d (D.bool v90))] [(192, .box 70 [.d (D.sl a2), .d (D.int .i64 a3), .d (D.int .i64 a4)]), (256, .box 26 [.es]), (384, .box 26 [.os 1084000 o89.length]), (1084000, .arr 70 false o89)]) (finK prog f74 0 (.tup [.agg [.os 8 r.1.length], .d (D.bool r.2)]) (⟨[], [(70, false, r.1)]⟩)) := by
  rw [spec_suPut_p4] at h
  cases v90
  · replace h := condF h
    conv => whnf
    refine Take.all (rfl) ?_
    conv => whnf
    refine Take.all (by first | rfl | exact List.length_append.symm | (simp; done) | omega) ?_
    conv => whnf
    obtain ⟨g92, h⟩ := req_ex h
    refine Req.of (room (b := 40) (by decide) g92 (wide1 rfl wide0)) ?_
    conv => whnf
    cases h
    exact Done.of [some 4480] [] rfl rfl ⟨⟨rfl, rfl⟩, ⟨rfl, ⟨rfl, rfl, rows_same⟩, trivial⟩, ⟨⟨⟨(by first | rfl | exact List.length_append.symm | (simp; done) | omega), rfl⟩, trivial⟩, rfl, trivial⟩, trivial⟩
  · replace h := condT h
    conv => whnf
    cases h
    exact Done.of [some 1084000] [] rfl rfl ⟨⟨rfl, rfl⟩, ⟨rfl, ⟨rfl, rfl, rows_same⟩, trivial⟩, ⟨⟨⟨rfl, rfl⟩, trivial⟩, rfl, trivial⟩, trivial⟩
def spec_suPut_l0 (k : Nat) (a1 : Rw) (a2 : Rw) (a3 : Int) (a4 : Int) (K0 : Rw → Bool → Option (Rw × Bool)) : Rw → Bool → Rw → Option (Rw × Bool)
  | [], v111, v113 => (cond v111 (K0 v113 true) (K0 v113 false))
  | cs :: rest, v111, v113 => (cond v111 (cell_sii cs fun x196 x197 x198 => ((spec_suCmp k x196 a2).bind fun y200 => (if v113.length + 1 ≤ cap then (spec_suPut_l0 k a1 a2 a3 a4 K0 rest true (v113 ++ ([[D.sl x196, D.int .i64 x197, D.int .i64 x198]]))) else none))) (cell_sii cs fun x177 x178 x179 => ((spec_suCmp k x177 a2).bind fun y181 => (if y181 ≤ (0 : Int) then (if y181 = (0 : Int) then ((spec_shAdd k x178 x179 a3 a4).bind fun y185 => ((spec_shGood k y185.1 y185.2).bind fun y187 => (if y187 = true then ((spec_suTerm a2 y185.1 y185.2).bind fun y190 => (if v113.length + y190.length ≤ cap ∧ (∀ cs ∈ y190, cs.length = 3) then (spec_suPut_l0 k a1 a2 a3 a4 K0 rest true (v113 ++ y190)) else none)) else some (([] : Rw), false)))) else (if v113.length + 1 ≤ cap then (if (v113 ++ ([[D.sl a2, D.int .i64 a3, D.int .i64 a4]])).length + 1 ≤ cap then (spec_suPut_l0 k a1 a2 a3 a4 K0 rest true ((v113 ++ ([[D.sl a2, D.int .i64 a3, D.int .i64 a4]])) ++ ([[D.sl x177, D.int .i64 x178, D.int .i64 x179]]))) else none) else none)) else (if v113.length + 1 ≤ cap then (spec_suPut_l0 k a1 a2 a3 a4 K0 rest false (v113 ++ ([[D.sl x177, D.int .i64 x178, D.int .i64 x179]]))) else none)))))
set_option maxRecDepth 100000 in
theorem spec_suPut_l0_ct {k : Nat} {a1 : Rw} {a2 : Rw} {a3 : Int} {a4 : Int} {K0 : Rw → Bool → Option (Rw × Bool)} {r : Rw × Bool} (hx : a1.length ≤ cap) : ∀ (rest : Rw) (v112n : Nat) (v111 : Bool) (v113 : Rw), a1.drop v112n = rest → spec_suPut_l0 k a1 a2 a3 a4 K0 rest v111 v113 = some r → LoopOk prog 0 (lp f74 0) (mk 73 [(3, .ptr 192 0), (4, .ptr 256 0), (6, .ptr 384 0), (7, .d (D.bool v111)), (14, .d (D.sl a1)), (15, .d (D.int .i64 (a1.length : Int))), (16, .d (D.int .i64 (v112n : Int)))] [(192, .box 70 [.d (D.sl a2), .d (D.int .i64 a3), .d (D.int .i64 a4)]), (256, .box 26 [.es]), (384, .box 26 [.os 64000 v113.length]), (64000, .arr 70 false v113)]) (LoopEnd prog f74 0 73 (.tup [.agg [.os 8 r.1.length], .d (D.bool r.2)]) (⟨[], [(70, false, r.1)]⟩) (fun i ts os => (i = 0 ∧ ∃ v136 : Rw, ∃ v146 : Bool, K0 v136 v146 = some r ∧ ts = [(3, .ptr 192 0), (4, .ptr 256 0), (6, .ptr 384 0), (7, .d (D.bool v146))] ∧ os = [(192, .box 70 [.d (D.sl a2), .d (D.int .i64 a3), .d (D.int .i64 a4)]), (256, .box 26 [.es]), (384, .box 26 [.os 67001 v136.length]), (67001, .arr 70 false v136)])))
  | [], v112n, v111, v113, hd, h => by
      rw [spec_suPut_l0] at h
      have hn := drop_nil hd
      cases v111
      · replace h := condF h
        refine LoopOk.step ?_
        conv => whnf
        refine splD (fun g => absurd g hn) (fun _ => ?_)
        conv => whnf
        exact ⟨_, _, [some 192, some 256, some 384, some 64000], [], ⟨rfl, _, _, h, rfl, rfl⟩, ⟨⟨rfl, rfl⟩, ⟨rfl, ⟨rfl, rfl, rfl, rfl, trivial⟩, ⟨rfl, trivial, trivial⟩, ⟨rfl, ⟨rfl, rfl⟩, trivial⟩, ⟨rfl, rfl, rows_same⟩, trivial⟩, ⟨rfl, rfl⟩, ⟨rfl, rfl⟩, ⟨rfl, rfl⟩, rfl, trivial⟩⟩
      · replace h := condT h
        refine LoopOk.step ?_
        conv => whnf
        refine splD (fun g => absurd g hn) (fun _ => ?_)
        conv => whnf
        exact ⟨_, _, [some 192, some 256, some 384, some 64000], [], ⟨rfl, _, _, h, rfl, rfl⟩, ⟨⟨rfl, rfl⟩, ⟨rfl, ⟨rfl, rfl, rfl, rfl, trivial⟩, ⟨rfl, trivial, trivial⟩, ⟨rfl, ⟨rfl, rfl⟩, trivial⟩, ⟨rfl, rfl, rows_same⟩, trivial⟩, ⟨rfl, rfl⟩, ⟨rfl, rfl⟩, ⟨rfl, rfl⟩, rfl, trivial⟩⟩
  | cs :: rest, v112n, v111, v113, hd, h => by
      rw [spec_suPut_l0] at h
      obtain ⟨hrow, hd1, hlt⟩ := drop_cons hd
      cases v111
      · replace h := condF h
        refine LoopOk.step ?_
        conv => whnf
        refine splD (fun _ => ?_) (fun g => absurd hlt g)
        conv => whnf
        obtain ⟨x177, x178, x179, e180, h⟩ := cell_sii_ex h
        rw [e180] at hrow
        refine Req.of (Int.natCast_nonneg _) ?_
        refine Row.of _ hrow ?_
        conv => whnf
        refine Pick.no ?_
        conv => whnf
        obtain ⟨y181, e182, h⟩ := bind_ex h
        refine CallOk.of (spec_suCmp_ct e182) ?_
        conv => whnf
        refine CutK.norm [3, 4, 6, 7, 9, 10, 14, 15, 16] [192, 256, 384, 576, 64000] ?_
        conv => whnf
        refine splD (fun g183 => ?_) (fun g183 => ?_)
        · replace h := iteP h g183
          conv => whnf
          refine splD (fun g184 => ?_) (fun g184 => ?_)
          · replace h := iteP h g184
            conv => whnf
            refine Pick.no ?_
            conv => whnf
            obtain ⟨y185, e186, h⟩ := bind_ex h
            refine CallOk.of (spec_shAdd_ct e186) ?_
            conv => whnf
            refine CutK.norm [3, 4, 6, 7, 11, 14, 15, 16] [192, 256, 384, 704, 64000] ?_
            conv => whnf
            refine Pick.no ?_
            conv => whnf
            obtain ⟨y187, e188, h⟩ := bind_ex h
            refine CallOk.of (spec_shGood_ct e188) ?_
            conv => whnf
            refine spl (fun g189 => ?_) (fun g189 => ?_)
            · replace h := iteT h g189
              conv => whnf
              refine CutK.norm [3, 4, 6, 7, 11, 14, 15, 16, 40] [192, 256, 384, 704, 64000] ?_
              conv => whnf
              refine CutK.norm [3, 4, 6, 7, 11, 14, 15, 16] [192, 256, 384, 704, 64000] ?_
              conv => whnf
              refine Pick.no ?_
              conv => whnf
              obtain ⟨y190, e191, h⟩ := bind_ex h
              refine CallOk.of (spec_suTerm_ct e191) ?_
              conv => whnf
              refine Take.all (rfl) ?_
              conv => whnf
              refine Take.all (rfl) ?_
              conv => whnf
              obtain ⟨g192, h⟩ := req_ex h
              refine Req.of (room (b := 40) (by decide) g192.1 g192.2) ?_
              conv => whnf
              refine CutK.norm [3, 4, 6, 7, 14, 15, 16] [192, 256, 384, 3136] ?_
              conv => whnf
              refine CutK.norm [3, 4, 6, 7, 14, 15, 16] [192, 256, 384, 3136] ?_
              conv => whnf
              exact LoopOk.back (spec_suPut_l0_ct hx rest (v112n + 1) _ _ hd1 h) [some 192, some 256, some 384, some 3136] [] ⟨⟨rfl, rfl⟩, ⟨rfl, ⟨rfl, rfl, rfl, rfl, trivial⟩, ⟨rfl, trivial, trivial⟩, ⟨rfl, ⟨(by first | rfl | exact List.length_append.symm | (simp; done) | omega), rfl⟩, trivial⟩, ⟨rfl, rfl, rows_same⟩, trivial⟩, ⟨rfl, rfl⟩, ⟨rfl, rfl⟩, ⟨rfl, rfl⟩, rfl, rfl, rfl, i64eq (wrap_up hlt hx), trivial⟩
            · replace h := iteF h g189
              conv => whnf
              refine CutK.norm [3, 4, 6, 7, 11, 14, 15, 16, 40] [192, 256, 384, 704, 64000] ?_
              conv => whnf
              cases h
              exact Done.of [none] [] rfl rfl ⟨⟨rfl, rfl⟩, ⟨rfl, rfl, trivial⟩, ⟨⟨⟨rfl, rfl⟩, trivial⟩, rfl, trivial⟩, trivial⟩
          · replace h := iteN h g184
            conv => whnf
            refine CutK.norm [3, 4, 6, 7, 9, 14, 15, 16] [192, 256, 384, 576, 64000] ?_
            conv => whnf
            refine Take.all (rfl) ?_
            conv => whnf
            refine Take.all (by first | rfl | exact List.length_append.symm | (simp; done) | omega) ?_
            conv => whnf
            obtain ⟨g193, h⟩ := req_ex h
            refine Req.of (room (b := 40) (by decide) g193 (wide1 rfl wide0)) ?_
            conv => whnf
            refine CutK.norm [3, 4, 6, 7, 9, 14, 15, 16] [192, 256, 384, 576, 3520] ?_
            conv => whnf
            refine Take.all (by first | rfl | exact List.length_append.symm | (simp; done) | omega) ?_
            conv => whnf
            refine Take.all (by first | rfl | exact List.length_append.symm | (simp; done) | omega) ?_
            conv => whnf
            obtain ⟨g194, h⟩ := req_ex h
            refine Req.of (room (b := 40) (by decide) g194 (wide1 rfl wide0)) ?_
            conv => whnf
            refine CutK.norm [3, 4, 6, 7, 14, 15, 16] [192, 256, 384, 3904] ?_
            conv => whnf
            exact LoopOk.back (spec_suPut_l0_ct hx rest (v112n + 1) _ _ hd1 h) [some 192, some 256, some 384, some 3904] [] ⟨⟨rfl, rfl⟩, ⟨rfl, ⟨rfl, rfl, rfl, rfl, trivial⟩, ⟨rfl, trivial, trivial⟩, ⟨rfl, ⟨(by first | rfl | exact List.length_append.symm | (simp; done) | omega), rfl⟩, trivial⟩, ⟨rfl, rfl, rows_same⟩, trivial⟩, ⟨rfl, rfl⟩, ⟨rfl, rfl⟩, ⟨rfl, rfl⟩, rfl, rfl, rfl, i64eq (wrap_up hlt hx), trivial⟩
        · replace h := iteN h g183
          conv => whnf
          refine CutK.norm [3, 4, 6, 7, 9, 14, 15, 16] [192, 256, 384, 576, 64000] ?_
          conv => whnf
          refine Take.all (rfl) ?_
          conv => whnf
          refine Take.all (by first | rfl | exact List.length_append.symm | (simp; done) | omega) ?_
          conv => whnf
          obtain ⟨g195, h⟩ := req_ex h
          refine Req.of (room (b := 40) (by decide) g195 (wide1 rfl wide0)) ?_
          conv => whnf
          refine CutK.norm [3, 4, 6, 7, 14, 15, 16] [192, 256, 384, 3904] ?_
          conv => whnf
          exact LoopOk.back (spec_suPut_l0_ct hx rest (v112n + 1) _ _ hd1 h) [some 192, some 256, some 384, some 3904] [] ⟨⟨rfl, rfl⟩, ⟨rfl, ⟨rfl, rfl, rfl, rfl, trivial⟩, ⟨rfl, trivial, trivial⟩, ⟨rfl, ⟨(by first | rfl | exact List.length_append.symm | (simp; done) | omega), rfl⟩, trivial⟩, ⟨rfl, rfl, rows_same⟩, trivial⟩, ⟨rfl, rfl⟩, ⟨rfl, rfl⟩, ⟨rfl, rfl⟩, rfl, rfl, rfl, i64eq (wrap_up hlt hx), trivial⟩
      · replace h := condT h
        refine LoopOk.step ?_
        conv => whnf
        refine splD (fun _ => ?_) (fun g => absurd hlt g)
        conv => whnf
        obtain ⟨x196, x197, x198, e199, h⟩ := cell_sii_ex h
        rw [e199] at hrow
        refine Req.of (Int.natCast_nonneg _) ?_
        refine Row.of _ hrow ?_
        conv => whnf
        refine Pick.no ?_
        conv => whnf
        obtain ⟨y200, e201, h⟩ := bind_ex h
        refine CallOk.of (spec_suCmp_ct e201) ?_
        conv => whnf
        refine CutK.norm [3, 4, 6, 7, 9, 10, 14, 15, 16] [192, 256, 384, 576, 64000] ?_
        conv => whnf
        refine CutK.norm [3, 4, 6, 7, 9, 14, 15, 16] [192, 256, 384, 576, 64000] ?_
        conv => whnf
        refine Take.all (rfl) ?_
        conv => whnf
        refine Take.all (by first | rfl | exact List.length_append.symm | (simp; done) | omega) ?_
        conv => whnf
        obtain ⟨g202, h⟩ := req_ex h
        refine Req.of (room (b := 40) (by decide) g202 (wide1 rfl wide0)) ?_
        conv => whnf
        refine CutK.norm [3, 4, 6, 7, 14, 15, 16] [192, 256, 384, 3904] ?_
        conv => whnf
        exact LoopOk.back (spec_suPut_l0_ct hx rest (v112n + 1) _ _ hd1 h) [some 192, some 256, some 384, some 3904] [] ⟨⟨rfl, rfl⟩, ⟨rfl, ⟨rfl, rfl, rfl, rfl, trivial⟩, ⟨rfl, trivial, trivial⟩, ⟨rfl, ⟨(by first | rfl | exact List.length_append.symm | (simp; done) | omega), rfl⟩, trivial⟩, ⟨rfl, rfl, rows_same⟩, trivial⟩, ⟨rfl, rfl⟩, ⟨rfl, rfl⟩, ⟨rfl, rfl⟩, rfl, rfl, rfl, i64eq (wrap_up hlt hx), trivial⟩
def spec_suPut (k : Nat) (a1 : Rw) (a2 : Rw) (a3 : Int) (a4 : Int) : Option (Rw × Bool) :=
  (if a1.length ≤ cap then (spec_suPut_l0 k a1 a2 a3 a4 (fun (v136 : Rw) (v146 : Bool) => (cond v146 (spec_suPut_p4 a2 a3 a4 v136 true) (spec_suPut_p4 a2 a3 a4 v136 false))) a1 false ([] : Rw)) else none)
set_option maxHeartbeats 4000000 in
set_option maxRecDepth 100000 in
theorem spec_suPut_ct {k : Nat} {a1 : Rw} {a2 : Rw} {a3 : Int} {a4 : Int} {r : Rw × Bool} (h : spec_suPut k a1 a2 a3 a4 = some r) : Ct prog 74 [.agg [.d (D.sl a1)], .agg [.d (D.sl a2), .d (D.int .i64 a3), .d (D.int .i64 a4)]] (⟨[], []⟩) (.tup [.agg [.os 8 r.1.length], .d (D.bool r.2)]) (⟨[], [(70, false, r.1)]⟩) := by
  rw [spec_suPut] at h
  refine Ct.of (c := _) mixed func74 ⟨rfl, rfl, rfl⟩ ?_ rfl
  conv => whnf
  obtain ⟨g203, h⟩ := req_ex h
  refine LoopOk.into (spec_suPut_l0_ct  g203 _ _ _ _ rfl h) [some 192, some 256, some 384, none] [] ⟨⟨rfl, rfl⟩, ⟨rfl, ⟨rfl, rfl, rfl, rfl, trivial⟩, ⟨rfl, trivial, trivial⟩, ⟨rfl, ⟨rfl, rfl⟩, trivial⟩, rfl, trivial⟩, ⟨rfl, rfl⟩, ⟨rfl, rfl⟩, ⟨rfl, rfl⟩, rfl, rfl, rfl, rfl, trivial⟩ ?_ (fun _ hs => hs)
  rintro i ts os ⟨rfl, v136, v146, h, rfl, rfl⟩
  cases v146
  · replace h := condF h
    conv => whnf
    exact CutK.piece (spec_suPut_p4_ct  h) [some 192, some 256, some 384, some 67001] [] ⟨⟨rfl, rfl⟩, ⟨rfl, ⟨rfl, rfl, rfl, rfl, trivial⟩, ⟨rfl, trivial, trivial⟩, ⟨rfl, ⟨rfl, rfl⟩, trivial⟩, ⟨rfl, rfl, rows_same⟩, trivial⟩, ⟨rfl, rfl⟩, ⟨rfl, rfl⟩, ⟨rfl, rfl⟩, rfl, trivial⟩
  · replace h := condT h
    conv => whnf
    exact CutK.piece (spec_suPut_p4_ct  h) [some 192, some 256, some 384, some 67001] [] ⟨⟨rfl, rfl⟩, ⟨rfl, ⟨rfl, rfl, rfl, rfl, trivial⟩, ⟨rfl, trivial, trivial⟩, ⟨rfl, ⟨rfl, rfl⟩, trivial⟩, ⟨rfl, rfl, rows_same⟩, trivial⟩, ⟨rfl, rfl⟩, ⟨rfl, rfl⟩, ⟨rfl, rfl⟩, rfl, trivial⟩

set_option maxHeartbeats 4000000 in
set_option maxRecDepth 100000 in
theorem spec_suPut_p4_cts {a2 : Rw} {a3 : Int} {a4 : Int} {o89 : Rw} {v90 : Bool} {r : Rw × Bool} (h : spec_suPut_p4 a2 a3 a4 o89 v90 = some r) : X prog 0 (tlF f74 4) (mk 73 [(3, .ptr 192 0), (4, .ptr 256 0), (6, .ptr 384 0), (7, .d (D.bool v90))] [(192, .box 70 [.d (D.sl a2), .d (D.int .i64 a3), .d (D.int .i64 a4)]), (256, .box 26 [.es]), (384, .box 26 [.os 1084000 o89.length]), (1084000, .arr 70 false o89)]) (finK prog f74 0 (match r.2 with | true => .tup [.agg [.os 8 r.1.length], .d (D.bool true)] | false => .tup [.agg [.es], .d (D.bool false)]) (match r.2 with | true => ⟨[], [(70, false, r.1)]⟩ | false => ⟨[], []⟩)) := by
  rw [spec_suPut_p4] at h
  cases v90
  · replace h := condF h
    conv => whnf
    refine Take.all (rfl) ?_
    conv => whnf
    refine Take.all (by first | rfl | exact List.length_append.symm | (simp; done) | omega) ?_
    conv => whnf
    obtain ⟨g92, h⟩ := req_ex h
    refine Req.of (room (b := 40) (by decide) g92 (wide1 rfl wide0)) ?_
    conv => whnf
    cases h
    exact Done.of [some 4480] [] rfl rfl ⟨⟨rfl, rfl⟩, ⟨rfl, ⟨rfl, rfl, rows_same⟩, trivial⟩, ⟨⟨⟨(by first | rfl | exact List.length_append.symm | (simp; done) | omega), rfl⟩, trivial⟩, rfl, trivial⟩, trivial⟩
  · replace h := condT h
    conv => whnf
    cases h
    exact Done.of [some 1084000] [] rfl rfl ⟨⟨rfl, rfl⟩, ⟨rfl, ⟨rfl, rfl, rows_same⟩, trivial⟩, ⟨⟨⟨rfl, rfl⟩, trivial⟩, rfl, trivial⟩, trivial⟩
set_option maxRecDepth 100000 in
theorem spec_suPut_l0_cts {k : Nat} {a1 : Rw} {a2 : Rw} {a3 : Int} {a4 : Int} {K0 : Rw → Bool → Option (Rw × Bool)} {r : Rw × Bool} (hx : a1.length ≤ cap) : ∀ (rest : Rw) (v112n : Nat) (v111 : Bool) (v113 : Rw), a1.drop v112n = rest → spec_suPut_l0 k a1 a2 a3 a4 K0 rest v111 v113 = some r → LoopOk prog 0 (lp f74 0) (mk 73 [(3, .ptr 192 0), (4, .ptr 256 0), (6, .ptr 384 0), (7, .d (D.bool v111)), (14, .d (D.sl a1)), (15, .d (D.int .i64 (a1.length : Int))), (16, .d (D.int .i64 (v112n : Int)))] [(192, .box 70 [.d (D.sl a2), .d (D.int .i64 a3), .d (D.int .i64 a4)]), (256, .box 26 [.es]), (384, .box 26 [.os 64000 v113.length]), (64000, .arr 70 false v113)]) (LoopEnd prog f74 0 73 (match r.2 with | true => .tup [.agg [.os 8 r.1.length], .d (D.bool true)] | false => .tup [.agg [.es], .d (D.bool false)]) (match r.2 with | true => ⟨[], [(70, false, r.1)]⟩ | false => ⟨[], []⟩) (fun i ts os => (i = 0 ∧ ∃ v136 : Rw, ∃ v146 : Bool, K0 v136 v146 = some r ∧ ts = [(3, .ptr 192 0), (4, .ptr 256 0), (6, .ptr 384 0), (7, .d (D.bool v146))] ∧ os = [(192, .box 70 [.d (D.sl a2), .d (D.int .i64 a3), .d (D.int .i64 a4)]), (256, .box 26 [.es]), (384, .box 26 [.os 67001 v136.length]), (67001, .arr 70 false v136)])))
  | [], v112n, v111, v113, hd, h => by
      rw [spec_suPut_l0] at h
      have hn := drop_nil hd
      cases v111
      · replace h := condF h
        refine LoopOk.step ?_
        conv => whnf
        refine splD (fun g => absurd g hn) (fun _ => ?_)
        conv => whnf
        exact ⟨_, _, [some 192, some 256, some 384, some 64000], [], ⟨rfl, _, _, h, rfl, rfl⟩, ⟨⟨rfl, rfl⟩, ⟨rfl, ⟨rfl, rfl, rfl, rfl, trivial⟩, ⟨rfl, trivial, trivial⟩, ⟨rfl, ⟨rfl, rfl⟩, trivial⟩, ⟨rfl, rfl, rows_same⟩, trivial⟩, ⟨rfl, rfl⟩, ⟨rfl, rfl⟩, ⟨rfl, rfl⟩, rfl, trivial⟩⟩
      · replace h := condT h
        refine LoopOk.step ?_
        conv => whnf
        refine splD (fun g => absurd g hn) (fun _ => ?_)
        conv => whnf
        exact ⟨_, _, [some 192, some 256, some 384, some 64000], [], ⟨rfl, _, _, h, rfl, rfl⟩, ⟨⟨rfl, rfl⟩, ⟨rfl, ⟨rfl, rfl, rfl, rfl, trivial⟩, ⟨rfl, trivial, trivial⟩, ⟨rfl, ⟨rfl, rfl⟩, trivial⟩, ⟨rfl, rfl, rows_same⟩, trivial⟩, ⟨rfl, rfl⟩, ⟨rfl, rfl⟩, ⟨rfl, rfl⟩, rfl, trivial⟩⟩
  | cs :: rest, v112n, v111, v113, hd, h => by
      rw [spec_suPut_l0] at h
      obtain ⟨hrow, hd1, hlt⟩ := drop_cons hd
      cases v111
      · replace h := condF h
        refine LoopOk.step ?_
        conv => whnf
        refine splD (fun _ => ?_) (fun g => absurd hlt g)
        conv => whnf
        obtain ⟨x177, x178, x179, e180, h⟩ := cell_sii_ex h
        rw [e180] at hrow
        refine Req.of (Int.natCast_nonneg _) ?_
        refine Row.of _ hrow ?_
        conv => whnf
        refine Pick.no ?_
        conv => whnf
        obtain ⟨y181, e182, h⟩ := bind_ex h
        refine CallOk.of (spec_suCmp_ct e182) ?_
        conv => whnf
        refine CutK.norm [3, 4, 6, 7, 9, 10, 14, 15, 16] [192, 256, 384, 576, 64000] ?_
        conv => whnf
        refine splD (fun g183 => ?_) (fun g183 => ?_)
        · replace h := iteP h g183
          conv => whnf
          refine splD (fun g184 => ?_) (fun g184 => ?_)
          · replace h := iteP h g184
            conv => whnf
            refine Pick.no ?_
            conv => whnf
            obtain ⟨y185, e186, h⟩ := bind_ex h
            refine CallOk.of (spec_shAdd_ct e186) ?_
            conv => whnf
            refine CutK.norm [3, 4, 6, 7, 11, 14, 15, 16] [192, 256, 384, 704, 64000] ?_
            conv => whnf
            refine Pick.no ?_
            conv => whnf
            obtain ⟨y187, e188, h⟩ := bind_ex h
            refine CallOk.of (spec_shGood_ct e188) ?_
            conv => whnf
            refine spl (fun g189 => ?_) (fun g189 => ?_)
            · replace h := iteT h g189
              conv => whnf
              refine CutK.norm [3, 4, 6, 7, 11, 14, 15, 16, 40] [192, 256, 384, 704, 64000] ?_
              conv => whnf
              refine CutK.norm [3, 4, 6, 7, 11, 14, 15, 16] [192, 256, 384, 704, 64000] ?_
              conv => whnf
              refine Pick.no ?_
              conv => whnf
              obtain ⟨y190, e191, h⟩ := bind_ex h
              refine CallOk.of (spec_suTerm_ct e191) ?_
              conv => whnf
              refine Take.all (rfl) ?_
              conv => whnf
              refine Take.all (rfl) ?_
              conv => whnf
              obtain ⟨g192, h⟩ := req_ex h
              refine Req.of (room (b := 40) (by decide) g192.1 g192.2) ?_
              conv => whnf
              refine CutK.norm [3, 4, 6, 7, 14, 15, 16] [192, 256, 384, 3136] ?_
              conv => whnf
              refine CutK.norm [3, 4, 6, 7, 14, 15, 16] [192, 256, 384, 3136] ?_
              conv => whnf
              exact LoopOk.back (spec_suPut_l0_cts hx rest (v112n + 1) _ _ hd1 h) [some 192, some 256, some 384, some 3136] [] ⟨⟨rfl, rfl⟩, ⟨rfl, ⟨rfl, rfl, rfl, rfl, trivial⟩, ⟨rfl, trivial, trivial⟩, ⟨rfl, ⟨(by first | rfl | exact List.length_append.symm | (simp; done) | omega), rfl⟩, trivial⟩, ⟨rfl, rfl, rows_same⟩, trivial⟩, ⟨rfl, rfl⟩, ⟨rfl, rfl⟩, ⟨rfl, rfl⟩, rfl, rfl, rfl, i64eq (wrap_up hlt hx), trivial⟩
            · replace h := iteF h g189
              conv => whnf
              refine CutK.norm [3, 4, 6, 7, 11, 14, 15, 16, 40] [192, 256, 384, 704, 64000] ?_
              conv => whnf
              cases h
              exact Done.of [] [] rfl rfl ⟨⟨rfl, rfl⟩, ⟨rfl, trivial⟩, ⟨⟨trivial, trivial⟩, rfl, trivial⟩, trivial⟩
          · replace h := iteN h g184
            conv => whnf
            refine CutK.norm [3, 4, 6, 7, 9, 14, 15, 16] [192, 256, 384, 576, 64000] ?_
            conv => whnf
            refine Take.all (rfl) ?_
            conv => whnf
            refine Take.all (by first | rfl | exact List.length_append.symm | (simp; done) | omega) ?_
            conv => whnf
            obtain ⟨g193, h⟩ := req_ex h
            refine Req.of (room (b := 40) (by decide) g193 (wide1 rfl wide0)) ?_
            conv => whnf
            refine CutK.norm [3, 4, 6, 7, 9, 14, 15, 16] [192, 256, 384, 576, 3520] ?_
            conv => whnf
            refine Take.all (by first | rfl | exact List.length_append.symm | (simp; done) | omega) ?_
            conv => whnf
            refine Take.all (by first | rfl | exact List.length_append.symm | (simp; done) | omega) ?_
            conv => whnf
            obtain ⟨g194, h⟩ := req_ex h
            refine Req.of (room (b := 40) (by decide) g194 (wide1 rfl wide0)) ?_
            conv => whnf
            refine CutK.norm [3, 4, 6, 7, 14, 15, 16] [192, 256, 384, 3904] ?_
            conv => whnf
            exact LoopOk.back (spec_suPut_l0_cts hx rest (v112n + 1) _ _ hd1 h) [some 192, some 256, some 384, some 3904] [] ⟨⟨rfl, rfl⟩, ⟨rfl, ⟨rfl, rfl, rfl, rfl, trivial⟩, ⟨rfl, trivial, trivial⟩, ⟨rfl, ⟨(by first | rfl | exact List.length_append.symm | (simp; done) | omega), rfl⟩, trivial⟩, ⟨rfl, rfl, rows_same⟩, trivial⟩, ⟨rfl, rfl⟩, ⟨rfl, rfl⟩, ⟨rfl, rfl⟩, rfl, rfl, rfl, i64eq (wrap_up hlt hx), trivial⟩
        · replace h := iteN h g183
          conv => whnf
          refine CutK.norm [3, 4, 6, 7, 9, 14, 15, 16] [192, 256, 384, 576, 64000] ?_
          conv => whnf
          refine Take.all (rfl) ?_
          conv => whnf
          refine Take.all (by first | rfl | exact List.length_append.symm | (simp; done) | omega) ?_
          conv => whnf
          obtain ⟨g195, h⟩ := req_ex h
          refine Req.of (room (b := 40) (by decide) g195 (wide1 rfl wide0)) ?_
          conv => whnf
          refine CutK.norm [3, 4, 6, 7, 14, 15, 16] [192, 256, 384, 3904] ?_
          conv => whnf
          exact LoopOk.back (spec_suPut_l0_cts hx rest (v112n + 1) _ _ hd1 h) [some 192, some 256, some 384, some 3904] [] ⟨⟨rfl, rfl⟩, ⟨rfl, ⟨rfl, rfl, rfl, rfl, trivial⟩, ⟨rfl, trivial, trivial⟩, ⟨rfl, ⟨(by first | rfl | exact List.length_append.symm | (simp; done) | omega), rfl⟩, trivial⟩, ⟨rfl, rfl, rows_same⟩, trivial⟩, ⟨rfl, rfl⟩, ⟨rfl, rfl⟩, ⟨rfl, rfl⟩, rfl, rfl, rfl, i64eq (wrap_up hlt hx), trivial⟩
      · replace h := condT h
        refine LoopOk.step ?_
        conv => whnf
        refine splD (fun _ => ?_) (fun g => absurd hlt g)
        conv => whnf
        obtain ⟨x196, x197, x198, e199, h⟩ := cell_sii_ex h
        rw [e199] at hrow
        refine Req.of (Int.natCast_nonneg _) ?_
        refine Row.of _ hrow ?_
        conv => whnf
        refine Pick.no ?_
        conv => whnf
        obtain ⟨y200, e201, h⟩ := bind_ex h
        refine CallOk.of (spec_suCmp_ct e201) ?_
        conv => whnf
        refine CutK.norm [3, 4, 6, 7, 9, 10, 14, 15, 16] [192, 256, 384, 576, 64000] ?_
        conv => whnf
        refine CutK.norm [3, 4, 6, 7, 9, 14, 15, 16] [192, 256, 384, 576, 64000] ?_
        conv => whnf
        refine Take.all (rfl) ?_
        conv => whnf
        refine Take.all (by first | rfl | exact List.length_append.symm | (simp; done) | omega) ?_
        conv => whnf
        obtain ⟨g202, h⟩ := req_ex h
        refine Req.of (room (b := 40) (by decide) g202 (wide1 rfl wide0)) ?_
        conv => whnf
        refine CutK.norm [3, 4, 6, 7, 14, 15, 16] [192, 256, 384, 3904] ?_
        conv => whnf
        exact LoopOk.back (spec_suPut_l0_cts hx rest (v112n + 1) _ _ hd1 h) [some 192, some 256, some 384, some 3904] [] ⟨⟨rfl, rfl⟩, ⟨rfl, ⟨rfl, rfl, rfl, rfl, trivial⟩, ⟨rfl, trivial, trivial⟩, ⟨rfl, ⟨(by first | rfl | exact List.length_append.symm | (simp; done) | omega), rfl⟩, trivial⟩, ⟨rfl, rfl, rows_same⟩, trivial⟩, ⟨rfl, rfl⟩, ⟨rfl, rfl⟩, ⟨rfl, rfl⟩, rfl, rfl, rfl, i64eq (wrap_up hlt hx), trivial⟩
set_option maxHeartbeats 4000000 in
set_option maxRecDepth 100000 in
theorem spec_suPut_cts {k : Nat} {a1 : Rw} {a2 : Rw} {a3 : Int} {a4 : Int} {r : Rw × Bool} (h : spec_suPut k a1 a2 a3 a4 = some r) : Ct prog 74 [.agg [.d (D.sl a1)], .agg [.d (D.sl a2), .d (D.int .i64 a3), .d (D.int .i64 a4)]] (⟨[], []⟩) (match r.2 with | true => .tup [.agg [.os 8 r.1.length], .d (D.bool true)] | false => .tup [.agg [.es], .d (D.bool false)]) (match r.2 with | true => ⟨[], [(70, false, r.1)]⟩ | false => ⟨[], []⟩) := by
  rw [spec_suPut] at h
  refine Ct.of (c := _) mixed func74 ⟨rfl, rfl, rfl⟩ ?_ (by rcases r with ⟨_, _ | _⟩ <;> rfl)
  conv => whnf
  obtain ⟨g203, h⟩ := req_ex h
  refine LoopOk.into (spec_suPut_l0_cts  g203 _ _ _ _ rfl h) [some 192, some 256, some 384, none] [] ⟨⟨rfl, rfl⟩, ⟨rfl, ⟨rfl, rfl, rfl, rfl, trivial⟩, ⟨rfl, trivial, trivial⟩, ⟨rfl, ⟨rfl, rfl⟩, trivial⟩, rfl, trivial⟩, ⟨rfl, rfl⟩, ⟨rfl, rfl⟩, ⟨rfl, rfl⟩, rfl, rfl, rfl, rfl, trivial⟩ ?_ (fun _ hs => hs)
  rintro i ts os ⟨rfl, v136, v146, h, rfl, rfl⟩
  cases v146
  · replace h := condF h
    conv => whnf
    exact CutK.piece (spec_suPut_p4_cts  h) [some 192, some 256, some 384, some 67001] [] ⟨⟨rfl, rfl⟩, ⟨rfl, ⟨rfl, rfl, rfl, rfl, trivial⟩, ⟨rfl, trivial, trivial⟩, ⟨rfl, ⟨rfl, rfl⟩, trivial⟩, ⟨rfl, rfl, rows_same⟩, trivial⟩, ⟨rfl, rfl⟩, ⟨rfl, rfl⟩, ⟨rfl, rfl⟩, rfl, trivial⟩
  · replace h := condT h
    conv => whnf
    exact CutK.piece (spec_suPut_p4_cts  h) [some 192, some 256, some 384, some 67001] [] ⟨⟨rfl, rfl⟩, ⟨rfl, ⟨rfl, rfl, rfl, rfl, trivial⟩, ⟨rfl, trivial, trivial⟩, ⟨rfl, ⟨rfl, rfl⟩, trivial⟩, ⟨rfl, rfl, rows_same⟩, trivial⟩, ⟨rfl, rfl⟩, ⟨rfl, rfl⟩, ⟨rfl, rfl⟩, rfl, trivial⟩

def spec_suInt  (a1 : Int) : Option Rw :=
  ((spec_shInt a1).bind fun y2 => ((spec_suReal y2.1 y2.2).bind fun y4 => some y4))
set_option maxHeartbeats 4000000 in
set_option maxRecDepth 100000 in
theorem spec_suInt_ct  {a1 : Int} {r : Rw} (h : spec_suInt a1 = some r) : Ct prog 70 [.d (D.int .i64 a1)] (⟨[], []⟩) (.agg [.os 8 r.length]) (⟨[], [(70, false, r)]⟩) := by
  rw [spec_suInt] at h
  refine Ct.of (c := _) mixed func70 ⟨rfl, rfl, rfl⟩ ?_ rfl
  conv => whnf
  refine Pick.no ?_
  conv => whnf
  obtain ⟨y2, e3, h⟩ := bind_ex h
  refine CallOk.of (spec_shInt_ct e3) ?_
  conv => whnf
  refine Pick.no ?_
  conv => whnf
  obtain ⟨y4, e5, h⟩ := bind_ex h
  refine CallOk.of (spec_suReal_ct e5) ?_
  conv => whnf
  refine CutK.go ?_
  conv => whnf
  cases h
  exact Done.of [some 320] [] rfl rfl ⟨⟨rfl, rfl⟩, ⟨rfl, ⟨rfl, rfl, rows_same⟩, trivial⟩, ⟨⟨rfl, rfl⟩, trivial⟩, trivial⟩
end
end Go.Proofs.Try
