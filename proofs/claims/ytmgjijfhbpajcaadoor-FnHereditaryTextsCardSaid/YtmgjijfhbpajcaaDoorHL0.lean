/- Printed by program (axgen): pure functions, and that the Go functions compute them. -/
import Derived.Test.YtmgjijfhbpajcaaDoorProg
import Derived.Test.YtmgjijfhbpajcaaDoorAxC
import Derived.KernelRfl
import Derived.Test.YtmgjijfhbpajcaaDoorShelf
import Derived.Test.YtmgjijfhbpajcaaDoorBack
set_option linter.unusedVariables false
set_option linter.unusedSimpArgs false
namespace Go.Proofs.Tryd
open Go Go.AX
theorem mixed : prog.follows .mixedOrders = true := by kernel_rfl
def cell_i {α : Type} (cs : List D) (K : Int → Option α) : Option α := match cs with | [.int .i64 a0] => K a0 | _ => none
def row_i {α : Type} (es : Rw) (i : Int) (K : Int → Option α) : Option α := if 0 ≤ i then (match es[i.toNat]? with | some cs => cell_i cs K | none => none) else none
theorem cell_i_ex {α : Type} {cs : List D} {K : Int → Option α} {r : α} (h : cell_i cs K = some r) : ∃ a0, cs = [.int .i64 a0] ∧ K a0 = some r := by
  unfold cell_i at h
  split at h
  · exact ⟨_, rfl, h⟩
  · cases h
theorem row_i_ex {α : Type} {es : Rw} {i : Int} {K : Int → Option α} {r : α} (h : row_i es i K = some r) : 0 ≤ i ∧ ∃ a0, es[i.toNat]? = some [.int .i64 a0] ∧ K a0 = some r := by
  unfold row_i at h
  obtain ⟨g, h⟩ := req_ex h
  split at h
  · rename_i cs e
    obtain ⟨a0, rfl, h⟩ := cell_i_ex h
    exact ⟨g, a0, e, h⟩
  · cases h
def cell_iu8 {α : Type} (cs : List D) (K : Int → Option α) : Option α := match cs with | [.int .u8 a0] => K a0 | _ => none
def row_iu8 {α : Type} (es : Rw) (i : Int) (K : Int → Option α) : Option α := if 0 ≤ i then (match es[i.toNat]? with | some cs => cell_iu8 cs K | none => none) else none
theorem cell_iu8_ex {α : Type} {cs : List D} {K : Int → Option α} {r : α} (h : cell_iu8 cs K = some r) : ∃ a0, cs = [.int .u8 a0] ∧ K a0 = some r := by
  unfold cell_iu8 at h
  split at h
  · exact ⟨_, rfl, h⟩
  · cases h
theorem row_iu8_ex {α : Type} {es : Rw} {i : Int} {K : Int → Option α} {r : α} (h : row_iu8 es i K = some r) : 0 ≤ i ∧ ∃ a0, es[i.toNat]? = some [.int .u8 a0] ∧ K a0 = some r := by
  unfold row_iu8 at h
  obtain ⟨g, h⟩ := req_ex h
  split at h
  · rename_i cs e
    obtain ⟨a0, rfl, h⟩ := cell_iu8_ex h
    exact ⟨g, a0, e, h⟩
  · cases h
def cell_si {α : Type} (cs : List D) (K : Rw → Int → Option α) : Option α := match cs with | [.sl a0, .int .i64 a1] => K a0 a1 | _ => none
def row_si {α : Type} (es : Rw) (i : Int) (K : Rw → Int → Option α) : Option α := if 0 ≤ i then (match es[i.toNat]? with | some cs => cell_si cs K | none => none) else none
theorem cell_si_ex {α : Type} {cs : List D} {K : Rw → Int → Option α} {r : α} (h : cell_si cs K = some r) : ∃ a0 a1, cs = [.sl a0, .int .i64 a1] ∧ K a0 a1 = some r := by
  unfold cell_si at h
  split at h
  · exact ⟨_, _, rfl, h⟩
  · cases h
theorem row_si_ex {α : Type} {es : Rw} {i : Int} {K : Rw → Int → Option α} {r : α} (h : row_si es i K = some r) : 0 ≤ i ∧ ∃ a0 a1, es[i.toNat]? = some [.sl a0, .int .i64 a1] ∧ K a0 a1 = some r := by
  unfold row_si at h
  obtain ⟨g, h⟩ := req_ex h
  split at h
  · rename_i cs e
    obtain ⟨a0, a1, rfl, h⟩ := cell_si_ex h
    exact ⟨g, a0, a1, e, h⟩
  · cases h
noncomputable section
def impl_in  (a1 : Int) (a2 : Int) (a3 : Int) : Option Bool :=
  (if a2 ≤ a1 then (if a1 ≤ a3 then some true else some false) else some false)
set_option maxHeartbeats 4000000 in
set_option maxRecDepth 100000 in
theorem impl_in_ct  {a1 : Int} {a2 : Int} {a3 : Int} {r : Bool} (h : impl_in a1 a2 a3 = some r) : Ct prog 34 [.d (D.int .i64 a1), .d (D.int .i64 a2), .d (D.int .i64 a3)] (⟨[], []⟩) (.d (D.bool r)) (⟨[], []⟩) := by
  rw [impl_in] at h
  refine Ct.of (c := _) mixed func34 ⟨rfl, rfl, rfl⟩ ?_ rfl
  conv => whnf
  refine splD (fun g4 => ?_) (fun g4 => ?_)
  · replace h := iteP h g4
    conv => whnf
    refine splD (fun g5 => ?_) (fun g5 => ?_)
    · replace h := iteP h g5
      conv => whnf
      cases h
      exact Done.of [] [] rfl rfl ⟨⟨rfl, rfl⟩, ⟨rfl, trivial⟩, rfl, trivial⟩
    · replace h := iteN h g5
      conv => whnf
      cases h
      exact Done.of [] [] rfl rfl ⟨⟨rfl, rfl⟩, ⟨rfl, trivial⟩, rfl, trivial⟩
  · replace h := iteN h g4
    conv => whnf
    cases h
    exact Done.of [] [] rfl rfl ⟨⟨rfl, rfl⟩, ⟨rfl, trivial⟩, rfl, trivial⟩

def impl_baseOk  (a1 : Int) : Option Bool :=
  ((impl_in a1 2 1000).bind fun y2 => (if y2 = true then some true else some false))
set_option maxHeartbeats 4000000 in
set_option maxRecDepth 100000 in
theorem impl_baseOk_ct  {a1 : Int} {r : Bool} (h : impl_baseOk a1 = some r) : Ct prog 35 [.d (D.int .i64 a1)] (⟨[], []⟩) (.d (D.bool r)) (⟨[], []⟩) := by
  rw [impl_baseOk] at h
  refine Ct.of (c := _) mixed func35 ⟨rfl, rfl, rfl⟩ ?_ rfl
  conv => whnf
  refine Pick.no ?_
  conv => whnf
  obtain ⟨y2, e3, h⟩ := bind_ex h
  refine CallOk.of (impl_in_ct e3) ?_
  conv => whnf
  refine spl (fun g4 => ?_) (fun g4 => ?_)
  · replace h := iteT h g4
    conv => whnf
    refine CutK.go ?_
    conv => whnf
    cases h
    exact Done.of [] [] rfl rfl ⟨⟨rfl, rfl⟩, ⟨rfl, trivial⟩, rfl, trivial⟩
  · replace h := iteF h g4
    conv => whnf
    refine CutK.go ?_
    conv => whnf
    cases h
    exact Done.of [] [] rfl rfl ⟨⟨rfl, rfl⟩, ⟨rfl, trivial⟩, rfl, trivial⟩

def lib_Backward (a1 : Rw) : Option Rw := some a1
theorem lib_Backward_ct {a1 r : Rw} (h : lib_Backward a1 = some r) : Ct prog 62 [.d (.sl a1)] ⟨[], []⟩ (.fn 88 [.dp [.sl r]]) ⟨[], []⟩ := by
  cases h
  exact backward_ct

def impl_hereditary_l0 (a2 : Int) (K0 : Rw → Option Rw) : Nat → Int → Rw → Option Rw
  | 0, _, _ => none
  | n + 1, v5, v6 => (if (0 : Int) < v5 then (if a2 ≠ 0 then (if v6.length + 1 ≤ cap then (impl_hereditary_l0 a2 K0 n (IntKind.i64.wrap (v5.tdiv a2)) (v6 ++ ([[D.int .i64 (v5.tmod a2)]]))) else none) else none) else (K0 v6))
set_option maxHeartbeats 4000000 in
set_option maxRecDepth 100000 in
theorem impl_hereditary_l0_ct {a2 : Int} {K0 : Rw → Option Rw} {r : Rw} : ∀ (n : Nat) (v5 : Int) (v6 : Rw), impl_hereditary_l0 a2 K0 n v5 v6 = some r → LoopOk prog 0 (lp f37 0) (mk 41 [(0, .d (D.int .i64 v5)), (3, .ptr 192 0), (4, .ptr 256 0), (5, .os 64000 v6.length)] [(192, .box 3 [.d (D.int .i64 a2)]), (256, .box 41 [.es]), (64000, .arr 3 true v6)]) (LoopEnd prog f37 0 41 (.agg [.os 8 r.length]) (⟨[], [(79, true, r)]⟩) (fun i ts os => (i = 0 ∧ ∃ v10 : Rw, K0 v10 = some r ∧ ts = [(3, .ptr 192 0), (4, .ptr 256 0), (5, .os 67001 v10.length)] ∧ os = [(192, .box 3 [.d (D.int .i64 a2)]), (256, .box 41 [.es]), (67001, .arr 3 true v10)])))
  | 0, _, _, h => by
      rw [impl_hereditary_l0] at h; cases h
  | n + 1, v5, v6, h => by
      rw [impl_hereditary_l0] at h
      refine LoopOk.step ?_
      conv => whnf
      refine splD (fun g14 => ?_) (fun g14 => ?_)
      · replace h := iteP h g14
        conv => whnf
        obtain ⟨g15, h⟩ := req_ex h
        refine Req.of g15 ?_
        conv => whnf
        refine Take.all (rfl) ?_
        conv => whnf
        refine Take.all (by first | rfl | exact List.length_append.symm | (simp; done) | omega | (dsimp only; omega)) ?_
        conv => whnf
        obtain ⟨g16, h⟩ := req_ex h
        refine Req.of (room (b := 8) (by decide) g16 (wide1 rfl wide0)) ?_
        conv => whnf
        refine Req.of g15 ?_
        conv => whnf
        exact LoopOk.back (impl_hereditary_l0_ct  n _ _ h) [some 192, some 256, some 1280] [] ⟨⟨rfl, rfl⟩, ⟨rfl, ⟨rfl, rfl, trivial⟩, ⟨rfl, trivial, trivial⟩, ⟨rfl, rfl, rows_same⟩, trivial⟩, rfl, ⟨rfl, rfl⟩, ⟨rfl, rfl⟩, ⟨(by first | rfl | exact List.length_append.symm | (simp; done) | omega | (dsimp only; omega)), rfl⟩, trivial⟩
      · replace h := iteN h g14
        conv => whnf
        exact ⟨_, _, [some 192, some 256, some 64000], [], ⟨rfl, _, h, rfl, rfl⟩, ⟨⟨rfl, rfl⟩, ⟨rfl, ⟨rfl, rfl, trivial⟩, ⟨rfl, trivial, trivial⟩, ⟨rfl, rfl, rows_same⟩, trivial⟩, ⟨rfl, rfl⟩, ⟨rfl, rfl⟩, ⟨rfl, rfl⟩, trivial⟩⟩
def impl_hereditary_rf0 (rec_impl_hereditary : Int → Int → Option Rw) (a2 : Int) (y17 : Rw) (zs19 : List Int) (K : Rw → Option Rw) : Nat → Rw → Option Rw
  | 0, v29 => K v29
  | m20 + 1, v29 => (if (0 : Int) < (zs19[m20]?.getD 0) then ((rec_impl_hereditary (m20 : Int) a2).bind fun y40 => (if v29.length + 1 ≤ cap then (if 0 ≤ (v29.length : Int) ∧ (v29.length : Int) < (v29.length + ([[D.sl ([]), D.int .i64 0]] : Rw).length : Int) then (row_si (v29 ++ ([[D.sl ([]), D.int .i64 0]])) (v29.length : Int) fun x44 x45 => (impl_hereditary_rf0 rec_impl_hereditary a2 y17 zs19 K m20 ((v29 ++ ([[D.sl ([]), D.int .i64 0]])).set (((v29.length : Int) : Int).toNat) [D.sl y40, D.int .i64 (zs19[m20]?.getD 0)]))) else none) else none)) else (impl_hereditary_rf0 rec_impl_hereditary a2 y17 zs19 K m20 v29))
set_option maxHeartbeats 4000000 in
set_option maxRecDepth 100000 in
theorem impl_hereditary_rf0_ct {rec_impl_hereditary : Int → Int → Option Rw} {a2 : Int} {y17 : Rw} {zs19 : List Int} {K : Rw → Option Rw} (hrec_impl_hereditary : ∀ (a1 : Int) (a2 : Int) (r : Rw), rec_impl_hereditary a1 a2 = some r → Ct prog 37 [.d (D.int .i64 a1), .d (D.int .i64 a2)] (⟨[], []⟩) (.agg [.os 8 r.length]) (⟨[], [(79, true, r)]⟩)) {r : Rw} (m20 : Nat) (v29 : Rw) (h : impl_hereditary_rf0 rec_impl_hereditary a2 y17 zs19 K (m20 + 1) v29 = some r) : X prog 3 (rfc f37 0).1 (mk 41 ((25, .d (.int .i64 (zs19[m20]?.getD 0))) :: (24, .d (.int .i64 (m20 : Int))) :: [(3, .ptr 0 0), (4, .ptr 64 0), (6, .ptr 128 0), (23, .fn 88 [.dp [D.sl y17]])]) [(0, .box 3 [.d (D.int .i64 a2)]), (64, .box 41 [.es]), (128, .box 41 [.os 384000 v29.length]), (384000, .arr 79 true v29)]) (RfK1 prog 3 (rfc f37 0).2 (fun os => ∃ v29 : Rw, impl_hereditary_rf0 rec_impl_hereditary a2 y17 zs19 K m20 v29 = some r ∧ os = [(0, .box 3 [.d (D.int .i64 a2)]), (64, .box 41 [.es]), (128, .box 41 [.os 384000 v29.length]), (384000, .arr 79 true v29)])) := by
  rw [impl_hereditary_rf0] at h
  conv => whnf
  refine RfMid.wrap ?_
  conv => whnf
  refine splD (fun g39 => ?_) (fun g39 => ?_)
  · replace h := iteP h g39
    conv => whnf
    refine Pick.no ?_
    conv => whnf
    obtain ⟨y40, e41, h⟩ := bind_ex h
    refine CallOk.of (hrec_impl_hereditary _ _ _ e41) ?_
    conv => whnf
    refine Take.all (rfl) ?_
    conv => whnf
    refine Take.all (by first | rfl | exact List.length_append.symm | (simp; done) | omega | (dsimp only; omega)) ?_
    conv => whnf
    obtain ⟨g42, h⟩ := req_ex h
    refine Req.of (room (b := 32) (by decide) g42 (wide1 rfl wide0)) ?_
    conv => whnf
    obtain ⟨g43, h⟩ := req_ex h
    refine Req.of g43 ?_
    conv => whnf
    refine Take.all (rfl) ?_
    conv => whnf
    obtain ⟨g47, x44, x45, e46, h⟩ := row_si_ex h
    refine Row.of _ e46 ?_
    conv => whnf
    refine rfEnd_of (n := 41) (ts := []) (os := [(0, .box 3 [.d (D.int .i64 a2)]), (64, .box 41 [.es]), (128, .box 41 [.os 384000 (((v29 ++ ([[D.sl ([]), D.int .i64 0]])).set (((v29.length : Int) : Int).toNat) [D.sl y40, D.int .i64 (zs19[m20]?.getD 0)]).length)]), (384000, .arr 79 true ((v29 ++ ([[D.sl ([]), D.int .i64 0]])).set (((v29.length : Int) : Int).toNat) [D.sl y40, D.int .i64 (zs19[m20]?.getD 0)]))]) ?_ [some 0, some 64, some 128, some 2368] [] ?_
    · exact ⟨_, h, rfl⟩
    · exact ⟨⟨rfl, rfl⟩, ⟨rfl, ⟨rfl, rfl, trivial⟩, ⟨rfl, trivial, trivial⟩, ⟨rfl, ⟨(by first | rfl | exact List.length_append.symm | (simp; done) | omega | (dsimp only; omega)), rfl⟩, trivial⟩, ⟨rfl, rfl, rows_same⟩, trivial⟩, trivial⟩
  · replace h := iteN h g39
    conv => whnf
    refine rfEnd_of (n := 41) (ts := []) (os := [(0, .box 3 [.d (D.int .i64 a2)]), (64, .box 41 [.es]), (128, .box 41 [.os 384000 v29.length]), (384000, .arr 79 true v29)]) ?_ [some 0, some 64, some 128, some 384000] [] ?_
    · exact ⟨_, h, rfl⟩
    · exact ⟨⟨rfl, rfl⟩, ⟨rfl, ⟨rfl, rfl, trivial⟩, ⟨rfl, trivial, trivial⟩, ⟨rfl, ⟨rfl, rfl⟩, trivial⟩, ⟨rfl, rfl, rows_same⟩, trivial⟩, trivial⟩
def impl_hereditary_b (k : Nat) (rec_impl_hereditary : Int → Int → Option Rw) (a1 : Int) (a2 : Int) : Option Rw :=
  (impl_hereditary_l0 a2 (fun (v10 : Rw) => ((lib_Backward v10).bind fun y17 => ((intsD y17).bind fun zs19 => (if zs19.length ≤ cap then (impl_hereditary_rf0 rec_impl_hereditary a2 y17 zs19 (fun (v29 : Rw) => some v29) zs19.length ([] : Rw)) else none)))) k a1 ([] : Rw))
set_option maxHeartbeats 4000000 in
set_option maxRecDepth 100000 in
theorem impl_hereditary_b_ct {k : Nat} {rec_impl_hereditary : Int → Int → Option Rw} (hrec_impl_hereditary : ∀ (a1 : Int) (a2 : Int) (r : Rw), rec_impl_hereditary a1 a2 = some r → Ct prog 37 [.d (D.int .i64 a1), .d (D.int .i64 a2)] (⟨[], []⟩) (.agg [.os 8 r.length]) (⟨[], [(79, true, r)]⟩)) {a1 : Int} {a2 : Int} {r : Rw} (h : impl_hereditary_b k rec_impl_hereditary a1 a2 = some r) : Ct prog 37 [.d (D.int .i64 a1), .d (D.int .i64 a2)] (⟨[], []⟩) (.agg [.os 8 r.length]) (⟨[], [(79, true, r)]⟩) := by
  rw [impl_hereditary_b] at h
  refine Ct.of (c := _) mixed func37 ⟨rfl, rfl, rfl⟩ ?_ rfl
  conv => whnf
  refine LoopOk.into (impl_hereditary_l0_ct  _ _ _ h) [some 192, some 256, some 576] [] ⟨⟨rfl, rfl⟩, ⟨rfl, ⟨rfl, rfl, trivial⟩, ⟨rfl, trivial, trivial⟩, ⟨rfl, rfl, rows_same⟩, trivial⟩, rfl, ⟨rfl, rfl⟩, ⟨rfl, rfl⟩, ⟨(by first | rfl | exact List.length_append.symm | (simp; done) | omega | (dsimp only; omega)), rfl⟩, trivial⟩ ?_ (fun _ hs => hs)
  rintro i ts os ⟨rfl, v10, h, rfl, rfl⟩
  conv => whnf
  refine CutK.norm [3, 4, 5] [192, 256, 67001] ?_
  conv => whnf
  refine Pick.no ?_
  conv => whnf
  refine Take.all (rfl) ?_
  conv => whnf
  obtain ⟨y17, e18, h⟩ := bind_ex h
  refine CallOk.of (lib_Backward_ct e18) ?_
  conv => whnf
  refine CutK.norm [3, 4, 6, 23] [192, 256, 384] ?_
  conv => whnf
  obtain ⟨zs19, e48, h⟩ := bind_ex h
  obtain ⟨g49, h⟩ := req_ex h
  refine rfOk_to (n := 41) (ts := [(3, .ptr 0 0), (4, .ptr 64 0), (6, .ptr 128 0), (23, .fn 88 [.dp [D.sl y17]])]) (os := [(0, .box 3 [.d (D.int .i64 a2)]), (64, .box 41 [.es]), (128, .box 41 [.os 384000 (([] : Rw).length)]), (384000, .arr 79 true ([] : Rw))]) [some 192, some 256, some 384, none] [] ⟨⟨rfl, rfl⟩, ⟨rfl, ⟨rfl, rfl, trivial⟩, ⟨rfl, trivial, trivial⟩, ⟨rfl, ⟨rfl, rfl⟩, trivial⟩, rfl, trivial⟩, ⟨rfl, rfl⟩, ⟨rfl, rfl⟩, ⟨rfl, rfl⟩, ⟨rfl, rfl, trivial⟩, trivial⟩ ?_
  refine rfOk_back (nb2 := 3) back_it e48 (cap_le g49) rfl rfl rfl (fun m20 => fun os => ∃ v29 : Rw, impl_hereditary_rf0 rec_impl_hereditary a2 y17 zs19 _ m20 v29 = some r ∧ os = [(0, .box 3 [.d (D.int .i64 a2)]), (64, .box 41 [.es]), (128, .box 41 [.os 384000 v29.length]), (384000, .arr 79 true v29)]) ⟨_, h, rfl⟩ (fun m20 os hm ho => by obtain ⟨v29, h, rfl⟩ := ho; exact impl_hereditary_rf0_ct hrec_impl_hereditary m20 _ h) ?_
  rintro os ⟨v29, h, rfl⟩
  rw [impl_hereditary_rf0] at h
  conv => whnf
  refine CutK.norm [4, 6] [64, 128, 384000] ?_
  conv => whnf
  cases h
  exact Done.of [some 384000] [] rfl rfl ⟨⟨rfl, rfl⟩, ⟨rfl, ⟨rfl, rfl, rows_same⟩, trivial⟩, ⟨⟨rfl, rfl⟩, trivial⟩, trivial⟩
def impl_hereditary : Nat → Int → Int → Option Rw
  | 0, _, _ => none
  | k + 1, a1, a2 => impl_hereditary_b k (impl_hereditary k) a1 a2
theorem impl_hereditary_ct' : ∀ (k : Nat) (a1 : Int) (a2 : Int) (r : Rw), impl_hereditary k a1 a2 = some r → Ct prog 37 [.d (D.int .i64 a1), .d (D.int .i64 a2)] (⟨[], []⟩) (.agg [.os 8 r.length]) (⟨[], [(79, true, r)]⟩)
  | 0, _, _, _, h => by rw [impl_hereditary] at h; cases h
  | k + 1, _, _, _, h => by rw [impl_hereditary] at h; exact impl_hereditary_b_ct (impl_hereditary_ct' k) h
theorem impl_hereditary_ct {k : Nat} {a1 : Int} {a2 : Int} {r : Rw} (h : impl_hereditary k a1 a2 = some r) : Ct prog 37 [.d (D.int .i64 a1), .d (D.int .i64 a2)] (⟨[], []⟩) (.agg [.os 8 r.length]) (⟨[], [(79, true, r)]⟩) := impl_hereditary_ct' k _ _ _ h

def lib_Itoa (a1 : Int) : Option ByteArray := if -9223372036854775808 ≤ a1 ∧ a1 ≤ 9223372036854775807 then some ⟨(Lib.itoa a1).toArray⟩ else none
theorem lib_Itoa_ct {a1 : Int} {r : ByteArray} (h : lib_Itoa a1 = some r) : Ct prog 38 [.d (.int .i64 a1)] ⟨[], []⟩ (.d (.str r)) ⟨[], []⟩ := by
  rw [lib_Itoa] at h
  obtain ⟨g, h⟩ := req_ex h
  cases h
  refine Ct.lib ⟨_, func38, rfl, rfl⟩ fun w M vs hs hr => ?_
  obtain ⟨v, rfl, hv⟩ := repL_oneD hr
  rw [rep_int hv]
  refine (strconv_Itoa a1 g.1 g.2 w (hs.tab.is (by kernel_rfl))).mono ?_
  rintro e w' ⟨rfl, k, os, rfl⟩
  exact ⟨rfl, Lib.below_grow _ _ (Nat.le_refl _) _ _⟩

def lib_Join (a1 : Rw) (a2 : ByteArray) : Option ByteArray := (strsD a1).bind fun l =>
  if l.length ≤ 140737488355328 ∧ (Lib.join (l.map (·.data.toList)) a2.data.toList).length ≤ 140737488355328 then some ⟨(Lib.join (l.map (·.data.toList)) a2.data.toList).toArray⟩ else none
theorem lib_Join_ct {a1 : Rw} {a2 r : ByteArray} (h : lib_Join a1 a2 = some r) : Ct prog 61 [.d (.sl a1), .d (.str a2)] ⟨[], []⟩ (.d (.str r)) ⟨[], []⟩ := by
  rw [lib_Join] at h
  obtain ⟨l, hl, h⟩ := bind_ex h
  obtain ⟨g, h⟩ := req_ex h
  cases h
  refine Ct.lib ⟨_, func61, rfl, rfl⟩ fun w M vs hs hr => ?_
  obtain ⟨v, u, rfl, hv, hu⟩ := repL_two hr
  rw [rep_str hu]
  rcases rep_strs hl hv hs.fz with ⟨rfl, a, c, rfl⟩ | ⟨bk, o, c, rfl, hc, hb, hn⟩
  · refine (strings_Join_none a c a2 w).mono ?_
    rintro e w' ⟨rfl, rfl⟩
    exact ⟨rfl, RowKit.Below.refl _ _⟩
  · exact (strings_Join bk o c l a2 w hc hb g.1 hn g.2).mono fun e w' h => h

def impl_isZero  (a1 : Rw) : Option Bool :=
  (if (a1.length : Int) = (0 : Int) then some true else some false)
set_option maxHeartbeats 4000000 in
set_option maxRecDepth 100000 in
theorem impl_isZero_ct  {a1 : Rw} {r : Bool} (h : impl_isZero a1 = some r) : Ct prog 58 [.agg [.d (D.sl a1)]] (⟨[], []⟩) (.d (D.bool r)) (⟨[], []⟩) := by
  rw [impl_isZero] at h
  refine Ct.of (c := _) mixed func58 ⟨rfl, rfl, rfl⟩ ?_ rfl
  conv => whnf
  refine splD (fun g2 => ?_) (fun g2 => ?_)
  · replace h := iteP h g2
    conv => whnf
    cases h
    exact Done.of [] [] rfl rfl ⟨⟨rfl, rfl⟩, ⟨rfl, trivial⟩, rfl, trivial⟩
  · replace h := iteN h g2
    conv => whnf
    cases h
    exact Done.of [] [] rfl rfl ⟨⟨rfl, rfl⟩, ⟨rfl, trivial⟩, rfl, trivial⟩

def impl_finite  (a1 : Int) : Option Rw :=
  (if a1 = (0 : Int) then some ([] : Rw) else some ([[D.sl ([]), D.int .i64 a1]] : Rw))
set_option maxHeartbeats 4000000 in
set_option maxRecDepth 100000 in
theorem impl_finite_ct  {a1 : Int} {r : Rw} (h : impl_finite a1 = some r) : Ct prog 60 [.d (D.int .i64 a1)] (⟨[], []⟩) (.agg [.os 8 r.length]) (⟨[], [(79, true, r)]⟩) := by
  rw [impl_finite] at h
  refine Ct.of (c := _) mixed func60 ⟨rfl, rfl, rfl⟩ ?_ rfl
  conv => whnf
  refine splD (fun g2 => ?_) (fun g2 => ?_)
  · replace h := iteP h g2
    conv => whnf
    cases h
    exact Done.of [none] [] rfl rfl ⟨⟨rfl, rfl⟩, ⟨rfl, rfl, trivial⟩, ⟨⟨rfl, rfl⟩, trivial⟩, trivial⟩
  · replace h := iteN h g2
    conv => whnf
    cases h
    exact Done.of [some 512] [] rfl rfl ⟨⟨rfl, rfl⟩, ⟨rfl, ⟨rfl, rfl, rows_same⟩, trivial⟩, ⟨⟨(by first | rfl | exact List.length_append.symm | (simp; done) | omega | (dsimp only; omega)), rfl⟩, trivial⟩, trivial⟩

def impl_compare  (a1 : Int) (a2 : Int) : Option Int :=
  (if a1 < a2 then some (-1) else (if a2 < a1 then some 1 else some 0))
set_option maxHeartbeats 4000000 in
set_option maxRecDepth 100000 in
theorem impl_compare_ct  {a1 : Int} {a2 : Int} {r : Int} (h : impl_compare a1 a2 = some r) : Ct prog 52 [.d (D.int .i64 a1), .d (D.int .i64 a2)] (⟨[], []⟩) (.d (D.int .i64 r)) (⟨[], []⟩) := by
  rw [impl_compare] at h
  refine Ct.of (c := _) mixed func52 ⟨rfl, rfl, rfl⟩ ?_ rfl
  conv => whnf
  refine splD (fun g3 => ?_) (fun g3 => ?_)
  · replace h := iteP h g3
    conv => whnf
    cases h
    exact Done.of [] [] rfl rfl ⟨⟨rfl, rfl⟩, ⟨rfl, trivial⟩, rfl, trivial⟩
  · replace h := iteN h g3
    conv => whnf
    refine splD (fun g4 => ?_) (fun g4 => ?_)
    · replace h := iteP h g4
      conv => whnf
      cases h
      exact Done.of [] [] rfl rfl ⟨⟨rfl, rfl⟩, ⟨rfl, trivial⟩, rfl, trivial⟩
    · replace h := iteN h g4
      conv => whnf
      cases h
      exact Done.of [] [] rfl rfl ⟨⟨rfl, rfl⟩, ⟨rfl, trivial⟩, rfl, trivial⟩

def impl_cmpTerms (rec_impl_cmp : Rw → Rw → Option Int) (a1 : Rw) (a2 : Int) (a3 : Rw) (a4 : Int) : Option Int :=
  ((rec_impl_cmp a1 a3).bind fun y5 => (if y5 = (0 : Int) then ((impl_compare a2 a4).bind fun y8 => some y8) else some y5))
set_option maxHeartbeats 4000000 in
set_option maxRecDepth 100000 in
theorem impl_cmpTerms_ct {rec_impl_cmp : Rw → Rw → Option Int} (hrec_impl_cmp : ∀ (a1 : Rw) (a2 : Rw) (r : Int), rec_impl_cmp a1 a2 = some r → Ct prog 59 [.agg [.d (D.sl a1)], .agg [.d (D.sl a2)]] (⟨[], []⟩) (.d (D.int .i64 r)) (⟨[], []⟩)) {a1 : Rw} {a2 : Int} {a3 : Rw} {a4 : Int} {r : Int} (h : impl_cmpTerms rec_impl_cmp a1 a2 a3 a4 = some r) : Ct prog 84 [.agg [.d (D.sl a1), .d (D.int .i64 a2)], .agg [.d (D.sl a3), .d (D.int .i64 a4)]] (⟨[], []⟩) (.d (D.int .i64 r)) (⟨[], []⟩) := by
  rw [impl_cmpTerms] at h
  refine Ct.of (c := _) mixed func84 ⟨rfl, rfl, rfl⟩ ?_ rfl
  conv => whnf
  refine Pick.no ?_
  conv => whnf
  obtain ⟨y5, e6, h⟩ := bind_ex h
  refine CallOk.of (hrec_impl_cmp _ _ _ e6) ?_
  conv => whnf
  refine CutK.go ?_
  conv => whnf
  refine splN (fun g7 => ?_) (fun g7 => ?_)
  · replace h := iteN h g7
    conv => whnf
    cases h
    exact Done.of [] [] rfl rfl ⟨⟨rfl, rfl⟩, ⟨rfl, trivial⟩, rfl, trivial⟩
  · replace h := iteP h g7
    conv => whnf
    refine CutK.go ?_
    conv => whnf
    refine Pick.no ?_
    conv => whnf
    obtain ⟨y8, e9, h⟩ := bind_ex h
    refine CallOk.of (impl_compare_ct e9) ?_
    conv => whnf
    refine CutK.go ?_
    conv => whnf
    cases h
    exact Done.of [] [] rfl rfl ⟨⟨rfl, rfl⟩, ⟨rfl, trivial⟩, rfl, trivial⟩

def slices_CompareFunc__cmpTerms_l0 (rec_impl_cmp : Rw → Rw → Option Int) (a1 : Rw) (a2 : Rw) (K0 : Option Int) : Rw → Nat → Option Int
  | [], v16n => (K0)
  | cs :: rest, v16n => (cell_si cs fun x30 x31 => (if (a2.length : Int) ≤ (v16n : Int) then some 1 else (row_si a2 (v16n : Int) fun x34 x35 => ((impl_cmpTerms rec_impl_cmp x30 x31 x34 x35).bind fun y38 => (if y38 = (0 : Int) then (slices_CompareFunc__cmpTerms_l0 rec_impl_cmp a1 a2 K0 rest (v16n + 1)) else some y38)))))
set_option maxHeartbeats 4000000 in
set_option maxRecDepth 100000 in
theorem slices_CompareFunc__cmpTerms_l0_ct {rec_impl_cmp : Rw → Rw → Option Int} {a1 : Rw} {a2 : Rw} {K0 : Option Int} (hrec_impl_cmp : ∀ (a1 : Rw) (a2 : Rw) (r : Int), rec_impl_cmp a1 a2 = some r → Ct prog 59 [.agg [.d (D.sl a1)], .agg [.d (D.sl a2)]] (⟨[], []⟩) (.d (D.int .i64 r)) (⟨[], []⟩)) {r : Int} (hx : a1.length ≤ cap) : ∀ (rest : Rw) (v16n : Nat), a1.drop v16n = rest → slices_CompareFunc__cmpTerms_l0 rec_impl_cmp a1 a2 K0 rest v16n = some r → LoopOk prog 0 (lp f83 0) (mk 39 [(0, .d (D.sl a1)), (1, .d (D.sl a2)), (2, .fn 84 []), (11, .d (D.sl a1)), (12, .d (D.int .i64 (a1.length : Int))), (13, .d (D.int .i64 (v16n : Int)))] []) (LoopEnd prog f83 0 39 (.d (D.int .i64 r)) (⟨[], []⟩) (fun i ts os => (i = 0 ∧ K0 = some r ∧ ts = [(0, .d (D.sl a1)), (1, .d (D.sl a2))] ∧ os = [])))
  | [], v16n, hd, h => by
      rw [slices_CompareFunc__cmpTerms_l0] at h
      have hn := drop_nil hd
      refine LoopOk.step ?_
      conv => whnf
      refine splD (fun g => absurd g hn) (fun _ => ?_)
      conv => whnf
      exact ⟨_, _, [], [], ⟨rfl, h, rfl, rfl⟩, ⟨⟨rfl, rfl⟩, ⟨rfl, trivial⟩, rfl, rfl, trivial⟩⟩
  | cs :: rest, v16n, hd, h => by
      rw [slices_CompareFunc__cmpTerms_l0] at h
      obtain ⟨hrow, hd1, hlt⟩ := drop_cons hd
      refine LoopOk.step ?_
      conv => whnf
      refine splD (fun _ => ?_) (fun g => absurd hlt g)
      conv => whnf
      obtain ⟨x30, x31, e32, h⟩ := cell_si_ex h
      rw [e32] at hrow
      refine Req.of (Int.natCast_nonneg _) ?_
      refine Row.of _ hrow ?_
      conv => whnf
      refine splD (fun g33 => ?_) (fun g33 => ?_)
      · replace h := iteP h g33
        conv => whnf
        cases h
        exact Done.of [] [] rfl rfl ⟨⟨rfl, rfl⟩, ⟨rfl, trivial⟩, rfl, trivial⟩
      · replace h := iteN h g33
        conv => whnf
        obtain ⟨g37, x34, x35, e36, h⟩ := row_si_ex h
        refine Req.of g37 ?_
        refine Row.of _ e36 ?_
        conv => whnf
        refine Pick.no ?_
        conv => whnf
        obtain ⟨y38, e39, h⟩ := bind_ex h
        refine CallOk.of (impl_cmpTerms_ct hrec_impl_cmp e39) ?_
        conv => whnf
        refine CutK.norm [0, 1, 2, 10, 11, 12, 13] [] ?_
        conv => whnf
        refine splN (fun g40 => ?_) (fun g40 => ?_)
        · replace h := iteN h g40
          conv => whnf
          cases h
          exact Done.of [] [] rfl rfl ⟨⟨rfl, rfl⟩, ⟨rfl, trivial⟩, rfl, trivial⟩
        · replace h := iteP h g40
          conv => whnf
          refine CutK.norm [0, 1, 2, 11, 12, 13] [] ?_
          conv => whnf
          exact LoopOk.back (slices_CompareFunc__cmpTerms_l0_ct hrec_impl_cmp hx rest (v16n + 1)  hd1 h) [] [] ⟨⟨rfl, rfl⟩, ⟨rfl, trivial⟩, rfl, rfl, ⟨rfl, trivial⟩, rfl, rfl, i64eq (wrap_up hlt hx), trivial⟩
def slices_CompareFunc__cmpTerms (rec_impl_cmp : Rw → Rw → Option Int) (a1 : Rw) (a2 : Rw) : Option Int :=
  (if a1.length ≤ cap then (slices_CompareFunc__cmpTerms_l0 rec_impl_cmp a1 a2 (if (a1.length : Int) < (a2.length : Int) then some (-1) else some 0) a1 0) else none)
set_option maxHeartbeats 4000000 in
set_option maxRecDepth 100000 in
theorem slices_CompareFunc__cmpTerms_ct {rec_impl_cmp : Rw → Rw → Option Int} (hrec_impl_cmp : ∀ (a1 : Rw) (a2 : Rw) (r : Int), rec_impl_cmp a1 a2 = some r → Ct prog 59 [.agg [.d (D.sl a1)], .agg [.d (D.sl a2)]] (⟨[], []⟩) (.d (D.int .i64 r)) (⟨[], []⟩)) {a1 : Rw} {a2 : Rw} {r : Int} (h : slices_CompareFunc__cmpTerms rec_impl_cmp a1 a2 = some r) : Ct prog 83 [.d (D.sl a1), .d (D.sl a2), .fn 84 []] (⟨[], []⟩) (.d (D.int .i64 r)) (⟨[], []⟩) := by
  rw [slices_CompareFunc__cmpTerms] at h
  refine Ct.of (c := _) mixed func83 ⟨rfl, rfl, rfl⟩ ?_ rfl
  conv => whnf
  obtain ⟨g41, h⟩ := req_ex h
  refine LoopOk.into (slices_CompareFunc__cmpTerms_l0_ct hrec_impl_cmp g41 _ _  rfl h) [] [] ⟨⟨rfl, rfl⟩, ⟨rfl, trivial⟩, rfl, rfl, ⟨rfl, trivial⟩, rfl, rfl, rfl, trivial⟩ ?_ (fun _ hs => hs)
  rintro i ts os ⟨rfl, h, rfl, rfl⟩
  conv => whnf
  refine CutK.norm [0, 1] [] ?_
  conv => whnf
  refine splD (fun g42 => ?_) (fun g42 => ?_)
  · replace h := iteP h g42
    conv => whnf
    cases h
    exact Done.of [] [] rfl rfl ⟨⟨rfl, rfl⟩, ⟨rfl, trivial⟩, rfl, trivial⟩
  · replace h := iteN h g42
    conv => whnf
    cases h
    exact Done.of [] [] rfl rfl ⟨⟨rfl, rfl⟩, ⟨rfl, trivial⟩, rfl, trivial⟩

def impl_cmp_b (rec_impl_cmp : Rw → Rw → Option Int) (a1 : Rw) (a2 : Rw) : Option Int :=
  ((slices_CompareFunc__cmpTerms rec_impl_cmp a1 a2).bind fun y3 => some y3)
set_option maxHeartbeats 4000000 in
set_option maxRecDepth 100000 in
theorem impl_cmp_b_ct {rec_impl_cmp : Rw → Rw → Option Int} (hrec_impl_cmp : ∀ (a1 : Rw) (a2 : Rw) (r : Int), rec_impl_cmp a1 a2 = some r → Ct prog 59 [.agg [.d (D.sl a1)], .agg [.d (D.sl a2)]] (⟨[], []⟩) (.d (D.int .i64 r)) (⟨[], []⟩)) {a1 : Rw} {a2 : Rw} {r : Int} (h : impl_cmp_b rec_impl_cmp a1 a2 = some r) : Ct prog 59 [.agg [.d (D.sl a1)], .agg [.d (D.sl a2)]] (⟨[], []⟩) (.d (D.int .i64 r)) (⟨[], []⟩) := by
  rw [impl_cmp_b] at h
  refine Ct.of (c := _) mixed func59 ⟨rfl, rfl, rfl⟩ ?_ rfl
  conv => whnf
  refine Pick.no ?_
  conv => whnf
  obtain ⟨y3, e4, h⟩ := bind_ex h
  refine CallOk.of (slices_CompareFunc__cmpTerms_ct hrec_impl_cmp e4) ?_
  conv => whnf
  refine CutK.go ?_
  conv => whnf
  cases h
  exact Done.of [] [] rfl rfl ⟨⟨rfl, rfl⟩, ⟨rfl, trivial⟩, rfl, trivial⟩
def impl_cmp : Nat → Rw → Rw → Option Int
  | 0, _, _ => none
  | k + 1, a1, a2 => impl_cmp_b (impl_cmp k) a1 a2
theorem impl_cmp_ct' : ∀ (k : Nat) (a1 : Rw) (a2 : Rw) (r : Int), impl_cmp k a1 a2 = some r → Ct prog 59 [.agg [.d (D.sl a1)], .agg [.d (D.sl a2)]] (⟨[], []⟩) (.d (D.int .i64 r)) (⟨[], []⟩)
  | 0, _, _, _, h => by rw [impl_cmp] at h; cases h
  | k + 1, _, _, _, h => by rw [impl_cmp] at h; exact impl_cmp_b_ct (impl_cmp_ct' k) h
theorem impl_cmp_ct {k : Nat} {a1 : Rw} {a2 : Rw} {r : Int} (h : impl_cmp k a1 a2 = some r) : Ct prog 59 [.agg [.d (D.sl a1)], .agg [.d (D.sl a2)]] (⟨[], []⟩) (.d (D.int .i64 r)) (⟨[], []⟩) := impl_cmp_ct' k _ _ _ h

def impl_ordinalText_p5 (o110 : ByteArray) : Option ByteArray :=
  some o110
set_option maxHeartbeats 4000000 in
set_option maxRecDepth 100000 in
theorem impl_ordinalText_p5_ct {o110 : ByteArray} {r : ByteArray} (h : impl_ordinalText_p5 o110 = some r) : X prog 0 (tlF f36 5) (mk 61 [(4, .d (D.str o110))] []) (finK prog f36 0 (.d (D.str r)) (⟨[], []⟩)) := by
  rw [impl_ordinalText_p5] at h
  conv => whnf
  cases h
  exact Done.of [] [] rfl rfl ⟨⟨rfl, rfl⟩, ⟨rfl, trivial⟩, rfl, trivial⟩
def impl_ordinalText_p3 (o106 : Rw) : Option ByteArray :=
  (if (o106.length : Int) = (0 : Int) then some (ByteArray.mk #[48]) else ((lib_Join o106 (ByteArray.mk #[43])).bind fun y112 => (impl_ordinalText_p5 y112)))
set_option maxHeartbeats 4000000 in
set_option maxRecDepth 100000 in
theorem impl_ordinalText_p3_ct {o106 : Rw} {r : ByteArray} (h : impl_ordinalText_p3 o106 = some r) : X prog 0 (tlF f36 3) (mk 61 [(5, .os 1079000 o106.length)] [(1079000, .arr 9 true o106)]) (finK prog f36 0 (.d (D.str r)) (⟨[], []⟩)) := by
  rw [impl_ordinalText_p3] at h
  conv => whnf
  refine splD (fun g111 => ?_) (fun g111 => ?_)
  · replace h := iteP h g111
    conv => whnf
    cases h
    exact Done.of [] [] rfl rfl ⟨⟨rfl, rfl⟩, ⟨rfl, trivial⟩, rfl, trivial⟩
  · replace h := iteN h g111
    conv => whnf
    refine Pick.no ?_
    conv => whnf
    refine Take.all (rfl) ?_
    conv => whnf
    obtain ⟨y112, e113, h⟩ := bind_ex h
    refine CallOk.of (lib_Join_ct e113) ?_
    conv => whnf
    exact CutK.piece (impl_ordinalText_p5_ct  h) [] [] ⟨⟨rfl, rfl⟩, ⟨rfl, trivial⟩, rfl, trivial⟩
def impl_ordinalText_l0 (k : Nat) (rec_impl_ordinalText : Rw → ByteArray → Option ByteArray) (a1 : Rw) (a2 : ByteArray) (K0 : Rw → Option ByteArray) : Rw → Rw → Option ByteArray
  | [], v124 => (K0 v124)
  | cs :: rest, v124 => (cell_si cs fun x217 x218 => ((impl_isZero x217).bind fun y220 => (if y220 = true then ((lib_Itoa x218).bind fun y223 => (if v124.length + 1 ≤ cap then (impl_ordinalText_l0 k rec_impl_ordinalText a1 a2 K0 rest (v124 ++ ([[D.str y223]]))) else none)) else ((impl_finite 1).bind fun y226 => ((impl_cmp k x217 y226).bind fun y228 => (if y228 = (0 : Int) then (if x218 = (1 : Int) then (if v124.length + 1 ≤ cap then (impl_ordinalText_l0 k rec_impl_ordinalText a1 a2 K0 rest (v124 ++ ([[D.str a2]]))) else none) else ((lib_Itoa x218).bind fun y244 => (if (ByteArray.mk #[42]).size + y244.size ≤ 9223372036854775807 then (if a2.size + ((ByteArray.mk #[42]) ++ y244).size ≤ 9223372036854775807 then (if v124.length + 1 ≤ cap then (impl_ordinalText_l0 k rec_impl_ordinalText a1 a2 K0 rest (v124 ++ ([[D.str (a2 ++ ((ByteArray.mk #[42]) ++ y244))]]))) else none) else none) else none))) else ((rec_impl_ordinalText x217 a2).bind fun y231 => (if (ByteArray.mk #[94, 40]).size + y231.size ≤ 9223372036854775807 then (if ((ByteArray.mk #[94, 40]) ++ y231).size + (ByteArray.mk #[41]).size ≤ 9223372036854775807 then (if a2.size + (((ByteArray.mk #[94, 40]) ++ y231) ++ (ByteArray.mk #[41])).size ≤ 9223372036854775807 then (if x218 = (1 : Int) then (if v124.length + 1 ≤ cap then (impl_ordinalText_l0 k rec_impl_ordinalText a1 a2 K0 rest (v124 ++ ([[D.str (a2 ++ (((ByteArray.mk #[94, 40]) ++ y231) ++ (ByteArray.mk #[41])))]]))) else none) else ((lib_Itoa x218).bind fun y237 => (if (ByteArray.mk #[42]).size + y237.size ≤ 9223372036854775807 then (if (a2 ++ (((ByteArray.mk #[94, 40]) ++ y231) ++ (ByteArray.mk #[41]))).size + ((ByteArray.mk #[42]) ++ y237).size ≤ 9223372036854775807 then (if v124.length + 1 ≤ cap then (impl_ordinalText_l0 k rec_impl_ordinalText a1 a2 K0 rest (v124 ++ ([[D.str ((a2 ++ (((ByteArray.mk #[94, 40]) ++ y231) ++ (ByteArray.mk #[41]))) ++ ((ByteArray.mk #[42]) ++ y237))]]))) else none) else none) else none))) else none) else none) else none))))))))
set_option maxHeartbeats 4000000 in
set_option maxRecDepth 100000 in
theorem impl_ordinalText_l0_ct {k : Nat} {rec_impl_ordinalText : Rw → ByteArray → Option ByteArray} {a1 : Rw} {a2 : ByteArray} {K0 : Rw → Option ByteArray} (hrec_impl_ordinalText : ∀ (a1 : Rw) (a2 : ByteArray) (r : ByteArray), rec_impl_ordinalText a1 a2 = some r → Ct prog 36 [.agg [.d (D.sl a1)], .d (D.str a2)] (⟨[], []⟩) (.d (D.str r)) (⟨[], []⟩)) {r : ByteArray} (hx : a1.length ≤ cap) : ∀ (rest : Rw) (v125n : Nat) (v124 : Rw), a1.drop v125n = rest → impl_ordinalText_l0 k rec_impl_ordinalText a1 a2 K0 rest v124 = some r → LoopOk prog 0 (lp f36 0) (mk 61 [(1, .d (D.str a2)), (5, .os 64000 v124.length), (11, .d (D.sl a1)), (12, .d (D.int .i64 (a1.length : Int))), (13, .d (D.int .i64 (v125n : Int)))] [(64000, .arr 9 true v124)]) (LoopEnd prog f36 0 61 (.d (D.str r)) (⟨[], []⟩) (fun i ts os => (i = 0 ∧ ∃ v181 : Rw, K0 v181 = some r ∧ ts = [(5, .os 67001 v181.length)] ∧ os = [(67001, .arr 9 true v181)])))
  | [], v125n, v124, hd, h => by
      rw [impl_ordinalText_l0] at h
      have hn := drop_nil hd
      refine LoopOk.step ?_
      conv => whnf
      refine splD (fun g => absurd g hn) (fun _ => ?_)
      conv => whnf
      exact ⟨_, _, [some 64000], [], ⟨rfl, _, h, rfl, rfl⟩, ⟨⟨rfl, rfl⟩, ⟨rfl, ⟨rfl, rfl, rows_same⟩, trivial⟩, ⟨rfl, rfl⟩, trivial⟩⟩
  | cs :: rest, v125n, v124, hd, h => by
      rw [impl_ordinalText_l0] at h
      obtain ⟨hrow, hd1, hlt⟩ := drop_cons hd
      refine LoopOk.step ?_
      conv => whnf
      refine splD (fun _ => ?_) (fun g => absurd hlt g)
      conv => whnf
      obtain ⟨x217, x218, e219, h⟩ := cell_si_ex h
      rw [e219] at hrow
      refine Req.of (Int.natCast_nonneg _) ?_
      refine Row.of _ hrow ?_
      conv => whnf
      refine Pick.no ?_
      conv => whnf
      obtain ⟨y220, e221, h⟩ := bind_ex h
      refine CallOk.of (impl_isZero_ct e221) ?_
      conv => whnf
      refine spl (fun g222 => ?_) (fun g222 => ?_)
      · replace h := iteT h g222
        conv => whnf
        refine CutK.norm [1, 5, 7, 8, 11, 12, 13, 18] [448, 64000] ?_
        conv => whnf
        refine Pick.no ?_
        conv => whnf
        obtain ⟨y223, e224, h⟩ := bind_ex h
        refine CallOk.of (lib_Itoa_ct e224) ?_
        conv => whnf
        refine Take.all (rfl) ?_
        conv => whnf
        refine Take.all (by first | rfl | exact List.length_append.symm | (simp; done) | omega | (dsimp only; omega)) ?_
        conv => whnf
        obtain ⟨g225, h⟩ := req_ex h
        refine Req.of (room (b := 16) (by decide) g225 (wide1 rfl wide0)) ?_
        conv => whnf
        refine CutK.norm [1, 5, 11, 12, 13] [1728] ?_
        conv => whnf
        refine CutK.norm [1, 5, 11, 12, 13] [1728] ?_
        conv => whnf
        exact LoopOk.back (impl_ordinalText_l0_ct hrec_impl_ordinalText hx rest (v125n + 1) _ hd1 h) [some 1728] [] ⟨⟨rfl, rfl⟩, ⟨rfl, ⟨rfl, rfl, rows_same⟩, trivial⟩, rfl, ⟨(by first | rfl | exact List.length_append.symm | (simp; done) | omega | (dsimp only; omega)), rfl⟩, rfl, rfl, i64eq (wrap_up hlt hx), trivial⟩
      · replace h := iteF h g222
        conv => whnf
        refine CutK.norm [1, 5, 7, 8, 11, 12, 13, 18] [448, 64000] ?_
        conv => whnf
        refine Pick.no ?_
        conv => whnf
        obtain ⟨y226, e227, h⟩ := bind_ex h
        refine CallOk.of (impl_finite_ct e227) ?_
        conv => whnf
        refine Pick.no ?_
        conv => whnf
        refine Take.all (rfl) ?_
        conv => whnf
        obtain ⟨y228, e229, h⟩ := bind_ex h
        refine CallOk.of (impl_cmp_ct e229) ?_
        conv => whnf
        refine splN (fun g230 => ?_) (fun g230 => ?_)
        · replace h := iteN h g230
          conv => whnf
          refine CutK.norm [1, 5, 7, 8, 11, 12, 13, 28] [448, 64000] ?_
          conv => whnf
          refine Pick.no ?_
          conv => whnf
          obtain ⟨y231, e232, h⟩ := bind_ex h
          refine CallOk.of (hrec_impl_ordinalText _ _ _ e232) ?_
          conv => whnf
          obtain ⟨g233, h⟩ := req_ex h
          refine Req.of g233 ?_
          conv => whnf
          obtain ⟨g234, h⟩ := req_ex h
          refine Req.of g234 ?_
          conv => whnf
          obtain ⟨g235, h⟩ := req_ex h
          refine Req.of g235 ?_
          conv => whnf
          refine CutK.norm [1, 5, 7, 8, 11, 12, 13] [448, 64000] ?_
          conv => whnf
          refine splN (fun g236 => ?_) (fun g236 => ?_)
          · replace h := iteN h g236
            conv => whnf
            refine Pick.no ?_
            conv => whnf
            obtain ⟨y237, e238, h⟩ := bind_ex h
            refine CallOk.of (lib_Itoa_ct e238) ?_
            conv => whnf
            obtain ⟨g239, h⟩ := req_ex h
            refine Req.of g239 ?_
            conv => whnf
            obtain ⟨g240, h⟩ := req_ex h
            refine Req.of g240 ?_
            conv => whnf
            refine CutK.norm [1, 5, 8, 11, 12, 13] [64000] ?_
            conv => whnf
            refine Take.all (rfl) ?_
            conv => whnf
            refine Take.all (by first | rfl | exact List.length_append.symm | (simp; done) | omega | (dsimp only; omega)) ?_
            conv => whnf
            obtain ⟨g241, h⟩ := req_ex h
            refine Req.of (room (b := 16) (by decide) g241 (wide1 rfl wide0)) ?_
            conv => whnf
            refine CutK.norm [1, 5, 11, 12, 13] [3456] ?_
            conv => whnf
            exact LoopOk.back (impl_ordinalText_l0_ct hrec_impl_ordinalText hx rest (v125n + 1) _ hd1 h) [some 3456] [] ⟨⟨rfl, rfl⟩, ⟨rfl, ⟨rfl, rfl, rows_same⟩, trivial⟩, rfl, ⟨(by first | rfl | exact List.length_append.symm | (simp; done) | omega | (dsimp only; omega)), rfl⟩, rfl, rfl, i64eq (wrap_up hlt hx), trivial⟩
          · replace h := iteP h g236
            conv => whnf
            refine CutK.norm [1, 5, 8, 11, 12, 13] [64000] ?_
            conv => whnf
            refine Take.all (rfl) ?_
            conv => whnf
            refine Take.all (by first | rfl | exact List.length_append.symm | (simp; done) | omega | (dsimp only; omega)) ?_
            conv => whnf
            obtain ⟨g242, h⟩ := req_ex h
            refine Req.of (room (b := 16) (by decide) g242 (wide1 rfl wide0)) ?_
            conv => whnf
            refine CutK.norm [1, 5, 11, 12, 13] [3456] ?_
            conv => whnf
            exact LoopOk.back (impl_ordinalText_l0_ct hrec_impl_ordinalText hx rest (v125n + 1) _ hd1 h) [some 3456] [] ⟨⟨rfl, rfl⟩, ⟨rfl, ⟨rfl, rfl, rows_same⟩, trivial⟩, rfl, ⟨(by first | rfl | exact List.length_append.symm | (simp; done) | omega | (dsimp only; omega)), rfl⟩, rfl, rfl, i64eq (wrap_up hlt hx), trivial⟩
        · replace h := iteP h g230
          conv => whnf
          refine CutK.norm [1, 5, 7, 8, 11, 12, 13, 28] [448, 64000] ?_
          conv => whnf
          refine CutK.norm [1, 5, 7, 8, 11, 12, 13] [448, 64000] ?_
          conv => whnf
          refine splN (fun g243 => ?_) (fun g243 => ?_)
          · replace h := iteN h g243
            conv => whnf
            refine Pick.no ?_
            conv => whnf
            obtain ⟨y244, e245, h⟩ := bind_ex h
            refine CallOk.of (lib_Itoa_ct e245) ?_
            conv => whnf
            obtain ⟨g246, h⟩ := req_ex h
            refine Req.of g246 ?_
            conv => whnf
            obtain ⟨g247, h⟩ := req_ex h
            refine Req.of g247 ?_
            conv => whnf
            refine CutK.norm [1, 5, 8, 11, 12, 13] [64000] ?_
            conv => whnf
            refine Take.all (rfl) ?_
            conv => whnf
            refine Take.all (by first | rfl | exact List.length_append.symm | (simp; done) | omega | (dsimp only; omega)) ?_
            conv => whnf
            obtain ⟨g248, h⟩ := req_ex h
            refine Req.of (room (b := 16) (by decide) g248 (wide1 rfl wide0)) ?_
            conv => whnf
            refine CutK.norm [1, 5, 11, 12, 13] [3456] ?_
            conv => whnf
            exact LoopOk.back (impl_ordinalText_l0_ct hrec_impl_ordinalText hx rest (v125n + 1) _ hd1 h) [some 3456] [] ⟨⟨rfl, rfl⟩, ⟨rfl, ⟨rfl, rfl, rows_same⟩, trivial⟩, rfl, ⟨(by first | rfl | exact List.length_append.symm | (simp; done) | omega | (dsimp only; omega)), rfl⟩, rfl, rfl, i64eq (wrap_up hlt hx), trivial⟩
          · replace h := iteP h g243
            conv => whnf
            refine CutK.norm [1, 5, 8, 11, 12, 13] [64000] ?_
            conv => whnf
            refine Take.all (rfl) ?_
            conv => whnf
            refine Take.all (by first | rfl | exact List.length_append.symm | (simp; done) | omega | (dsimp only; omega)) ?_
            conv => whnf
            obtain ⟨g249, h⟩ := req_ex h
            refine Req.of (room (b := 16) (by decide) g249 (wide1 rfl wide0)) ?_
            conv => whnf
            refine CutK.norm [1, 5, 11, 12, 13] [3456] ?_
            conv => whnf
            exact LoopOk.back (impl_ordinalText_l0_ct hrec_impl_ordinalText hx rest (v125n + 1) _ hd1 h) [some 3456] [] ⟨⟨rfl, rfl⟩, ⟨rfl, ⟨rfl, rfl, rows_same⟩, trivial⟩, rfl, ⟨(by first | rfl | exact List.length_append.symm | (simp; done) | omega | (dsimp only; omega)), rfl⟩, rfl, rfl, i64eq (wrap_up hlt hx), trivial⟩
def impl_ordinalText_b (k : Nat) (rec_impl_ordinalText : Rw → ByteArray → Option ByteArray) (a1 : Rw) (a2 : ByteArray) : Option ByteArray :=
  (if a1.length ≤ cap then (impl_ordinalText_l0 k rec_impl_ordinalText a1 a2 (fun (v181 : Rw) => (impl_ordinalText_p3 v181)) a1 ([] : Rw)) else none)
set_option maxHeartbeats 4000000 in
set_option maxRecDepth 100000 in
theorem impl_ordinalText_b_ct {k : Nat} {rec_impl_ordinalText : Rw → ByteArray → Option ByteArray} (hrec_impl_ordinalText : ∀ (a1 : Rw) (a2 : ByteArray) (r : ByteArray), rec_impl_ordinalText a1 a2 = some r → Ct prog 36 [.agg [.d (D.sl a1)], .d (D.str a2)] (⟨[], []⟩) (.d (D.str r)) (⟨[], []⟩)) {a1 : Rw} {a2 : ByteArray} {r : ByteArray} (h : impl_ordinalText_b k rec_impl_ordinalText a1 a2 = some r) : Ct prog 36 [.agg [.d (D.sl a1)], .d (D.str a2)] (⟨[], []⟩) (.d (D.str r)) (⟨[], []⟩) := by
  rw [impl_ordinalText_b] at h
  refine Ct.of (c := _) mixed func36 ⟨rfl, rfl, rfl⟩ ?_ rfl
  conv => whnf
  obtain ⟨g250, h⟩ := req_ex h
  refine LoopOk.into (impl_ordinalText_l0_ct hrec_impl_ordinalText g250 _ _ _ rfl h) [some 576] [] ⟨⟨rfl, rfl⟩, ⟨rfl, ⟨rfl, rfl, rows_same⟩, trivial⟩, rfl, ⟨(by first | rfl | exact List.length_append.symm | (simp; done) | omega | (dsimp only; omega)), rfl⟩, rfl, rfl, rfl, trivial⟩ ?_ (fun _ hs => hs)
  rintro i ts os ⟨rfl, v181, h, rfl, rfl⟩
  conv => whnf
  exact CutK.piece (impl_ordinalText_p3_ct  h) [some 67001] [] ⟨⟨rfl, rfl⟩, ⟨rfl, ⟨rfl, rfl, rows_same⟩, trivial⟩, ⟨rfl, rfl⟩, trivial⟩
def impl_ordinalText : Nat → Rw → ByteArray → Option ByteArray
  | 0, _, _ => none
  | k + 1, a1, a2 => impl_ordinalText_b k (impl_ordinalText k) a1 a2
theorem impl_ordinalText_ct' : ∀ (k : Nat) (a1 : Rw) (a2 : ByteArray) (r : ByteArray), impl_ordinalText k a1 a2 = some r → Ct prog 36 [.agg [.d (D.sl a1)], .d (D.str a2)] (⟨[], []⟩) (.d (D.str r)) (⟨[], []⟩)
  | 0, _, _, _, h => by rw [impl_ordinalText] at h; cases h
  | k + 1, _, _, _, h => by rw [impl_ordinalText] at h; exact impl_ordinalText_b_ct (impl_ordinalText_ct' k) h
theorem impl_ordinalText_ct {k : Nat} {a1 : Rw} {a2 : ByteArray} {r : ByteArray} (h : impl_ordinalText k a1 a2 = some r) : Ct prog 36 [.agg [.d (D.sl a1)], .d (D.str a2)] (⟨[], []⟩) (.d (D.str r)) (⟨[], []⟩) := impl_ordinalText_ct' k _ _ _ h

def impl_HereditaryText (k : Nat) (a1 : Int) (a2 : Int) : Option (ByteArray × Bool) :=
  ((impl_in a1 0 1000000).bind fun y3 => (if y3 = true then ((impl_baseOk a2).bind fun y6 => (if y6 = true then ((impl_hereditary k a1 a2).bind fun y9 => ((lib_Itoa a2).bind fun y11 => ((impl_ordinalText k y9 y11).bind fun y13 => some (y13, true)))) else some ((ByteArray.mk #[]), false))) else some ((ByteArray.mk #[]), false)))
set_option maxHeartbeats 4000000 in
set_option maxRecDepth 100000 in
theorem impl_HereditaryText_ct {k : Nat} {a1 : Int} {a2 : Int} {r : ByteArray × Bool} (h : impl_HereditaryText k a1 a2 = some r) : Ct prog 15 [.d (D.int .i64 a1), .d (D.int .i64 a2)] (⟨[], []⟩) (.tup [.d (D.str r.1), .d (D.bool r.2)]) (⟨[], []⟩) := by
  rw [impl_HereditaryText] at h
  refine Ct.of (c := _) mixed func15 ⟨rfl, rfl, rfl⟩ ?_ rfl
  conv => whnf
  refine Pick.no ?_
  conv => whnf
  obtain ⟨y3, e4, h⟩ := bind_ex h
  refine CallOk.of (impl_in_ct e4) ?_
  conv => whnf
  refine spl (fun g5 => ?_) (fun g5 => ?_)
  · replace h := iteT h g5
    conv => whnf
    refine Pick.no ?_
    conv => whnf
    obtain ⟨y6, e7, h⟩ := bind_ex h
    refine CallOk.of (impl_baseOk_ct e7) ?_
    conv => whnf
    refine spl (fun g8 => ?_) (fun g8 => ?_)
    · replace h := iteT h g8
      conv => whnf
      refine CutK.go ?_
      conv => whnf
      refine CutK.go ?_
      conv => whnf
      refine Pick.no ?_
      conv => whnf
      obtain ⟨y9, e10, h⟩ := bind_ex h
      refine CallOk.of (impl_hereditary_ct e10) ?_
      conv => whnf
      refine Pick.no ?_
      conv => whnf
      obtain ⟨y11, e12, h⟩ := bind_ex h
      refine CallOk.of (lib_Itoa_ct e12) ?_
      conv => whnf
      refine Pick.no ?_
      conv => whnf
      refine Take.all (rfl) ?_
      conv => whnf
      obtain ⟨y13, e14, h⟩ := bind_ex h
      refine CallOk.of (impl_ordinalText_ct e14) ?_
      conv => whnf
      refine CutK.go ?_
      conv => whnf
      cases h
      exact Done.of [] [] rfl rfl ⟨⟨rfl, rfl⟩, ⟨rfl, trivial⟩, ⟨rfl, rfl, trivial⟩, trivial⟩
    · replace h := iteF h g8
      conv => whnf
      refine CutK.go ?_
      conv => whnf
      cases h
      exact Done.of [] [] rfl rfl ⟨⟨rfl, rfl⟩, ⟨rfl, trivial⟩, ⟨rfl, rfl, trivial⟩, trivial⟩
  · replace h := iteF h g5
    conv => whnf
    refine CutK.go ?_
    conv => whnf
    cases h
    exact Done.of [] [] rfl rfl ⟨⟨rfl, rfl⟩, ⟨rfl, trivial⟩, ⟨rfl, rfl, trivial⟩, trivial⟩

def impl_ordinalAt_2_p3 (o62 : Int) : Option (Bool × Int) :=
  some (true, o62)
set_option maxHeartbeats 4000000 in
set_option maxRecDepth 100000 in
theorem impl_ordinalAt_2_p3_ct {o62 : Int} {r : Bool × Int} (h : impl_ordinalAt_2_p3 o62 = some r) : X prog 1 (tlF f65 3) (mk 83 [] [(0, .box 3 [.d (D.int .i64 o62)])]) (finK prog f65 1 (.d (D.bool r.1)) (⟨[(3, [.d (D.int .i64 r.2)])], []⟩)) := by
  rw [impl_ordinalAt_2_p3] at h
  conv => whnf
  cases h
  exact Done.of [some 0] [] rfl rfl ⟨⟨rfl, rfl⟩, ⟨rfl, ⟨rfl, rfl, trivial⟩, trivial⟩, rfl, trivial⟩
def impl_ordinalAt_2_l0 (k : Nat) (rec_impl_ordinalAt_2 : Rw → Int → Int → Int → Option (Bool × Int)) (a1 : Rw) (a2 : Int) (a3 : Int) (K0 : Int → Option (Bool × Int)) : Rw → Nat → Int → Option (Bool × Int)
  | [], v77n, v78 => (K0 v78)
  | cs :: rest, v77n, v78 => (cell_si cs fun x120 x121 => (if (60 : Int) < (IntKind.i64.wrap (v78 + 1)) then some (false, IntKind.i64.wrap (v78 + 1)) else ((impl_in x121 1 1000000).bind fun y124 => (if y124 = true then ((rec_impl_ordinalAt_2 x120 x121 (IntKind.i64.wrap (a3 + 1)) (IntKind.i64.wrap (v78 + 1))).bind fun y127 => (if y127.1 = true then (if (0 : Int) < (v77n : Int) then (row_si a1 (IntKind.i64.wrap ((v77n : Int) - 1)) fun x131 x132 => ((impl_cmp k x131 x120).bind fun y135 => (if y135 ≤ (0 : Int) then some (false, y127.2) else (impl_ordinalAt_2_l0 k rec_impl_ordinalAt_2 a1 a2 a3 K0 rest (v77n + 1) y127.2)))) else (impl_ordinalAt_2_l0 k rec_impl_ordinalAt_2 a1 a2 a3 K0 rest (v77n + 1) y127.2)) else some (false, y127.2))) else some (false, IntKind.i64.wrap (v78 + 1))))))
set_option maxHeartbeats 4000000 in
set_option maxRecDepth 100000 in
theorem impl_ordinalAt_2_l0_ct {k : Nat} {rec_impl_ordinalAt_2 : Rw → Int → Int → Int → Option (Bool × Int)} {a1 : Rw} {a2 : Int} {a3 : Int} {K0 : Int → Option (Bool × Int)} (hrec_impl_ordinalAt_2 : ∀ (a1 : Rw) (a2 : Int) (a3 : Int) (a4 : Int) (r : Bool × Int), rec_impl_ordinalAt_2 a1 a2 a3 a4 = some r → Ct prog 65 [.dp [D.sl a1, D.int .i64 a2], .d (D.int .i64 a3), .ptr 0 0] (⟨[(3, [.d (D.int .i64 a4)])], []⟩) (.d (D.bool r.1)) (⟨[(3, [.d (D.int .i64 r.2)])], []⟩)) {r : Bool × Int} (hx : a1.length ≤ cap) : ∀ (rest : Rw) (v77n : Nat) (v78 : Int), a1.drop v77n = rest → impl_ordinalAt_2_l0 k rec_impl_ordinalAt_2 a1 a2 a3 K0 rest v77n v78 = some r → LoopOk prog 1 (lp f65 0) (mk 83 [(0, .dp [D.sl a1, D.int .i64 a2]), (1, .d (D.int .i64 a3)), (2, .ptr 0 0), (26, .d (D.int .i64 (a1.length : Int))), (27, .d (D.int .i64 (v77n : Int)))] [(0, .box 3 [.d (D.int .i64 v78)])]) (LoopEnd prog f65 1 83 (.d (D.bool r.1)) (⟨[(3, [.d (D.int .i64 r.2)])], []⟩) (fun i ts os => (i = 0 ∧ ∃ v99 : Int, K0 v99 = some r ∧ ts = [] ∧ os = [(0, .box 3 [.d (D.int .i64 v99)])])))
  | [], v77n, v78, hd, h => by
      rw [impl_ordinalAt_2_l0] at h
      have hn := drop_nil hd
      refine LoopOk.step ?_
      conv => whnf
      refine splD (fun g => absurd g hn) (fun _ => ?_)
      conv => whnf
      exact ⟨_, _, [some 0], [], ⟨rfl, _, h, rfl, rfl⟩, ⟨⟨rfl, rfl⟩, ⟨rfl, ⟨rfl, rfl, trivial⟩, trivial⟩, trivial⟩⟩
  | cs :: rest, v77n, v78, hd, h => by
      rw [impl_ordinalAt_2_l0] at h
      obtain ⟨hrow, hd1, hlt⟩ := drop_cons hd
      refine LoopOk.step ?_
      conv => whnf
      refine splD (fun _ => ?_) (fun g => absurd hlt g)
      conv => whnf
      obtain ⟨x120, x121, e122, h⟩ := cell_si_ex h
      rw [e122] at hrow
      refine Req.of (Int.natCast_nonneg _) ?_
      refine Row.of _ hrow ?_
      conv => whnf
      refine splD (fun g123 => ?_) (fun g123 => ?_)
      · replace h := iteP h g123
        conv => whnf
        refine CutK.norm [0, 1, 2, 7, 8, 26, 27, 62] [0] ?_
        conv => whnf
        cases h
        exact Done.of [some 0] [] rfl rfl ⟨⟨rfl, rfl⟩, ⟨rfl, ⟨rfl, rfl, trivial⟩, trivial⟩, rfl, trivial⟩
      · replace h := iteN h g123
        conv => whnf
        refine Pick.no ?_
        conv => whnf
        obtain ⟨y124, e125, h⟩ := bind_ex h
        refine CallOk.of (impl_in_ct e125) ?_
        conv => whnf
        refine spl (fun g126 => ?_) (fun g126 => ?_)
        · replace h := iteT h g126
          conv => whnf
          refine Pick.no ?_
          conv => whnf
          obtain ⟨y127, e128, h⟩ := bind_ex h
          refine CallOk.of (hrec_impl_ordinalAt_2 _ _ _ _ _ e128) ?_
          conv => whnf
          refine spl (fun g129 => ?_) (fun g129 => ?_)
          · replace h := iteT h g129
            conv => whnf
            refine CutK.norm [0, 1, 2, 7, 8, 26, 27, 62] [0] ?_
            conv => whnf
            refine CutK.norm [0, 1, 2, 7, 8, 26, 27] [0] ?_
            conv => whnf
            refine splD (fun g130 => ?_) (fun g130 => ?_)
            · replace h := iteP h g130
              conv => whnf
              obtain ⟨g134, x131, x132, e133, h⟩ := row_si_ex h
              refine Req.of g134 ?_
              refine Row.of _ e133 ?_
              conv => whnf
              refine Pick.no ?_
              conv => whnf
              obtain ⟨y135, e136, h⟩ := bind_ex h
              refine CallOk.of (impl_cmp_ct e136) ?_
              conv => whnf
              refine splD (fun g137 => ?_) (fun g137 => ?_)
              · replace h := iteP h g137
                conv => whnf
                refine CutK.norm [0, 1, 2, 26, 27, 81] [0] ?_
                conv => whnf
                cases h
                exact Done.of [some 0] [] rfl rfl ⟨⟨rfl, rfl⟩, ⟨rfl, ⟨rfl, rfl, trivial⟩, trivial⟩, rfl, trivial⟩
              · replace h := iteN h g137
                conv => whnf
                refine CutK.norm [0, 1, 2, 26, 27, 81] [0] ?_
                conv => whnf
                refine CutK.norm [0, 1, 2, 26, 27] [0] ?_
                conv => whnf
                exact LoopOk.back (impl_ordinalAt_2_l0_ct hrec_impl_ordinalAt_2 hx rest (v77n + 1) _ hd1 h) [some 0] [] ⟨⟨rfl, rfl⟩, ⟨rfl, ⟨rfl, rfl, trivial⟩, trivial⟩, rfl, rfl, ⟨rfl, rfl⟩, rfl, i64eq (wrap_up hlt hx), trivial⟩
            · replace h := iteN h g130
              conv => whnf
              refine CutK.norm [0, 1, 2, 26, 27, 81] [0] ?_
              conv => whnf
              refine CutK.norm [0, 1, 2, 26, 27] [0] ?_
              conv => whnf
              exact LoopOk.back (impl_ordinalAt_2_l0_ct hrec_impl_ordinalAt_2 hx rest (v77n + 1) _ hd1 h) [some 0] [] ⟨⟨rfl, rfl⟩, ⟨rfl, ⟨rfl, rfl, trivial⟩, trivial⟩, rfl, rfl, ⟨rfl, rfl⟩, rfl, i64eq (wrap_up hlt hx), trivial⟩
          · replace h := iteF h g129
            conv => whnf
            refine CutK.norm [0, 1, 2, 7, 8, 26, 27, 62] [0] ?_
            conv => whnf
            cases h
            exact Done.of [some 0] [] rfl rfl ⟨⟨rfl, rfl⟩, ⟨rfl, ⟨rfl, rfl, trivial⟩, trivial⟩, rfl, trivial⟩
        · replace h := iteF h g126
          conv => whnf
          refine CutK.norm [0, 1, 2, 7, 8, 26, 27, 62] [0] ?_
          conv => whnf
          cases h
          exact Done.of [some 0] [] rfl rfl ⟨⟨rfl, rfl⟩, ⟨rfl, ⟨rfl, rfl, trivial⟩, trivial⟩, rfl, trivial⟩
def impl_ordinalAt_2_b (k : Nat) (rec_impl_ordinalAt_2 : Rw → Int → Int → Int → Option (Bool × Int)) (a1 : Rw) (a2 : Int) (a3 : Int) (a4 : Int) : Option (Bool × Int) :=
  (if (60 : Int) < (IntKind.i64.wrap (a4 + 1)) then some (false, IntKind.i64.wrap (a4 + 1)) else (if (6 : Int) < a3 then some (false, IntKind.i64.wrap (a4 + 1)) else (if a1.length ≤ cap then (impl_ordinalAt_2_l0 k rec_impl_ordinalAt_2 a1 a2 a3 (fun (v99 : Int) => (impl_ordinalAt_2_p3 v99)) a1 0 (IntKind.i64.wrap (a4 + 1))) else none)))
set_option maxHeartbeats 4000000 in
set_option maxRecDepth 100000 in
theorem impl_ordinalAt_2_b_ct {k : Nat} {rec_impl_ordinalAt_2 : Rw → Int → Int → Int → Option (Bool × Int)} (hrec_impl_ordinalAt_2 : ∀ (a1 : Rw) (a2 : Int) (a3 : Int) (a4 : Int) (r : Bool × Int), rec_impl_ordinalAt_2 a1 a2 a3 a4 = some r → Ct prog 65 [.dp [D.sl a1, D.int .i64 a2], .d (D.int .i64 a3), .ptr 0 0] (⟨[(3, [.d (D.int .i64 a4)])], []⟩) (.d (D.bool r.1)) (⟨[(3, [.d (D.int .i64 r.2)])], []⟩)) {a1 : Rw} {a2 : Int} {a3 : Int} {a4 : Int} {r : Bool × Int} (h : impl_ordinalAt_2_b k rec_impl_ordinalAt_2 a1 a2 a3 a4 = some r) : Ct prog 65 [.dp [D.sl a1, D.int .i64 a2], .d (D.int .i64 a3), .ptr 0 0] (⟨[(3, [.d (D.int .i64 a4)])], []⟩) (.d (D.bool r.1)) (⟨[(3, [.d (D.int .i64 r.2)])], []⟩) := by
  rw [impl_ordinalAt_2_b] at h
  refine Ct.of (c := _) mixed func65 ⟨rfl, rfl, rfl⟩ ?_ rfl
  conv => whnf
  refine splD (fun g63 => ?_) (fun g63 => ?_)
  · replace h := iteP h g63
    conv => whnf
    cases h
    exact Done.of [some 0] [] rfl rfl ⟨⟨rfl, rfl⟩, ⟨rfl, ⟨rfl, rfl, trivial⟩, trivial⟩, rfl, trivial⟩
  · replace h := iteN h g63
    conv => whnf
    refine splD (fun g64 => ?_) (fun g64 => ?_)
    · replace h := iteP h g64
      conv => whnf
      cases h
      exact Done.of [some 0] [] rfl rfl ⟨⟨rfl, rfl⟩, ⟨rfl, ⟨rfl, rfl, trivial⟩, trivial⟩, rfl, trivial⟩
    · replace h := iteN h g64
      conv => whnf
      obtain ⟨g138, h⟩ := req_ex h
      refine LoopOk.into (impl_ordinalAt_2_l0_ct hrec_impl_ordinalAt_2 g138 _ _ _ rfl h) [some 0] [] ⟨⟨rfl, rfl⟩, ⟨rfl, ⟨rfl, rfl, trivial⟩, trivial⟩, rfl, rfl, ⟨rfl, rfl⟩, rfl, rfl, trivial⟩ ?_ (fun _ hs => hs)
      rintro i ts os ⟨rfl, v99, h, rfl, rfl⟩
      conv => whnf
      exact CutK.piece (impl_ordinalAt_2_p3_ct  h) [some 0] [] ⟨⟨rfl, rfl⟩, ⟨rfl, ⟨rfl, rfl, trivial⟩, trivial⟩, trivial⟩
def impl_ordinalAt_2 : Nat → Rw → Int → Int → Int → Option (Bool × Int)
  | 0, _, _, _, _ => none
  | k + 1, a1, a2, a3, a4 => impl_ordinalAt_2_b k (impl_ordinalAt_2 k) a1 a2 a3 a4
theorem impl_ordinalAt_2_ct' : ∀ (k : Nat) (a1 : Rw) (a2 : Int) (a3 : Int) (a4 : Int) (r : Bool × Int), impl_ordinalAt_2 k a1 a2 a3 a4 = some r → Ct prog 65 [.dp [D.sl a1, D.int .i64 a2], .d (D.int .i64 a3), .ptr 0 0] (⟨[(3, [.d (D.int .i64 a4)])], []⟩) (.d (D.bool r.1)) (⟨[(3, [.d (D.int .i64 r.2)])], []⟩)
  | 0, _, _, _, _, _, h => by rw [impl_ordinalAt_2] at h; cases h
  | k + 1, _, _, _, _, _, h => by rw [impl_ordinalAt_2] at h; exact impl_ordinalAt_2_b_ct (impl_ordinalAt_2_ct' k) h
theorem impl_ordinalAt_2_ct {k : Nat} {a1 : Rw} {a2 : Int} {a3 : Int} {a4 : Int} {r : Bool × Int} (h : impl_ordinalAt_2 k a1 a2 a3 a4 = some r) : Ct prog 65 [.dp [D.sl a1, D.int .i64 a2], .d (D.int .i64 a3), .ptr 0 0] (⟨[(3, [.d (D.int .i64 a4)])], []⟩) (.d (D.bool r.1)) (⟨[(3, [.d (D.int .i64 r.2)])], []⟩) := impl_ordinalAt_2_ct' k _ _ _ _ _ h

def impl_ordinalAt_p3 (a1 : Rw) (o61 : Int) : Option (Bool × Rw × Int) :=
  some (true, a1, o61)
set_option maxHeartbeats 4000000 in
set_option maxRecDepth 100000 in
theorem impl_ordinalAt_p3_ct {a1 : Rw} {o61 : Int} {r : Bool × Rw × Int} (h : impl_ordinalAt_p3 a1 o61 = some r) : X prog 2 (tlF f65 3) (mk 83 [] [(0, .box 41 [.d (D.sl a1)]), (64, .box 3 [.d (D.int .i64 o61)])]) (finK prog f65 2 (.d (D.bool r.1)) (⟨[(41, [.d (D.sl r.2.1)]), (3, [.d (D.int .i64 r.2.2)])], []⟩)) := by
  rw [impl_ordinalAt_p3] at h
  conv => whnf
  cases h
  exact Done.of [some 0, some 64] [] rfl rfl ⟨⟨rfl, rfl⟩, ⟨rfl, ⟨rfl, rfl, trivial⟩, ⟨rfl, rfl, trivial⟩, trivial⟩, rfl, trivial⟩
def impl_ordinalAt_l0 (k : Nat) (a1 : Rw) (a2 : Int) (K0 : Int → Option (Bool × Rw × Int)) : Rw → Nat → Int → Option (Bool × Rw × Int)
  | [], v76n, v77 => (K0 v77)
  | cs :: rest, v76n, v77 => (cell_si cs fun x119 x120 => (if (60 : Int) < (IntKind.i64.wrap (v77 + 1)) then some (false, a1, IntKind.i64.wrap (v77 + 1)) else ((impl_in x120 1 1000000).bind fun y123 => (if y123 = true then ((impl_ordinalAt_2 k x119 x120 (IntKind.i64.wrap (a2 + 1)) (IntKind.i64.wrap (v77 + 1))).bind fun y126 => (if y126.1 = true then (if (0 : Int) < (v76n : Int) then (row_si a1 (IntKind.i64.wrap ((v76n : Int) - 1)) fun x130 x131 => ((impl_cmp k x130 x119).bind fun y134 => (if y134 ≤ (0 : Int) then some (false, a1, y126.2) else (impl_ordinalAt_l0 k a1 a2 K0 rest (v76n + 1) y126.2)))) else (impl_ordinalAt_l0 k a1 a2 K0 rest (v76n + 1) y126.2)) else some (false, a1, y126.2))) else some (false, a1, IntKind.i64.wrap (v77 + 1))))))
set_option maxHeartbeats 4000000 in
set_option maxRecDepth 100000 in
theorem impl_ordinalAt_l0_ct {k : Nat} {a1 : Rw} {a2 : Int} {K0 : Int → Option (Bool × Rw × Int)} {r : Bool × Rw × Int} (hx : a1.length ≤ cap) : ∀ (rest : Rw) (v76n : Nat) (v77 : Int), a1.drop v76n = rest → impl_ordinalAt_l0 k a1 a2 K0 rest v76n v77 = some r → LoopOk prog 2 (lp f65 0) (mk 83 [(0, .ptr 0 0), (1, .d (D.int .i64 a2)), (2, .ptr 64 0), (26, .d (D.int .i64 (a1.length : Int))), (27, .d (D.int .i64 (v76n : Int)))] [(0, .box 41 [.d (D.sl a1)]), (64, .box 3 [.d (D.int .i64 v77)])]) (LoopEnd prog f65 2 83 (.d (D.bool r.1)) (⟨[(41, [.d (D.sl r.2.1)]), (3, [.d (D.int .i64 r.2.2)])], []⟩) (fun i ts os => (i = 0 ∧ ∃ v98 : Int, K0 v98 = some r ∧ ts = [] ∧ os = [(0, .box 41 [.d (D.sl a1)]), (64, .box 3 [.d (D.int .i64 v98)])])))
  | [], v76n, v77, hd, h => by
      rw [impl_ordinalAt_l0] at h
      have hn := drop_nil hd
      refine LoopOk.step ?_
      conv => whnf
      refine splD (fun g => absurd g hn) (fun _ => ?_)
      conv => whnf
      exact ⟨_, _, [some 0, some 64], [], ⟨rfl, _, h, rfl, rfl⟩, ⟨⟨rfl, rfl⟩, ⟨rfl, ⟨rfl, rfl, trivial⟩, ⟨rfl, rfl, trivial⟩, trivial⟩, trivial⟩⟩
  | cs :: rest, v76n, v77, hd, h => by
      rw [impl_ordinalAt_l0] at h
      obtain ⟨hrow, hd1, hlt⟩ := drop_cons hd
      refine LoopOk.step ?_
      conv => whnf
      refine splD (fun _ => ?_) (fun g => absurd hlt g)
      conv => whnf
      obtain ⟨x119, x120, e121, h⟩ := cell_si_ex h
      rw [e121] at hrow
      refine Req.of (Int.natCast_nonneg _) ?_
      refine Row.of _ hrow ?_
      conv => whnf
      refine splD (fun g122 => ?_) (fun g122 => ?_)
      · replace h := iteP h g122
        conv => whnf
        refine CutK.norm [0, 1, 2, 7, 8, 26, 27, 62] [0, 64] ?_
        conv => whnf
        cases h
        exact Done.of [some 0, some 64] [] rfl rfl ⟨⟨rfl, rfl⟩, ⟨rfl, ⟨rfl, rfl, trivial⟩, ⟨rfl, rfl, trivial⟩, trivial⟩, rfl, trivial⟩
      · replace h := iteN h g122
        conv => whnf
        refine Pick.no ?_
        conv => whnf
        obtain ⟨y123, e124, h⟩ := bind_ex h
        refine CallOk.of (impl_in_ct e124) ?_
        conv => whnf
        refine spl (fun g125 => ?_) (fun g125 => ?_)
        · replace h := iteT h g125
          conv => whnf
          refine Pick.no ?_
          conv => whnf
          obtain ⟨y126, e127, h⟩ := bind_ex h
          refine CallOk.of (impl_ordinalAt_2_ct e127) ?_
          conv => whnf
          refine spl (fun g128 => ?_) (fun g128 => ?_)
          · replace h := iteT h g128
            conv => whnf
            refine CutK.norm [0, 1, 2, 7, 8, 26, 27, 62] [0, 64] ?_
            conv => whnf
            refine CutK.norm [0, 1, 2, 7, 8, 26, 27] [0, 64] ?_
            conv => whnf
            refine splD (fun g129 => ?_) (fun g129 => ?_)
            · replace h := iteP h g129
              conv => whnf
              obtain ⟨g133, x130, x131, e132, h⟩ := row_si_ex h
              refine Req.of g133 ?_
              refine Row.of _ e132 ?_
              conv => whnf
              refine Pick.no ?_
              conv => whnf
              obtain ⟨y134, e135, h⟩ := bind_ex h
              refine CallOk.of (impl_cmp_ct e135) ?_
              conv => whnf
              refine splD (fun g136 => ?_) (fun g136 => ?_)
              · replace h := iteP h g136
                conv => whnf
                refine CutK.norm [0, 1, 2, 26, 27, 81] [0, 64] ?_
                conv => whnf
                cases h
                exact Done.of [some 0, some 64] [] rfl rfl ⟨⟨rfl, rfl⟩, ⟨rfl, ⟨rfl, rfl, trivial⟩, ⟨rfl, rfl, trivial⟩, trivial⟩, rfl, trivial⟩
              · replace h := iteN h g136
                conv => whnf
                refine CutK.norm [0, 1, 2, 26, 27, 81] [0, 64] ?_
                conv => whnf
                refine CutK.norm [0, 1, 2, 26, 27] [0, 64] ?_
                conv => whnf
                exact LoopOk.back (impl_ordinalAt_l0_ct hx rest (v76n + 1) _ hd1 h) [some 0, some 64] [] ⟨⟨rfl, rfl⟩, ⟨rfl, ⟨rfl, rfl, trivial⟩, ⟨rfl, rfl, trivial⟩, trivial⟩, ⟨rfl, rfl⟩, rfl, ⟨rfl, rfl⟩, rfl, i64eq (wrap_up hlt hx), trivial⟩
            · replace h := iteN h g129
              conv => whnf
              refine CutK.norm [0, 1, 2, 26, 27, 81] [0, 64] ?_
              conv => whnf
              refine CutK.norm [0, 1, 2, 26, 27] [0, 64] ?_
              conv => whnf
              exact LoopOk.back (impl_ordinalAt_l0_ct hx rest (v76n + 1) _ hd1 h) [some 0, some 64] [] ⟨⟨rfl, rfl⟩, ⟨rfl, ⟨rfl, rfl, trivial⟩, ⟨rfl, rfl, trivial⟩, trivial⟩, ⟨rfl, rfl⟩, rfl, ⟨rfl, rfl⟩, rfl, i64eq (wrap_up hlt hx), trivial⟩
          · replace h := iteF h g128
            conv => whnf
            refine CutK.norm [0, 1, 2, 7, 8, 26, 27, 62] [0, 64] ?_
            conv => whnf
            cases h
            exact Done.of [some 0, some 64] [] rfl rfl ⟨⟨rfl, rfl⟩, ⟨rfl, ⟨rfl, rfl, trivial⟩, ⟨rfl, rfl, trivial⟩, trivial⟩, rfl, trivial⟩
        · replace h := iteF h g125
          conv => whnf
          refine CutK.norm [0, 1, 2, 7, 8, 26, 27, 62] [0, 64] ?_
          conv => whnf
          cases h
          exact Done.of [some 0, some 64] [] rfl rfl ⟨⟨rfl, rfl⟩, ⟨rfl, ⟨rfl, rfl, trivial⟩, ⟨rfl, rfl, trivial⟩, trivial⟩, rfl, trivial⟩
def impl_ordinalAt (k : Nat) (a1 : Rw) (a2 : Int) (a3 : Int) : Option (Bool × Rw × Int) :=
  (if (60 : Int) < (IntKind.i64.wrap (a3 + 1)) then some (false, a1, IntKind.i64.wrap (a3 + 1)) else (if (6 : Int) < a2 then some (false, a1, IntKind.i64.wrap (a3 + 1)) else (if a1.length ≤ cap then (impl_ordinalAt_l0 k a1 a2 (fun (v98 : Int) => (impl_ordinalAt_p3 a1 v98)) a1 0 (IntKind.i64.wrap (a3 + 1))) else none)))
set_option maxHeartbeats 4000000 in
set_option maxRecDepth 100000 in
theorem impl_ordinalAt_ct {k : Nat} {a1 : Rw} {a2 : Int} {a3 : Int} {r : Bool × Rw × Int} (h : impl_ordinalAt k a1 a2 a3 = some r) : Ct prog 65 [.ptr 0 0, .d (D.int .i64 a2), .ptr 64 0] (⟨[(41, [.d (D.sl a1)]), (3, [.d (D.int .i64 a3)])], []⟩) (.d (D.bool r.1)) (⟨[(41, [.d (D.sl r.2.1)]), (3, [.d (D.int .i64 r.2.2)])], []⟩) := by
  rw [impl_ordinalAt] at h
  refine Ct.of (c := _) mixed func65 ⟨rfl, rfl, rfl⟩ ?_ rfl
  conv => whnf
  refine splD (fun g62 => ?_) (fun g62 => ?_)
  · replace h := iteP h g62
    conv => whnf
    cases h
    exact Done.of [some 0, some 64] [] rfl rfl ⟨⟨rfl, rfl⟩, ⟨rfl, ⟨rfl, rfl, trivial⟩, ⟨rfl, rfl, trivial⟩, trivial⟩, rfl, trivial⟩
  · replace h := iteN h g62
    conv => whnf
    refine splD (fun g63 => ?_) (fun g63 => ?_)
    · replace h := iteP h g63
      conv => whnf
      cases h
      exact Done.of [some 0, some 64] [] rfl rfl ⟨⟨rfl, rfl⟩, ⟨rfl, ⟨rfl, rfl, trivial⟩, ⟨rfl, rfl, trivial⟩, trivial⟩, rfl, trivial⟩
    · replace h := iteN h g63
      conv => whnf
      obtain ⟨g137, h⟩ := req_ex h
      refine LoopOk.into (impl_ordinalAt_l0_ct  g137 _ _ _ rfl h) [some 0, some 64] [] ⟨⟨rfl, rfl⟩, ⟨rfl, ⟨rfl, rfl, trivial⟩, ⟨rfl, rfl, trivial⟩, trivial⟩, ⟨rfl, rfl⟩, rfl, ⟨rfl, rfl⟩, rfl, rfl, trivial⟩ ?_ (fun _ hs => hs)
      rintro i ts os ⟨rfl, v98, h, rfl, rfl⟩
      conv => whnf
      exact CutK.piece (impl_ordinalAt_p3_ct  h) [some 0, some 64] [] ⟨⟨rfl, rfl⟩, ⟨rfl, ⟨rfl, rfl, trivial⟩, ⟨rfl, rfl, trivial⟩, trivial⟩, trivial⟩

def impl_IsOrdinal (k : Nat) (a1 : Rw) : Option Bool :=
  ((impl_ordinalAt k a1 0 0).bind fun y2 => (if y2.1 = true then some true else some false))
set_option maxHeartbeats 4000000 in
set_option maxRecDepth 100000 in
theorem impl_IsOrdinal_ct {k : Nat} {a1 : Rw} {r : Bool} (h : impl_IsOrdinal k a1 = some r) : Ct prog 42 [.agg [.d (D.sl a1)]] (⟨[], []⟩) (.d (D.bool r)) (⟨[], []⟩) := by
  rw [impl_IsOrdinal] at h
  refine Ct.of (c := _) mixed func42 ⟨rfl, rfl, rfl⟩ ?_ rfl
  conv => whnf
  refine Pick.no ?_
  conv => whnf
  obtain ⟨y2, e3, h⟩ := bind_ex h
  refine CallOk.of (impl_ordinalAt_ct e3) ?_
  conv => whnf
  refine spl (fun g4 => ?_) (fun g4 => ?_)
  · replace h := iteT h g4
    conv => whnf
    refine CutK.go ?_
    conv => whnf
    cases h
    exact Done.of [] [] rfl rfl ⟨⟨rfl, rfl⟩, ⟨rfl, trivial⟩, rfl, trivial⟩
  · replace h := iteF h g4
    conv => whnf
    refine CutK.go ?_
    conv => whnf
    cases h
    exact Done.of [] [] rfl rfl ⟨⟨rfl, rfl⟩, ⟨rfl, trivial⟩, rfl, trivial⟩

def impl_OrdinalText (k : Nat) (a1 : Rw) : Option (ByteArray × Bool) :=
  ((impl_IsOrdinal k a1).bind fun y2 => (if y2 = true then ((impl_ordinalText k a1 (ByteArray.mk #[119])).bind fun y5 => some (y5, true)) else some ((ByteArray.mk #[]), false)))
set_option maxHeartbeats 4000000 in
set_option maxRecDepth 100000 in
theorem impl_OrdinalText_ct {k : Nat} {a1 : Rw} {r : ByteArray × Bool} (h : impl_OrdinalText k a1 = some r) : Ct prog 18 [.agg [.d (D.sl a1)]] (⟨[], []⟩) (.tup [.d (D.str r.1), .d (D.bool r.2)]) (⟨[], []⟩) := by
  rw [impl_OrdinalText] at h
  refine Ct.of (c := _) mixed func18 ⟨rfl, rfl, rfl⟩ ?_ rfl
  conv => whnf
  refine Pick.no ?_
  conv => whnf
  obtain ⟨y2, e3, h⟩ := bind_ex h
  refine CallOk.of (impl_IsOrdinal_ct e3) ?_
  conv => whnf
  refine spl (fun g4 => ?_) (fun g4 => ?_)
  · replace h := iteT h g4
    conv => whnf
    refine CutK.go ?_
    conv => whnf
    refine CutK.go ?_
    conv => whnf
    refine Pick.no ?_
    conv => whnf
    obtain ⟨y5, e6, h⟩ := bind_ex h
    refine CallOk.of (impl_ordinalText_ct e6) ?_
    conv => whnf
    refine CutK.go ?_
    conv => whnf
    cases h
    exact Done.of [] [] rfl rfl ⟨⟨rfl, rfl⟩, ⟨rfl, trivial⟩, ⟨rfl, rfl, trivial⟩, trivial⟩
  · replace h := iteF h g4
    conv => whnf
    refine CutK.go ?_
    conv => whnf
    cases h
    exact Done.of [] [] rfl rfl ⟨⟨rfl, rfl⟩, ⟨rfl, trivial⟩, ⟨rfl, rfl, trivial⟩, trivial⟩

def impl_cloneOrdinal_l0 (rec_impl_cloneOrdinal : Rw → Option Rw) (a1 : Rw) (K0 : Rw → Option Rw) : Rw → Rw → Option Rw
  | [], v10 => (K0 v10)
  | cs :: rest, v10 => (cell_si cs fun x28 x29 => ((rec_impl_cloneOrdinal x28).bind fun y31 => (if v10.length + 1 ≤ cap then (impl_cloneOrdinal_l0 rec_impl_cloneOrdinal a1 K0 rest (v10 ++ ([[D.sl y31, D.int .i64 x29]]))) else none)))
set_option maxHeartbeats 4000000 in
set_option maxRecDepth 100000 in
theorem impl_cloneOrdinal_l0_ct {rec_impl_cloneOrdinal : Rw → Option Rw} {a1 : Rw} {K0 : Rw → Option Rw} (hrec_impl_cloneOrdinal : ∀ (a1 : Rw) (r : Rw), rec_impl_cloneOrdinal a1 = some r → Ct prog 64 [.agg [.d (D.sl a1)]] (⟨[], []⟩) (.agg [.os 8 r.length]) (⟨[], [(79, true, r)]⟩)) {r : Rw} (hx : a1.length ≤ cap) : ∀ (rest : Rw) (v9n : Nat) (v10 : Rw), a1.drop v9n = rest → impl_cloneOrdinal_l0 rec_impl_cloneOrdinal a1 K0 rest v10 = some r → LoopOk prog 0 (lp f64 0) (mk 27 [(2, .ptr 128 0), (3, .ptr 192 0), (8, .d (D.sl a1)), (9, .d (D.int .i64 (a1.length : Int))), (10, .d (D.int .i64 (v9n : Int)))] [(128, .box 41 [.es]), (192, .box 41 [.os 64000 v10.length]), (64000, .arr 79 true v10)]) (LoopEnd prog f64 0 27 (.agg [.os 8 r.length]) (⟨[], [(79, true, r)]⟩) (fun i ts os => (i = 0 ∧ ∃ v19 : Rw, K0 v19 = some r ∧ ts = [(2, .ptr 128 0), (3, .ptr 192 0)] ∧ os = [(128, .box 41 [.es]), (192, .box 41 [.os 67001 v19.length]), (67001, .arr 79 true v19)])))
  | [], v9n, v10, hd, h => by
      rw [impl_cloneOrdinal_l0] at h
      have hn := drop_nil hd
      refine LoopOk.step ?_
      conv => whnf
      refine splD (fun g => absurd g hn) (fun _ => ?_)
      conv => whnf
      exact ⟨_, _, [some 128, some 192, some 64000], [], ⟨rfl, _, h, rfl, rfl⟩, ⟨⟨rfl, rfl⟩, ⟨rfl, ⟨rfl, trivial, trivial⟩, ⟨rfl, ⟨rfl, rfl⟩, trivial⟩, ⟨rfl, rfl, rows_same⟩, trivial⟩, ⟨rfl, rfl⟩, ⟨rfl, rfl⟩, trivial⟩⟩
  | cs :: rest, v9n, v10, hd, h => by
      rw [impl_cloneOrdinal_l0] at h
      obtain ⟨hrow, hd1, hlt⟩ := drop_cons hd
      refine LoopOk.step ?_
      conv => whnf
      refine splD (fun _ => ?_) (fun g => absurd hlt g)
      conv => whnf
      obtain ⟨x28, x29, e30, h⟩ := cell_si_ex h
      rw [e30] at hrow
      refine Req.of (Int.natCast_nonneg _) ?_
      refine Row.of _ hrow ?_
      conv => whnf
      refine Pick.no ?_
      conv => whnf
      obtain ⟨y31, e32, h⟩ := bind_ex h
      refine CallOk.of (hrec_impl_cloneOrdinal _ _ e32) ?_
      conv => whnf
      refine Take.all (rfl) ?_
      conv => whnf
      refine Take.all (rfl) ?_
      conv => whnf
      refine Take.all (by first | rfl | exact List.length_append.symm | (simp; done) | omega | (dsimp only; omega)) ?_
      conv => whnf
      obtain ⟨g33, h⟩ := req_ex h
      refine Req.of (room (b := 32) (by decide) g33 (wide1 rfl wide0)) ?_
      conv => whnf
      refine CutK.go ?_
      conv => whnf
      exact LoopOk.back (impl_cloneOrdinal_l0_ct hrec_impl_cloneOrdinal hx rest (v9n + 1) _ hd1 h) [some 128, some 192, some 1472] [] ⟨⟨rfl, rfl⟩, ⟨rfl, ⟨rfl, trivial, trivial⟩, ⟨rfl, ⟨(by first | rfl | exact List.length_append.symm | (simp; done) | omega | (dsimp only; omega)), rfl⟩, trivial⟩, ⟨rfl, rfl, rows_same⟩, trivial⟩, ⟨rfl, rfl⟩, ⟨rfl, rfl⟩, rfl, rfl, i64eq (wrap_up hlt hx), trivial⟩
def impl_cloneOrdinal_b (rec_impl_cloneOrdinal : Rw → Option Rw) (a1 : Rw) : Option Rw :=
  (if a1.length ≤ cap then (impl_cloneOrdinal_l0 rec_impl_cloneOrdinal a1 (fun (v19 : Rw) => some v19) a1 ([] : Rw)) else none)
set_option maxHeartbeats 4000000 in
set_option maxRecDepth 100000 in
theorem impl_cloneOrdinal_b_ct {rec_impl_cloneOrdinal : Rw → Option Rw} (hrec_impl_cloneOrdinal : ∀ (a1 : Rw) (r : Rw), rec_impl_cloneOrdinal a1 = some r → Ct prog 64 [.agg [.d (D.sl a1)]] (⟨[], []⟩) (.agg [.os 8 r.length]) (⟨[], [(79, true, r)]⟩)) {a1 : Rw} {r : Rw} (h : impl_cloneOrdinal_b rec_impl_cloneOrdinal a1 = some r) : Ct prog 64 [.agg [.d (D.sl a1)]] (⟨[], []⟩) (.agg [.os 8 r.length]) (⟨[], [(79, true, r)]⟩) := by
  rw [impl_cloneOrdinal_b] at h
  refine Ct.of (c := _) mixed func64 ⟨rfl, rfl, rfl⟩ ?_ rfl
  conv => whnf
  obtain ⟨g34, h⟩ := req_ex h
  refine LoopOk.into (impl_cloneOrdinal_l0_ct hrec_impl_cloneOrdinal g34 _ _ _ rfl h) [some 128, some 192, none] [] ⟨⟨rfl, rfl⟩, ⟨rfl, ⟨rfl, trivial, trivial⟩, ⟨rfl, ⟨rfl, rfl⟩, trivial⟩, rfl, trivial⟩, ⟨rfl, rfl⟩, ⟨rfl, rfl⟩, rfl, rfl, rfl, trivial⟩ ?_ (fun _ hs => hs)
  rintro i ts os ⟨rfl, v19, h, rfl, rfl⟩
  conv => whnf
  refine CutK.go ?_
  conv => whnf
  cases h
  exact Done.of [some 67001] [] rfl rfl ⟨⟨rfl, rfl⟩, ⟨rfl, ⟨rfl, rfl, rows_same⟩, trivial⟩, ⟨⟨rfl, rfl⟩, trivial⟩, trivial⟩
def impl_cloneOrdinal : Nat → Rw → Option Rw
  | 0, _ => none
  | k + 1, a1 => impl_cloneOrdinal_b (impl_cloneOrdinal k) a1
theorem impl_cloneOrdinal_ct' : ∀ (k : Nat) (a1 : Rw) (r : Rw), impl_cloneOrdinal k a1 = some r → Ct prog 64 [.agg [.d (D.sl a1)]] (⟨[], []⟩) (.agg [.os 8 r.length]) (⟨[], [(79, true, r)]⟩)
  | 0, _, _, h => by rw [impl_cloneOrdinal] at h; cases h
  | k + 1, _, _, h => by rw [impl_cloneOrdinal] at h; exact impl_cloneOrdinal_b_ct (impl_cloneOrdinal_ct' k) h
theorem impl_cloneOrdinal_ct {k : Nat} {a1 : Rw} {r : Rw} (h : impl_cloneOrdinal k a1 = some r) : Ct prog 64 [.agg [.d (D.sl a1)]] (⟨[], []⟩) (.agg [.os 8 r.length]) (⟨[], [(79, true, r)]⟩) := impl_cloneOrdinal_ct' k _ _ h

def impl_told (k : Nat) (a1 : Rw) : Option (Rw × Bool) :=
  ((impl_IsOrdinal k a1).bind fun y2 => (if y2 = true then ((impl_cloneOrdinal k a1).bind fun y5 => some (y5, true)) else some (([] : Rw), false)))
set_option maxHeartbeats 4000000 in
set_option maxRecDepth 100000 in
theorem impl_told_ct {k : Nat} {a1 : Rw} {r : Rw × Bool} (h : impl_told k a1 = some r) : Ct prog 41 [.agg [.d (D.sl a1)]] (⟨[], []⟩) (.tup [.agg [.os 8 r.1.length], .d (D.bool r.2)]) (⟨[], [(79, true, r.1)]⟩) := by
  rw [impl_told] at h
  refine Ct.of (c := _) mixed func41 ⟨rfl, rfl, rfl⟩ ?_ rfl
  conv => whnf
  refine Pick.no ?_
  conv => whnf
  obtain ⟨y2, e3, h⟩ := bind_ex h
  refine CallOk.of (impl_IsOrdinal_ct e3) ?_
  conv => whnf
  refine spl (fun g4 => ?_) (fun g4 => ?_)
  · replace h := iteT h g4
    conv => whnf
    refine CutK.go ?_
    conv => whnf
    refine CutK.go ?_
    conv => whnf
    refine Pick.no ?_
    conv => whnf
    obtain ⟨y5, e6, h⟩ := bind_ex h
    refine CallOk.of (impl_cloneOrdinal_ct e6) ?_
    conv => whnf
    refine CutK.go ?_
    conv => whnf
    cases h
    exact Done.of [some 576] [] rfl rfl ⟨⟨rfl, rfl⟩, ⟨rfl, ⟨rfl, rfl, rows_same⟩, trivial⟩, ⟨⟨⟨rfl, rfl⟩, trivial⟩, rfl, trivial⟩, trivial⟩
  · replace h := iteF h g4
    conv => whnf
    refine CutK.go ?_
    conv => whnf
    cases h
    exact Done.of [none] [] rfl rfl ⟨⟨rfl, rfl⟩, ⟨rfl, rfl, trivial⟩, ⟨⟨⟨rfl, rfl⟩, trivial⟩, rfl, trivial⟩, trivial⟩

def impl_HereditaryOrdinal (k : Nat) (a1 : Int) (a2 : Int) : Option (Rw × Bool) :=
  ((impl_in a1 0 1000000).bind fun y3 => (if y3 = true then ((impl_baseOk a2).bind fun y6 => (if y6 = true then ((impl_hereditary k a1 a2).bind fun y9 => ((impl_told k y9).bind fun y11 => (if y11.2 = true then some (y11.1, true) else some (y11.1, false)))) else some (([] : Rw), false))) else some (([] : Rw), false)))
set_option maxHeartbeats 4000000 in
set_option maxRecDepth 100000 in
theorem impl_HereditaryOrdinal_ct {k : Nat} {a1 : Int} {a2 : Int} {r : Rw × Bool} (h : impl_HereditaryOrdinal k a1 a2 = some r) : Ct prog 17 [.d (D.int .i64 a1), .d (D.int .i64 a2)] (⟨[], []⟩) (.tup [.agg [.os 8 r.1.length], .d (D.bool r.2)]) (⟨[], [(79, true, r.1)]⟩) := by
  rw [impl_HereditaryOrdinal] at h
  refine Ct.of (c := _) mixed func17 ⟨rfl, rfl, rfl⟩ ?_ rfl
  conv => whnf
  refine Pick.no ?_
  conv => whnf
  obtain ⟨y3, e4, h⟩ := bind_ex h
  refine CallOk.of (impl_in_ct e4) ?_
  conv => whnf
  refine spl (fun g5 => ?_) (fun g5 => ?_)
  · replace h := iteT h g5
    conv => whnf
    refine Pick.no ?_
    conv => whnf
    obtain ⟨y6, e7, h⟩ := bind_ex h
    refine CallOk.of (impl_baseOk_ct e7) ?_
    conv => whnf
    refine spl (fun g8 => ?_) (fun g8 => ?_)
    · replace h := iteT h g8
      conv => whnf
      refine CutK.go ?_
      conv => whnf
      refine CutK.go ?_
      conv => whnf
      refine Pick.no ?_
      conv => whnf
      obtain ⟨y9, e10, h⟩ := bind_ex h
      refine CallOk.of (impl_hereditary_ct e10) ?_
      conv => whnf
      refine Pick.no ?_
      conv => whnf
      refine Take.all (rfl) ?_
      conv => whnf
      obtain ⟨y11, e12, h⟩ := bind_ex h
      refine CallOk.of (impl_told_ct e12) ?_
      conv => whnf
      refine spl (fun g13 => ?_) (fun g13 => ?_)
      · replace h := iteT h g13
        conv => whnf
        refine CutK.go ?_
        conv => whnf
        cases h
        exact Done.of [some 1152] [] rfl rfl ⟨⟨rfl, rfl⟩, ⟨rfl, ⟨rfl, rfl, rows_same⟩, trivial⟩, ⟨⟨⟨rfl, rfl⟩, trivial⟩, rfl, trivial⟩, trivial⟩
      · replace h := iteF h g13
        conv => whnf
        refine CutK.go ?_
        conv => whnf
        cases h
        exact Done.of [some 1152] [] rfl rfl ⟨⟨rfl, rfl⟩, ⟨rfl, ⟨rfl, rfl, rows_same⟩, trivial⟩, ⟨⟨⟨rfl, rfl⟩, trivial⟩, rfl, trivial⟩, trivial⟩
    · replace h := iteF h g8
      conv => whnf
      refine CutK.go ?_
      conv => whnf
      cases h
      exact Done.of [none] [] rfl rfl ⟨⟨rfl, rfl⟩, ⟨rfl, rfl, trivial⟩, ⟨⟨⟨rfl, rfl⟩, trivial⟩, rfl, trivial⟩, trivial⟩
  · replace h := iteF h g5
    conv => whnf
    refine CutK.go ?_
    conv => whnf
    cases h
    exact Done.of [none] [] rfl rfl ⟨⟨rfl, rfl⟩, ⟨rfl, rfl, trivial⟩, ⟨⟨⟨rfl, rfl⟩, trivial⟩, rfl, trivial⟩, trivial⟩

def spec_l1In  (a1 : Int) (a2 : Int) (a3 : Int) : Option Bool :=
  (if a2 ≤ a1 then (if a1 ≤ a3 then some true else some false) else some false)
set_option maxHeartbeats 4000000 in
set_option maxRecDepth 100000 in
theorem spec_l1In_ct  {a1 : Int} {a2 : Int} {a3 : Int} {r : Bool} (h : spec_l1In a1 a2 a3 = some r) : Ct prog 54 [.d (D.int .i64 a1), .d (D.int .i64 a2), .d (D.int .i64 a3)] (⟨[], []⟩) (.d (D.bool r)) (⟨[], []⟩) := by
  rw [spec_l1In] at h
  refine Ct.of (c := _) mixed func54 ⟨rfl, rfl, rfl⟩ ?_ rfl
  conv => whnf
  refine splD (fun g4 => ?_) (fun g4 => ?_)
  · replace h := iteP h g4
    conv => whnf
    refine splD (fun g5 => ?_) (fun g5 => ?_)
    · replace h := iteP h g5
      conv => whnf
      cases h
      exact Done.of [] [] rfl rfl ⟨⟨rfl, rfl⟩, ⟨rfl, trivial⟩, rfl, trivial⟩
    · replace h := iteN h g5
      conv => whnf
      cases h
      exact Done.of [] [] rfl rfl ⟨⟨rfl, rfl⟩, ⟨rfl, trivial⟩, rfl, trivial⟩
  · replace h := iteN h g4
    conv => whnf
    cases h
    exact Done.of [] [] rfl rfl ⟨⟨rfl, rfl⟩, ⟨rfl, trivial⟩, rfl, trivial⟩

def spec_deBase  (a1 : Int) (a2 : Int) : Option Bool :=
  ((spec_l1In a1 0 1000000).bind fun y3 => (if y3 = true then ((spec_l1In a2 2 1000).bind fun y6 => (if y6 = true then some true else some false)) else some false))
set_option maxHeartbeats 4000000 in
set_option maxRecDepth 100000 in
theorem spec_deBase_ct  {a1 : Int} {a2 : Int} {r : Bool} (h : spec_deBase a1 a2 = some r) : Ct prog 30 [.d (D.int .i64 a1), .d (D.int .i64 a2)] (⟨[], []⟩) (.d (D.bool r)) (⟨[], []⟩) := by
  rw [spec_deBase] at h
  refine Ct.of (c := _) mixed func30 ⟨rfl, rfl, rfl⟩ ?_ rfl
  conv => whnf
  refine Pick.no ?_
  conv => whnf
  obtain ⟨y3, e4, h⟩ := bind_ex h
  refine CallOk.of (spec_l1In_ct e4) ?_
  conv => whnf
  refine spl (fun g5 => ?_) (fun g5 => ?_)
  · replace h := iteT h g5
    conv => whnf
    refine Pick.no ?_
    conv => whnf
    obtain ⟨y6, e7, h⟩ := bind_ex h
    refine CallOk.of (spec_l1In_ct e7) ?_
    conv => whnf
    refine spl (fun g8 => ?_) (fun g8 => ?_)
    · replace h := iteT h g8
      conv => whnf
      refine CutK.go ?_
      conv => whnf
      cases h
      exact Done.of [] [] rfl rfl ⟨⟨rfl, rfl⟩, ⟨rfl, trivial⟩, rfl, trivial⟩
    · replace h := iteF h g8
      conv => whnf
      refine CutK.go ?_
      conv => whnf
      cases h
      exact Done.of [] [] rfl rfl ⟨⟨rfl, rfl⟩, ⟨rfl, trivial⟩, rfl, trivial⟩
  · replace h := iteF h g5
    conv => whnf
    refine CutK.go ?_
    conv => whnf
    cases h
    exact Done.of [] [] rfl rfl ⟨⟨rfl, rfl⟩, ⟨rfl, trivial⟩, rfl, trivial⟩

def spec_deForm_l0 (rec_spec_deForm : Int → Int → Option Rw) (a2 : Int) (K0 : Rw → Option Rw) : Nat → Int → Int → Rw → Option Rw
  | 0, _, _, _ => none
  | n + 1, v9, v10, v11 => (if (0 : Int) < v9 then (if a2 ≠ 0 then (if (0 : Int) < (v9.tmod a2) then ((rec_spec_deForm v10 a2).bind fun y28 => (if ([[D.sl y28, D.int .i64 (v9.tmod a2)]] : Rw).length + v11.length ≤ cap ∧ (∀ cs ∈ v11, cs.length = 2) then (spec_deForm_l0 rec_spec_deForm a2 K0 n (IntKind.i64.wrap (v9.tdiv a2)) (IntKind.i64.wrap (v10 + 1)) (([[D.sl y28, D.int .i64 (v9.tmod a2)]]) ++ v11)) else none)) else (spec_deForm_l0 rec_spec_deForm a2 K0 n (IntKind.i64.wrap (v9.tdiv a2)) (IntKind.i64.wrap (v10 + 1)) v11)) else none) else (K0 v11))
set_option maxHeartbeats 4000000 in
set_option maxRecDepth 100000 in
theorem spec_deForm_l0_ct {rec_spec_deForm : Int → Int → Option Rw} {a2 : Int} {K0 : Rw → Option Rw} (hrec_spec_deForm : ∀ (a1 : Int) (a2 : Int) (r : Rw), rec_spec_deForm a1 a2 = some r → Ct prog 32 [.d (D.int .i64 a1), .d (D.int .i64 a2)] (⟨[], []⟩) (.agg [.os 8 r.length]) (⟨[], [(79, true, r)]⟩)) {r : Rw} : ∀ (n : Nat) (v9 : Int) (v10 : Int) (v11 : Rw), spec_deForm_l0 rec_spec_deForm a2 K0 n v9 v10 v11 = some r → LoopOk prog 0 (lp f32 0) (mk 34 [(0, .d (D.int .i64 v9)), (1, .d (D.int .i64 a2)), (4, .ptr 256 0), (5, .ptr 320 0), (6, .d (D.int .i64 v10))] [(256, .box 41 [.es]), (320, .box 41 [.os 64000 v11.length]), (64000, .arr 79 true v11)]) (LoopEnd prog f32 0 34 (.agg [.os 8 r.length]) (⟨[], [(79, true, r)]⟩) (fun i ts os => (i = 0 ∧ ∃ v18 : Rw, K0 v18 = some r ∧ ts = [(4, .ptr 256 0), (5, .ptr 320 0)] ∧ os = [(256, .box 41 [.es]), (320, .box 41 [.os 67001 v18.length]), (67001, .arr 79 true v18)])))
  | 0, _, _, _, h => by
      rw [spec_deForm_l0] at h; cases h
  | n + 1, v9, v10, v11, h => by
      rw [spec_deForm_l0] at h
      refine LoopOk.step ?_
      conv => whnf
      refine splD (fun g25 => ?_) (fun g25 => ?_)
      · replace h := iteP h g25
        conv => whnf
        obtain ⟨g26, h⟩ := req_ex h
        refine Req.of g26 ?_
        conv => whnf
        refine splD (fun g27 => ?_) (fun g27 => ?_)
        · replace h := iteP h g27
          conv => whnf
          refine Pick.no ?_
          conv => whnf
          obtain ⟨y28, e29, h⟩ := bind_ex h
          refine CallOk.of (hrec_spec_deForm _ _ _ e29) ?_
          conv => whnf
          refine Req.of g26 ?_
          conv => whnf
          refine CutK.norm [0, 1, 4, 5, 6, 7] [256, 320, 448, 1216, 64000] ?_
          conv => whnf
          refine Take.all (rfl) ?_
          conv => whnf
          refine Take.all (by first | rfl | exact List.length_append.symm | (simp; done) | omega | (dsimp only; omega)) ?_
          conv => whnf
          refine Take.all (rfl) ?_
          conv => whnf
          obtain ⟨g30, h⟩ := req_ex h
          refine Req.of (room (b := 32) (by decide) g30.1 g30.2) ?_
          conv => whnf
          refine CutK.norm [0, 1, 4, 5, 6] [256, 320, 1792] ?_
          conv => whnf
          refine Req.of g26 ?_
          conv => whnf
          refine CutK.norm [0, 1, 4, 5, 6] [256, 320, 1792] ?_
          conv => whnf
          exact LoopOk.back (spec_deForm_l0_ct hrec_spec_deForm n _ _ _ h) [some 256, some 320, some 1792] [] ⟨⟨rfl, rfl⟩, ⟨rfl, ⟨rfl, trivial, trivial⟩, ⟨rfl, ⟨(by first | rfl | exact List.length_append.symm | (simp; done) | omega | (dsimp only; omega)), rfl⟩, trivial⟩, ⟨rfl, rfl, rows_same⟩, trivial⟩, rfl, rfl, ⟨rfl, rfl⟩, ⟨rfl, rfl⟩, rfl, trivial⟩
        · replace h := iteN h g27
          conv => whnf
          refine CutK.norm [0, 1, 4, 5, 6] [256, 320, 64000] ?_
          conv => whnf
          refine Req.of g26 ?_
          conv => whnf
          refine CutK.norm [0, 1, 4, 5, 6] [256, 320, 64000] ?_
          conv => whnf
          exact LoopOk.back (spec_deForm_l0_ct hrec_spec_deForm n _ _ _ h) [some 256, some 320, some 64000] [] ⟨⟨rfl, rfl⟩, ⟨rfl, ⟨rfl, trivial, trivial⟩, ⟨rfl, ⟨rfl, rfl⟩, trivial⟩, ⟨rfl, rfl, rows_same⟩, trivial⟩, rfl, rfl, ⟨rfl, rfl⟩, ⟨rfl, rfl⟩, rfl, trivial⟩
      · replace h := iteN h g25
        conv => whnf
        exact ⟨_, _, [some 256, some 320, some 64000], [], ⟨rfl, _, h, rfl, rfl⟩, ⟨⟨rfl, rfl⟩, ⟨rfl, ⟨rfl, trivial, trivial⟩, ⟨rfl, ⟨rfl, rfl⟩, trivial⟩, ⟨rfl, rfl, rows_same⟩, trivial⟩, ⟨rfl, rfl⟩, ⟨rfl, rfl⟩, trivial⟩⟩
def spec_deForm_b (k : Nat) (rec_spec_deForm : Int → Int → Option Rw) (a1 : Int) (a2 : Int) : Option Rw :=
  (spec_deForm_l0 rec_spec_deForm a2 (fun (v18 : Rw) => some v18) k a1 0 ([] : Rw))
set_option maxHeartbeats 4000000 in
set_option maxRecDepth 100000 in
theorem spec_deForm_b_ct {k : Nat} {rec_spec_deForm : Int → Int → Option Rw} (hrec_spec_deForm : ∀ (a1 : Int) (a2 : Int) (r : Rw), rec_spec_deForm a1 a2 = some r → Ct prog 32 [.d (D.int .i64 a1), .d (D.int .i64 a2)] (⟨[], []⟩) (.agg [.os 8 r.length]) (⟨[], [(79, true, r)]⟩)) {a1 : Int} {a2 : Int} {r : Rw} (h : spec_deForm_b k rec_spec_deForm a1 a2 = some r) : Ct prog 32 [.d (D.int .i64 a1), .d (D.int .i64 a2)] (⟨[], []⟩) (.agg [.os 8 r.length]) (⟨[], [(79, true, r)]⟩) := by
  rw [spec_deForm_b] at h
  refine Ct.of (c := _) mixed func32 ⟨rfl, rfl, rfl⟩ ?_ rfl
  conv => whnf
  refine LoopOk.into (spec_deForm_l0_ct hrec_spec_deForm _ _ _ _ h) [some 256, some 320, none] [] ⟨⟨rfl, rfl⟩, ⟨rfl, ⟨rfl, trivial, trivial⟩, ⟨rfl, ⟨rfl, rfl⟩, trivial⟩, rfl, trivial⟩, rfl, rfl, ⟨rfl, rfl⟩, ⟨rfl, rfl⟩, rfl, trivial⟩ ?_ (fun _ hs => hs)
  rintro i ts os ⟨rfl, v18, h, rfl, rfl⟩
  conv => whnf
  refine CutK.norm [4, 5] [256, 320, 67001] ?_
  conv => whnf
  cases h
  exact Done.of [some 67001] [] rfl rfl ⟨⟨rfl, rfl⟩, ⟨rfl, ⟨rfl, rfl, rows_same⟩, trivial⟩, ⟨⟨rfl, rfl⟩, trivial⟩, trivial⟩
def spec_deForm : Nat → Int → Int → Option Rw
  | 0, _, _ => none
  | k + 1, a1, a2 => spec_deForm_b k (spec_deForm k) a1 a2
theorem spec_deForm_ct' : ∀ (k : Nat) (a1 : Int) (a2 : Int) (r : Rw), spec_deForm k a1 a2 = some r → Ct prog 32 [.d (D.int .i64 a1), .d (D.int .i64 a2)] (⟨[], []⟩) (.agg [.os 8 r.length]) (⟨[], [(79, true, r)]⟩)
  | 0, _, _, _, h => by rw [spec_deForm] at h; cases h
  | k + 1, _, _, _, h => by rw [spec_deForm] at h; exact spec_deForm_b_ct (spec_deForm_ct' k) h
theorem spec_deForm_ct {k : Nat} {a1 : Int} {a2 : Int} {r : Rw} (h : spec_deForm k a1 a2 = some r) : Ct prog 32 [.d (D.int .i64 a1), .d (D.int .i64 a2)] (⟨[], []⟩) (.agg [.os 8 r.length]) (⟨[], [(79, true, r)]⟩) := spec_deForm_ct' k _ _ _ h

def spec_l1Num_b (rec_spec_l1Num : Int → Option ByteArray) (a1 : Int) : Option ByteArray :=
  (if a1 < (10 : Int) then ((strD ([[D.int .u8 (IntKind.u8.wrap (IntKind.i64.wrap (48 + a1)))]] : Rw)).bind fun y3 => some y3) else ((rec_spec_l1Num (IntKind.i64.wrap (a1.tdiv 10))).bind fun y5 => ((strD ([[D.int .u8 (IntKind.u8.wrap (IntKind.i64.wrap (48 + (a1.tmod 10))))]] : Rw)).bind fun y7 => (if y5.size + y7.size ≤ 9223372036854775807 then some (y5 ++ y7) else none))))
set_option maxHeartbeats 4000000 in
set_option maxRecDepth 100000 in
theorem spec_l1Num_b_ct {rec_spec_l1Num : Int → Option ByteArray} (hrec_spec_l1Num : ∀ (a1 : Int) (r : ByteArray), rec_spec_l1Num a1 = some r → Ct prog 33 [.d (D.int .i64 a1)] (⟨[], []⟩) (.d (D.str r)) (⟨[], []⟩)) {a1 : Int} {r : ByteArray} (h : spec_l1Num_b rec_spec_l1Num a1 = some r) : Ct prog 33 [.d (D.int .i64 a1)] (⟨[], []⟩) (.d (D.str r)) (⟨[], []⟩) := by
  rw [spec_l1Num_b] at h
  refine Ct.of (c := _) mixed func33 ⟨rfl, rfl, rfl⟩ ?_ rfl
  conv => whnf
  refine splD (fun g2 => ?_) (fun g2 => ?_)
  · replace h := iteP h g2
    conv => whnf
    obtain ⟨y3, e4, h⟩ := bind_ex h
    refine StrOk.of e4 (by first | rfl | exact List.length_append.symm | (simp; done) | omega | (dsimp only; omega)) ?_
    conv => whnf
    cases h
    exact Done.of [] [] rfl rfl ⟨⟨rfl, rfl⟩, ⟨rfl, trivial⟩, rfl, trivial⟩
  · replace h := iteN h g2
    conv => whnf
    refine Req.of (by decide) ?_
    conv => whnf
    refine Pick.no ?_
    conv => whnf
    obtain ⟨y5, e6, h⟩ := bind_ex h
    refine CallOk.of (hrec_spec_l1Num _ _ e6) ?_
    conv => whnf
    refine Req.of (by decide) ?_
    conv => whnf
    obtain ⟨y7, e8, h⟩ := bind_ex h
    refine StrOk.of e8 (by first | rfl | exact List.length_append.symm | (simp; done) | omega | (dsimp only; omega)) ?_
    conv => whnf
    obtain ⟨g9, h⟩ := req_ex h
    refine Req.of g9 ?_
    conv => whnf
    refine CutK.go ?_
    conv => whnf
    cases h
    exact Done.of [] [] rfl rfl ⟨⟨rfl, rfl⟩, ⟨rfl, trivial⟩, rfl, trivial⟩
def spec_l1Num : Nat → Int → Option ByteArray
  | 0, _ => none
  | k + 1, a1 => spec_l1Num_b (spec_l1Num k) a1
theorem spec_l1Num_ct' : ∀ (k : Nat) (a1 : Int) (r : ByteArray), spec_l1Num k a1 = some r → Ct prog 33 [.d (D.int .i64 a1)] (⟨[], []⟩) (.d (D.str r)) (⟨[], []⟩)
  | 0, _, _, h => by rw [spec_l1Num] at h; cases h
  | k + 1, _, _, h => by rw [spec_l1Num] at h; exact spec_l1Num_b_ct (spec_l1Num_ct' k) h
theorem spec_l1Num_ct {k : Nat} {a1 : Int} {r : ByteArray} (h : spec_l1Num k a1 = some r) : Ct prog 33 [.d (D.int .i64 a1)] (⟨[], []⟩) (.d (D.str r)) (⟨[], []⟩) := spec_l1Num_ct' k _ _ h

def spec_odZero  (a1 : Rw) : Option Bool :=
  (if (a1.length : Int) = (0 : Int) then some true else some false)
set_option maxHeartbeats 4000000 in
set_option maxRecDepth 100000 in
theorem spec_odZero_ct  {a1 : Rw} {r : Bool} (h : spec_odZero a1 = some r) : Ct prog 55 [.agg [.d (D.sl a1)]] (⟨[], []⟩) (.d (D.bool r)) (⟨[], []⟩) := by
  rw [spec_odZero] at h
  refine Ct.of (c := _) mixed func55 ⟨rfl, rfl, rfl⟩ ?_ rfl
  conv => whnf
  refine splD (fun g2 => ?_) (fun g2 => ?_)
  · replace h := iteP h g2
    conv => whnf
    cases h
    exact Done.of [] [] rfl rfl ⟨⟨rfl, rfl⟩, ⟨rfl, trivial⟩, rfl, trivial⟩
  · replace h := iteN h g2
    conv => whnf
    cases h
    exact Done.of [] [] rfl rfl ⟨⟨rfl, rfl⟩, ⟨rfl, trivial⟩, rfl, trivial⟩

def spec_odTerm  (a1 : Rw) (a2 : Int) : Option Rw :=
  (if a2 = (0 : Int) then some ([] : Rw) else some ([[D.sl a1, D.int .i64 a2]] : Rw))
set_option maxHeartbeats 4000000 in
set_option maxRecDepth 100000 in
theorem spec_odTerm_ct  {a1 : Rw} {a2 : Int} {r : Rw} (h : spec_odTerm a1 a2 = some r) : Ct prog 82 [.agg [.d (D.sl a1)], .d (D.int .i64 a2)] (⟨[], []⟩) (.agg [.os 8 r.length]) (⟨[], [(79, false, r)]⟩) := by
  rw [spec_odTerm] at h
  refine Ct.of (c := _) mixed func82 ⟨rfl, rfl, rfl⟩ ?_ rfl
  conv => whnf
  refine splD (fun g3 => ?_) (fun g3 => ?_)
  · replace h := iteP h g3
    conv => whnf
    cases h
    exact Done.of [none] [] rfl rfl ⟨⟨rfl, rfl⟩, ⟨rfl, rfl, trivial⟩, ⟨⟨rfl, rfl⟩, trivial⟩, trivial⟩
  · replace h := iteN h g3
    conv => whnf
    cases h
    exact Done.of [some 704] [] rfl rfl ⟨⟨rfl, rfl⟩, ⟨rfl, ⟨rfl, rfl, rows_same⟩, trivial⟩, ⟨⟨(by first | rfl | exact List.length_append.symm | (simp; done) | omega | (dsimp only; omega)), rfl⟩, trivial⟩, trivial⟩

def spec_odInt  (a1 : Int) : Option Rw :=
  ((spec_odTerm ([] : Rw) a1).bind fun y2 => some y2)
set_option maxHeartbeats 4000000 in
set_option maxRecDepth 100000 in
theorem spec_odInt_ct  {a1 : Int} {r : Rw} (h : spec_odInt a1 = some r) : Ct prog 57 [.d (D.int .i64 a1)] (⟨[], []⟩) (.agg [.os 8 r.length]) (⟨[], [(79, false, r)]⟩) := by
  rw [spec_odInt] at h
  refine Ct.of (c := _) mixed func57 ⟨rfl, rfl, rfl⟩ ?_ rfl
  conv => whnf
  refine Pick.no ?_
  conv => whnf
  obtain ⟨y2, e3, h⟩ := bind_ex h
  refine CallOk.of (spec_odTerm_ct e3) ?_
  conv => whnf
  refine CutK.go ?_
  conv => whnf
  cases h
  exact Done.of [some 320] [] rfl rfl ⟨⟨rfl, rfl⟩, ⟨rfl, ⟨rfl, rfl, rows_same⟩, trivial⟩, ⟨⟨rfl, rfl⟩, trivial⟩, trivial⟩

def spec_l1Sign  (a1 : Int) : Option Int :=
  (if (0 : Int) < a1 then some 1 else (if a1 < (0 : Int) then some (-1) else some 0))
set_option maxHeartbeats 4000000 in
set_option maxRecDepth 100000 in
theorem spec_l1Sign_ct  {a1 : Int} {r : Int} (h : spec_l1Sign a1 = some r) : Ct prog 81 [.d (D.int .i64 a1)] (⟨[], []⟩) (.d (D.int .i64 r)) (⟨[], []⟩) := by
  rw [spec_l1Sign] at h
  refine Ct.of (c := _) mixed func81 ⟨rfl, rfl, rfl⟩ ?_ rfl
  conv => whnf
  refine splD (fun g2 => ?_) (fun g2 => ?_)
  · replace h := iteP h g2
    conv => whnf
    cases h
    exact Done.of [] [] rfl rfl ⟨⟨rfl, rfl⟩, ⟨rfl, trivial⟩, rfl, trivial⟩
  · replace h := iteN h g2
    conv => whnf
    refine splD (fun g3 => ?_) (fun g3 => ?_)
    · replace h := iteP h g3
      conv => whnf
      cases h
      exact Done.of [] [] rfl rfl ⟨⟨rfl, rfl⟩, ⟨rfl, trivial⟩, rfl, trivial⟩
    · replace h := iteN h g3
      conv => whnf
      cases h
      exact Done.of [] [] rfl rfl ⟨⟨rfl, rfl⟩, ⟨rfl, trivial⟩, rfl, trivial⟩

def spec_odCmp_p2 (a1 : Rw) (a2 : Rw) : Option Int :=
  (if (a1.length : Int) < (a2.length : Int) then some (-1) else some 0)
set_option maxHeartbeats 4000000 in
set_option maxRecDepth 100000 in
theorem spec_odCmp_p2_ct {a1 : Rw} {a2 : Rw} {r : Int} (h : spec_odCmp_p2 a1 a2 = some r) : X prog 0 (tlF f56 2) (mk 60 [(2, .ptr 128 0), (3, .ptr 192 0)] [(128, .box 41 [.d (D.sl a1)]), (192, .box 41 [.d (D.sl a2)])]) (finK prog f56 0 (.d (D.int .i64 r)) (⟨[], []⟩)) := by
  rw [spec_odCmp_p2] at h
  conv => whnf
  refine splD (fun g37 => ?_) (fun g37 => ?_)
  · replace h := iteP h g37
    conv => whnf
    cases h
    exact Done.of [] [] rfl rfl ⟨⟨rfl, rfl⟩, ⟨rfl, trivial⟩, rfl, trivial⟩
  · replace h := iteN h g37
    conv => whnf
    cases h
    exact Done.of [] [] rfl rfl ⟨⟨rfl, rfl⟩, ⟨rfl, trivial⟩, rfl, trivial⟩
def spec_odCmp_l0 (rec_spec_odCmp : Rw → Rw → Option Int) (a1 : Rw) (a2 : Rw) (K0 : Option Int) : Rw → Nat → Option Int
  | [], v54n => (K0)
  | cs :: rest, v54n => (cell_si cs fun x71 x72 => (if (v54n : Int) = (a2.length : Int) then some 1 else (row_si a2 (v54n : Int) fun x75 x76 => ((rec_spec_odCmp x71 x75).bind fun y79 => (if y79 = (0 : Int) then (if x72 = x76 then (spec_odCmp_l0 rec_spec_odCmp a1 a2 K0 rest (v54n + 1)) else ((spec_l1Sign (IntKind.i64.wrap (x72 - x76))).bind fun y83 => some y83)) else some y79)))))
set_option maxHeartbeats 4000000 in
set_option maxRecDepth 100000 in
theorem spec_odCmp_l0_ct {rec_spec_odCmp : Rw → Rw → Option Int} {a1 : Rw} {a2 : Rw} {K0 : Option Int} (hrec_spec_odCmp : ∀ (a1 : Rw) (a2 : Rw) (r : Int), rec_spec_odCmp a1 a2 = some r → Ct prog 56 [.agg [.d (D.sl a1)], .agg [.d (D.sl a2)]] (⟨[], []⟩) (.d (D.int .i64 r)) (⟨[], []⟩)) {r : Int} (hx : a1.length ≤ cap) : ∀ (rest : Rw) (v54n : Nat), a1.drop v54n = rest → spec_odCmp_l0 rec_spec_odCmp a1 a2 K0 rest v54n = some r → LoopOk prog 0 (lp f56 0) (mk 60 [(2, .ptr 128 0), (3, .ptr 192 0), (9, .d (D.sl a1)), (10, .d (D.int .i64 (a1.length : Int))), (11, .d (D.int .i64 (v54n : Int)))] [(128, .box 41 [.d (D.sl a1)]), (192, .box 41 [.d (D.sl a2)])]) (LoopEnd prog f56 0 60 (.d (D.int .i64 r)) (⟨[], []⟩) (fun i ts os => (i = 0 ∧ K0 = some r ∧ ts = [(2, .ptr 128 0), (3, .ptr 192 0)] ∧ os = [(128, .box 41 [.d (D.sl a1)]), (192, .box 41 [.d (D.sl a2)])])))
  | [], v54n, hd, h => by
      rw [spec_odCmp_l0] at h
      have hn := drop_nil hd
      refine LoopOk.step ?_
      conv => whnf
      refine splD (fun g => absurd g hn) (fun _ => ?_)
      conv => whnf
      exact ⟨_, _, [some 128, some 192], [], ⟨rfl, h, rfl, rfl⟩, ⟨⟨rfl, rfl⟩, ⟨rfl, ⟨rfl, rfl, trivial⟩, ⟨rfl, rfl, trivial⟩, trivial⟩, ⟨rfl, rfl⟩, ⟨rfl, rfl⟩, trivial⟩⟩
  | cs :: rest, v54n, hd, h => by
      rw [spec_odCmp_l0] at h
      obtain ⟨hrow, hd1, hlt⟩ := drop_cons hd
      refine LoopOk.step ?_
      conv => whnf
      refine splD (fun _ => ?_) (fun g => absurd hlt g)
      conv => whnf
      obtain ⟨x71, x72, e73, h⟩ := cell_si_ex h
      rw [e73] at hrow
      refine Req.of (Int.natCast_nonneg _) ?_
      refine Row.of _ hrow ?_
      conv => whnf
      refine splD (fun g74 => ?_) (fun g74 => ?_)
      · replace h := iteP h g74
        conv => whnf
        cases h
        exact Done.of [] [] rfl rfl ⟨⟨rfl, rfl⟩, ⟨rfl, trivial⟩, rfl, trivial⟩
      · replace h := iteN h g74
        conv => whnf
        obtain ⟨g78, x75, x76, e77, h⟩ := row_si_ex h
        refine Req.of g78 ?_
        refine Row.of _ e77 ?_
        conv => whnf
        refine Pick.no ?_
        conv => whnf
        obtain ⟨y79, e80, h⟩ := bind_ex h
        refine CallOk.of (hrec_spec_odCmp _ _ _ e80) ?_
        conv => whnf
        refine CutK.norm [2, 3, 5, 6, 7, 9, 10, 11] [128, 192, 384] ?_
        conv => whnf
        refine splN (fun g81 => ?_) (fun g81 => ?_)
        · replace h := iteN h g81
          conv => whnf
          cases h
          exact Done.of [] [] rfl rfl ⟨⟨rfl, rfl⟩, ⟨rfl, trivial⟩, rfl, trivial⟩
        · replace h := iteP h g81
          conv => whnf
          refine CutK.norm [2, 3, 5, 6, 9, 10, 11] [128, 192, 384] ?_
          conv => whnf
          refine Req.of g78 ?_
          refine Row.of _ e77 ?_
          conv => whnf
          refine splN (fun g82 => ?_) (fun g82 => ?_)
          · replace h := iteN h g82
            conv => whnf
            refine Req.of g78 ?_
            refine Row.of _ e77 ?_
            conv => whnf
            refine Pick.no ?_
            conv => whnf
            obtain ⟨y83, e84, h⟩ := bind_ex h
            refine CallOk.of (spec_l1Sign_ct e84) ?_
            conv => whnf
            refine CutK.norm [4] [] ?_
            conv => whnf
            cases h
            exact Done.of [] [] rfl rfl ⟨⟨rfl, rfl⟩, ⟨rfl, trivial⟩, rfl, trivial⟩
          · replace h := iteP h g82
            conv => whnf
            refine CutK.norm [2, 3, 9, 10, 11] [128, 192] ?_
            conv => whnf
            exact LoopOk.back (spec_odCmp_l0_ct hrec_spec_odCmp hx rest (v54n + 1)  hd1 h) [some 128, some 192] [] ⟨⟨rfl, rfl⟩, ⟨rfl, ⟨rfl, rfl, trivial⟩, ⟨rfl, rfl, trivial⟩, trivial⟩, ⟨rfl, rfl⟩, ⟨rfl, rfl⟩, rfl, rfl, i64eq (wrap_up hlt hx), trivial⟩
def spec_odCmp_b (rec_spec_odCmp : Rw → Rw → Option Int) (a1 : Rw) (a2 : Rw) : Option Int :=
  (if a1.length ≤ cap then (spec_odCmp_l0 rec_spec_odCmp a1 a2 (spec_odCmp_p2 a1 a2) a1 0) else none)
set_option maxHeartbeats 4000000 in
set_option maxRecDepth 100000 in
theorem spec_odCmp_b_ct {rec_spec_odCmp : Rw → Rw → Option Int} (hrec_spec_odCmp : ∀ (a1 : Rw) (a2 : Rw) (r : Int), rec_spec_odCmp a1 a2 = some r → Ct prog 56 [.agg [.d (D.sl a1)], .agg [.d (D.sl a2)]] (⟨[], []⟩) (.d (D.int .i64 r)) (⟨[], []⟩)) {a1 : Rw} {a2 : Rw} {r : Int} (h : spec_odCmp_b rec_spec_odCmp a1 a2 = some r) : Ct prog 56 [.agg [.d (D.sl a1)], .agg [.d (D.sl a2)]] (⟨[], []⟩) (.d (D.int .i64 r)) (⟨[], []⟩) := by
  rw [spec_odCmp_b] at h
  refine Ct.of (c := _) mixed func56 ⟨rfl, rfl, rfl⟩ ?_ rfl
  conv => whnf
  obtain ⟨g85, h⟩ := req_ex h
  refine LoopOk.into (spec_odCmp_l0_ct hrec_spec_odCmp g85 _ _  rfl h) [some 128, some 192] [] ⟨⟨rfl, rfl⟩, ⟨rfl, ⟨rfl, rfl, trivial⟩, ⟨rfl, rfl, trivial⟩, trivial⟩, ⟨rfl, rfl⟩, ⟨rfl, rfl⟩, rfl, rfl, rfl, trivial⟩ ?_ (fun _ hs => hs)
  rintro i ts os ⟨rfl, h, rfl, rfl⟩
  conv => whnf
  exact CutK.piece (spec_odCmp_p2_ct  h) [some 128, some 192] [] ⟨⟨rfl, rfl⟩, ⟨rfl, ⟨rfl, rfl, trivial⟩, ⟨rfl, rfl, trivial⟩, trivial⟩, ⟨rfl, rfl⟩, ⟨rfl, rfl⟩, trivial⟩
def spec_odCmp : Nat → Rw → Rw → Option Int
  | 0, _, _ => none
  | k + 1, a1, a2 => spec_odCmp_b (spec_odCmp k) a1 a2
theorem spec_odCmp_ct' : ∀ (k : Nat) (a1 : Rw) (a2 : Rw) (r : Int), spec_odCmp k a1 a2 = some r → Ct prog 56 [.agg [.d (D.sl a1)], .agg [.d (D.sl a2)]] (⟨[], []⟩) (.d (D.int .i64 r)) (⟨[], []⟩)
  | 0, _, _, _, h => by rw [spec_odCmp] at h; cases h
  | k + 1, _, _, _, h => by rw [spec_odCmp] at h; exact spec_odCmp_b_ct (spec_odCmp_ct' k) h
theorem spec_odCmp_ct {k : Nat} {a1 : Rw} {a2 : Rw} {r : Int} (h : spec_odCmp k a1 a2 = some r) : Ct prog 56 [.agg [.d (D.sl a1)], .agg [.d (D.sl a2)]] (⟨[], []⟩) (.d (D.int .i64 r)) (⟨[], []⟩) := spec_odCmp_ct' k _ _ _ h

def spec_deText_p4 (o163 : ByteArray) : Option ByteArray :=
  some o163
set_option maxHeartbeats 4000000 in
set_option maxRecDepth 100000 in
theorem spec_deText_p4_ct {o163 : ByteArray} {r : ByteArray} (h : spec_deText_p4 o163 = some r) : X prog 0 (tlF f31 4) (mk 57 [(5, .d (D.str o163))] []) (finK prog f31 0 (.d (D.str r)) (⟨[], []⟩)) := by
  rw [spec_deText_p4] at h
  conv => whnf
  cases h
  exact Done.of [] [] rfl rfl ⟨⟨rfl, rfl⟩, ⟨rfl, trivial⟩, rfl, trivial⟩
def spec_deText_l0 (k : Nat) (rec_spec_deText : Rw → ByteArray → Option ByteArray) (a1 : Rw) (a2 : ByteArray) (K0 : ByteArray → Option ByteArray) : Rw → Nat → ByteArray → Option ByteArray
  | [], v176n, v175 => (K0 v175)
  | cs :: rest, v176n, v175 => (cell_si cs fun x321 x322 => (if (0 : Int) < (v176n : Int) then (if v175.size + (ByteArray.mk #[43]).size ≤ 9223372036854775807 then ((spec_odZero x321).bind fun y326 => (if y326 = true then ((spec_l1Num k x322).bind fun y329 => (if (v175 ++ (ByteArray.mk #[43])).size + y329.size ≤ 9223372036854775807 then (spec_deText_l0 k rec_spec_deText a1 a2 K0 rest (v176n + 1) ((v175 ++ (ByteArray.mk #[43])) ++ y329)) else none)) else (if (v175 ++ (ByteArray.mk #[43])).size + a2.size ≤ 9223372036854775807 then ((spec_odInt 1).bind fun y333 => ((spec_odCmp k x321 y333).bind fun y335 => (if y335 = (0 : Int) then (if (1 : Int) < x322 then ((spec_l1Num k x322).bind fun y349 => (if (ByteArray.mk #[42]).size + y349.size ≤ 9223372036854775807 then (if ((v175 ++ (ByteArray.mk #[43])) ++ a2).size + ((ByteArray.mk #[42]) ++ y349).size ≤ 9223372036854775807 then (spec_deText_l0 k rec_spec_deText a1 a2 K0 rest (v176n + 1) (((v175 ++ (ByteArray.mk #[43])) ++ a2) ++ ((ByteArray.mk #[42]) ++ y349))) else none) else none)) else (spec_deText_l0 k rec_spec_deText a1 a2 K0 rest (v176n + 1) ((v175 ++ (ByteArray.mk #[43])) ++ a2))) else ((rec_spec_deText x321 a2).bind fun y338 => (if (ByteArray.mk #[94, 40]).size + y338.size ≤ 9223372036854775807 then (if ((ByteArray.mk #[94, 40]) ++ y338).size + (ByteArray.mk #[41]).size ≤ 9223372036854775807 then (if ((v175 ++ (ByteArray.mk #[43])) ++ a2).size + (((ByteArray.mk #[94, 40]) ++ y338) ++ (ByteArray.mk #[41])).size ≤ 9223372036854775807 then (if (1 : Int) < x322 then ((spec_l1Num k x322).bind fun y344 => (if (ByteArray.mk #[42]).size + y344.size ≤ 9223372036854775807 then (if (((v175 ++ (ByteArray.mk #[43])) ++ a2) ++ (((ByteArray.mk #[94, 40]) ++ y338) ++ (ByteArray.mk #[41]))).size + ((ByteArray.mk #[42]) ++ y344).size ≤ 9223372036854775807 then (spec_deText_l0 k rec_spec_deText a1 a2 K0 rest (v176n + 1) ((((v175 ++ (ByteArray.mk #[43])) ++ a2) ++ (((ByteArray.mk #[94, 40]) ++ y338) ++ (ByteArray.mk #[41]))) ++ ((ByteArray.mk #[42]) ++ y344))) else none) else none)) else (spec_deText_l0 k rec_spec_deText a1 a2 K0 rest (v176n + 1) (((v175 ++ (ByteArray.mk #[43])) ++ a2) ++ (((ByteArray.mk #[94, 40]) ++ y338) ++ (ByteArray.mk #[41]))))) else none) else none) else none))))) else none))) else none) else ((spec_odZero x321).bind fun y353 => (if y353 = true then ((spec_l1Num k x322).bind fun y356 => (if v175.size + y356.size ≤ 9223372036854775807 then (spec_deText_l0 k rec_spec_deText a1 a2 K0 rest (v176n + 1) (v175 ++ y356)) else none)) else (if v175.size + a2.size ≤ 9223372036854775807 then ((spec_odInt 1).bind fun y360 => ((spec_odCmp k x321 y360).bind fun y362 => (if y362 = (0 : Int) then (if (1 : Int) < x322 then ((spec_l1Num k x322).bind fun y376 => (if (ByteArray.mk #[42]).size + y376.size ≤ 9223372036854775807 then (if (v175 ++ a2).size + ((ByteArray.mk #[42]) ++ y376).size ≤ 9223372036854775807 then (spec_deText_l0 k rec_spec_deText a1 a2 K0 rest (v176n + 1) ((v175 ++ a2) ++ ((ByteArray.mk #[42]) ++ y376))) else none) else none)) else (spec_deText_l0 k rec_spec_deText a1 a2 K0 rest (v176n + 1) (v175 ++ a2))) else ((rec_spec_deText x321 a2).bind fun y365 => (if (ByteArray.mk #[94, 40]).size + y365.size ≤ 9223372036854775807 then (if ((ByteArray.mk #[94, 40]) ++ y365).size + (ByteArray.mk #[41]).size ≤ 9223372036854775807 then (if (v175 ++ a2).size + (((ByteArray.mk #[94, 40]) ++ y365) ++ (ByteArray.mk #[41])).size ≤ 9223372036854775807 then (if (1 : Int) < x322 then ((spec_l1Num k x322).bind fun y371 => (if (ByteArray.mk #[42]).size + y371.size ≤ 9223372036854775807 then (if ((v175 ++ a2) ++ (((ByteArray.mk #[94, 40]) ++ y365) ++ (ByteArray.mk #[41]))).size + ((ByteArray.mk #[42]) ++ y371).size ≤ 9223372036854775807 then (spec_deText_l0 k rec_spec_deText a1 a2 K0 rest (v176n + 1) (((v175 ++ a2) ++ (((ByteArray.mk #[94, 40]) ++ y365) ++ (ByteArray.mk #[41]))) ++ ((ByteArray.mk #[42]) ++ y371))) else none) else none)) else (spec_deText_l0 k rec_spec_deText a1 a2 K0 rest (v176n + 1) ((v175 ++ a2) ++ (((ByteArray.mk #[94, 40]) ++ y365) ++ (ByteArray.mk #[41]))))) else none) else none) else none))))) else none)))))
set_option maxHeartbeats 4000000 in
set_option maxRecDepth 100000 in
theorem spec_deText_l0_ct {k : Nat} {rec_spec_deText : Rw → ByteArray → Option ByteArray} {a1 : Rw} {a2 : ByteArray} {K0 : ByteArray → Option ByteArray} (hrec_spec_deText : ∀ (a1 : Rw) (a2 : ByteArray) (r : ByteArray), rec_spec_deText a1 a2 = some r → Ct prog 31 [.agg [.d (D.sl a1)], .d (D.str a2)] (⟨[], []⟩) (.d (D.str r)) (⟨[], []⟩)) {r : ByteArray} (hx : a1.length ≤ cap) : ∀ (rest : Rw) (v176n : Nat) (v175 : ByteArray), a1.drop v176n = rest → spec_deText_l0 k rec_spec_deText a1 a2 K0 rest v176n v175 = some r → LoopOk prog 0 (lp f31 0) (mk 57 [(1, .d (D.str a2)), (5, .d (D.str v175)), (11, .d (D.sl a1)), (12, .d (D.int .i64 (a1.length : Int))), (13, .d (D.int .i64 (v176n : Int)))] []) (LoopEnd prog f31 0 57 (.d (D.str r)) (⟨[], []⟩) (fun i ts os => (i = 0 ∧ ∃ v259 : ByteArray, K0 v259 = some r ∧ ts = [(5, .d (D.str v259))] ∧ os = [])))
  | [], v176n, v175, hd, h => by
      rw [spec_deText_l0] at h
      have hn := drop_nil hd
      refine LoopOk.step ?_
      conv => whnf
      refine splD (fun g => absurd g hn) (fun _ => ?_)
      conv => whnf
      exact ⟨_, _, [], [], ⟨rfl, _, h, rfl, rfl⟩, ⟨⟨rfl, rfl⟩, ⟨rfl, trivial⟩, rfl, trivial⟩⟩
  | cs :: rest, v176n, v175, hd, h => by
      rw [spec_deText_l0] at h
      obtain ⟨hrow, hd1, hlt⟩ := drop_cons hd
      refine LoopOk.step ?_
      conv => whnf
      refine splD (fun _ => ?_) (fun g => absurd hlt g)
      conv => whnf
      obtain ⟨x321, x322, e323, h⟩ := cell_si_ex h
      rw [e323] at hrow
      refine Req.of (Int.natCast_nonneg _) ?_
      refine Row.of _ hrow ?_
      conv => whnf
      refine splD (fun g324 => ?_) (fun g324 => ?_)
      · replace h := iteP h g324
        conv => whnf
        obtain ⟨g325, h⟩ := req_ex h
        refine Req.of g325 ?_
        conv => whnf
        refine Pick.no ?_
        conv => whnf
        obtain ⟨y326, e327, h⟩ := bind_ex h
        refine CallOk.of (spec_odZero_ct e327) ?_
        conv => whnf
        refine spl (fun g328 => ?_) (fun g328 => ?_)
        · replace h := iteT h g328
          conv => whnf
          refine CutK.norm [1, 5, 7, 11, 12, 13, 24] [448] ?_
          conv => whnf
          refine Pick.no ?_
          conv => whnf
          obtain ⟨y329, e330, h⟩ := bind_ex h
          refine CallOk.of (spec_l1Num_ct e330) ?_
          conv => whnf
          obtain ⟨g331, h⟩ := req_ex h
          refine Req.of g331 ?_
          conv => whnf
          refine CutK.norm [1, 5, 11, 12, 13] [] ?_
          conv => whnf
          refine CutK.norm [1, 5, 11, 12, 13] [] ?_
          conv => whnf
          exact LoopOk.back (spec_deText_l0_ct hrec_spec_deText hx rest (v176n + 1) _ hd1 h) [] [] ⟨⟨rfl, rfl⟩, ⟨rfl, trivial⟩, rfl, rfl, rfl, rfl, i64eq (wrap_up hlt hx), trivial⟩
        · replace h := iteF h g328
          conv => whnf
          refine CutK.norm [1, 5, 7, 11, 12, 13, 24] [448] ?_
          conv => whnf
          refine CutK.norm [1, 5, 7, 11, 12, 13] [448] ?_
          conv => whnf
          obtain ⟨g332, h⟩ := req_ex h
          refine Req.of g332 ?_
          conv => whnf
          refine Pick.no ?_
          conv => whnf
          obtain ⟨y333, e334, h⟩ := bind_ex h
          refine CallOk.of (spec_odInt_ct e334) ?_
          conv => whnf
          refine Pick.no ?_
          conv => whnf
          refine Take.all (rfl) ?_
          conv => whnf
          obtain ⟨y335, e336, h⟩ := bind_ex h
          refine CallOk.of (spec_odCmp_ct e336) ?_
          conv => whnf
          refine splN (fun g337 => ?_) (fun g337 => ?_)
          · replace h := iteN h g337
            conv => whnf
            refine CutK.norm [1, 5, 7, 11, 12, 13, 37] [448] ?_
            conv => whnf
            refine Pick.no ?_
            conv => whnf
            obtain ⟨y338, e339, h⟩ := bind_ex h
            refine CallOk.of (hrec_spec_deText _ _ _ e339) ?_
            conv => whnf
            obtain ⟨g340, h⟩ := req_ex h
            refine Req.of g340 ?_
            conv => whnf
            obtain ⟨g341, h⟩ := req_ex h
            refine Req.of g341 ?_
            conv => whnf
            obtain ⟨g342, h⟩ := req_ex h
            refine Req.of g342 ?_
            conv => whnf
            refine CutK.norm [1, 5, 7, 11, 12, 13] [448] ?_
            conv => whnf
            refine splD (fun g343 => ?_) (fun g343 => ?_)
            · replace h := iteP h g343
              conv => whnf
              refine Pick.no ?_
              conv => whnf
              obtain ⟨y344, e345, h⟩ := bind_ex h
              refine CallOk.of (spec_l1Num_ct e345) ?_
              conv => whnf
              obtain ⟨g346, h⟩ := req_ex h
              refine Req.of g346 ?_
              conv => whnf
              obtain ⟨g347, h⟩ := req_ex h
              refine Req.of g347 ?_
              conv => whnf
              refine CutK.norm [1, 5, 11, 12, 13] [] ?_
              conv => whnf
              exact LoopOk.back (spec_deText_l0_ct hrec_spec_deText hx rest (v176n + 1) _ hd1 h) [] [] ⟨⟨rfl, rfl⟩, ⟨rfl, trivial⟩, rfl, rfl, rfl, rfl, i64eq (wrap_up hlt hx), trivial⟩
            · replace h := iteN h g343
              conv => whnf
              refine CutK.norm [1, 5, 11, 12, 13] [] ?_
              conv => whnf
              exact LoopOk.back (spec_deText_l0_ct hrec_spec_deText hx rest (v176n + 1) _ hd1 h) [] [] ⟨⟨rfl, rfl⟩, ⟨rfl, trivial⟩, rfl, rfl, rfl, rfl, i64eq (wrap_up hlt hx), trivial⟩
          · replace h := iteP h g337
            conv => whnf
            refine CutK.norm [1, 5, 7, 11, 12, 13, 37] [448] ?_
            conv => whnf
            refine CutK.norm [1, 5, 7, 11, 12, 13] [448] ?_
            conv => whnf
            refine splD (fun g348 => ?_) (fun g348 => ?_)
            · replace h := iteP h g348
              conv => whnf
              refine Pick.no ?_
              conv => whnf
              obtain ⟨y349, e350, h⟩ := bind_ex h
              refine CallOk.of (spec_l1Num_ct e350) ?_
              conv => whnf
              obtain ⟨g351, h⟩ := req_ex h
              refine Req.of g351 ?_
              conv => whnf
              obtain ⟨g352, h⟩ := req_ex h
              refine Req.of g352 ?_
              conv => whnf
              refine CutK.norm [1, 5, 11, 12, 13] [] ?_
              conv => whnf
              exact LoopOk.back (spec_deText_l0_ct hrec_spec_deText hx rest (v176n + 1) _ hd1 h) [] [] ⟨⟨rfl, rfl⟩, ⟨rfl, trivial⟩, rfl, rfl, rfl, rfl, i64eq (wrap_up hlt hx), trivial⟩
            · replace h := iteN h g348
              conv => whnf
              refine CutK.norm [1, 5, 11, 12, 13] [] ?_
              conv => whnf
              exact LoopOk.back (spec_deText_l0_ct hrec_spec_deText hx rest (v176n + 1) _ hd1 h) [] [] ⟨⟨rfl, rfl⟩, ⟨rfl, trivial⟩, rfl, rfl, rfl, rfl, i64eq (wrap_up hlt hx), trivial⟩
      · replace h := iteN h g324
        conv => whnf
        refine Pick.no ?_
        conv => whnf
        obtain ⟨y353, e354, h⟩ := bind_ex h
        refine CallOk.of (spec_odZero_ct e354) ?_
        conv => whnf
        refine spl (fun g355 => ?_) (fun g355 => ?_)
        · replace h := iteT h g355
          conv => whnf
          refine CutK.norm [1, 5, 7, 11, 12, 13, 24] [448] ?_
          conv => whnf
          refine Pick.no ?_
          conv => whnf
          obtain ⟨y356, e357, h⟩ := bind_ex h
          refine CallOk.of (spec_l1Num_ct e357) ?_
          conv => whnf
          obtain ⟨g358, h⟩ := req_ex h
          refine Req.of g358 ?_
          conv => whnf
          refine CutK.norm [1, 5, 11, 12, 13] [] ?_
          conv => whnf
          refine CutK.norm [1, 5, 11, 12, 13] [] ?_
          conv => whnf
          exact LoopOk.back (spec_deText_l0_ct hrec_spec_deText hx rest (v176n + 1) _ hd1 h) [] [] ⟨⟨rfl, rfl⟩, ⟨rfl, trivial⟩, rfl, rfl, rfl, rfl, i64eq (wrap_up hlt hx), trivial⟩
        · replace h := iteF h g355
          conv => whnf
          refine CutK.norm [1, 5, 7, 11, 12, 13, 24] [448] ?_
          conv => whnf
          refine CutK.norm [1, 5, 7, 11, 12, 13] [448] ?_
          conv => whnf
          obtain ⟨g359, h⟩ := req_ex h
          refine Req.of g359 ?_
          conv => whnf
          refine Pick.no ?_
          conv => whnf
          obtain ⟨y360, e361, h⟩ := bind_ex h
          refine CallOk.of (spec_odInt_ct e361) ?_
          conv => whnf
          refine Pick.no ?_
          conv => whnf
          refine Take.all (rfl) ?_
          conv => whnf
          obtain ⟨y362, e363, h⟩ := bind_ex h
          refine CallOk.of (spec_odCmp_ct e363) ?_
          conv => whnf
          refine splN (fun g364 => ?_) (fun g364 => ?_)
          · replace h := iteN h g364
            conv => whnf
            refine CutK.norm [1, 5, 7, 11, 12, 13, 37] [448] ?_
            conv => whnf
            refine Pick.no ?_
            conv => whnf
            obtain ⟨y365, e366, h⟩ := bind_ex h
            refine CallOk.of (hrec_spec_deText _ _ _ e366) ?_
            conv => whnf
            obtain ⟨g367, h⟩ := req_ex h
            refine Req.of g367 ?_
            conv => whnf
            obtain ⟨g368, h⟩ := req_ex h
            refine Req.of g368 ?_
            conv => whnf
            obtain ⟨g369, h⟩ := req_ex h
            refine Req.of g369 ?_
            conv => whnf
            refine CutK.norm [1, 5, 7, 11, 12, 13] [448] ?_
            conv => whnf
            refine splD (fun g370 => ?_) (fun g370 => ?_)
            · replace h := iteP h g370
              conv => whnf
              refine Pick.no ?_
              conv => whnf
              obtain ⟨y371, e372, h⟩ := bind_ex h
              refine CallOk.of (spec_l1Num_ct e372) ?_
              conv => whnf
              obtain ⟨g373, h⟩ := req_ex h
              refine Req.of g373 ?_
              conv => whnf
              obtain ⟨g374, h⟩ := req_ex h
              refine Req.of g374 ?_
              conv => whnf
              refine CutK.norm [1, 5, 11, 12, 13] [] ?_
              conv => whnf
              exact LoopOk.back (spec_deText_l0_ct hrec_spec_deText hx rest (v176n + 1) _ hd1 h) [] [] ⟨⟨rfl, rfl⟩, ⟨rfl, trivial⟩, rfl, rfl, rfl, rfl, i64eq (wrap_up hlt hx), trivial⟩
            · replace h := iteN h g370
              conv => whnf
              refine CutK.norm [1, 5, 11, 12, 13] [] ?_
              conv => whnf
              exact LoopOk.back (spec_deText_l0_ct hrec_spec_deText hx rest (v176n + 1) _ hd1 h) [] [] ⟨⟨rfl, rfl⟩, ⟨rfl, trivial⟩, rfl, rfl, rfl, rfl, i64eq (wrap_up hlt hx), trivial⟩
          · replace h := iteP h g364
            conv => whnf
            refine CutK.norm [1, 5, 7, 11, 12, 13, 37] [448] ?_
            conv => whnf
            refine CutK.norm [1, 5, 7, 11, 12, 13] [448] ?_
            conv => whnf
            refine splD (fun g375 => ?_) (fun g375 => ?_)
            · replace h := iteP h g375
              conv => whnf
              refine Pick.no ?_
              conv => whnf
              obtain ⟨y376, e377, h⟩ := bind_ex h
              refine CallOk.of (spec_l1Num_ct e377) ?_
              conv => whnf
              obtain ⟨g378, h⟩ := req_ex h
              refine Req.of g378 ?_
              conv => whnf
              obtain ⟨g379, h⟩ := req_ex h
              refine Req.of g379 ?_
              conv => whnf
              refine CutK.norm [1, 5, 11, 12, 13] [] ?_
              conv => whnf
              exact LoopOk.back (spec_deText_l0_ct hrec_spec_deText hx rest (v176n + 1) _ hd1 h) [] [] ⟨⟨rfl, rfl⟩, ⟨rfl, trivial⟩, rfl, rfl, rfl, rfl, i64eq (wrap_up hlt hx), trivial⟩
            · replace h := iteN h g375
              conv => whnf
              refine CutK.norm [1, 5, 11, 12, 13] [] ?_
              conv => whnf
              exact LoopOk.back (spec_deText_l0_ct hrec_spec_deText hx rest (v176n + 1) _ hd1 h) [] [] ⟨⟨rfl, rfl⟩, ⟨rfl, trivial⟩, rfl, rfl, rfl, rfl, i64eq (wrap_up hlt hx), trivial⟩
def spec_deText_p2 (k : Nat) (rec_spec_deText : Rw → ByteArray → Option ByteArray) (a1 : Rw) (a2 : ByteArray) : Option ByteArray :=
  (if a1.length ≤ cap then (spec_deText_l0 k rec_spec_deText a1 a2 (fun (v259 : ByteArray) => (spec_deText_p4 v259)) a1 0 (ByteArray.mk #[])) else none)
set_option maxHeartbeats 4000000 in
set_option maxRecDepth 100000 in
theorem spec_deText_p2_ct {k : Nat} {rec_spec_deText : Rw → ByteArray → Option ByteArray} (hrec_spec_deText : ∀ (a1 : Rw) (a2 : ByteArray) (r : ByteArray), rec_spec_deText a1 a2 = some r → Ct prog 31 [.agg [.d (D.sl a1)], .d (D.str a2)] (⟨[], []⟩) (.d (D.str r)) (⟨[], []⟩)) {a1 : Rw} {a2 : ByteArray} {r : ByteArray} (h : spec_deText_p2 k rec_spec_deText a1 a2 = some r) : X prog 0 (tlF f31 2) (mk 57 [(1, .d (D.str a2)), (2, .ptr 128 0)] [(128, .box 41 [.d (D.sl a1)])]) (finK prog f31 0 (.d (D.str r)) (⟨[], []⟩)) := by
  rw [spec_deText_p2] at h
  conv => whnf
  obtain ⟨g380, h⟩ := req_ex h
  refine LoopOk.into (spec_deText_l0_ct hrec_spec_deText g380 _ _ _ rfl h) [] [] ⟨⟨rfl, rfl⟩, ⟨rfl, trivial⟩, rfl, rfl, rfl, rfl, rfl, trivial⟩ ?_ (fun _ hs => hs)
  rintro i ts os ⟨rfl, v259, h, rfl, rfl⟩
  conv => whnf
  exact CutK.piece (spec_deText_p4_ct  h) [] [] ⟨⟨rfl, rfl⟩, ⟨rfl, trivial⟩, rfl, trivial⟩
def spec_deText_b (k : Nat) (rec_spec_deText : Rw → ByteArray → Option ByteArray) (a1 : Rw) (a2 : ByteArray) : Option ByteArray :=
  ((spec_odZero a1).bind fun y381 => (if y381 = true then some (ByteArray.mk #[48]) else (spec_deText_p2 k rec_spec_deText a1 a2)))
set_option maxHeartbeats 4000000 in
set_option maxRecDepth 100000 in
theorem spec_deText_b_ct {k : Nat} {rec_spec_deText : Rw → ByteArray → Option ByteArray} (hrec_spec_deText : ∀ (a1 : Rw) (a2 : ByteArray) (r : ByteArray), rec_spec_deText a1 a2 = some r → Ct prog 31 [.agg [.d (D.sl a1)], .d (D.str a2)] (⟨[], []⟩) (.d (D.str r)) (⟨[], []⟩)) {a1 : Rw} {a2 : ByteArray} {r : ByteArray} (h : spec_deText_b k rec_spec_deText a1 a2 = some r) : Ct prog 31 [.agg [.d (D.sl a1)], .d (D.str a2)] (⟨[], []⟩) (.d (D.str r)) (⟨[], []⟩) := by
  rw [spec_deText_b] at h
  refine Ct.of (c := _) mixed func31 ⟨rfl, rfl, rfl⟩ ?_ rfl
  conv => whnf
  refine Pick.no ?_
  conv => whnf
  obtain ⟨y381, e382, h⟩ := bind_ex h
  refine CallOk.of (spec_odZero_ct e382) ?_
  conv => whnf
  refine spl (fun g383 => ?_) (fun g383 => ?_)
  · replace h := iteT h g383
    conv => whnf
    refine CutK.norm [1, 2, 9] [128] ?_
    conv => whnf
    cases h
    exact Done.of [] [] rfl rfl ⟨⟨rfl, rfl⟩, ⟨rfl, trivial⟩, rfl, trivial⟩
  · replace h := iteF h g383
    conv => whnf
    refine CutK.norm [1, 2, 9] [128] ?_
    conv => whnf
    exact CutK.piece (spec_deText_p2_ct hrec_spec_deText h) [some 128] [] ⟨⟨rfl, rfl⟩, ⟨rfl, ⟨rfl, rfl, trivial⟩, trivial⟩, rfl, ⟨rfl, rfl⟩, trivial⟩
def spec_deText : Nat → Rw → ByteArray → Option ByteArray
  | 0, _, _ => none
  | k + 1, a1, a2 => spec_deText_b k (spec_deText k) a1 a2
theorem spec_deText_ct' : ∀ (k : Nat) (a1 : Rw) (a2 : ByteArray) (r : ByteArray), spec_deText k a1 a2 = some r → Ct prog 31 [.agg [.d (D.sl a1)], .d (D.str a2)] (⟨[], []⟩) (.d (D.str r)) (⟨[], []⟩)
  | 0, _, _, _, h => by rw [spec_deText] at h; cases h
  | k + 1, _, _, _, h => by rw [spec_deText] at h; exact spec_deText_b_ct (spec_deText_ct' k) h
theorem spec_deText_ct {k : Nat} {a1 : Rw} {a2 : ByteArray} {r : ByteArray} (h : spec_deText k a1 a2 = some r) : Ct prog 31 [.agg [.d (D.sl a1)], .d (D.str a2)] (⟨[], []⟩) (.d (D.str r)) (⟨[], []⟩) := spec_deText_ct' k _ _ _ h

def spec_HereditaryText (k : Nat) (a1 : Int) (a2 : Int) : Option (ByteArray × Bool) :=
  ((spec_deBase a1 a2).bind fun y3 => (if y3 = true then ((spec_deForm k a1 a2).bind fun y6 => ((spec_l1Num k a2).bind fun y8 => ((spec_deText k y6 y8).bind fun y10 => some (y10, true)))) else some ((ByteArray.mk #[]), false)))
set_option maxHeartbeats 4000000 in
set_option maxRecDepth 100000 in
theorem spec_HereditaryText_ct {k : Nat} {a1 : Int} {a2 : Int} {r : ByteArray × Bool} (h : spec_HereditaryText k a1 a2 = some r) : Ct prog 14 [.d (D.int .i64 a1), .d (D.int .i64 a2)] (⟨[], []⟩) (.tup [.d (D.str r.1), .d (D.bool r.2)]) (⟨[], []⟩) := by
  rw [spec_HereditaryText] at h
  refine Ct.of (c := _) mixed func14 ⟨rfl, rfl, rfl⟩ ?_ rfl
  conv => whnf
  refine Pick.no ?_
  conv => whnf
  obtain ⟨y3, e4, h⟩ := bind_ex h
  refine CallOk.of (spec_deBase_ct e4) ?_
  conv => whnf
  refine spl (fun g5 => ?_) (fun g5 => ?_)
  · replace h := iteT h g5
    conv => whnf
    refine CutK.go ?_
    conv => whnf
    refine CutK.go ?_
    conv => whnf
    refine Pick.no ?_
    conv => whnf
    obtain ⟨y6, e7, h⟩ := bind_ex h
    refine CallOk.of (spec_deForm_ct e7) ?_
    conv => whnf
    refine Pick.no ?_
    conv => whnf
    obtain ⟨y8, e9, h⟩ := bind_ex h
    refine CallOk.of (spec_l1Num_ct e9) ?_
    conv => whnf
    refine Pick.no ?_
    conv => whnf
    refine Take.all (rfl) ?_
    conv => whnf
    obtain ⟨y10, e11, h⟩ := bind_ex h
    refine CallOk.of (spec_deText_ct e11) ?_
    conv => whnf
    refine CutK.go ?_
    conv => whnf
    cases h
    exact Done.of [] [] rfl rfl ⟨⟨rfl, rfl⟩, ⟨rfl, trivial⟩, ⟨rfl, rfl, trivial⟩, trivial⟩
  · replace h := iteF h g5
    conv => whnf
    refine CutK.go ?_
    conv => whnf
    cases h
    exact Done.of [] [] rfl rfl ⟨⟨rfl, rfl⟩, ⟨rfl, trivial⟩, ⟨rfl, rfl, trivial⟩, trivial⟩

def spec_l1Cur_next  (a1 : Rw) (a2 : Int) (a3 : Int) : Option (Int × Rw × Int × Int) :=
  (if a2 < (a1.length : Int) then (row_iu8 a1 a2 fun x5 => (if (IntKind.i64.wrap (a2 + 1)) ≤ (a1.length : Int) then some (IntKind.i64.wrap x5, a1, IntKind.i64.wrap (a2 + 1), IntKind.u64.wrap ((IntKind.u64.wrap ((IntKind.u64.wrap (a3 * 6364136223846793005)) + (IntKind.u64.wrap (IntKind.i64.wrap x5)))) + 1442695040888963407)) else some (IntKind.i64.wrap (IntKind.u64.wrap (BitVec.ofInt (IntKind.u64).bits ((IntKind.u64.wrap ((IntKind.u64.wrap ((IntKind.u64.wrap (a3 * 6364136223846793005)) + (IntKind.u64.wrap (IntKind.i64.wrap x5)))) + 1442695040888963407)).fdiv (2 ^ (min (40 : Int).toNat (IntKind.u64).bits))) &&& BitVec.ofInt (IntKind.u64).bits 255).toNat), a1, IntKind.i64.wrap (a2 + 1), IntKind.u64.wrap ((IntKind.u64.wrap ((IntKind.u64.wrap (a3 * 6364136223846793005)) + (IntKind.u64.wrap (IntKind.i64.wrap x5)))) + 1442695040888963407)))) else (if (IntKind.i64.wrap (a2 + 1)) ≤ (a1.length : Int) then some (0, a1, IntKind.i64.wrap (a2 + 1), IntKind.u64.wrap ((IntKind.u64.wrap ((IntKind.u64.wrap (a3 * 6364136223846793005)) + (IntKind.u64.wrap 0))) + 1442695040888963407)) else some (IntKind.i64.wrap (IntKind.u64.wrap (BitVec.ofInt (IntKind.u64).bits ((IntKind.u64.wrap ((IntKind.u64.wrap ((IntKind.u64.wrap (a3 * 6364136223846793005)) + (IntKind.u64.wrap 0))) + 1442695040888963407)).fdiv (2 ^ (min (40 : Int).toNat (IntKind.u64).bits))) &&& BitVec.ofInt (IntKind.u64).bits 255).toNat), a1, IntKind.i64.wrap (a2 + 1), IntKind.u64.wrap ((IntKind.u64.wrap ((IntKind.u64.wrap (a3 * 6364136223846793005)) + (IntKind.u64.wrap 0))) + 1442695040888963407))))
set_option maxHeartbeats 4000000 in
set_option maxRecDepth 100000 in
theorem spec_l1Cur_next_ct  {a1 : Rw} {a2 : Int} {a3 : Int} {r : Int × Rw × Int × Int} (h : spec_l1Cur_next a1 a2 a3 = some r) : Ct prog 66 [.ptr 0 0] (⟨[(48, [.d (D.sl a1), .d (D.int .i64 a2), .d (D.int .u64 a3)])], []⟩) (.d (D.int .i64 r.1)) (⟨[(48, [.d (D.sl r.2.1), .d (D.int .i64 r.2.2.1), .d (D.int .u64 r.2.2.2)])], []⟩) := by
  rw [spec_l1Cur_next] at h
  refine Ct.of (c := _) mixed func66 ⟨rfl, rfl, rfl⟩ ?_ rfl
  conv => whnf
  refine splD (fun g4 => ?_) (fun g4 => ?_)
  · replace h := iteP h g4
    conv => whnf
    obtain ⟨g7, x5, e6, h⟩ := row_iu8_ex h
    refine Req.of g7 ?_
    refine Row.of _ e6 ?_
    conv => whnf
    refine splD (fun g8 => ?_) (fun g8 => ?_)
    · replace h := iteP h g8
      conv => whnf
      cases h
      exact Done.of [some 0] [] rfl rfl ⟨⟨rfl, rfl⟩, ⟨rfl, ⟨rfl, rfl, rfl, rfl, trivial⟩, trivial⟩, rfl, trivial⟩
    · replace h := iteN h g8
      conv => whnf
      refine Req.of (by decide) ?_
      conv => whnf
      cases h
      exact Done.of [some 0] [] rfl rfl ⟨⟨rfl, rfl⟩, ⟨rfl, ⟨rfl, rfl, rfl, rfl, trivial⟩, trivial⟩, rfl, trivial⟩
  · replace h := iteN h g4
    conv => whnf
    refine splD (fun g9 => ?_) (fun g9 => ?_)
    · replace h := iteP h g9
      conv => whnf
      cases h
      exact Done.of [some 0] [] rfl rfl ⟨⟨rfl, rfl⟩, ⟨rfl, ⟨rfl, rfl, rfl, rfl, trivial⟩, trivial⟩, rfl, trivial⟩
    · replace h := iteN h g9
      conv => whnf
      refine Req.of (by decide) ?_
      conv => whnf
      cases h
      exact Done.of [some 0] [] rfl rfl ⟨⟨rfl, rfl⟩, ⟨rfl, ⟨rfl, rfl, rfl, rfl, trivial⟩, trivial⟩, rfl, trivial⟩

def spec_l1Cur_pick  (a1 : Rw) (a2 : Int) (a3 : Int) (a4 : Int) : Option (Int × Rw × Int × Int) :=
  (if a4 ≤ (1 : Int) then some (0, a1, a2, a3) else ((spec_l1Cur_next a1 a2 a3).bind fun y6 => (if (200 : Int) < a4 then ((spec_l1Cur_next y6.2.1 y6.2.2.1 y6.2.2.2).bind fun y9 => (if a4 ≠ 0 then some ((IntKind.i64.wrap ((IntKind.i64.wrap (y6.1 * 256)) + y9.1)).tmod a4, y9.2.1, y9.2.2.1, y9.2.2.2) else none)) else (if a4 ≠ 0 then some (y6.1.tmod a4, y6.2.1, y6.2.2.1, y6.2.2.2) else none))))
set_option maxHeartbeats 4000000 in
set_option maxRecDepth 100000 in
theorem spec_l1Cur_pick_ct  {a1 : Rw} {a2 : Int} {a3 : Int} {a4 : Int} {r : Int × Rw × Int × Int} (h : spec_l1Cur_pick a1 a2 a3 a4 = some r) : Ct prog 43 [.ptr 0 0, .d (D.int .i64 a4)] (⟨[(48, [.d (D.sl a1), .d (D.int .i64 a2), .d (D.int .u64 a3)])], []⟩) (.d (D.int .i64 r.1)) (⟨[(48, [.d (D.sl r.2.1), .d (D.int .i64 r.2.2.1), .d (D.int .u64 r.2.2.2)])], []⟩) := by
  rw [spec_l1Cur_pick] at h
  refine Ct.of (c := _) mixed func43 ⟨rfl, rfl, rfl⟩ ?_ rfl
  conv => whnf
  refine splD (fun g5 => ?_) (fun g5 => ?_)
  · replace h := iteP h g5
    conv => whnf
    cases h
    exact Done.of [some 0] [] rfl rfl ⟨⟨rfl, rfl⟩, ⟨rfl, ⟨rfl, rfl, rfl, rfl, trivial⟩, trivial⟩, rfl, trivial⟩
  · replace h := iteN h g5
    conv => whnf
    refine Pick.no ?_
    conv => whnf
    obtain ⟨y6, e7, h⟩ := bind_ex h
    refine CallOk.of (spec_l1Cur_next_ct e7) ?_
    conv => whnf
    refine CutK.go ?_
    conv => whnf
    refine splD (fun g8 => ?_) (fun g8 => ?_)
    · replace h := iteP h g8
      conv => whnf
      refine Pick.no ?_
      conv => whnf
      obtain ⟨y9, e10, h⟩ := bind_ex h
      refine CallOk.of (spec_l1Cur_next_ct e10) ?_
      conv => whnf
      refine CutK.go ?_
      conv => whnf
      obtain ⟨g11, h⟩ := req_ex h
      refine Req.of g11 ?_
      conv => whnf
      cases h
      exact Done.of [some 0] [] rfl rfl ⟨⟨rfl, rfl⟩, ⟨rfl, ⟨rfl, rfl, rfl, rfl, trivial⟩, trivial⟩, rfl, trivial⟩
    · replace h := iteN h g8
      conv => whnf
      refine CutK.go ?_
      conv => whnf
      obtain ⟨g12, h⟩ := req_ex h
      refine Req.of g12 ?_
      conv => whnf
      cases h
      exact Done.of [some 0] [] rfl rfl ⟨⟨rfl, rfl⟩, ⟨rfl, ⟨rfl, rfl, rfl, rfl, trivial⟩, trivial⟩, rfl, trivial⟩

def spec_l1Cur_among  (a1 : Rw) (a2 : Int) (a3 : Int) (a4 : Rw) : Option (Int × Rw × Int × Int) :=
  ((spec_l1Cur_pick a1 a2 a3 (a4.length : Int)).bind fun y5 => (row_i a4 y5.1 fun x7 => some (x7, y5.2.1, y5.2.2.1, y5.2.2.2)))
set_option maxHeartbeats 4000000 in
set_option maxRecDepth 100000 in
theorem spec_l1Cur_among_ct  {a1 : Rw} {a2 : Int} {a3 : Int} {a4 : Rw} {r : Int × Rw × Int × Int} (h : spec_l1Cur_among a1 a2 a3 a4 = some r) : Ct prog 20 [.ptr 0 0, .d (D.sl a4)] (⟨[(48, [.d (D.sl a1), .d (D.int .i64 a2), .d (D.int .u64 a3)])], []⟩) (.d (D.int .i64 r.1)) (⟨[(48, [.d (D.sl r.2.1), .d (D.int .i64 r.2.2.1), .d (D.int .u64 r.2.2.2)])], []⟩) := by
  rw [spec_l1Cur_among] at h
  refine Ct.of (c := _) mixed func20 ⟨rfl, rfl, rfl⟩ ?_ rfl
  conv => whnf
  refine Pick.no ?_
  conv => whnf
  obtain ⟨y5, e6, h⟩ := bind_ex h
  refine CallOk.of (spec_l1Cur_pick_ct e6) ?_
  conv => whnf
  obtain ⟨g9, x7, e8, h⟩ := row_i_ex h
  refine Req.of g9 ?_
  refine Row.of _ e8 ?_
  conv => whnf
  refine CutK.go ?_
  conv => whnf
  cases h
  exact Done.of [some 0] [] rfl rfl ⟨⟨rfl, rfl⟩, ⟨rfl, ⟨rfl, rfl, rfl, rfl, trivial⟩, trivial⟩, rfl, trivial⟩

def spec_l1Cur_count9  (a1 : Rw) (a2 : Int) (a3 : Int) : Option (Int × Rw × Int × Int) :=
  ((spec_l1Cur_pick a1 a2 a3 8).bind fun y4 => (if y4.1 = (0 : Int) then ((spec_l1Cur_among y4.2.1 y4.2.2.1 y4.2.2.2 ([[D.int .i64 (-1)], [D.int .i64 0], [D.int .i64 1000000], [D.int .i64 1000001]] : Rw)).bind fun y7 => some (y7.1, y7.2.1, y7.2.2.1, y7.2.2.2)) else (if y4.1 = (1 : Int) then ((spec_l1Cur_pick y4.2.1 y4.2.2.1 y4.2.2.2 1000000).bind fun y10 => some (y10.1, y10.2.1, y10.2.2.1, y10.2.2.2)) else ((spec_l1Cur_pick y4.2.1 y4.2.2.1 y4.2.2.2 40).bind fun y12 => some (y12.1, y12.2.1, y12.2.2.1, y12.2.2.2)))))
set_option maxHeartbeats 4000000 in
set_option maxRecDepth 100000 in
theorem spec_l1Cur_count9_ct  {a1 : Rw} {a2 : Int} {a3 : Int} {r : Int × Rw × Int × Int} (h : spec_l1Cur_count9 a1 a2 a3 = some r) : Ct prog 39 [.ptr 0 0] (⟨[(48, [.d (D.sl a1), .d (D.int .i64 a2), .d (D.int .u64 a3)])], []⟩) (.d (D.int .i64 r.1)) (⟨[(48, [.d (D.sl r.2.1), .d (D.int .i64 r.2.2.1), .d (D.int .u64 r.2.2.2)])], []⟩) := by
  rw [spec_l1Cur_count9] at h
  refine Ct.of (c := _) mixed func39 ⟨rfl, rfl, rfl⟩ ?_ rfl
  conv => whnf
  refine Pick.no ?_
  conv => whnf
  obtain ⟨y4, e5, h⟩ := bind_ex h
  refine CallOk.of (spec_l1Cur_pick_ct e5) ?_
  conv => whnf
  refine CutK.go ?_
  conv => whnf
  refine splD (fun g6 => ?_) (fun g6 => ?_)
  · replace h := iteP h g6
    conv => whnf
    refine Pick.no ?_
    conv => whnf
    refine Take.all (by first | rfl | exact List.length_append.symm | (simp; done) | omega | (dsimp only; omega)) ?_
    conv => whnf
    obtain ⟨y7, e8, h⟩ := bind_ex h
    refine CallOk.of (spec_l1Cur_among_ct e8) ?_
    conv => whnf
    refine CutK.go ?_
    conv => whnf
    cases h
    exact Done.of [some 0] [] rfl rfl ⟨⟨rfl, rfl⟩, ⟨rfl, ⟨rfl, rfl, rfl, rfl, trivial⟩, trivial⟩, rfl, trivial⟩
  · replace h := iteN h g6
    conv => whnf
    refine splD (fun g9 => ?_) (fun g9 => ?_)
    · replace h := iteP h g9
      conv => whnf
      refine Pick.no ?_
      conv => whnf
      obtain ⟨y10, e11, h⟩ := bind_ex h
      refine CallOk.of (spec_l1Cur_pick_ct e11) ?_
      conv => whnf
      refine CutK.go ?_
      conv => whnf
      cases h
      exact Done.of [some 0] [] rfl rfl ⟨⟨rfl, rfl⟩, ⟨rfl, ⟨rfl, rfl, rfl, rfl, trivial⟩, trivial⟩, rfl, trivial⟩
    · replace h := iteN h g9
      conv => whnf
      refine CutK.go ?_
      conv => whnf
      refine Pick.no ?_
      conv => whnf
      obtain ⟨y12, e13, h⟩ := bind_ex h
      refine CallOk.of (spec_l1Cur_pick_ct e13) ?_
      conv => whnf
      refine CutK.go ?_
      conv => whnf
      cases h
      exact Done.of [some 0] [] rfl rfl ⟨⟨rfl, rfl⟩, ⟨rfl, ⟨rfl, rfl, rfl, rfl, trivial⟩, trivial⟩, rfl, trivial⟩

def spec_l1Cur_one  (a1 : Rw) (a2 : Int) (a3 : Int) (a4 : Int) : Option (Bool × Rw × Int × Int) :=
  ((spec_l1Cur_pick a1 a2 a3 a4).bind fun y5 => (if y5.1 = (0 : Int) then some (true, y5.2.1, y5.2.2.1, y5.2.2.2) else some (false, y5.2.1, y5.2.2.1, y5.2.2.2)))
set_option maxHeartbeats 4000000 in
set_option maxRecDepth 100000 in
theorem spec_l1Cur_one_ct  {a1 : Rw} {a2 : Int} {a3 : Int} {a4 : Int} {r : Bool × Rw × Int × Int} (h : spec_l1Cur_one a1 a2 a3 a4 = some r) : Ct prog 21 [.ptr 0 0, .d (D.int .i64 a4)] (⟨[(48, [.d (D.sl a1), .d (D.int .i64 a2), .d (D.int .u64 a3)])], []⟩) (.d (D.bool r.1)) (⟨[(48, [.d (D.sl r.2.1), .d (D.int .i64 r.2.2.1), .d (D.int .u64 r.2.2.2)])], []⟩) := by
  rw [spec_l1Cur_one] at h
  refine Ct.of (c := _) mixed func21 ⟨rfl, rfl, rfl⟩ ?_ rfl
  conv => whnf
  refine Pick.no ?_
  conv => whnf
  obtain ⟨y5, e6, h⟩ := bind_ex h
  refine CallOk.of (spec_l1Cur_pick_ct e6) ?_
  conv => whnf
  refine splD (fun g7 => ?_) (fun g7 => ?_)
  · replace h := iteP h g7
    conv => whnf
    refine CutK.go ?_
    conv => whnf
    cases h
    exact Done.of [some 0] [] rfl rfl ⟨⟨rfl, rfl⟩, ⟨rfl, ⟨rfl, rfl, rfl, rfl, trivial⟩, trivial⟩, rfl, trivial⟩
  · replace h := iteN h g7
    conv => whnf
    refine CutK.go ?_
    conv => whnf
    cases h
    exact Done.of [some 0] [] rfl rfl ⟨⟨rfl, rfl⟩, ⟨rfl, ⟨rfl, rfl, rfl, rfl, trivial⟩, trivial⟩, rfl, trivial⟩

def spec_l1Cur_base  (a1 : Rw) (a2 : Int) (a3 : Int) : Option (Int × Rw × Int × Int) :=
  ((spec_l1Cur_one a1 a2 a3 8).bind fun y4 => (if y4.1 = true then ((spec_l1Cur_among y4.2.1 y4.2.2.1 y4.2.2.2 ([[D.int .i64 (-1)], [D.int .i64 1], [D.int .i64 10], [D.int .i64 1000], [D.int .i64 1001]] : Rw)).bind fun y7 => some (y7.1, y7.2.1, y7.2.2.1, y7.2.2.2)) else ((spec_l1Cur_pick y4.2.1 y4.2.2.1 y4.2.2.2 5).bind fun y9 => some (IntKind.i64.wrap (2 + y9.1), y9.2.1, y9.2.2.1, y9.2.2.2))))
set_option maxHeartbeats 4000000 in
set_option maxRecDepth 100000 in
theorem spec_l1Cur_base_ct  {a1 : Rw} {a2 : Int} {a3 : Int} {r : Int × Rw × Int × Int} (h : spec_l1Cur_base a1 a2 a3 = some r) : Ct prog 40 [.ptr 0 0] (⟨[(48, [.d (D.sl a1), .d (D.int .i64 a2), .d (D.int .u64 a3)])], []⟩) (.d (D.int .i64 r.1)) (⟨[(48, [.d (D.sl r.2.1), .d (D.int .i64 r.2.2.1), .d (D.int .u64 r.2.2.2)])], []⟩) := by
  rw [spec_l1Cur_base] at h
  refine Ct.of (c := _) mixed func40 ⟨rfl, rfl, rfl⟩ ?_ rfl
  conv => whnf
  refine Pick.no ?_
  conv => whnf
  obtain ⟨y4, e5, h⟩ := bind_ex h
  refine CallOk.of (spec_l1Cur_one_ct e5) ?_
  conv => whnf
  refine spl (fun g6 => ?_) (fun g6 => ?_)
  · replace h := iteT h g6
    conv => whnf
    refine CutK.go ?_
    conv => whnf
    refine Pick.no ?_
    conv => whnf
    refine Take.all (by first | rfl | exact List.length_append.symm | (simp; done) | omega | (dsimp only; omega)) ?_
    conv => whnf
    obtain ⟨y7, e8, h⟩ := bind_ex h
    refine CallOk.of (spec_l1Cur_among_ct e8) ?_
    conv => whnf
    refine CutK.go ?_
    conv => whnf
    cases h
    exact Done.of [some 0] [] rfl rfl ⟨⟨rfl, rfl⟩, ⟨rfl, ⟨rfl, rfl, rfl, rfl, trivial⟩, trivial⟩, rfl, trivial⟩
  · replace h := iteF h g6
    conv => whnf
    refine CutK.go ?_
    conv => whnf
    refine CutK.go ?_
    conv => whnf
    refine Pick.no ?_
    conv => whnf
    obtain ⟨y9, e10, h⟩ := bind_ex h
    refine CallOk.of (spec_l1Cur_pick_ct e10) ?_
    conv => whnf
    refine CutK.go ?_
    conv => whnf
    cases h
    exact Done.of [some 0] [] rfl rfl ⟨⟨rfl, rfl⟩, ⟨rfl, ⟨rfl, rfl, rfl, rfl, trivial⟩, trivial⟩, rfl, trivial⟩

def spec_DrawHereditaryText  (a1 : Rw) : Option (Int × Int) :=
  ((spec_l1Cur_count9 a1 0 0).bind fun y2 => ((spec_l1Cur_base y2.2.1 y2.2.2.1 y2.2.2.2).bind fun y4 => some (y2.1, y4.1)))
set_option maxHeartbeats 4000000 in
set_option maxRecDepth 100000 in
theorem spec_DrawHereditaryText_ct  {a1 : Rw} {r : Int × Int} (h : spec_DrawHereditaryText a1 = some r) : Ct prog 16 [.d (D.sl a1)] (⟨[], []⟩) (.tup [.d (D.int .i64 r.1), .d (D.int .i64 r.2)]) (⟨[], []⟩) := by
  rw [spec_DrawHereditaryText] at h
  refine Ct.of (c := _) mixed func16 ⟨rfl, rfl, rfl⟩ ?_ rfl
  conv => whnf
  refine Pick.no ?_
  conv => whnf
  obtain ⟨y2, e3, h⟩ := bind_ex h
  refine CallOk.of (spec_l1Cur_count9_ct e3) ?_
  conv => whnf
  refine Pick.no ?_
  conv => whnf
  obtain ⟨y4, e5, h⟩ := bind_ex h
  refine CallOk.of (spec_l1Cur_base_ct e5) ?_
  conv => whnf
  refine CutK.go ?_
  conv => whnf
  cases h
  exact Done.of [] [] rfl rfl ⟨⟨rfl, rfl⟩, ⟨rfl, trivial⟩, ⟨rfl, rfl, trivial⟩, trivial⟩

def laws_big  (a1 : Rw) (a2 : Rw) : Option Bool :=
  (if (1048576 : Int) < (a1.length : Int) then some true else (if (IntKind.i64.wrap (1048576 - (a1.length : Int))) < (a2.length : Int) then some true else some false))
set_option maxHeartbeats 4000000 in
set_option maxRecDepth 100000 in
theorem laws_big_ct  {a1 : Rw} {a2 : Rw} {r : Bool} (h : laws_big a1 a2 = some r) : Ct prog 6 [.d (D.sl a1), .d (D.sl a2)] (⟨[], []⟩) (.d (D.bool r)) (⟨[], []⟩) := by
  rw [laws_big] at h
  refine Ct.of (c := _) mixed func6 ⟨rfl, rfl, rfl⟩ ?_ rfl
  conv => whnf
  refine splD (fun g3 => ?_) (fun g3 => ?_)
  · replace h := iteP h g3
    conv => whnf
    cases h
    exact Done.of [] [] rfl rfl ⟨⟨rfl, rfl⟩, ⟨rfl, trivial⟩, rfl, trivial⟩
  · replace h := iteN h g3
    conv => whnf
    refine splD (fun g4 => ?_) (fun g4 => ?_)
    · replace h := iteP h g4
      conv => whnf
      cases h
      exact Done.of [] [] rfl rfl ⟨⟨rfl, rfl⟩, ⟨rfl, trivial⟩, rfl, trivial⟩
    · replace h := iteN h g4
      conv => whnf
      cases h
      exact Done.of [] [] rfl rfl ⟨⟨rfl, rfl⟩, ⟨rfl, trivial⟩, rfl, trivial⟩

def laws_FnHereditaryTexts_p13 (o90 : ByteArray) (o91 : ByteArray) : Option Bool :=
  (if (o91.toList == o90.toList) = true then some true else some false)
set_option maxHeartbeats 4000000 in
set_option maxRecDepth 100000 in
theorem laws_FnHereditaryTexts_p13_ct {o90 : ByteArray} {o91 : ByteArray} {r : Bool} (h : laws_FnHereditaryTexts_p13 o90 o91 = some r) : X prog 0 (tlF f5 13) (mk 98 [(7, .d (D.str o90)), (17, .d (D.str o91))] []) (finK prog f5 0 (.d (D.bool r)) (⟨[], []⟩)) := by
  rw [laws_FnHereditaryTexts_p13] at h
  conv => whnf
  refine spl (fun g93 => ?_) (fun g93 => ?_)
  · replace h := iteT h g93
    conv => whnf
    cases h
    exact Done.of [] [] rfl rfl ⟨⟨rfl, rfl⟩, ⟨rfl, trivial⟩, rfl, trivial⟩
  · replace h := iteF h g93
    conv => whnf
    cases h
    exact Done.of [] [] rfl rfl ⟨⟨rfl, rfl⟩, ⟨rfl, trivial⟩, rfl, trivial⟩
def laws_FnHereditaryTexts_l0 (o52 : ByteArray) (o53 : ByteArray) (o54 : ByteArray) (K0 : ByteArray → Option Bool) : Nat → ByteArray → Int → Option Bool
  | 0, _, _ => none
  | n + 1, v103, v104 => (if v104 < (o53.size : Int) then (byteD o53 v104 fun b125 => (if (b125.toNat : Int) = (119 : Int) then (if v103.size + o54.size ≤ 9223372036854775807 then (laws_FnHereditaryTexts_l0 o52 o53 o54 K0 n (v103 ++ o54) (IntKind.i64.wrap (v104 + 1))) else none) else (if 0 ≤ v104 ∧ v104 ≤ (IntKind.i64.wrap (v104 + 1)) ∧ (IntKind.i64.wrap (v104 + 1)) ≤ (o53.size : Int) then (if v103.size + (o53.extract (v104 : Int).toNat (IntKind.i64.wrap (v104 + 1) : Int).toNat).size ≤ 9223372036854775807 then (laws_FnHereditaryTexts_l0 o52 o53 o54 K0 n (v103 ++ (o53.extract (v104 : Int).toNat (IntKind.i64.wrap (v104 + 1) : Int).toNat)) (IntKind.i64.wrap (v104 + 1))) else none) else none))) else (K0 v103))
set_option maxHeartbeats 4000000 in
set_option maxRecDepth 100000 in
theorem laws_FnHereditaryTexts_l0_ct {o52 : ByteArray} {o53 : ByteArray} {o54 : ByteArray} {K0 : ByteArray → Option Bool} {r : Bool} : ∀ (n : Nat) (v103 : ByteArray) (v104 : Int), laws_FnHereditaryTexts_l0 o52 o53 o54 K0 n v103 v104 = some r → LoopOk prog 0 (lp f5 0) (mk 98 [(7, .d (D.str o52)), (13, .d (D.str o53)), (15, .d (D.str o54)), (17, .d (D.str v103)), (18, .d (D.int .i64 v104))] []) (LoopEnd prog f5 0 98 (.d (D.bool r)) (⟨[], []⟩) (fun i ts os => (i = 0 ∧ ∃ v115 : ByteArray, K0 v115 = some r ∧ ts = [(7, .d (D.str o52)), (17, .d (D.str v115))] ∧ os = [])))
  | 0, _, _, h => by
      rw [laws_FnHereditaryTexts_l0] at h; cases h
  | n + 1, v103, v104, h => by
      rw [laws_FnHereditaryTexts_l0] at h
      refine LoopOk.step ?_
      conv => whnf
      refine splD (fun g124 => ?_) (fun g124 => ?_)
      · replace h := iteP h g124
        conv => whnf
        obtain ⟨g126, b125, e127, h⟩ := byteD_ex h
        refine Req.of g126 ?_
        refine Byte.of _ e127 ?_
        conv => whnf
        refine splD (fun g128 => ?_) (fun g128 => ?_)
        · replace h := iteP h g128
          conv => whnf
          obtain ⟨g129, h⟩ := req_ex h
          refine Req.of g129 ?_
          conv => whnf
          exact LoopOk.back (laws_FnHereditaryTexts_l0_ct  n _ _ h) [] [] ⟨⟨rfl, rfl⟩, ⟨rfl, trivial⟩, rfl, rfl, rfl, rfl, rfl, trivial⟩
        · replace h := iteN h g128
          conv => whnf
          obtain ⟨g130, h⟩ := req_ex h
          refine Req.of g130 ?_
          conv => whnf
          obtain ⟨g131, h⟩ := req_ex h
          refine Req.of g131 ?_
          conv => whnf
          exact LoopOk.back (laws_FnHereditaryTexts_l0_ct  n _ _ h) [] [] ⟨⟨rfl, rfl⟩, ⟨rfl, trivial⟩, rfl, rfl, rfl, rfl, rfl, trivial⟩
      · replace h := iteN h g124
        conv => whnf
        exact ⟨_, _, [], [], ⟨rfl, _, h, rfl, rfl⟩, ⟨⟨rfl, rfl⟩, ⟨rfl, trivial⟩, rfl, rfl, trivial⟩⟩
def laws_FnHereditaryTexts_p10 (k : Nat) (o51 : Int) (o52 : ByteArray) (o53 : ByteArray) (o54 : ByteArray) (v55 : Bool) (v59 : Bool) : Option Bool :=
  (cond v55 (cond v59 (laws_FnHereditaryTexts_l0 o52 o53 o54 (fun (v115 : ByteArray) => (laws_FnHereditaryTexts_p13 o52 v115)) k (ByteArray.mk #[]) 0) (if o51 = (1000 : Int) then some true else some false)) (cond v59 (if o51 = (1000 : Int) then some true else some false) (if o51 = (1000 : Int) then some true else some false)))
set_option maxHeartbeats 4000000 in
set_option maxRecDepth 100000 in
theorem laws_FnHereditaryTexts_p10_ct {k : Nat} {o51 : Int} {o52 : ByteArray} {o53 : ByteArray} {o54 : ByteArray} {v55 : Bool} {v59 : Bool} {r : Bool} (h : laws_FnHereditaryTexts_p10 k o51 o52 o53 o54 v55 v59 = some r) : X prog 0 (tlF f5 10) (mk 98 [(6, .d (D.int .i64 o51)), (7, .d (D.str o52)), (13, .d (D.str o53)), (14, .d (D.bool v59)), (15, .d (D.str o54)), (16, .d (D.bool v55))] []) (finK prog f5 0 (.d (D.bool r)) (⟨[], []⟩)) := by
  rw [laws_FnHereditaryTexts_p10] at h
  cases v55
  · replace h := condF h
    cases v59
    · replace h := condF h
      conv => whnf
      refine splD (fun g94 => ?_) (fun g94 => ?_)
      · replace h := iteP h g94
        conv => whnf
        cases h
        exact Done.of [] [] rfl rfl ⟨⟨rfl, rfl⟩, ⟨rfl, trivial⟩, rfl, trivial⟩
      · replace h := iteN h g94
        conv => whnf
        cases h
        exact Done.of [] [] rfl rfl ⟨⟨rfl, rfl⟩, ⟨rfl, trivial⟩, rfl, trivial⟩
    · replace h := condT h
      conv => whnf
      refine splD (fun g95 => ?_) (fun g95 => ?_)
      · replace h := iteP h g95
        conv => whnf
        cases h
        exact Done.of [] [] rfl rfl ⟨⟨rfl, rfl⟩, ⟨rfl, trivial⟩, rfl, trivial⟩
      · replace h := iteN h g95
        conv => whnf
        cases h
        exact Done.of [] [] rfl rfl ⟨⟨rfl, rfl⟩, ⟨rfl, trivial⟩, rfl, trivial⟩
  · replace h := condT h
    cases v59
    · replace h := condF h
      conv => whnf
      refine splD (fun g96 => ?_) (fun g96 => ?_)
      · replace h := iteP h g96
        conv => whnf
        cases h
        exact Done.of [] [] rfl rfl ⟨⟨rfl, rfl⟩, ⟨rfl, trivial⟩, rfl, trivial⟩
      · replace h := iteN h g96
        conv => whnf
        cases h
        exact Done.of [] [] rfl rfl ⟨⟨rfl, rfl⟩, ⟨rfl, trivial⟩, rfl, trivial⟩
    · replace h := condT h
      conv => whnf
      refine LoopOk.into (laws_FnHereditaryTexts_l0_ct  _ _ _ h) [] [] ⟨⟨rfl, rfl⟩, ⟨rfl, trivial⟩, rfl, rfl, rfl, rfl, rfl, trivial⟩ ?_ (fun _ hs => hs)
      rintro i ts os ⟨rfl, v115, h, rfl, rfl⟩
      conv => whnf
      exact CutK.piece (laws_FnHereditaryTexts_p13_ct  h) [] [] ⟨⟨rfl, rfl⟩, ⟨rfl, trivial⟩, rfl, rfl, trivial⟩
def laws_FnHereditaryTexts_p9 (k : Nat) (o44 : Int) (o45 : ByteArray) (o46 : ByteArray) (v47 : Bool) : Option Bool :=
  (cond v47 ((impl_HereditaryText k o44 (IntKind.i64.wrap (o44 + 1))).bind fun y135 => (if y135.2 = true then (laws_FnHereditaryTexts_p10 k o44 o45 o46 y135.1 true true) else (laws_FnHereditaryTexts_p10 k o44 o45 o46 y135.1 false true))) ((impl_HereditaryText k o44 (IntKind.i64.wrap (o44 + 1))).bind fun y132 => (if y132.2 = true then (laws_FnHereditaryTexts_p10 k o44 o45 o46 y132.1 true false) else (laws_FnHereditaryTexts_p10 k o44 o45 o46 y132.1 false false))))
set_option maxHeartbeats 4000000 in
set_option maxRecDepth 100000 in
theorem laws_FnHereditaryTexts_p9_ct {k : Nat} {o44 : Int} {o45 : ByteArray} {o46 : ByteArray} {v47 : Bool} {r : Bool} (h : laws_FnHereditaryTexts_p9 k o44 o45 o46 v47 = some r) : X prog 0 (tlF f5 9) (mk 98 [(6, .d (D.int .i64 o44)), (7, .d (D.str o45)), (13, .d (D.str o46)), (14, .d (D.bool v47))] []) (finK prog f5 0 (.d (D.bool r)) (⟨[], []⟩)) := by
  rw [laws_FnHereditaryTexts_p9] at h
  cases v47
  · replace h := condF h
    conv => whnf
    refine Pick.no ?_
    conv => whnf
    obtain ⟨y132, e133, h⟩ := bind_ex h
    refine CallOk.of (impl_HereditaryText_ct e133) ?_
    conv => whnf
    refine spl (fun g134 => ?_) (fun g134 => ?_)
    · replace h := iteT h g134
      conv => whnf
      exact CutK.piece (laws_FnHereditaryTexts_p10_ct  h) [] [] ⟨⟨rfl, rfl⟩, ⟨rfl, trivial⟩, rfl, rfl, rfl, rfl, rfl, rfl, trivial⟩
    · replace h := iteF h g134
      conv => whnf
      exact CutK.piece (laws_FnHereditaryTexts_p10_ct  h) [] [] ⟨⟨rfl, rfl⟩, ⟨rfl, trivial⟩, rfl, rfl, rfl, rfl, rfl, rfl, trivial⟩
  · replace h := condT h
    conv => whnf
    refine Pick.no ?_
    conv => whnf
    obtain ⟨y135, e136, h⟩ := bind_ex h
    refine CallOk.of (impl_HereditaryText_ct e136) ?_
    conv => whnf
    refine spl (fun g137 => ?_) (fun g137 => ?_)
    · replace h := iteT h g137
      conv => whnf
      exact CutK.piece (laws_FnHereditaryTexts_p10_ct  h) [] [] ⟨⟨rfl, rfl⟩, ⟨rfl, trivial⟩, rfl, rfl, rfl, rfl, rfl, rfl, trivial⟩
    · replace h := iteF h g137
      conv => whnf
      exact CutK.piece (laws_FnHereditaryTexts_p10_ct  h) [] [] ⟨⟨rfl, rfl⟩, ⟨rfl, trivial⟩, rfl, rfl, rfl, rfl, rfl, rfl, trivial⟩
def laws_FnHereditaryTexts_p7 (k : Nat) (o33 : Int) (o34 : ByteArray) (o35 : Rw) (v36 : Bool) : Option Bool :=
  (cond v36 ((impl_OrdinalText k o35).bind fun y138 => (if y138.2 = true then (laws_FnHereditaryTexts_p9 k o33 o34 y138.1 true) else (laws_FnHereditaryTexts_p9 k o33 o34 y138.1 false))) (some true))
set_option maxHeartbeats 4000000 in
set_option maxRecDepth 100000 in
theorem laws_FnHereditaryTexts_p7_ct {k : Nat} {o33 : Int} {o34 : ByteArray} {o35 : Rw} {v36 : Bool} {r : Bool} (h : laws_FnHereditaryTexts_p7 k o33 o34 o35 v36 = some r) : X prog 0 (tlF f5 7) (mk 98 [(6, .d (D.int .i64 o33)), (7, .d (D.str o34)), (11, .ptr 704 0), (12, .d (D.bool v36))] [(704, .box 41 [.os 1099000 o35.length]), (1099000, .arr 79 true o35)]) (finK prog f5 0 (.d (D.bool r)) (⟨[], []⟩)) := by
  rw [laws_FnHereditaryTexts_p7] at h
  cases v36
  · replace h := condF h
    conv => whnf
    cases h
    exact Done.of [] [] rfl rfl ⟨⟨rfl, rfl⟩, ⟨rfl, trivial⟩, rfl, trivial⟩
  · replace h := condT h
    conv => whnf
    refine Pick.no ?_
    conv => whnf
    refine Take.all (rfl) ?_
    conv => whnf
    obtain ⟨y138, e139, h⟩ := bind_ex h
    refine CallOk.of (impl_OrdinalText_ct e139) ?_
    conv => whnf
    refine spl (fun g140 => ?_) (fun g140 => ?_)
    · replace h := iteT h g140
      conv => whnf
      exact CutK.piece (laws_FnHereditaryTexts_p9_ct  h) [] [] ⟨⟨rfl, rfl⟩, ⟨rfl, trivial⟩, rfl, rfl, rfl, rfl, trivial⟩
    · replace h := iteF h g140
      conv => whnf
      exact CutK.piece (laws_FnHereditaryTexts_p9_ct  h) [] [] ⟨⟨rfl, rfl⟩, ⟨rfl, trivial⟩, rfl, rfl, rfl, rfl, trivial⟩
def laws_FnHereditaryTexts_p5 (k : Nat) (o20 : Int) (o21 : Int) (o22 : ByteArray) (o23 : ByteArray) (v24 : Bool) (v28 : Bool) : Option Bool :=
  (cond v24 (cond v28 (if (!(o22.toList == o23.toList)) = true then some false else ((impl_HereditaryOrdinal k o20 o21).bind fun y146 => (if y146.2 = true then (laws_FnHereditaryTexts_p7 k o21 o22 y146.1 true) else (laws_FnHereditaryTexts_p7 k o21 o22 y146.1 false)))) (some false)) (cond v28 (some false) (if (!(o22.toList == o23.toList)) = true then some false else ((impl_HereditaryOrdinal k o20 o21).bind fun y142 => (if y142.2 = true then (laws_FnHereditaryTexts_p7 k o21 o22 y142.1 true) else (laws_FnHereditaryTexts_p7 k o21 o22 y142.1 false))))))
set_option maxHeartbeats 4000000 in
set_option maxRecDepth 100000 in
theorem laws_FnHereditaryTexts_p5_ct {k : Nat} {o20 : Int} {o21 : Int} {o22 : ByteArray} {o23 : ByteArray} {v24 : Bool} {v28 : Bool} {r : Bool} (h : laws_FnHereditaryTexts_p5 k o20 o21 o22 o23 v24 v28 = some r) : X prog 0 (tlF f5 5) (mk 98 [(5, .d (D.int .i64 o20)), (6, .d (D.int .i64 o21)), (7, .d (D.str o22)), (8, .d (D.bool v28)), (9, .d (D.str o23)), (10, .d (D.bool v24))] []) (finK prog f5 0 (.d (D.bool r)) (⟨[], []⟩)) := by
  rw [laws_FnHereditaryTexts_p5] at h
  cases v24
  · replace h := condF h
    cases v28
    · replace h := condF h
      conv => whnf
      refine splF ?_
      conv => whnf
      refine spl (fun g141 => ?_) (fun g141 => ?_)
      · replace h := iteT h g141
        conv => whnf
        cases h
        exact Done.of [] [] rfl rfl ⟨⟨rfl, rfl⟩, ⟨rfl, trivial⟩, rfl, trivial⟩
      · replace h := iteF h g141
        conv => whnf
        refine Pick.no ?_
        conv => whnf
        obtain ⟨y142, e143, h⟩ := bind_ex h
        refine CallOk.of (impl_HereditaryOrdinal_ct e143) ?_
        conv => whnf
        refine spl (fun g144 => ?_) (fun g144 => ?_)
        · replace h := iteT h g144
          conv => whnf
          exact CutK.piece (laws_FnHereditaryTexts_p7_ct  h) [some 704, some 3200] [] ⟨⟨rfl, rfl⟩, ⟨rfl, ⟨rfl, ⟨rfl, rfl⟩, trivial⟩, ⟨rfl, rfl, rows_same⟩, trivial⟩, rfl, rfl, ⟨rfl, rfl⟩, rfl, trivial⟩
        · replace h := iteF h g144
          conv => whnf
          exact CutK.piece (laws_FnHereditaryTexts_p7_ct  h) [some 704, some 3200] [] ⟨⟨rfl, rfl⟩, ⟨rfl, ⟨rfl, ⟨rfl, rfl⟩, trivial⟩, ⟨rfl, rfl, rows_same⟩, trivial⟩, rfl, rfl, ⟨rfl, rfl⟩, rfl, trivial⟩
    · replace h := condT h
      conv => whnf
      refine splT ?_
      conv => whnf
      cases h
      exact Done.of [] [] rfl rfl ⟨⟨rfl, rfl⟩, ⟨rfl, trivial⟩, rfl, trivial⟩
  · replace h := condT h
    cases v28
    · replace h := condF h
      conv => whnf
      refine splT ?_
      conv => whnf
      cases h
      exact Done.of [] [] rfl rfl ⟨⟨rfl, rfl⟩, ⟨rfl, trivial⟩, rfl, trivial⟩
    · replace h := condT h
      conv => whnf
      refine splF ?_
      conv => whnf
      refine spl (fun g145 => ?_) (fun g145 => ?_)
      · replace h := iteT h g145
        conv => whnf
        cases h
        exact Done.of [] [] rfl rfl ⟨⟨rfl, rfl⟩, ⟨rfl, trivial⟩, rfl, trivial⟩
      · replace h := iteF h g145
        conv => whnf
        refine Pick.no ?_
        conv => whnf
        obtain ⟨y146, e147, h⟩ := bind_ex h
        refine CallOk.of (impl_HereditaryOrdinal_ct e147) ?_
        conv => whnf
        refine spl (fun g148 => ?_) (fun g148 => ?_)
        · replace h := iteT h g148
          conv => whnf
          exact CutK.piece (laws_FnHereditaryTexts_p7_ct  h) [some 704, some 3200] [] ⟨⟨rfl, rfl⟩, ⟨rfl, ⟨rfl, ⟨rfl, rfl⟩, trivial⟩, ⟨rfl, rfl, rows_same⟩, trivial⟩, rfl, rfl, ⟨rfl, rfl⟩, rfl, trivial⟩
        · replace h := iteF h g148
          conv => whnf
          exact CutK.piece (laws_FnHereditaryTexts_p7_ct  h) [some 704, some 3200] [] ⟨⟨rfl, rfl⟩, ⟨rfl, ⟨rfl, ⟨rfl, rfl⟩, trivial⟩, ⟨rfl, rfl, rows_same⟩, trivial⟩, rfl, rfl, ⟨rfl, rfl⟩, rfl, trivial⟩
def laws_FnHereditaryTexts_p4 (k : Nat) (o13 : Int) (o14 : Int) (o15 : ByteArray) (v16 : Bool) : Option Bool :=
  (cond v16 ((spec_HereditaryText k o13 o14).bind fun y152 => (if y152.2 = true then (laws_FnHereditaryTexts_p5 k o13 o14 o15 y152.1 true true) else (laws_FnHereditaryTexts_p5 k o13 o14 o15 y152.1 false true))) ((spec_HereditaryText k o13 o14).bind fun y149 => (if y149.2 = true then (laws_FnHereditaryTexts_p5 k o13 o14 o15 y149.1 true false) else (laws_FnHereditaryTexts_p5 k o13 o14 o15 y149.1 false false))))
set_option maxHeartbeats 4000000 in
set_option maxRecDepth 100000 in
theorem laws_FnHereditaryTexts_p4_ct {k : Nat} {o13 : Int} {o14 : Int} {o15 : ByteArray} {v16 : Bool} {r : Bool} (h : laws_FnHereditaryTexts_p4 k o13 o14 o15 v16 = some r) : X prog 0 (tlF f5 4) (mk 98 [(5, .d (D.int .i64 o13)), (6, .d (D.int .i64 o14)), (7, .d (D.str o15)), (8, .d (D.bool v16))] []) (finK prog f5 0 (.d (D.bool r)) (⟨[], []⟩)) := by
  rw [laws_FnHereditaryTexts_p4] at h
  cases v16
  · replace h := condF h
    conv => whnf
    refine Pick.no ?_
    conv => whnf
    obtain ⟨y149, e150, h⟩ := bind_ex h
    refine CallOk.of (spec_HereditaryText_ct e150) ?_
    conv => whnf
    refine spl (fun g151 => ?_) (fun g151 => ?_)
    · replace h := iteT h g151
      conv => whnf
      exact CutK.piece (laws_FnHereditaryTexts_p5_ct  h) [] [] ⟨⟨rfl, rfl⟩, ⟨rfl, trivial⟩, rfl, rfl, rfl, rfl, rfl, rfl, trivial⟩
    · replace h := iteF h g151
      conv => whnf
      exact CutK.piece (laws_FnHereditaryTexts_p5_ct  h) [] [] ⟨⟨rfl, rfl⟩, ⟨rfl, trivial⟩, rfl, rfl, rfl, rfl, rfl, rfl, trivial⟩
  · replace h := condT h
    conv => whnf
    refine Pick.no ?_
    conv => whnf
    obtain ⟨y152, e153, h⟩ := bind_ex h
    refine CallOk.of (spec_HereditaryText_ct e153) ?_
    conv => whnf
    refine spl (fun g154 => ?_) (fun g154 => ?_)
    · replace h := iteT h g154
      conv => whnf
      exact CutK.piece (laws_FnHereditaryTexts_p5_ct  h) [] [] ⟨⟨rfl, rfl⟩, ⟨rfl, trivial⟩, rfl, rfl, rfl, rfl, rfl, rfl, trivial⟩
    · replace h := iteF h g154
      conv => whnf
      exact CutK.piece (laws_FnHereditaryTexts_p5_ct  h) [] [] ⟨⟨rfl, rfl⟩, ⟨rfl, trivial⟩, rfl, rfl, rfl, rfl, rfl, rfl, trivial⟩
def laws_FnHereditaryTexts_p3 (k : Nat) (o8 : Int) (o9 : Int) : Option Bool :=
  ((impl_HereditaryText k o8 o9).bind fun y155 => (if y155.2 = true then (laws_FnHereditaryTexts_p4 k o8 o9 y155.1 true) else (laws_FnHereditaryTexts_p4 k o8 o9 y155.1 false)))
set_option maxHeartbeats 4000000 in
set_option maxRecDepth 100000 in
theorem laws_FnHereditaryTexts_p3_ct {k : Nat} {o8 : Int} {o9 : Int} {r : Bool} (h : laws_FnHereditaryTexts_p3 k o8 o9 = some r) : X prog 0 (tlF f5 3) (mk 98 [(5, .d (D.int .i64 o8)), (6, .d (D.int .i64 o9))] []) (finK prog f5 0 (.d (D.bool r)) (⟨[], []⟩)) := by
  rw [laws_FnHereditaryTexts_p3] at h
  conv => whnf
  refine Pick.no ?_
  conv => whnf
  obtain ⟨y155, e156, h⟩ := bind_ex h
  refine CallOk.of (impl_HereditaryText_ct e156) ?_
  conv => whnf
  refine spl (fun g157 => ?_) (fun g157 => ?_)
  · replace h := iteT h g157
    conv => whnf
    exact CutK.piece (laws_FnHereditaryTexts_p4_ct  h) [] [] ⟨⟨rfl, rfl⟩, ⟨rfl, trivial⟩, rfl, rfl, rfl, rfl, trivial⟩
  · replace h := iteF h g157
    conv => whnf
    exact CutK.piece (laws_FnHereditaryTexts_p4_ct  h) [] [] ⟨⟨rfl, rfl⟩, ⟨rfl, trivial⟩, rfl, rfl, rfl, rfl, trivial⟩
def laws_FnHereditaryTexts_p2 (k : Nat) (a1 : Rw) : Option Bool :=
  ((spec_DrawHereditaryText a1).bind fun y158 => (laws_FnHereditaryTexts_p3 k y158.1 y158.2))
set_option maxHeartbeats 4000000 in
set_option maxRecDepth 100000 in
theorem laws_FnHereditaryTexts_p2_ct {k : Nat} {a1 : Rw} {r : Bool} (h : laws_FnHereditaryTexts_p2 k a1 = some r) : X prog 0 (tlF f5 2) (mk 98 [(0, .d (D.sl a1))] []) (finK prog f5 0 (.d (D.bool r)) (⟨[], []⟩)) := by
  rw [laws_FnHereditaryTexts_p2] at h
  conv => whnf
  refine Pick.no ?_
  conv => whnf
  obtain ⟨y158, e159, h⟩ := bind_ex h
  refine CallOk.of (spec_DrawHereditaryText_ct e159) ?_
  conv => whnf
  exact CutK.piece (laws_FnHereditaryTexts_p3_ct  h) [] [] ⟨⟨rfl, rfl⟩, ⟨rfl, trivial⟩, rfl, rfl, trivial⟩
def laws_FnHereditaryTexts (k : Nat) (a1 : Rw) (a2 : Rw) : Option Bool :=
  ((laws_big a1 a2).bind fun y160 => (if y160 = true then some true else (laws_FnHereditaryTexts_p2 k a1)))
set_option maxHeartbeats 4000000 in
set_option maxRecDepth 100000 in
theorem laws_FnHereditaryTexts_ct {k : Nat} {a1 : Rw} {a2 : Rw} {r : Bool} (h : laws_FnHereditaryTexts k a1 a2 = some r) : Ct prog 5 [.d (D.sl a1), .d (D.sl a2)] (⟨[], []⟩) (.d (D.bool r)) (⟨[], []⟩) := by
  rw [laws_FnHereditaryTexts] at h
  refine Ct.of (c := _) mixed func5 ⟨rfl, rfl, rfl⟩ ?_ rfl
  conv => whnf
  refine Pick.no ?_
  conv => whnf
  obtain ⟨y160, e161, h⟩ := bind_ex h
  refine CallOk.of (laws_big_ct e161) ?_
  conv => whnf
  refine spl (fun g162 => ?_) (fun g162 => ?_)
  · replace h := iteT h g162
    conv => whnf
    refine CutK.norm [0, 21] [] ?_
    conv => whnf
    cases h
    exact Done.of [] [] rfl rfl ⟨⟨rfl, rfl⟩, ⟨rfl, trivial⟩, rfl, trivial⟩
  · replace h := iteF h g162
    conv => whnf
    refine CutK.norm [0, 21] [] ?_
    conv => whnf
    exact CutK.piece (laws_FnHereditaryTexts_p2_ct  h) [] [] ⟨⟨rfl, rfl⟩, ⟨rfl, trivial⟩, rfl, trivial⟩
end
end Go.Proofs.Tryd
