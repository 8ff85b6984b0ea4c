/- Printed by program (axgen): pure functions, and that the Go functions compute them. -/
import Derived.Test.YtmihoieaiojbhaaProg
import Derived.Test.YtmihoieaiojbhaaAxC
import Derived.KernelRfl
import Derived.Test.YtmihoieaiojbhaaBack
set_option linter.unusedVariables false
set_option linter.unusedSimpArgs false
namespace Go.Proofs.Try
open Go Go.AX
theorem mixed : prog.follows .mixedOrders = true := by kernel_rfl
def cell_i {α : Type} (cs : List D) (K : Int → Option α) : Option α := match cs with | [.int .i64 a0] => K a0 | _ => none
def row_i {α : Type} (es : Rw) (i : Int) (K : Int → Option α) : Option α := if 0 ≤ i then (match es[i.toNat]? with | some cs => cell_i cs K | none => none) else none
theorem cell_i_ex {α : Type} {cs : List D} {K : Int → Option α} {r : α} (h : cell_i cs K = some r) : ∃ a0, cs = [.int .i64 a0] ∧ K a0 = some r := by
  unfold cell_i at h
  split at h
  · exact ⟨_, rfl, h⟩
  · cases h
theorem row_i_ex {α : Type} {es : Rw} {i : Int} {K : Int → Option α} {r : α} (h : row_i es i K = some r) : 0 ≤ i ∧ ∃ a0, es[i.toNat]? = some [.int .i64 a0] ∧ K a0 = some r := by
  unfold row_i at h
  obtain ⟨g, h⟩ := req_ex h
  split at h
  · rename_i cs e
    obtain ⟨a0, rfl, h⟩ := cell_i_ex h
    exact ⟨g, a0, e, h⟩
  · cases h
def cell_iu8 {α : Type} (cs : List D) (K : Int → Option α) : Option α := match cs with | [.int .u8 a0] => K a0 | _ => none
def row_iu8 {α : Type} (es : Rw) (i : Int) (K : Int → Option α) : Option α := if 0 ≤ i then (match es[i.toNat]? with | some cs => cell_iu8 cs K | none => none) else none
theorem cell_iu8_ex {α : Type} {cs : List D} {K : Int → Option α} {r : α} (h : cell_iu8 cs K = some r) : ∃ a0, cs = [.int .u8 a0] ∧ K a0 = some r := by
  unfold cell_iu8 at h
  split at h
  · exact ⟨_, rfl, h⟩
  · cases h
theorem row_iu8_ex {α : Type} {es : Rw} {i : Int} {K : Int → Option α} {r : α} (h : row_iu8 es i K = some r) : 0 ≤ i ∧ ∃ a0, es[i.toNat]? = some [.int .u8 a0] ∧ K a0 = some r := by
  unfold row_iu8 at h
  obtain ⟨g, h⟩ := req_ex h
  split at h
  · rename_i cs e
    obtain ⟨a0, rfl, h⟩ := cell_iu8_ex h
    exact ⟨g, a0, e, h⟩
  · cases h
def cell_s {α : Type} (cs : List D) (K : Rw → Option α) : Option α := match cs with | [.sl a0] => K a0 | _ => none
def row_s {α : Type} (es : Rw) (i : Int) (K : Rw → Option α) : Option α := if 0 ≤ i then (match es[i.toNat]? with | some cs => cell_s cs K | none => none) else none
theorem cell_s_ex {α : Type} {cs : List D} {K : Rw → Option α} {r : α} (h : cell_s cs K = some r) : ∃ a0, cs = [.sl a0] ∧ K a0 = some r := by
  unfold cell_s at h
  split at h
  · exact ⟨_, rfl, h⟩
  · cases h
theorem row_s_ex {α : Type} {es : Rw} {i : Int} {K : Rw → Option α} {r : α} (h : row_s es i K = some r) : 0 ≤ i ∧ ∃ a0, es[i.toNat]? = some [.sl a0] ∧ K a0 = some r := by
  unfold row_s at h
  obtain ⟨g, h⟩ := req_ex h
  split at h
  · rename_i cs e
    obtain ⟨a0, rfl, h⟩ := cell_s_ex h
    exact ⟨g, a0, e, h⟩
  · cases h
def cell_si {α : Type} (cs : List D) (K : Rw → Int → Option α) : Option α := match cs with | [.sl a0, .int .i64 a1] => K a0 a1 | _ => none
def row_si {α : Type} (es : Rw) (i : Int) (K : Rw → Int → Option α) : Option α := if 0 ≤ i then (match es[i.toNat]? with | some cs => cell_si cs K | none => none) else none
theorem cell_si_ex {α : Type} {cs : List D} {K : Rw → Int → Option α} {r : α} (h : cell_si cs K = some r) : ∃ a0 a1, cs = [.sl a0, .int .i64 a1] ∧ K a0 a1 = some r := by
  unfold cell_si at h
  split at h
  · exact ⟨_, _, rfl, h⟩
  · cases h
theorem row_si_ex {α : Type} {es : Rw} {i : Int} {K : Rw → Int → Option α} {r : α} (h : row_si es i K = some r) : 0 ≤ i ∧ ∃ a0 a1, es[i.toNat]? = some [.sl a0, .int .i64 a1] ∧ K a0 a1 = some r := by
  unfold row_si at h
  obtain ⟨g, h⟩ := req_ex h
  split at h
  · rename_i cs e
    obtain ⟨a0, a1, rfl, h⟩ := cell_si_ex h
    exact ⟨g, a0, a1, e, h⟩
  · cases h
noncomputable section
def lib_Backward (a1 : Rw) : Option Rw := some a1
theorem lib_Backward_ct {a1 r : Rw} (h : lib_Backward a1 = some r) : Ct prog 141 [.d (.sl a1)] ⟨[], []⟩ (.fn 178 [.dp [.sl r]]) ⟨[], []⟩ := by
  cases h
  exact backward_ct

def impl_hereditary_l0 (a2 : Int) (K0 : Rw → Option Rw) : Nat → Int → Rw → Option Rw
  | 0, _, _ => none
  | n + 1, v5, v6 => (if (0 : Int) < v5 then (if a2 ≠ 0 then (if v6.length + 1 ≤ cap then (impl_hereditary_l0 a2 K0 n (IntKind.i64.wrap (v5.tdiv a2)) (v6 ++ ([[D.int .i64 (v5.tmod a2)]]))) else none) else none) else (K0 v6))
set_option maxHeartbeats 4000000 in
set_option maxRecDepth 100000 in
theorem impl_hereditary_l0_ct {a2 : Int} {K0 : Rw → Option Rw} {r : Rw} : ∀ (n : Nat) (v5 : Int) (v6 : Rw), impl_hereditary_l0 a2 K0 n v5 v6 = some r → LoopOk prog 0 (lp f75 0) (mk 41 [(0, .d (D.int .i64 v5)), (3, .ptr 192 0), (4, .ptr 256 0), (5, .os 64000 v6.length)] [(192, .box 3 [.d (D.int .i64 a2)]), (256, .box 59 [.es]), (64000, .arr 3 true v6)]) (LoopEnd prog f75 0 41 (.agg [.os 8 r.length]) (⟨[], [(122, true, r)]⟩) (fun i ts os => (i = 0 ∧ ∃ v10 : Rw, K0 v10 = some r ∧ ts = [(3, .ptr 192 0), (4, .ptr 256 0), (5, .os 67001 v10.length)] ∧ os = [(192, .box 3 [.d (D.int .i64 a2)]), (256, .box 59 [.es]), (67001, .arr 3 true v10)])))
  | 0, _, _, h => by
      rw [impl_hereditary_l0] at h; cases h
  | n + 1, v5, v6, h => by
      rw [impl_hereditary_l0] at h
      refine LoopOk.step ?_
      conv => whnf
      refine splD (fun g14 => ?_) (fun g14 => ?_)
      · replace h := iteP h g14
        conv => whnf
        obtain ⟨g15, h⟩ := req_ex h
        refine Req.of g15 ?_
        conv => whnf
        refine Take.all (rfl) ?_
        conv => whnf
        refine Take.all (by first | rfl | exact List.length_append.symm | (simp; done) | omega | (dsimp only; omega)) ?_
        conv => whnf
        obtain ⟨g16, h⟩ := req_ex h
        refine Req.of (room (b := 8) (by decide) g16 (wide1 rfl wide0)) ?_
        conv => whnf
        refine Req.of g15 ?_
        conv => whnf
        exact LoopOk.back (impl_hereditary_l0_ct  n _ _ h) [some 192, some 256, some 1280] [] ⟨⟨rfl, rfl⟩, ⟨rfl, ⟨rfl, rfl, trivial⟩, ⟨rfl, trivial, trivial⟩, ⟨rfl, rfl, rows_same⟩, trivial⟩, rfl, ⟨rfl, rfl⟩, ⟨rfl, rfl⟩, ⟨(by first | rfl | exact List.length_append.symm | (simp; done) | omega | (dsimp only; omega)), rfl⟩, trivial⟩
      · replace h := iteN h g14
        conv => whnf
        exact ⟨_, _, [some 192, some 256, some 64000], [], ⟨rfl, _, h, rfl, rfl⟩, ⟨⟨rfl, rfl⟩, ⟨rfl, ⟨rfl, rfl, trivial⟩, ⟨rfl, trivial, trivial⟩, ⟨rfl, rfl, rows_same⟩, trivial⟩, ⟨rfl, rfl⟩, ⟨rfl, rfl⟩, ⟨rfl, rfl⟩, trivial⟩⟩
def impl_hereditary_rf0 (rec_impl_hereditary : Int → Int → Option Rw) (a2 : Int) (y17 : Rw) (zs19 : List Int) (K : Rw → Option Rw) : Nat → Rw → Option Rw
  | 0, v29 => K v29
  | m20 + 1, v29 => (if (0 : Int) < (zs19[m20]?.getD 0) then ((rec_impl_hereditary (m20 : Int) a2).bind fun y40 => (if v29.length + 1 ≤ cap then (if 0 ≤ (v29.length : Int) ∧ (v29.length : Int) < (v29.length + ([[D.sl ([]), D.int .i64 0]] : Rw).length : Int) then (row_si (v29 ++ ([[D.sl ([]), D.int .i64 0]])) (v29.length : Int) fun x44 x45 => (impl_hereditary_rf0 rec_impl_hereditary a2 y17 zs19 K m20 ((v29 ++ ([[D.sl ([]), D.int .i64 0]])).set (((v29.length : Int) : Int).toNat) [D.sl y40, D.int .i64 (zs19[m20]?.getD 0)]))) else none) else none)) else (impl_hereditary_rf0 rec_impl_hereditary a2 y17 zs19 K m20 v29))
set_option maxHeartbeats 4000000 in
set_option maxRecDepth 100000 in
theorem impl_hereditary_rf0_ct {rec_impl_hereditary : Int → Int → Option Rw} {a2 : Int} {y17 : Rw} {zs19 : List Int} {K : Rw → Option Rw} (hrec_impl_hereditary : ∀ (a1 : Int) (a2 : Int) (r : Rw), rec_impl_hereditary a1 a2 = some r → Ct prog 75 [.d (D.int .i64 a1), .d (D.int .i64 a2)] (⟨[], []⟩) (.agg [.os 8 r.length]) (⟨[], [(122, true, r)]⟩)) {r : Rw} (m20 : Nat) (v29 : Rw) (h : impl_hereditary_rf0 rec_impl_hereditary a2 y17 zs19 K (m20 + 1) v29 = some r) : X prog 3 (rfc f75 0).1 (mk 41 ((25, .d (.int .i64 (zs19[m20]?.getD 0))) :: (24, .d (.int .i64 (m20 : Int))) :: [(3, .ptr 0 0), (4, .ptr 64 0), (6, .ptr 128 0), (23, .fn 178 [.dp [D.sl y17]])]) [(0, .box 3 [.d (D.int .i64 a2)]), (64, .box 59 [.es]), (128, .box 59 [.os 384000 v29.length]), (384000, .arr 122 true v29)]) (RfK1 prog 3 (rfc f75 0).2 (fun os => ∃ v29 : Rw, impl_hereditary_rf0 rec_impl_hereditary a2 y17 zs19 K m20 v29 = some r ∧ os = [(0, .box 3 [.d (D.int .i64 a2)]), (64, .box 59 [.es]), (128, .box 59 [.os 384000 v29.length]), (384000, .arr 122 true v29)])) := by
  rw [impl_hereditary_rf0] at h
  conv => whnf
  refine RfMid.wrap ?_
  conv => whnf
  refine splD (fun g39 => ?_) (fun g39 => ?_)
  · replace h := iteP h g39
    conv => whnf
    refine Pick.no ?_
    conv => whnf
    obtain ⟨y40, e41, h⟩ := bind_ex h
    refine CallOk.of (hrec_impl_hereditary _ _ _ e41) ?_
    conv => whnf
    refine Take.all (rfl) ?_
    conv => whnf
    refine Take.all (by first | rfl | exact List.length_append.symm | (simp; done) | omega | (dsimp only; omega)) ?_
    conv => whnf
    obtain ⟨g42, h⟩ := req_ex h
    refine Req.of (room (b := 32) (by decide) g42 (wide1 rfl wide0)) ?_
    conv => whnf
    obtain ⟨g43, h⟩ := req_ex h
    refine Req.of g43 ?_
    conv => whnf
    refine Take.all (rfl) ?_
    conv => whnf
    obtain ⟨g47, x44, x45, e46, h⟩ := row_si_ex h
    refine Row.of _ e46 ?_
    conv => whnf
    refine rfEnd_of (n := 41) (ts := []) (os := [(0, .box 3 [.d (D.int .i64 a2)]), (64, .box 59 [.es]), (128, .box 59 [.os 384000 (((v29 ++ ([[D.sl ([]), D.int .i64 0]])).set (((v29.length : Int) : Int).toNat) [D.sl y40, D.int .i64 (zs19[m20]?.getD 0)]).length)]), (384000, .arr 122 true ((v29 ++ ([[D.sl ([]), D.int .i64 0]])).set (((v29.length : Int) : Int).toNat) [D.sl y40, D.int .i64 (zs19[m20]?.getD 0)]))]) ?_ [some 0, some 64, some 128, some 2368] [] ?_
    · exact ⟨_, h, rfl⟩
    · exact ⟨⟨rfl, rfl⟩, ⟨rfl, ⟨rfl, rfl, trivial⟩, ⟨rfl, trivial, trivial⟩, ⟨rfl, ⟨(by first | rfl | exact List.length_append.symm | (simp; done) | omega | (dsimp only; omega)), rfl⟩, trivial⟩, ⟨rfl, rfl, rows_same⟩, trivial⟩, trivial⟩
  · replace h := iteN h g39
    conv => whnf
    refine rfEnd_of (n := 41) (ts := []) (os := [(0, .box 3 [.d (D.int .i64 a2)]), (64, .box 59 [.es]), (128, .box 59 [.os 384000 v29.length]), (384000, .arr 122 true v29)]) ?_ [some 0, some 64, some 128, some 384000] [] ?_
    · exact ⟨_, h, rfl⟩
    · exact ⟨⟨rfl, rfl⟩, ⟨rfl, ⟨rfl, rfl, trivial⟩, ⟨rfl, trivial, trivial⟩, ⟨rfl, ⟨rfl, rfl⟩, trivial⟩, ⟨rfl, rfl, rows_same⟩, trivial⟩, trivial⟩
def impl_hereditary_b (k : Nat) (rec_impl_hereditary : Int → Int → Option Rw) (a1 : Int) (a2 : Int) : Option Rw :=
  (impl_hereditary_l0 a2 (fun (v10 : Rw) => ((lib_Backward v10).bind fun y17 => ((intsD y17).bind fun zs19 => (if zs19.length ≤ cap then (impl_hereditary_rf0 rec_impl_hereditary a2 y17 zs19 (fun (v29 : Rw) => some v29) zs19.length ([] : Rw)) else none)))) k a1 ([] : Rw))
set_option maxHeartbeats 4000000 in
set_option maxRecDepth 100000 in
theorem impl_hereditary_b_ct {k : Nat} {rec_impl_hereditary : Int → Int → Option Rw} (hrec_impl_hereditary : ∀ (a1 : Int) (a2 : Int) (r : Rw), rec_impl_hereditary a1 a2 = some r → Ct prog 75 [.d (D.int .i64 a1), .d (D.int .i64 a2)] (⟨[], []⟩) (.agg [.os 8 r.length]) (⟨[], [(122, true, r)]⟩)) {a1 : Int} {a2 : Int} {r : Rw} (h : impl_hereditary_b k rec_impl_hereditary a1 a2 = some r) : Ct prog 75 [.d (D.int .i64 a1), .d (D.int .i64 a2)] (⟨[], []⟩) (.agg [.os 8 r.length]) (⟨[], [(122, true, r)]⟩) := by
  rw [impl_hereditary_b] at h
  refine Ct.of (c := _) mixed func75 ⟨rfl, rfl, rfl⟩ ?_ rfl
  conv => whnf
  refine LoopOk.into (impl_hereditary_l0_ct  _ _ _ h) [some 192, some 256, some 576] [] ⟨⟨rfl, rfl⟩, ⟨rfl, ⟨rfl, rfl, trivial⟩, ⟨rfl, trivial, trivial⟩, ⟨rfl, rfl, rows_same⟩, trivial⟩, rfl, ⟨rfl, rfl⟩, ⟨rfl, rfl⟩, ⟨(by first | rfl | exact List.length_append.symm | (simp; done) | omega | (dsimp only; omega)), rfl⟩, trivial⟩ ?_ (fun _ hs => hs)
  rintro i ts os ⟨rfl, v10, h, rfl, rfl⟩
  conv => whnf
  refine CutK.norm [3, 4, 5] [192, 256, 67001] ?_
  conv => whnf
  refine Pick.no ?_
  conv => whnf
  refine Take.all (rfl) ?_
  conv => whnf
  obtain ⟨y17, e18, h⟩ := bind_ex h
  refine CallOk.of (lib_Backward_ct e18) ?_
  conv => whnf
  refine CutK.norm [3, 4, 6, 23] [192, 256, 384] ?_
  conv => whnf
  obtain ⟨zs19, e48, h⟩ := bind_ex h
  obtain ⟨g49, h⟩ := req_ex h
  refine rfOk_to (n := 41) (ts := [(3, .ptr 0 0), (4, .ptr 64 0), (6, .ptr 128 0), (23, .fn 178 [.dp [D.sl y17]])]) (os := [(0, .box 3 [.d (D.int .i64 a2)]), (64, .box 59 [.es]), (128, .box 59 [.os 384000 (([] : Rw).length)]), (384000, .arr 122 true ([] : Rw))]) [some 192, some 256, some 384, none] [] ⟨⟨rfl, rfl⟩, ⟨rfl, ⟨rfl, rfl, trivial⟩, ⟨rfl, trivial, trivial⟩, ⟨rfl, ⟨rfl, rfl⟩, trivial⟩, rfl, trivial⟩, ⟨rfl, rfl⟩, ⟨rfl, rfl⟩, ⟨rfl, rfl⟩, ⟨rfl, rfl, trivial⟩, trivial⟩ ?_
  refine rfOk_back (nb2 := 3) back_it e48 (cap_le g49) rfl rfl rfl (fun m20 => fun os => ∃ v29 : Rw, impl_hereditary_rf0 rec_impl_hereditary a2 y17 zs19 _ m20 v29 = some r ∧ os = [(0, .box 3 [.d (D.int .i64 a2)]), (64, .box 59 [.es]), (128, .box 59 [.os 384000 v29.length]), (384000, .arr 122 true v29)]) ⟨_, h, rfl⟩ (fun m20 os hm ho => by obtain ⟨v29, h, rfl⟩ := ho; exact impl_hereditary_rf0_ct hrec_impl_hereditary m20 _ h) ?_
  rintro os ⟨v29, h, rfl⟩
  rw [impl_hereditary_rf0] at h
  conv => whnf
  refine CutK.norm [4, 6] [64, 128, 384000] ?_
  conv => whnf
  cases h
  exact Done.of [some 384000] [] rfl rfl ⟨⟨rfl, rfl⟩, ⟨rfl, ⟨rfl, rfl, rows_same⟩, trivial⟩, ⟨⟨rfl, rfl⟩, trivial⟩, trivial⟩
def impl_hereditary : Nat → Int → Int → Option Rw
  | 0, _, _ => none
  | k + 1, a1, a2 => impl_hereditary_b k (impl_hereditary k) a1 a2
theorem impl_hereditary_ct' : ∀ (k : Nat) (a1 : Int) (a2 : Int) (r : Rw), impl_hereditary k a1 a2 = some r → Ct prog 75 [.d (D.int .i64 a1), .d (D.int .i64 a2)] (⟨[], []⟩) (.agg [.os 8 r.length]) (⟨[], [(122, true, r)]⟩)
  | 0, _, _, _, h => by rw [impl_hereditary] at h; cases h
  | k + 1, _, _, _, h => by rw [impl_hereditary] at h; exact impl_hereditary_b_ct (impl_hereditary_ct' k) h
theorem impl_hereditary_ct {k : Nat} {a1 : Int} {a2 : Int} {r : Rw} (h : impl_hereditary k a1 a2 = some r) : Ct prog 75 [.d (D.int .i64 a1), .d (D.int .i64 a2)] (⟨[], []⟩) (.agg [.os 8 r.length]) (⟨[], [(122, true, r)]⟩) := impl_hereditary_ct' k _ _ _ h

def impl_valueOf_l1 (a1 : Rw) (a2 : Int) (v20 : Int) (v21n : Nat) (K2 : Int → Option Int) : Nat → Int → Int → Option Int
  | 0, _, _ => none
  | n + 1, v64, v65 => (if (0 : Int) < v64 then (if v65 ≤ (1000000 : Int) then (impl_valueOf_l1 a1 a2 v20 v21n K2 n (IntKind.i64.wrap (v64 - 1)) (IntKind.i64.wrap (v65 * a2))) else (K2 v65)) else (K2 v65))
set_option maxHeartbeats 4000000 in
set_option maxRecDepth 100000 in
theorem impl_valueOf_l1_ct {a1 : Rw} {a2 : Int} {v20 : Int} {v21n : Nat} {K2 : Int → Option Int} {r : Int} : ∀ (n : Nat) (v64 : Int) (v65 : Int), impl_valueOf_l1 a1 a2 v20 v21n K2 n v64 v65 = some r → LoopOk prog 0 (lp f83 1) (mk 41 [(1, .d (D.int .i64 a2)), (5, .d (D.int .i64 v20)), (8, .d (D.int .i64 v64)), (9, .d (D.int .i64 v65)), (11, .d (D.sl a1)), (12, .d (D.int .i64 (a1.length : Int))), (13, .d (D.int .i64 (v21n : Int)))] []) (LoopEnd prog f83 0 41 (.d (D.int .i64 r)) (⟨[], []⟩) (fun i ts os => (i = 2 ∧ ∃ v68 : Int, K2 v68 = some r ∧ ts = [(1, .d (D.int .i64 a2)), (5, .d (D.int .i64 v20)), (9, .d (D.int .i64 v68)), (11, .d (D.sl a1)), (12, .d (D.int .i64 (a1.length : Int))), (13, .d (D.int .i64 (v21n : Int)))] ∧ os = [])))
  | 0, _, _, h => by
      rw [impl_valueOf_l1] at h; cases h
  | n + 1, v64, v65, h => by
      rw [impl_valueOf_l1] at h
      refine LoopOk.step ?_
      conv => whnf
      refine splD (fun g71 => ?_) (fun g71 => ?_)
      · replace h := iteP h g71
        conv => whnf
        refine splD (fun g72 => ?_) (fun g72 => ?_)
        · replace h := iteP h g72
          conv => whnf
          exact LoopOk.back (impl_valueOf_l1_ct  n _ _ h) [] [] ⟨⟨rfl, rfl⟩, ⟨rfl, trivial⟩, rfl, rfl, rfl, rfl, rfl, rfl, rfl, trivial⟩
        · replace h := iteN h g72
          conv => whnf
          exact ⟨_, _, [], [], ⟨rfl, _, h, rfl, rfl⟩, ⟨⟨rfl, rfl⟩, ⟨rfl, trivial⟩, rfl, rfl, rfl, rfl, rfl, rfl, trivial⟩⟩
      · replace h := iteN h g71
        conv => whnf
        exact ⟨_, _, [], [], ⟨rfl, _, h, rfl, rfl⟩, ⟨⟨rfl, rfl⟩, ⟨rfl, trivial⟩, rfl, rfl, rfl, rfl, rfl, rfl, trivial⟩⟩
def impl_valueOf_l0 (k : Nat) (rec_impl_valueOf : Rw → Int → Option Int) (a1 : Rw) (a2 : Int) (K0 : Int → Option Int) : Rw → Nat → Int → Option Int
  | [], v21n, v20 => (K0 v20)
  | cs :: rest, v21n, v20 => (cell_si cs fun x57 x58 => ((rec_impl_valueOf x57 a2).bind fun y60 => (impl_valueOf_l1 a1 a2 v20 v21n (fun (v68 : Int) => (if (1000000 : Int) < (IntKind.i64.wrap (v20 + v68)) then some 1000001 else (impl_valueOf_l0 k rec_impl_valueOf a1 a2 K0 rest (v21n + 1) (IntKind.i64.wrap (v20 + v68))))) k y60 x58)))
set_option maxHeartbeats 4000000 in
set_option maxRecDepth 100000 in
theorem impl_valueOf_l0_ct {k : Nat} {rec_impl_valueOf : Rw → Int → Option Int} {a1 : Rw} {a2 : Int} {K0 : Int → Option Int} (hrec_impl_valueOf : ∀ (a1 : Rw) (a2 : Int) (r : Int), rec_impl_valueOf a1 a2 = some r → Ct prog 83 [.agg [.d (D.sl a1)], .d (D.int .i64 a2)] (⟨[], []⟩) (.d (D.int .i64 r)) (⟨[], []⟩)) {r : Int} (hx : a1.length ≤ cap) : ∀ (rest : Rw) (v21n : Nat) (v20 : Int), a1.drop v21n = rest → impl_valueOf_l0 k rec_impl_valueOf a1 a2 K0 rest v21n v20 = some r → LoopOk prog 0 (lp f83 0) (mk 41 [(1, .d (D.int .i64 a2)), (5, .d (D.int .i64 v20)), (11, .d (D.sl a1)), (12, .d (D.int .i64 (a1.length : Int))), (13, .d (D.int .i64 (v21n : Int)))] []) (LoopEnd prog f83 0 41 (.d (D.int .i64 r)) (⟨[], []⟩) (fun i ts os => (i = 0 ∧ ∃ v39 : Int, K0 v39 = some r ∧ ts = [(5, .d (D.int .i64 v39))] ∧ os = [])))
  | [], v21n, v20, hd, h => by
      rw [impl_valueOf_l0] at h
      have hn := drop_nil hd
      refine LoopOk.step ?_
      conv => whnf
      refine splD (fun g => absurd g hn) (fun _ => ?_)
      conv => whnf
      exact ⟨_, _, [], [], ⟨rfl, _, h, rfl, rfl⟩, ⟨⟨rfl, rfl⟩, ⟨rfl, trivial⟩, rfl, trivial⟩⟩
  | cs :: rest, v21n, v20, hd, h => by
      rw [impl_valueOf_l0] at h
      obtain ⟨hrow, hd1, hlt⟩ := drop_cons hd
      refine LoopOk.step ?_
      conv => whnf
      refine splD (fun _ => ?_) (fun g => absurd hlt g)
      conv => whnf
      obtain ⟨x57, x58, e59, h⟩ := cell_si_ex h
      rw [e59] at hrow
      refine Req.of (Int.natCast_nonneg _) ?_
      refine Row.of _ hrow ?_
      conv => whnf
      refine Pick.no ?_
      conv => whnf
      obtain ⟨y60, e61, h⟩ := bind_ex h
      refine CallOk.of (hrec_impl_valueOf _ _ _ e61) ?_
      conv => whnf
      refine CutK.norm [1, 5, 8, 9, 11, 12, 13] [] ?_
      conv => whnf
      refine LoopOk.into (impl_valueOf_l1_ct  _ _ _ h) [] [] ⟨⟨rfl, rfl⟩, ⟨rfl, trivial⟩, rfl, rfl, rfl, rfl, rfl, rfl, rfl, trivial⟩ ?_ (fun _ hs => hs)
      rintro i ts os ⟨rfl, v68, h, rfl, rfl⟩
      conv => whnf
      refine CutK.norm [1, 5, 9, 11, 12, 13] [] ?_
      conv => whnf
      refine splD (fun g73 => ?_) (fun g73 => ?_)
      · replace h := iteP h g73
        conv => whnf
        cases h
        exact Done.of [] [] rfl rfl ⟨⟨rfl, rfl⟩, ⟨rfl, trivial⟩, rfl, trivial⟩
      · replace h := iteN h g73
        conv => whnf
        refine CutK.norm [1, 5, 11, 12, 13] [] ?_
        conv => whnf
        exact LoopOk.back (impl_valueOf_l0_ct hrec_impl_valueOf hx rest (v21n + 1) _ hd1 h) [] [] ⟨⟨rfl, rfl⟩, ⟨rfl, trivial⟩, rfl, rfl, rfl, rfl, i64eq (wrap_up hlt hx), trivial⟩
def impl_valueOf_b (k : Nat) (rec_impl_valueOf : Rw → Int → Option Int) (a1 : Rw) (a2 : Int) : Option Int :=
  (if a1.length ≤ cap then (impl_valueOf_l0 k rec_impl_valueOf a1 a2 (fun (v39 : Int) => some v39) a1 0 0) else none)
set_option maxHeartbeats 4000000 in
set_option maxRecDepth 100000 in
theorem impl_valueOf_b_ct {k : Nat} {rec_impl_valueOf : Rw → Int → Option Int} (hrec_impl_valueOf : ∀ (a1 : Rw) (a2 : Int) (r : Int), rec_impl_valueOf a1 a2 = some r → Ct prog 83 [.agg [.d (D.sl a1)], .d (D.int .i64 a2)] (⟨[], []⟩) (.d (D.int .i64 r)) (⟨[], []⟩)) {a1 : Rw} {a2 : Int} {r : Int} (h : impl_valueOf_b k rec_impl_valueOf a1 a2 = some r) : Ct prog 83 [.agg [.d (D.sl a1)], .d (D.int .i64 a2)] (⟨[], []⟩) (.d (D.int .i64 r)) (⟨[], []⟩) := by
  rw [impl_valueOf_b] at h
  refine Ct.of (c := _) mixed func83 ⟨rfl, rfl, rfl⟩ ?_ rfl
  conv => whnf
  obtain ⟨g74, h⟩ := req_ex h
  refine LoopOk.into (impl_valueOf_l0_ct hrec_impl_valueOf g74 _ _ _ rfl h) [] [] ⟨⟨rfl, rfl⟩, ⟨rfl, trivial⟩, rfl, rfl, rfl, rfl, rfl, trivial⟩ ?_ (fun _ hs => hs)
  rintro i ts os ⟨rfl, v39, h, rfl, rfl⟩
  conv => whnf
  refine CutK.norm [5] [] ?_
  conv => whnf
  cases h
  exact Done.of [] [] rfl rfl ⟨⟨rfl, rfl⟩, ⟨rfl, trivial⟩, rfl, trivial⟩
def impl_valueOf : Nat → Rw → Int → Option Int
  | 0, _, _ => none
  | k + 1, a1, a2 => impl_valueOf_b k (impl_valueOf k) a1 a2
theorem impl_valueOf_ct' : ∀ (k : Nat) (a1 : Rw) (a2 : Int) (r : Int), impl_valueOf k a1 a2 = some r → Ct prog 83 [.agg [.d (D.sl a1)], .d (D.int .i64 a2)] (⟨[], []⟩) (.d (D.int .i64 r)) (⟨[], []⟩)
  | 0, _, _, _, h => by rw [impl_valueOf] at h; cases h
  | k + 1, _, _, _, h => by rw [impl_valueOf] at h; exact impl_valueOf_b_ct (impl_valueOf_ct' k) h
theorem impl_valueOf_ct {k : Nat} {a1 : Rw} {a2 : Int} {r : Int} (h : impl_valueOf k a1 a2 = some r) : Ct prog 83 [.agg [.d (D.sl a1)], .d (D.int .i64 a2)] (⟨[], []⟩) (.d (D.int .i64 r)) (⟨[], []⟩) := impl_valueOf_ct' k _ _ _ h

def impl_in  (a1 : Int) (a2 : Int) (a3 : Int) : Option Bool :=
  (if a2 ≤ a1 then (if a1 ≤ a3 then some true else some false) else some false)
set_option maxHeartbeats 4000000 in
set_option maxRecDepth 100000 in
theorem impl_in_ct  {a1 : Int} {a2 : Int} {a3 : Int} {r : Bool} (h : impl_in a1 a2 a3 = some r) : Ct prog 81 [.d (D.int .i64 a1), .d (D.int .i64 a2), .d (D.int .i64 a3)] (⟨[], []⟩) (.d (D.bool r)) (⟨[], []⟩) := by
  rw [impl_in] at h
  refine Ct.of (c := _) mixed func81 ⟨rfl, rfl, rfl⟩ ?_ rfl
  conv => whnf
  refine splD (fun g4 => ?_) (fun g4 => ?_)
  · replace h := iteP h g4
    conv => whnf
    refine splD (fun g5 => ?_) (fun g5 => ?_)
    · replace h := iteP h g5
      conv => whnf
      cases h
      exact Done.of [] [] rfl rfl ⟨⟨rfl, rfl⟩, ⟨rfl, trivial⟩, rfl, trivial⟩
    · replace h := iteN h g5
      conv => whnf
      cases h
      exact Done.of [] [] rfl rfl ⟨⟨rfl, rfl⟩, ⟨rfl, trivial⟩, rfl, trivial⟩
  · replace h := iteN h g4
    conv => whnf
    cases h
    exact Done.of [] [] rfl rfl ⟨⟨rfl, rfl⟩, ⟨rfl, trivial⟩, rfl, trivial⟩

def impl_baseOk  (a1 : Int) : Option Bool :=
  ((impl_in a1 2 1000).bind fun y2 => (if y2 = true then some true else some false))
set_option maxHeartbeats 4000000 in
set_option maxRecDepth 100000 in
theorem impl_baseOk_ct  {a1 : Int} {r : Bool} (h : impl_baseOk a1 = some r) : Ct prog 82 [.d (D.int .i64 a1)] (⟨[], []⟩) (.d (D.bool r)) (⟨[], []⟩) := by
  rw [impl_baseOk] at h
  refine Ct.of (c := _) mixed func82 ⟨rfl, rfl, rfl⟩ ?_ rfl
  conv => whnf
  refine Pick.no ?_
  conv => whnf
  obtain ⟨y2, e3, h⟩ := bind_ex h
  refine CallOk.of (impl_in_ct e3) ?_
  conv => whnf
  refine spl (fun g4 => ?_) (fun g4 => ?_)
  · replace h := iteT h g4
    conv => whnf
    refine CutK.go ?_
    conv => whnf
    cases h
    exact Done.of [] [] rfl rfl ⟨⟨rfl, rfl⟩, ⟨rfl, trivial⟩, rfl, trivial⟩
  · replace h := iteF h g4
    conv => whnf
    refine CutK.go ?_
    conv => whnf
    cases h
    exact Done.of [] [] rfl rfl ⟨⟨rfl, rfl⟩, ⟨rfl, trivial⟩, rfl, trivial⟩

def impl_GoodsteinRun_p4 (o41 : Rw) : Option (Rw × Bool) :=
  some (o41, true)
set_option maxHeartbeats 4000000 in
set_option maxRecDepth 100000 in
theorem impl_GoodsteinRun_p4_ct {o41 : Rw} {r : Rw × Bool} (h : impl_GoodsteinRun_p4 o41 = some r) : X prog 0 (tlF f25 4) (mk 53 [(8, .os 1084000 o41.length)] [(1084000, .arr 3 true o41)]) (finK prog f25 0 (.tup [.os 8 r.1.length, .d (D.bool r.2)]) (⟨[], [(3, true, r.1)]⟩)) := by
  rw [impl_GoodsteinRun_p4] at h
  conv => whnf
  cases h
  exact Done.of [some 1084000] [] rfl rfl ⟨⟨rfl, rfl⟩, ⟨rfl, ⟨rfl, rfl, rows_same⟩, trivial⟩, ⟨⟨rfl, rfl⟩, rfl, trivial⟩, trivial⟩
def impl_GoodsteinRun_l0 (k : Nat) (a2 : Int) (a3 : Int) (K0 : Rw → Option (Rw × Bool)) : Nat → Int → Rw → Int → Option (Rw × Bool)
  | 0, _, _, _ => none
  | n + 1, v50, v51, v52 => (if v52 < a3 then (if (0 : Int) < v50 then ((impl_hereditary k v50 (IntKind.i64.wrap (a2 + v52))).bind fun y72 => ((impl_valueOf k y72 (IntKind.i64.wrap ((IntKind.i64.wrap (a2 + v52)) + 1))).bind fun y74 => (if (1000000 : Int) < y74 then some (([] : Rw), false) else (if v51.length + 1 ≤ cap then (impl_GoodsteinRun_l0 k a2 a3 K0 n (IntKind.i64.wrap (y74 - 1)) (v51 ++ ([[D.int .i64 (IntKind.i64.wrap (y74 - 1))]])) (IntKind.i64.wrap (v52 + 1))) else none)))) else (K0 v51)) else (K0 v51))
set_option maxHeartbeats 4000000 in
set_option maxRecDepth 100000 in
theorem impl_GoodsteinRun_l0_ct {k : Nat} {a2 : Int} {a3 : Int} {K0 : Rw → Option (Rw × Bool)} {r : Rw × Bool} : ∀ (n : Nat) (v50 : Int) (v51 : Rw) (v52 : Int), impl_GoodsteinRun_l0 k a2 a3 K0 n v50 v51 v52 = some r → LoopOk prog 0 (lp f25 0) (mk 53 [(0, .d (D.int .i64 v50)), (1, .d (D.int .i64 a2)), (2, .d (D.int .i64 a3)), (8, .os 64000 v51.length), (9, .d (D.int .i64 v52))] [(64000, .arr 3 true v51)]) (LoopEnd prog f25 0 53 (.tup [.os 8 r.1.length, .d (D.bool r.2)]) (⟨[], [(3, true, r.1)]⟩) (fun i ts os => (i = 0 ∧ ∃ v61 : Rw, K0 v61 = some r ∧ ts = [(8, .os 67001 v61.length)] ∧ os = [(67001, .arr 3 true v61)])))
  | 0, _, _, _, h => by
      rw [impl_GoodsteinRun_l0] at h; cases h
  | n + 1, v50, v51, v52, h => by
      rw [impl_GoodsteinRun_l0] at h
      refine LoopOk.step ?_
      conv => whnf
      refine splD (fun g70 => ?_) (fun g70 => ?_)
      · replace h := iteP h g70
        conv => whnf
        refine splD (fun g71 => ?_) (fun g71 => ?_)
        · replace h := iteP h g71
          conv => whnf
          refine Pick.no ?_
          conv => whnf
          obtain ⟨y72, e73, h⟩ := bind_ex h
          refine CallOk.of (impl_hereditary_ct e73) ?_
          conv => whnf
          refine Choice.old ?_
          conv => whnf
          refine Pick.no ?_
          conv => whnf
          refine Take.all (rfl) ?_
          conv => whnf
          obtain ⟨y74, e75, h⟩ := bind_ex h
          refine CallOk.of (impl_valueOf_ct e75) ?_
          conv => whnf
          refine CutK.norm [0, 1, 2, 8, 9] [64000] ?_
          conv => whnf
          refine splD (fun g76 => ?_) (fun g76 => ?_)
          · replace h := iteP h g76
            conv => whnf
            cases h
            exact Done.of [none] [] rfl rfl ⟨⟨rfl, rfl⟩, ⟨rfl, rfl, trivial⟩, ⟨⟨rfl, rfl⟩, rfl, trivial⟩, trivial⟩
          · replace h := iteN h g76
            conv => whnf
            refine CutK.norm [0, 1, 2, 8, 9] [64000] ?_
            conv => whnf
            refine Take.all (rfl) ?_
            conv => whnf
            refine Take.all (by first | rfl | exact List.length_append.symm | (simp; done) | omega | (dsimp only; omega)) ?_
            conv => whnf
            obtain ⟨g77, h⟩ := req_ex h
            refine Req.of (room (b := 8) (by decide) g77 (wide1 rfl wide0)) ?_
            conv => whnf
            refine CutK.norm [0, 1, 2, 8, 9] [3264] ?_
            conv => whnf
            exact LoopOk.back (impl_GoodsteinRun_l0_ct  n _ _ _ h) [some 3264] [] ⟨⟨rfl, rfl⟩, ⟨rfl, ⟨rfl, rfl, rows_same⟩, trivial⟩, rfl, rfl, rfl, ⟨(by first | rfl | exact List.length_append.symm | (simp; done) | omega | (dsimp only; omega)), rfl⟩, rfl, trivial⟩
        · replace h := iteN h g71
          conv => whnf
          exact ⟨_, _, [some 64000], [], ⟨rfl, _, h, rfl, rfl⟩, ⟨⟨rfl, rfl⟩, ⟨rfl, ⟨rfl, rfl, rows_same⟩, trivial⟩, ⟨rfl, rfl⟩, trivial⟩⟩
      · replace h := iteN h g70
        conv => whnf
        exact ⟨_, _, [some 64000], [], ⟨rfl, _, h, rfl, rfl⟩, ⟨⟨rfl, rfl⟩, ⟨rfl, ⟨rfl, rfl, rows_same⟩, trivial⟩, ⟨rfl, rfl⟩, trivial⟩⟩
def impl_GoodsteinRun_p2 (k : Nat) (a1 : Int) (a2 : Int) (a3 : Int) : Option (Rw × Bool) :=
  (impl_GoodsteinRun_l0 k a2 a3 (fun (v61 : Rw) => (impl_GoodsteinRun_p4 v61)) k a1 ([[D.int .i64 a1]] : Rw) 0)
set_option maxHeartbeats 4000000 in
set_option maxRecDepth 100000 in
theorem impl_GoodsteinRun_p2_ct {k : Nat} {a1 : Int} {a2 : Int} {a3 : Int} {r : Rw × Bool} (h : impl_GoodsteinRun_p2 k a1 a2 a3 = some r) : X prog 0 (tlF f25 2) (mk 53 [(0, .d (D.int .i64 a1)), (1, .d (D.int .i64 a2)), (2, .d (D.int .i64 a3))] []) (finK prog f25 0 (.tup [.os 8 r.1.length, .d (D.bool r.2)]) (⟨[], [(3, true, r.1)]⟩)) := by
  rw [impl_GoodsteinRun_p2] at h
  conv => whnf
  refine LoopOk.into (impl_GoodsteinRun_l0_ct  _ _ _ _ h) [some 1536] [] ⟨⟨rfl, rfl⟩, ⟨rfl, ⟨rfl, rfl, rows_same⟩, trivial⟩, rfl, rfl, rfl, ⟨(by first | rfl | exact List.length_append.symm | (simp; done) | omega | (dsimp only; omega)), rfl⟩, rfl, trivial⟩ ?_ (fun _ hs => hs)
  rintro i ts os ⟨rfl, v61, h, rfl, rfl⟩
  conv => whnf
  exact CutK.piece (impl_GoodsteinRun_p4_ct  h) [some 67001] [] ⟨⟨rfl, rfl⟩, ⟨rfl, ⟨rfl, rfl, rows_same⟩, trivial⟩, ⟨rfl, rfl⟩, trivial⟩
def impl_GoodsteinRun (k : Nat) (a1 : Int) (a2 : Int) (a3 : Int) : Option (Rw × Bool) :=
  ((impl_in a1 0 1000000).bind fun y78 => (if y78 = true then ((impl_baseOk a2).bind fun y81 => (if y81 = true then ((impl_in a3 0 60).bind fun y84 => (if y84 = true then (impl_GoodsteinRun_p2 k a1 a2 a3) else some (([] : Rw), false))) else some (([] : Rw), false))) else some (([] : Rw), false)))
set_option maxHeartbeats 4000000 in
set_option maxRecDepth 100000 in
theorem impl_GoodsteinRun_ct {k : Nat} {a1 : Int} {a2 : Int} {a3 : Int} {r : Rw × Bool} (h : impl_GoodsteinRun k a1 a2 a3 = some r) : Ct prog 25 [.d (D.int .i64 a1), .d (D.int .i64 a2), .d (D.int .i64 a3)] (⟨[], []⟩) (.tup [.os 8 r.1.length, .d (D.bool r.2)]) (⟨[], [(3, true, r.1)]⟩) := by
  rw [impl_GoodsteinRun] at h
  refine Ct.of (c := _) mixed func25 ⟨rfl, rfl, rfl⟩ ?_ rfl
  conv => whnf
  refine Pick.no ?_
  conv => whnf
  obtain ⟨y78, e79, h⟩ := bind_ex h
  refine CallOk.of (impl_in_ct e79) ?_
  conv => whnf
  refine spl (fun g80 => ?_) (fun g80 => ?_)
  · replace h := iteT h g80
    conv => whnf
    refine Pick.no ?_
    conv => whnf
    obtain ⟨y81, e82, h⟩ := bind_ex h
    refine CallOk.of (impl_baseOk_ct e82) ?_
    conv => whnf
    refine spl (fun g83 => ?_) (fun g83 => ?_)
    · replace h := iteT h g83
      conv => whnf
      refine Pick.no ?_
      conv => whnf
      obtain ⟨y84, e85, h⟩ := bind_ex h
      refine CallOk.of (impl_in_ct e85) ?_
      conv => whnf
      refine spl (fun g86 => ?_) (fun g86 => ?_)
      · replace h := iteT h g86
        conv => whnf
        refine CutK.norm [0, 1, 2, 22] [] ?_
        conv => whnf
        exact CutK.piece (impl_GoodsteinRun_p2_ct  h) [] [] ⟨⟨rfl, rfl⟩, ⟨rfl, trivial⟩, rfl, rfl, rfl, trivial⟩
      · replace h := iteF h g86
        conv => whnf
        refine CutK.norm [0, 1, 2, 22] [] ?_
        conv => whnf
        cases h
        exact Done.of [none] [] rfl rfl ⟨⟨rfl, rfl⟩, ⟨rfl, rfl, trivial⟩, ⟨⟨rfl, rfl⟩, rfl, trivial⟩, trivial⟩
    · replace h := iteF h g83
      conv => whnf
      refine CutK.norm [0, 1, 2, 22] [] ?_
      conv => whnf
      cases h
      exact Done.of [none] [] rfl rfl ⟨⟨rfl, rfl⟩, ⟨rfl, rfl, trivial⟩, ⟨⟨rfl, rfl⟩, rfl, trivial⟩, trivial⟩
  · replace h := iteF h g80
    conv => whnf
    refine CutK.norm [0, 1, 2, 22] [] ?_
    conv => whnf
    cases h
    exact Done.of [none] [] rfl rfl ⟨⟨rfl, rfl⟩, ⟨rfl, rfl, trivial⟩, ⟨⟨rfl, rfl⟩, rfl, trivial⟩, trivial⟩

def impl_StepsToZero (k : Nat) (a1 : Int) (a2 : Int) (a3 : Int) : Option (Int × Bool) :=
  ((impl_GoodsteinRun k a1 a2 a3).bind fun y4 => (if y4.2 = true then (if 0 ≤ (IntKind.i64.wrap ((y4.1.length : Int) - 1)) ∧ (IntKind.i64.wrap ((y4.1.length : Int) - 1)) < (y4.1.length : Int) then (row_i y4.1 (IntKind.i64.wrap ((y4.1.length : Int) - 1)) fun x8 => (if x8 = (0 : Int) then some (IntKind.i64.wrap ((y4.1.length : Int) - 1), true) else some (0, false))) else none) else some (0, false)))
set_option maxHeartbeats 4000000 in
set_option maxRecDepth 100000 in
theorem impl_StepsToZero_ct {k : Nat} {a1 : Int} {a2 : Int} {a3 : Int} {r : Int × Bool} (h : impl_StepsToZero k a1 a2 a3 = some r) : Ct prog 30 [.d (D.int .i64 a1), .d (D.int .i64 a2), .d (D.int .i64 a3)] (⟨[], []⟩) (.tup [.d (D.int .i64 r.1), .d (D.bool r.2)]) (⟨[], []⟩) := by
  rw [impl_StepsToZero] at h
  refine Ct.of (c := _) mixed func30 ⟨rfl, rfl, rfl⟩ ?_ rfl
  conv => whnf
  refine Pick.no ?_
  conv => whnf
  obtain ⟨y4, e5, h⟩ := bind_ex h
  refine CallOk.of (impl_GoodsteinRun_ct e5) ?_
  conv => whnf
  refine spl (fun g6 => ?_) (fun g6 => ?_)
  · replace h := iteT h g6
    conv => whnf
    refine CutK.norm [8, 9] [896] ?_
    conv => whnf
    obtain ⟨g7, h⟩ := req_ex h
    refine Req.of g7 ?_
    conv => whnf
    obtain ⟨g10, x8, e9, h⟩ := row_i_ex h
    refine Row.of _ e9 ?_
    conv => whnf
    refine splN (fun g11 => ?_) (fun g11 => ?_)
    · replace h := iteN h g11
      conv => whnf
      cases h
      exact Done.of [] [] rfl rfl ⟨⟨rfl, rfl⟩, ⟨rfl, trivial⟩, ⟨rfl, rfl, trivial⟩, trivial⟩
    · replace h := iteP h g11
      conv => whnf
      cases h
      exact Done.of [] [] rfl rfl ⟨⟨rfl, rfl⟩, ⟨rfl, trivial⟩, ⟨rfl, rfl, trivial⟩, trivial⟩
  · replace h := iteF h g6
    conv => whnf
    refine CutK.norm [8, 9] [896] ?_
    conv => whnf
    cases h
    exact Done.of [] [] rfl rfl ⟨⟨rfl, rfl⟩, ⟨rfl, trivial⟩, ⟨rfl, rfl, trivial⟩, trivial⟩

def laws_qSameOrdinal_p3  : Option Bool :=
  some true
set_option maxHeartbeats 4000000 in
set_option maxRecDepth 100000 in
theorem laws_qSameOrdinal_p3_ct  {r : Bool} (h : laws_qSameOrdinal_p3 = some r) : X prog 0 (tlF f27 3) (mk 49 [] []) (finK prog f27 0 (.d (D.bool r)) (⟨[], []⟩)) := by
  rw [laws_qSameOrdinal_p3] at h
  conv => whnf
  cases h
  exact Done.of [] [] rfl rfl ⟨⟨rfl, rfl⟩, ⟨rfl, trivial⟩, rfl, trivial⟩
def laws_qSameOrdinal_l0 (rec_laws_qSameOrdinal : Rw → Rw → Option Bool) (a1 : Rw) (a2 : Rw) (K0 : Option Bool) : Rw → Nat → Option Bool
  | [], v45n => (K0)
  | cs :: rest, v45n => (cell_si cs fun x59 x60 => (row_si a2 (v45n : Int) fun x62 x63 => (if x60 = x63 then ((rec_laws_qSameOrdinal x59 x62).bind fun y67 => (if y67 = true then (laws_qSameOrdinal_l0 rec_laws_qSameOrdinal a1 a2 K0 rest (v45n + 1)) else some false)) else some false)))
set_option maxHeartbeats 4000000 in
set_option maxRecDepth 100000 in
theorem laws_qSameOrdinal_l0_ct {rec_laws_qSameOrdinal : Rw → Rw → Option Bool} {a1 : Rw} {a2 : Rw} {K0 : Option Bool} (hrec_laws_qSameOrdinal : ∀ (a1 : Rw) (a2 : Rw) (r : Bool), rec_laws_qSameOrdinal a1 a2 = some r → Ct prog 27 [.agg [.d (D.sl a1)], .agg [.d (D.sl a2)]] (⟨[], []⟩) (.d (D.bool r)) (⟨[], []⟩)) {r : Bool} (hx : a1.length ≤ cap) : ∀ (rest : Rw) (v45n : Nat), a1.drop v45n = rest → laws_qSameOrdinal_l0 rec_laws_qSameOrdinal a1 a2 K0 rest v45n = some r → LoopOk prog 0 (lp f27 0) (mk 49 [(2, .ptr 128 0), (3, .ptr 192 0), (15, .d (D.int .i64 (a1.length : Int))), (16, .d (D.int .i64 (v45n : Int)))] [(128, .box 59 [.d (D.sl a1)]), (192, .box 59 [.d (D.sl a2)])]) (LoopEnd prog f27 0 49 (.d (D.bool r)) (⟨[], []⟩) (fun i ts os => (i = 0 ∧ K0 = some r ∧ ts = [] ∧ os = [])))
  | [], v45n, hd, h => by
      rw [laws_qSameOrdinal_l0] at h
      have hn := drop_nil hd
      refine LoopOk.step ?_
      conv => whnf
      refine splD (fun g => absurd g hn) (fun _ => ?_)
      conv => whnf
      exact ⟨_, _, [], [], ⟨rfl, h, rfl, rfl⟩, ⟨⟨rfl, rfl⟩, ⟨rfl, trivial⟩, trivial⟩⟩
  | cs :: rest, v45n, hd, h => by
      rw [laws_qSameOrdinal_l0] at h
      obtain ⟨hrow, hd1, hlt⟩ := drop_cons hd
      refine LoopOk.step ?_
      conv => whnf
      refine splD (fun _ => ?_) (fun g => absurd hlt g)
      conv => whnf
      obtain ⟨x59, x60, e61, h⟩ := cell_si_ex h
      rw [e61] at hrow
      refine Req.of (Int.natCast_nonneg _) ?_
      refine Row.of _ hrow ?_
      conv => whnf
      obtain ⟨g65, x62, x63, e64, h⟩ := row_si_ex h
      refine Req.of g65 ?_
      refine Row.of _ e64 ?_
      conv => whnf
      refine splN (fun g66 => ?_) (fun g66 => ?_)
      · replace h := iteN h g66
        conv => whnf
        refine CutK.norm [2, 3, 15, 16, 47] [128, 192] ?_
        conv => whnf
        cases h
        exact Done.of [] [] rfl rfl ⟨⟨rfl, rfl⟩, ⟨rfl, trivial⟩, rfl, trivial⟩
      · replace h := iteP h g66
        conv => whnf
        refine Req.of (Int.natCast_nonneg _) ?_
        refine Row.of _ hrow ?_
        conv => whnf
        refine Req.of g65 ?_
        refine Row.of _ e64 ?_
        conv => whnf
        refine Pick.no ?_
        conv => whnf
        obtain ⟨y67, e68, h⟩ := bind_ex h
        refine CallOk.of (hrec_laws_qSameOrdinal _ _ _ e68) ?_
        conv => whnf
        refine spl (fun g69 => ?_) (fun g69 => ?_)
        · replace h := iteT h g69
          conv => whnf
          refine CutK.norm [2, 3, 15, 16, 47] [128, 192] ?_
          conv => whnf
          refine CutK.norm [2, 3, 15, 16] [128, 192] ?_
          conv => whnf
          exact LoopOk.back (laws_qSameOrdinal_l0_ct hrec_laws_qSameOrdinal hx rest (v45n + 1)  hd1 h) [some 128, some 192] [] ⟨⟨rfl, rfl⟩, ⟨rfl, ⟨rfl, rfl, trivial⟩, ⟨rfl, rfl, trivial⟩, trivial⟩, ⟨rfl, rfl⟩, ⟨rfl, rfl⟩, rfl, i64eq (wrap_up hlt hx), trivial⟩
        · replace h := iteF h g69
          conv => whnf
          refine CutK.norm [2, 3, 15, 16, 47] [128, 192] ?_
          conv => whnf
          cases h
          exact Done.of [] [] rfl rfl ⟨⟨rfl, rfl⟩, ⟨rfl, trivial⟩, rfl, trivial⟩
def laws_qSameOrdinal_b (rec_laws_qSameOrdinal : Rw → Rw → Option Bool) (a1 : Rw) (a2 : Rw) : Option Bool :=
  (if (a1.length : Int) = (a2.length : Int) then (if a1.length ≤ cap then (laws_qSameOrdinal_l0 rec_laws_qSameOrdinal a1 a2 (laws_qSameOrdinal_p3) a1 0) else none) else some false)
set_option maxHeartbeats 4000000 in
set_option maxRecDepth 100000 in
theorem laws_qSameOrdinal_b_ct {rec_laws_qSameOrdinal : Rw → Rw → Option Bool} (hrec_laws_qSameOrdinal : ∀ (a1 : Rw) (a2 : Rw) (r : Bool), rec_laws_qSameOrdinal a1 a2 = some r → Ct prog 27 [.agg [.d (D.sl a1)], .agg [.d (D.sl a2)]] (⟨[], []⟩) (.d (D.bool r)) (⟨[], []⟩)) {a1 : Rw} {a2 : Rw} {r : Bool} (h : laws_qSameOrdinal_b rec_laws_qSameOrdinal a1 a2 = some r) : Ct prog 27 [.agg [.d (D.sl a1)], .agg [.d (D.sl a2)]] (⟨[], []⟩) (.d (D.bool r)) (⟨[], []⟩) := by
  rw [laws_qSameOrdinal_b] at h
  refine Ct.of (c := _) mixed func27 ⟨rfl, rfl, rfl⟩ ?_ rfl
  conv => whnf
  refine splN (fun g31 => ?_) (fun g31 => ?_)
  · replace h := iteN h g31
    conv => whnf
    cases h
    exact Done.of [] [] rfl rfl ⟨⟨rfl, rfl⟩, ⟨rfl, trivial⟩, rfl, trivial⟩
  · replace h := iteP h g31
    conv => whnf
    obtain ⟨g70, h⟩ := req_ex h
    refine LoopOk.into (laws_qSameOrdinal_l0_ct hrec_laws_qSameOrdinal g70 _ _  rfl h) [some 128, some 192] [] ⟨⟨rfl, rfl⟩, ⟨rfl, ⟨rfl, rfl, trivial⟩, ⟨rfl, rfl, trivial⟩, trivial⟩, ⟨rfl, rfl⟩, ⟨rfl, rfl⟩, rfl, rfl, trivial⟩ ?_ (fun _ hs => hs)
    rintro i ts os ⟨rfl, h, rfl, rfl⟩
    conv => whnf
    exact CutK.piece (laws_qSameOrdinal_p3_ct  h) [] [] ⟨⟨rfl, rfl⟩, ⟨rfl, trivial⟩, trivial⟩
def laws_qSameOrdinal : Nat → Rw → Rw → Option Bool
  | 0, _, _ => none
  | k + 1, a1, a2 => laws_qSameOrdinal_b (laws_qSameOrdinal k) a1 a2
theorem laws_qSameOrdinal_ct' : ∀ (k : Nat) (a1 : Rw) (a2 : Rw) (r : Bool), laws_qSameOrdinal k a1 a2 = some r → Ct prog 27 [.agg [.d (D.sl a1)], .agg [.d (D.sl a2)]] (⟨[], []⟩) (.d (D.bool r)) (⟨[], []⟩)
  | 0, _, _, _, h => by rw [laws_qSameOrdinal] at h; cases h
  | k + 1, _, _, _, h => by rw [laws_qSameOrdinal] at h; exact laws_qSameOrdinal_b_ct (laws_qSameOrdinal_ct' k) h
theorem laws_qSameOrdinal_ct {k : Nat} {a1 : Rw} {a2 : Rw} {r : Bool} (h : laws_qSameOrdinal k a1 a2 = some r) : Ct prog 27 [.agg [.d (D.sl a1)], .agg [.d (D.sl a2)]] (⟨[], []⟩) (.d (D.bool r)) (⟨[], []⟩) := laws_qSameOrdinal_ct' k _ _ _ h

def impl_RaiseBase (k : Nat) (a1 : Int) (a2 : Int) : Option (Int × Bool) :=
  ((impl_in a1 0 1000000).bind fun y3 => (if y3 = true then ((impl_baseOk a2).bind fun y6 => (if y6 = true then ((impl_hereditary k a1 a2).bind fun y9 => ((impl_valueOf k y9 (IntKind.i64.wrap (a2 + 1))).bind fun y11 => (if (1000000 : Int) < y11 then some (0, false) else some (y11, true)))) else some (0, false))) else some (0, false)))
set_option maxHeartbeats 4000000 in
set_option maxRecDepth 100000 in
theorem impl_RaiseBase_ct {k : Nat} {a1 : Int} {a2 : Int} {r : Int × Bool} (h : impl_RaiseBase k a1 a2 = some r) : Ct prog 28 [.d (D.int .i64 a1), .d (D.int .i64 a2)] (⟨[], []⟩) (.tup [.d (D.int .i64 r.1), .d (D.bool r.2)]) (⟨[], []⟩) := by
  rw [impl_RaiseBase] at h
  refine Ct.of (c := _) mixed func28 ⟨rfl, rfl, rfl⟩ ?_ rfl
  conv => whnf
  refine Pick.no ?_
  conv => whnf
  obtain ⟨y3, e4, h⟩ := bind_ex h
  refine CallOk.of (impl_in_ct e4) ?_
  conv => whnf
  refine spl (fun g5 => ?_) (fun g5 => ?_)
  · replace h := iteT h g5
    conv => whnf
    refine Pick.no ?_
    conv => whnf
    obtain ⟨y6, e7, h⟩ := bind_ex h
    refine CallOk.of (impl_baseOk_ct e7) ?_
    conv => whnf
    refine spl (fun g8 => ?_) (fun g8 => ?_)
    · replace h := iteT h g8
      conv => whnf
      refine CutK.go ?_
      conv => whnf
      refine CutK.go ?_
      conv => whnf
      refine Pick.no ?_
      conv => whnf
      obtain ⟨y9, e10, h⟩ := bind_ex h
      refine CallOk.of (impl_hereditary_ct e10) ?_
      conv => whnf
      refine Choice.old ?_
      conv => whnf
      refine Pick.no ?_
      conv => whnf
      refine Take.all (rfl) ?_
      conv => whnf
      obtain ⟨y11, e12, h⟩ := bind_ex h
      refine CallOk.of (impl_valueOf_ct e12) ?_
      conv => whnf
      refine CutK.go ?_
      conv => whnf
      refine splD (fun g13 => ?_) (fun g13 => ?_)
      · replace h := iteP h g13
        conv => whnf
        cases h
        exact Done.of [] [] rfl rfl ⟨⟨rfl, rfl⟩, ⟨rfl, trivial⟩, ⟨rfl, rfl, trivial⟩, trivial⟩
      · replace h := iteN h g13
        conv => whnf
        cases h
        exact Done.of [] [] rfl rfl ⟨⟨rfl, rfl⟩, ⟨rfl, trivial⟩, ⟨rfl, rfl, trivial⟩, trivial⟩
    · replace h := iteF h g8
      conv => whnf
      refine CutK.go ?_
      conv => whnf
      cases h
      exact Done.of [] [] rfl rfl ⟨⟨rfl, rfl⟩, ⟨rfl, trivial⟩, ⟨rfl, rfl, trivial⟩, trivial⟩
  · replace h := iteF h g5
    conv => whnf
    refine CutK.go ?_
    conv => whnf
    cases h
    exact Done.of [] [] rfl rfl ⟨⟨rfl, rfl⟩, ⟨rfl, trivial⟩, ⟨rfl, rfl, trivial⟩, trivial⟩

def impl_compare  (a1 : Int) (a2 : Int) : Option Int :=
  (if a1 < a2 then some (-1) else (if a2 < a1 then some 1 else some 0))
set_option maxHeartbeats 4000000 in
set_option maxRecDepth 100000 in
theorem impl_compare_ct  {a1 : Int} {a2 : Int} {r : Int} (h : impl_compare a1 a2 = some r) : Ct prog 121 [.d (D.int .i64 a1), .d (D.int .i64 a2)] (⟨[], []⟩) (.d (D.int .i64 r)) (⟨[], []⟩) := by
  rw [impl_compare] at h
  refine Ct.of (c := _) mixed func121 ⟨rfl, rfl, rfl⟩ ?_ rfl
  conv => whnf
  refine splD (fun g3 => ?_) (fun g3 => ?_)
  · replace h := iteP h g3
    conv => whnf
    cases h
    exact Done.of [] [] rfl rfl ⟨⟨rfl, rfl⟩, ⟨rfl, trivial⟩, rfl, trivial⟩
  · replace h := iteN h g3
    conv => whnf
    refine splD (fun g4 => ?_) (fun g4 => ?_)
    · replace h := iteP h g4
      conv => whnf
      cases h
      exact Done.of [] [] rfl rfl ⟨⟨rfl, rfl⟩, ⟨rfl, trivial⟩, rfl, trivial⟩
    · replace h := iteN h g4
      conv => whnf
      cases h
      exact Done.of [] [] rfl rfl ⟨⟨rfl, rfl⟩, ⟨rfl, trivial⟩, rfl, trivial⟩

def impl_cmpTerms (rec_impl_cmp : Rw → Rw → Option Int) (a1 : Rw) (a2 : Int) (a3 : Rw) (a4 : Int) : Option Int :=
  ((rec_impl_cmp a1 a3).bind fun y5 => (if y5 = (0 : Int) then ((impl_compare a2 a4).bind fun y8 => some y8) else some y5))
set_option maxHeartbeats 4000000 in
set_option maxRecDepth 100000 in
theorem impl_cmpTerms_ct {rec_impl_cmp : Rw → Rw → Option Int} (hrec_impl_cmp : ∀ (a1 : Rw) (a2 : Rw) (r : Int), rec_impl_cmp a1 a2 = some r → Ct prog 87 [.agg [.d (D.sl a1)], .agg [.d (D.sl a2)]] (⟨[], []⟩) (.d (D.int .i64 r)) (⟨[], []⟩)) {a1 : Rw} {a2 : Int} {a3 : Rw} {a4 : Int} {r : Int} (h : impl_cmpTerms rec_impl_cmp a1 a2 a3 a4 = some r) : Ct prog 149 [.agg [.d (D.sl a1), .d (D.int .i64 a2)], .agg [.d (D.sl a3), .d (D.int .i64 a4)]] (⟨[], []⟩) (.d (D.int .i64 r)) (⟨[], []⟩) := by
  rw [impl_cmpTerms] at h
  refine Ct.of (c := _) mixed func149 ⟨rfl, rfl, rfl⟩ ?_ rfl
  conv => whnf
  refine Pick.no ?_
  conv => whnf
  obtain ⟨y5, e6, h⟩ := bind_ex h
  refine CallOk.of (hrec_impl_cmp _ _ _ e6) ?_
  conv => whnf
  refine CutK.go ?_
  conv => whnf
  refine splN (fun g7 => ?_) (fun g7 => ?_)
  · replace h := iteN h g7
    conv => whnf
    cases h
    exact Done.of [] [] rfl rfl ⟨⟨rfl, rfl⟩, ⟨rfl, trivial⟩, rfl, trivial⟩
  · replace h := iteP h g7
    conv => whnf
    refine CutK.go ?_
    conv => whnf
    refine Pick.no ?_
    conv => whnf
    obtain ⟨y8, e9, h⟩ := bind_ex h
    refine CallOk.of (impl_compare_ct e9) ?_
    conv => whnf
    refine CutK.go ?_
    conv => whnf
    cases h
    exact Done.of [] [] rfl rfl ⟨⟨rfl, rfl⟩, ⟨rfl, trivial⟩, rfl, trivial⟩

def slices_CompareFunc__cmpTerms_l0 (rec_impl_cmp : Rw → Rw → Option Int) (a1 : Rw) (a2 : Rw) (K0 : Option Int) : Rw → Nat → Option Int
  | [], v16n => (K0)
  | cs :: rest, v16n => (cell_si cs fun x30 x31 => (if (a2.length : Int) ≤ (v16n : Int) then some 1 else (row_si a2 (v16n : Int) fun x34 x35 => ((impl_cmpTerms rec_impl_cmp x30 x31 x34 x35).bind fun y38 => (if y38 = (0 : Int) then (slices_CompareFunc__cmpTerms_l0 rec_impl_cmp a1 a2 K0 rest (v16n + 1)) else some y38)))))
set_option maxHeartbeats 4000000 in
set_option maxRecDepth 100000 in
theorem slices_CompareFunc__cmpTerms_l0_ct {rec_impl_cmp : Rw → Rw → Option Int} {a1 : Rw} {a2 : Rw} {K0 : Option Int} (hrec_impl_cmp : ∀ (a1 : Rw) (a2 : Rw) (r : Int), rec_impl_cmp a1 a2 = some r → Ct prog 87 [.agg [.d (D.sl a1)], .agg [.d (D.sl a2)]] (⟨[], []⟩) (.d (D.int .i64 r)) (⟨[], []⟩)) {r : Int} (hx : a1.length ≤ cap) : ∀ (rest : Rw) (v16n : Nat), a1.drop v16n = rest → slices_CompareFunc__cmpTerms_l0 rec_impl_cmp a1 a2 K0 rest v16n = some r → LoopOk prog 0 (lp f148 0) (mk 39 [(0, .d (D.sl a1)), (1, .d (D.sl a2)), (2, .fn 149 []), (11, .d (D.sl a1)), (12, .d (D.int .i64 (a1.length : Int))), (13, .d (D.int .i64 (v16n : Int)))] []) (LoopEnd prog f148 0 39 (.d (D.int .i64 r)) (⟨[], []⟩) (fun i ts os => (i = 0 ∧ K0 = some r ∧ ts = [(0, .d (D.sl a1)), (1, .d (D.sl a2))] ∧ os = [])))
  | [], v16n, hd, h => by
      rw [slices_CompareFunc__cmpTerms_l0] at h
      have hn := drop_nil hd
      refine LoopOk.step ?_
      conv => whnf
      refine splD (fun g => absurd g hn) (fun _ => ?_)
      conv => whnf
      exact ⟨_, _, [], [], ⟨rfl, h, rfl, rfl⟩, ⟨⟨rfl, rfl⟩, ⟨rfl, trivial⟩, rfl, rfl, trivial⟩⟩
  | cs :: rest, v16n, hd, h => by
      rw [slices_CompareFunc__cmpTerms_l0] at h
      obtain ⟨hrow, hd1, hlt⟩ := drop_cons hd
      refine LoopOk.step ?_
      conv => whnf
      refine splD (fun _ => ?_) (fun g => absurd hlt g)
      conv => whnf
      obtain ⟨x30, x31, e32, h⟩ := cell_si_ex h
      rw [e32] at hrow
      refine Req.of (Int.natCast_nonneg _) ?_
      refine Row.of _ hrow ?_
      conv => whnf
      refine splD (fun g33 => ?_) (fun g33 => ?_)
      · replace h := iteP h g33
        conv => whnf
        cases h
        exact Done.of [] [] rfl rfl ⟨⟨rfl, rfl⟩, ⟨rfl, trivial⟩, rfl, trivial⟩
      · replace h := iteN h g33
        conv => whnf
        obtain ⟨g37, x34, x35, e36, h⟩ := row_si_ex h
        refine Req.of g37 ?_
        refine Row.of _ e36 ?_
        conv => whnf
        refine Pick.no ?_
        conv => whnf
        obtain ⟨y38, e39, h⟩ := bind_ex h
        refine CallOk.of (impl_cmpTerms_ct hrec_impl_cmp e39) ?_
        conv => whnf
        refine CutK.norm [0, 1, 2, 10, 11, 12, 13] [] ?_
        conv => whnf
        refine splN (fun g40 => ?_) (fun g40 => ?_)
        · replace h := iteN h g40
          conv => whnf
          cases h
          exact Done.of [] [] rfl rfl ⟨⟨rfl, rfl⟩, ⟨rfl, trivial⟩, rfl, trivial⟩
        · replace h := iteP h g40
          conv => whnf
          refine CutK.norm [0, 1, 2, 11, 12, 13] [] ?_
          conv => whnf
          exact LoopOk.back (slices_CompareFunc__cmpTerms_l0_ct hrec_impl_cmp hx rest (v16n + 1)  hd1 h) [] [] ⟨⟨rfl, rfl⟩, ⟨rfl, trivial⟩, rfl, rfl, ⟨rfl, trivial⟩, rfl, rfl, i64eq (wrap_up hlt hx), trivial⟩
def slices_CompareFunc__cmpTerms (rec_impl_cmp : Rw → Rw → Option Int) (a1 : Rw) (a2 : Rw) : Option Int :=
  (if a1.length ≤ cap then (slices_CompareFunc__cmpTerms_l0 rec_impl_cmp a1 a2 (if (a1.length : Int) < (a2.length : Int) then some (-1) else some 0) a1 0) else none)
set_option maxHeartbeats 4000000 in
set_option maxRecDepth 100000 in
theorem slices_CompareFunc__cmpTerms_ct {rec_impl_cmp : Rw → Rw → Option Int} (hrec_impl_cmp : ∀ (a1 : Rw) (a2 : Rw) (r : Int), rec_impl_cmp a1 a2 = some r → Ct prog 87 [.agg [.d (D.sl a1)], .agg [.d (D.sl a2)]] (⟨[], []⟩) (.d (D.int .i64 r)) (⟨[], []⟩)) {a1 : Rw} {a2 : Rw} {r : Int} (h : slices_CompareFunc__cmpTerms rec_impl_cmp a1 a2 = some r) : Ct prog 148 [.d (D.sl a1), .d (D.sl a2), .fn 149 []] (⟨[], []⟩) (.d (D.int .i64 r)) (⟨[], []⟩) := by
  rw [slices_CompareFunc__cmpTerms] at h
  refine Ct.of (c := _) mixed func148 ⟨rfl, rfl, rfl⟩ ?_ rfl
  conv => whnf
  obtain ⟨g41, h⟩ := req_ex h
  refine LoopOk.into (slices_CompareFunc__cmpTerms_l0_ct hrec_impl_cmp g41 _ _  rfl h) [] [] ⟨⟨rfl, rfl⟩, ⟨rfl, trivial⟩, rfl, rfl, ⟨rfl, trivial⟩, rfl, rfl, rfl, trivial⟩ ?_ (fun _ hs => hs)
  rintro i ts os ⟨rfl, h, rfl, rfl⟩
  conv => whnf
  refine CutK.norm [0, 1] [] ?_
  conv => whnf
  refine splD (fun g42 => ?_) (fun g42 => ?_)
  · replace h := iteP h g42
    conv => whnf
    cases h
    exact Done.of [] [] rfl rfl ⟨⟨rfl, rfl⟩, ⟨rfl, trivial⟩, rfl, trivial⟩
  · replace h := iteN h g42
    conv => whnf
    cases h
    exact Done.of [] [] rfl rfl ⟨⟨rfl, rfl⟩, ⟨rfl, trivial⟩, rfl, trivial⟩

def impl_cmp_b (rec_impl_cmp : Rw → Rw → Option Int) (a1 : Rw) (a2 : Rw) : Option Int :=
  ((slices_CompareFunc__cmpTerms rec_impl_cmp a1 a2).bind fun y3 => some y3)
set_option maxHeartbeats 4000000 in
set_option maxRecDepth 100000 in
theorem impl_cmp_b_ct {rec_impl_cmp : Rw → Rw → Option Int} (hrec_impl_cmp : ∀ (a1 : Rw) (a2 : Rw) (r : Int), rec_impl_cmp a1 a2 = some r → Ct prog 87 [.agg [.d (D.sl a1)], .agg [.d (D.sl a2)]] (⟨[], []⟩) (.d (D.int .i64 r)) (⟨[], []⟩)) {a1 : Rw} {a2 : Rw} {r : Int} (h : impl_cmp_b rec_impl_cmp a1 a2 = some r) : Ct prog 87 [.agg [.d (D.sl a1)], .agg [.d (D.sl a2)]] (⟨[], []⟩) (.d (D.int .i64 r)) (⟨[], []⟩) := by
  rw [impl_cmp_b] at h
  refine Ct.of (c := _) mixed func87 ⟨rfl, rfl, rfl⟩ ?_ rfl
  conv => whnf
  refine Pick.no ?_
  conv => whnf
  obtain ⟨y3, e4, h⟩ := bind_ex h
  refine CallOk.of (slices_CompareFunc__cmpTerms_ct hrec_impl_cmp e4) ?_
  conv => whnf
  refine CutK.go ?_
  conv => whnf
  cases h
  exact Done.of [] [] rfl rfl ⟨⟨rfl, rfl⟩, ⟨rfl, trivial⟩, rfl, trivial⟩
def impl_cmp : Nat → Rw → Rw → Option Int
  | 0, _, _ => none
  | k + 1, a1, a2 => impl_cmp_b (impl_cmp k) a1 a2
theorem impl_cmp_ct' : ∀ (k : Nat) (a1 : Rw) (a2 : Rw) (r : Int), impl_cmp k a1 a2 = some r → Ct prog 87 [.agg [.d (D.sl a1)], .agg [.d (D.sl a2)]] (⟨[], []⟩) (.d (D.int .i64 r)) (⟨[], []⟩)
  | 0, _, _, _, h => by rw [impl_cmp] at h; cases h
  | k + 1, _, _, _, h => by rw [impl_cmp] at h; exact impl_cmp_b_ct (impl_cmp_ct' k) h
theorem impl_cmp_ct {k : Nat} {a1 : Rw} {a2 : Rw} {r : Int} (h : impl_cmp k a1 a2 = some r) : Ct prog 87 [.agg [.d (D.sl a1)], .agg [.d (D.sl a2)]] (⟨[], []⟩) (.d (D.int .i64 r)) (⟨[], []⟩) := impl_cmp_ct' k _ _ _ h

def impl_ordinalAt_2_p3 (o62 : Int) : Option (Bool × Int) :=
  some (true, o62)
set_option maxHeartbeats 4000000 in
set_option maxRecDepth 100000 in
theorem impl_ordinalAt_2_p3_ct {o62 : Int} {r : Bool × Int} (h : impl_ordinalAt_2_p3 o62 = some r) : X prog 1 (tlF f147 3) (mk 83 [] [(0, .box 3 [.d (D.int .i64 o62)])]) (finK prog f147 1 (.d (D.bool r.1)) (⟨[(3, [.d (D.int .i64 r.2)])], []⟩)) := by
  rw [impl_ordinalAt_2_p3] at h
  conv => whnf
  cases h
  exact Done.of [some 0] [] rfl rfl ⟨⟨rfl, rfl⟩, ⟨rfl, ⟨rfl, rfl, trivial⟩, trivial⟩, rfl, trivial⟩
def impl_ordinalAt_2_l0 (k : Nat) (rec_impl_ordinalAt_2 : Rw → Int → Int → Int → Option (Bool × Int)) (a1 : Rw) (a2 : Int) (a3 : Int) (K0 : Int → Option (Bool × Int)) : Rw → Nat → Int → Option (Bool × Int)
  | [], v77n, v78 => (K0 v78)
  | cs :: rest, v77n, v78 => (cell_si cs fun x120 x121 => (if (60 : Int) < (IntKind.i64.wrap (v78 + 1)) then some (false, IntKind.i64.wrap (v78 + 1)) else ((impl_in x121 1 1000000).bind fun y124 => (if y124 = true then ((rec_impl_ordinalAt_2 x120 x121 (IntKind.i64.wrap (a3 + 1)) (IntKind.i64.wrap (v78 + 1))).bind fun y127 => (if y127.1 = true then (if (0 : Int) < (v77n : Int) then (row_si a1 (IntKind.i64.wrap ((v77n : Int) - 1)) fun x131 x132 => ((impl_cmp k x131 x120).bind fun y135 => (if y135 ≤ (0 : Int) then some (false, y127.2) else (impl_ordinalAt_2_l0 k rec_impl_ordinalAt_2 a1 a2 a3 K0 rest (v77n + 1) y127.2)))) else (impl_ordinalAt_2_l0 k rec_impl_ordinalAt_2 a1 a2 a3 K0 rest (v77n + 1) y127.2)) else some (false, y127.2))) else some (false, IntKind.i64.wrap (v78 + 1))))))
set_option maxHeartbeats 4000000 in
set_option maxRecDepth 100000 in
theorem impl_ordinalAt_2_l0_ct {k : Nat} {rec_impl_ordinalAt_2 : Rw → Int → Int → Int → Option (Bool × Int)} {a1 : Rw} {a2 : Int} {a3 : Int} {K0 : Int → Option (Bool × Int)} (hrec_impl_ordinalAt_2 : ∀ (a1 : Rw) (a2 : Int) (a3 : Int) (a4 : Int) (r : Bool × Int), rec_impl_ordinalAt_2 a1 a2 a3 a4 = some r → Ct prog 147 [.dp [D.sl a1, D.int .i64 a2], .d (D.int .i64 a3), .ptr 0 0] (⟨[(3, [.d (D.int .i64 a4)])], []⟩) (.d (D.bool r.1)) (⟨[(3, [.d (D.int .i64 r.2)])], []⟩)) {r : Bool × Int} (hx : a1.length ≤ cap) : ∀ (rest : Rw) (v77n : Nat) (v78 : Int), a1.drop v77n = rest → impl_ordinalAt_2_l0 k rec_impl_ordinalAt_2 a1 a2 a3 K0 rest v77n v78 = some r → LoopOk prog 1 (lp f147 0) (mk 83 [(0, .dp [D.sl a1, D.int .i64 a2]), (1, .d (D.int .i64 a3)), (2, .ptr 0 0), (26, .d (D.int .i64 (a1.length : Int))), (27, .d (D.int .i64 (v77n : Int)))] [(0, .box 3 [.d (D.int .i64 v78)])]) (LoopEnd prog f147 1 83 (.d (D.bool r.1)) (⟨[(3, [.d (D.int .i64 r.2)])], []⟩) (fun i ts os => (i = 0 ∧ ∃ v99 : Int, K0 v99 = some r ∧ ts = [] ∧ os = [(0, .box 3 [.d (D.int .i64 v99)])])))
  | [], v77n, v78, hd, h => by
      rw [impl_ordinalAt_2_l0] at h
      have hn := drop_nil hd
      refine LoopOk.step ?_
      conv => whnf
      refine splD (fun g => absurd g hn) (fun _ => ?_)
      conv => whnf
      exact ⟨_, _, [some 0], [], ⟨rfl, _, h, rfl, rfl⟩, ⟨⟨rfl, rfl⟩, ⟨rfl, ⟨rfl, rfl, trivial⟩, trivial⟩, trivial⟩⟩
  | cs :: rest, v77n, v78, hd, h => by
      rw [impl_ordinalAt_2_l0] at h
      obtain ⟨hrow, hd1, hlt⟩ := drop_cons hd
      refine LoopOk.step ?_
      conv => whnf
      refine splD (fun _ => ?_) (fun g => absurd hlt g)
      conv => whnf
      obtain ⟨x120, x121, e122, h⟩ := cell_si_ex h
      rw [e122] at hrow
      refine Req.of (Int.natCast_nonneg _) ?_
      refine Row.of _ hrow ?_
      conv => whnf
      refine splD (fun g123 => ?_) (fun g123 => ?_)
      · replace h := iteP h g123
        conv => whnf
        refine CutK.norm [0, 1, 2, 7, 8, 26, 27, 62] [0] ?_
        conv => whnf
        cases h
        exact Done.of [some 0] [] rfl rfl ⟨⟨rfl, rfl⟩, ⟨rfl, ⟨rfl, rfl, trivial⟩, trivial⟩, rfl, trivial⟩
      · replace h := iteN h g123
        conv => whnf
        refine Pick.no ?_
        conv => whnf
        obtain ⟨y124, e125, h⟩ := bind_ex h
        refine CallOk.of (impl_in_ct e125) ?_
        conv => whnf
        refine spl (fun g126 => ?_) (fun g126 => ?_)
        · replace h := iteT h g126
          conv => whnf
          refine Pick.no ?_
          conv => whnf
          obtain ⟨y127, e128, h⟩ := bind_ex h
          refine CallOk.of (hrec_impl_ordinalAt_2 _ _ _ _ _ e128) ?_
          conv => whnf
          refine spl (fun g129 => ?_) (fun g129 => ?_)
          · replace h := iteT h g129
            conv => whnf
            refine CutK.norm [0, 1, 2, 7, 8, 26, 27, 62] [0] ?_
            conv => whnf
            refine CutK.norm [0, 1, 2, 7, 8, 26, 27] [0] ?_
            conv => whnf
            refine splD (fun g130 => ?_) (fun g130 => ?_)
            · replace h := iteP h g130
              conv => whnf
              obtain ⟨g134, x131, x132, e133, h⟩ := row_si_ex h
              refine Req.of g134 ?_
              refine Row.of _ e133 ?_
              conv => whnf
              refine Pick.no ?_
              conv => whnf
              obtain ⟨y135, e136, h⟩ := bind_ex h
              refine CallOk.of (impl_cmp_ct e136) ?_
              conv => whnf
              refine splD (fun g137 => ?_) (fun g137 => ?_)
              · replace h := iteP h g137
                conv => whnf
                refine CutK.norm [0, 1, 2, 26, 27, 81] [0] ?_
                conv => whnf
                cases h
                exact Done.of [some 0] [] rfl rfl ⟨⟨rfl, rfl⟩, ⟨rfl, ⟨rfl, rfl, trivial⟩, trivial⟩, rfl, trivial⟩
              · replace h := iteN h g137
                conv => whnf
                refine CutK.norm [0, 1, 2, 26, 27, 81] [0] ?_
                conv => whnf
                refine CutK.norm [0, 1, 2, 26, 27] [0] ?_
                conv => whnf
                exact LoopOk.back (impl_ordinalAt_2_l0_ct hrec_impl_ordinalAt_2 hx rest (v77n + 1) _ hd1 h) [some 0] [] ⟨⟨rfl, rfl⟩, ⟨rfl, ⟨rfl, rfl, trivial⟩, trivial⟩, rfl, rfl, ⟨rfl, rfl⟩, rfl, i64eq (wrap_up hlt hx), trivial⟩
            · replace h := iteN h g130
              conv => whnf
              refine CutK.norm [0, 1, 2, 26, 27, 81] [0] ?_
              conv => whnf
              refine CutK.norm [0, 1, 2, 26, 27] [0] ?_
              conv => whnf
              exact LoopOk.back (impl_ordinalAt_2_l0_ct hrec_impl_ordinalAt_2 hx rest (v77n + 1) _ hd1 h) [some 0] [] ⟨⟨rfl, rfl⟩, ⟨rfl, ⟨rfl, rfl, trivial⟩, trivial⟩, rfl, rfl, ⟨rfl, rfl⟩, rfl, i64eq (wrap_up hlt hx), trivial⟩
          · replace h := iteF h g129
            conv => whnf
            refine CutK.norm [0, 1, 2, 7, 8, 26, 27, 62] [0] ?_
            conv => whnf
            cases h
            exact Done.of [some 0] [] rfl rfl ⟨⟨rfl, rfl⟩, ⟨rfl, ⟨rfl, rfl, trivial⟩, trivial⟩, rfl, trivial⟩
        · replace h := iteF h g126
          conv => whnf
          refine CutK.norm [0, 1, 2, 7, 8, 26, 27, 62] [0] ?_
          conv => whnf
          cases h
          exact Done.of [some 0] [] rfl rfl ⟨⟨rfl, rfl⟩, ⟨rfl, ⟨rfl, rfl, trivial⟩, trivial⟩, rfl, trivial⟩
def impl_ordinalAt_2_b (k : Nat) (rec_impl_ordinalAt_2 : Rw → Int → Int → Int → Option (Bool × Int)) (a1 : Rw) (a2 : Int) (a3 : Int) (a4 : Int) : Option (Bool × Int) :=
  (if (60 : Int) < (IntKind.i64.wrap (a4 + 1)) then some (false, IntKind.i64.wrap (a4 + 1)) else (if (6 : Int) < a3 then some (false, IntKind.i64.wrap (a4 + 1)) else (if a1.length ≤ cap then (impl_ordinalAt_2_l0 k rec_impl_ordinalAt_2 a1 a2 a3 (fun (v99 : Int) => (impl_ordinalAt_2_p3 v99)) a1 0 (IntKind.i64.wrap (a4 + 1))) else none)))
set_option maxHeartbeats 4000000 in
set_option maxRecDepth 100000 in
theorem impl_ordinalAt_2_b_ct {k : Nat} {rec_impl_ordinalAt_2 : Rw → Int → Int → Int → Option (Bool × Int)} (hrec_impl_ordinalAt_2 : ∀ (a1 : Rw) (a2 : Int) (a3 : Int) (a4 : Int) (r : Bool × Int), rec_impl_ordinalAt_2 a1 a2 a3 a4 = some r → Ct prog 147 [.dp [D.sl a1, D.int .i64 a2], .d (D.int .i64 a3), .ptr 0 0] (⟨[(3, [.d (D.int .i64 a4)])], []⟩) (.d (D.bool r.1)) (⟨[(3, [.d (D.int .i64 r.2)])], []⟩)) {a1 : Rw} {a2 : Int} {a3 : Int} {a4 : Int} {r : Bool × Int} (h : impl_ordinalAt_2_b k rec_impl_ordinalAt_2 a1 a2 a3 a4 = some r) : Ct prog 147 [.dp [D.sl a1, D.int .i64 a2], .d (D.int .i64 a3), .ptr 0 0] (⟨[(3, [.d (D.int .i64 a4)])], []⟩) (.d (D.bool r.1)) (⟨[(3, [.d (D.int .i64 r.2)])], []⟩) := by
  rw [impl_ordinalAt_2_b] at h
  refine Ct.of (c := _) mixed func147 ⟨rfl, rfl, rfl⟩ ?_ rfl
  conv => whnf
  refine splD (fun g63 => ?_) (fun g63 => ?_)
  · replace h := iteP h g63
    conv => whnf
    cases h
    exact Done.of [some 0] [] rfl rfl ⟨⟨rfl, rfl⟩, ⟨rfl, ⟨rfl, rfl, trivial⟩, trivial⟩, rfl, trivial⟩
  · replace h := iteN h g63
    conv => whnf
    refine splD (fun g64 => ?_) (fun g64 => ?_)
    · replace h := iteP h g64
      conv => whnf
      cases h
      exact Done.of [some 0] [] rfl rfl ⟨⟨rfl, rfl⟩, ⟨rfl, ⟨rfl, rfl, trivial⟩, trivial⟩, rfl, trivial⟩
    · replace h := iteN h g64
      conv => whnf
      obtain ⟨g138, h⟩ := req_ex h
      refine LoopOk.into (impl_ordinalAt_2_l0_ct hrec_impl_ordinalAt_2 g138 _ _ _ rfl h) [some 0] [] ⟨⟨rfl, rfl⟩, ⟨rfl, ⟨rfl, rfl, trivial⟩, trivial⟩, rfl, rfl, ⟨rfl, rfl⟩, rfl, rfl, trivial⟩ ?_ (fun _ hs => hs)
      rintro i ts os ⟨rfl, v99, h, rfl, rfl⟩
      conv => whnf
      exact CutK.piece (impl_ordinalAt_2_p3_ct  h) [some 0] [] ⟨⟨rfl, rfl⟩, ⟨rfl, ⟨rfl, rfl, trivial⟩, trivial⟩, trivial⟩
def impl_ordinalAt_2 : Nat → Rw → Int → Int → Int → Option (Bool × Int)
  | 0, _, _, _, _ => none
  | k + 1, a1, a2, a3, a4 => impl_ordinalAt_2_b k (impl_ordinalAt_2 k) a1 a2 a3 a4
theorem impl_ordinalAt_2_ct' : ∀ (k : Nat) (a1 : Rw) (a2 : Int) (a3 : Int) (a4 : Int) (r : Bool × Int), impl_ordinalAt_2 k a1 a2 a3 a4 = some r → Ct prog 147 [.dp [D.sl a1, D.int .i64 a2], .d (D.int .i64 a3), .ptr 0 0] (⟨[(3, [.d (D.int .i64 a4)])], []⟩) (.d (D.bool r.1)) (⟨[(3, [.d (D.int .i64 r.2)])], []⟩)
  | 0, _, _, _, _, _, h => by rw [impl_ordinalAt_2] at h; cases h
  | k + 1, _, _, _, _, _, h => by rw [impl_ordinalAt_2] at h; exact impl_ordinalAt_2_b_ct (impl_ordinalAt_2_ct' k) h
theorem impl_ordinalAt_2_ct {k : Nat} {a1 : Rw} {a2 : Int} {a3 : Int} {a4 : Int} {r : Bool × Int} (h : impl_ordinalAt_2 k a1 a2 a3 a4 = some r) : Ct prog 147 [.dp [D.sl a1, D.int .i64 a2], .d (D.int .i64 a3), .ptr 0 0] (⟨[(3, [.d (D.int .i64 a4)])], []⟩) (.d (D.bool r.1)) (⟨[(3, [.d (D.int .i64 r.2)])], []⟩) := impl_ordinalAt_2_ct' k _ _ _ _ _ h

def impl_ordinalAt_p3 (a1 : Rw) (o61 : Int) : Option (Bool × Rw × Int) :=
  some (true, a1, o61)
set_option maxHeartbeats 4000000 in
set_option maxRecDepth 100000 in
theorem impl_ordinalAt_p3_ct {a1 : Rw} {o61 : Int} {r : Bool × Rw × Int} (h : impl_ordinalAt_p3 a1 o61 = some r) : X prog 2 (tlF f147 3) (mk 83 [] [(0, .box 59 [.d (D.sl a1)]), (64, .box 3 [.d (D.int .i64 o61)])]) (finK prog f147 2 (.d (D.bool r.1)) (⟨[(59, [.d (D.sl r.2.1)]), (3, [.d (D.int .i64 r.2.2)])], []⟩)) := by
  rw [impl_ordinalAt_p3] at h
  conv => whnf
  cases h
  exact Done.of [some 0, some 64] [] rfl rfl ⟨⟨rfl, rfl⟩, ⟨rfl, ⟨rfl, rfl, trivial⟩, ⟨rfl, rfl, trivial⟩, trivial⟩, rfl, trivial⟩
def impl_ordinalAt_l0 (k : Nat) (a1 : Rw) (a2 : Int) (K0 : Int → Option (Bool × Rw × Int)) : Rw → Nat → Int → Option (Bool × Rw × Int)
  | [], v76n, v77 => (K0 v77)
  | cs :: rest, v76n, v77 => (cell_si cs fun x119 x120 => (if (60 : Int) < (IntKind.i64.wrap (v77 + 1)) then some (false, a1, IntKind.i64.wrap (v77 + 1)) else ((impl_in x120 1 1000000).bind fun y123 => (if y123 = true then ((impl_ordinalAt_2 k x119 x120 (IntKind.i64.wrap (a2 + 1)) (IntKind.i64.wrap (v77 + 1))).bind fun y126 => (if y126.1 = true then (if (0 : Int) < (v76n : Int) then (row_si a1 (IntKind.i64.wrap ((v76n : Int) - 1)) fun x130 x131 => ((impl_cmp k x130 x119).bind fun y134 => (if y134 ≤ (0 : Int) then some (false, a1, y126.2) else (impl_ordinalAt_l0 k a1 a2 K0 rest (v76n + 1) y126.2)))) else (impl_ordinalAt_l0 k a1 a2 K0 rest (v76n + 1) y126.2)) else some (false, a1, y126.2))) else some (false, a1, IntKind.i64.wrap (v77 + 1))))))
set_option maxHeartbeats 4000000 in
set_option maxRecDepth 100000 in
theorem impl_ordinalAt_l0_ct {k : Nat} {a1 : Rw} {a2 : Int} {K0 : Int → Option (Bool × Rw × Int)} {r : Bool × Rw × Int} (hx : a1.length ≤ cap) : ∀ (rest : Rw) (v76n : Nat) (v77 : Int), a1.drop v76n = rest → impl_ordinalAt_l0 k a1 a2 K0 rest v76n v77 = some r → LoopOk prog 2 (lp f147 0) (mk 83 [(0, .ptr 0 0), (1, .d (D.int .i64 a2)), (2, .ptr 64 0), (26, .d (D.int .i64 (a1.length : Int))), (27, .d (D.int .i64 (v76n : Int)))] [(0, .box 59 [.d (D.sl a1)]), (64, .box 3 [.d (D.int .i64 v77)])]) (LoopEnd prog f147 2 83 (.d (D.bool r.1)) (⟨[(59, [.d (D.sl r.2.1)]), (3, [.d (D.int .i64 r.2.2)])], []⟩) (fun i ts os => (i = 0 ∧ ∃ v98 : Int, K0 v98 = some r ∧ ts = [] ∧ os = [(0, .box 59 [.d (D.sl a1)]), (64, .box 3 [.d (D.int .i64 v98)])])))
  | [], v76n, v77, hd, h => by
      rw [impl_ordinalAt_l0] at h
      have hn := drop_nil hd
      refine LoopOk.step ?_
      conv => whnf
      refine splD (fun g => absurd g hn) (fun _ => ?_)
      conv => whnf
      exact ⟨_, _, [some 0, some 64], [], ⟨rfl, _, h, rfl, rfl⟩, ⟨⟨rfl, rfl⟩, ⟨rfl, ⟨rfl, rfl, trivial⟩, ⟨rfl, rfl, trivial⟩, trivial⟩, trivial⟩⟩
  | cs :: rest, v76n, v77, hd, h => by
      rw [impl_ordinalAt_l0] at h
      obtain ⟨hrow, hd1, hlt⟩ := drop_cons hd
      refine LoopOk.step ?_
      conv => whnf
      refine splD (fun _ => ?_) (fun g => absurd hlt g)
      conv => whnf
      obtain ⟨x119, x120, e121, h⟩ := cell_si_ex h
      rw [e121] at hrow
      refine Req.of (Int.natCast_nonneg _) ?_
      refine Row.of _ hrow ?_
      conv => whnf
      refine splD (fun g122 => ?_) (fun g122 => ?_)
      · replace h := iteP h g122
        conv => whnf
        refine CutK.norm [0, 1, 2, 7, 8, 26, 27, 62] [0, 64] ?_
        conv => whnf
        cases h
        exact Done.of [some 0, some 64] [] rfl rfl ⟨⟨rfl, rfl⟩, ⟨rfl, ⟨rfl, rfl, trivial⟩, ⟨rfl, rfl, trivial⟩, trivial⟩, rfl, trivial⟩
      · replace h := iteN h g122
        conv => whnf
        refine Pick.no ?_
        conv => whnf
        obtain ⟨y123, e124, h⟩ := bind_ex h
        refine CallOk.of (impl_in_ct e124) ?_
        conv => whnf
        refine spl (fun g125 => ?_) (fun g125 => ?_)
        · replace h := iteT h g125
          conv => whnf
          refine Pick.no ?_
          conv => whnf
          obtain ⟨y126, e127, h⟩ := bind_ex h
          refine CallOk.of (impl_ordinalAt_2_ct e127) ?_
          conv => whnf
          refine spl (fun g128 => ?_) (fun g128 => ?_)
          · replace h := iteT h g128
            conv => whnf
            refine CutK.norm [0, 1, 2, 7, 8, 26, 27, 62] [0, 64] ?_
            conv => whnf
            refine CutK.norm [0, 1, 2, 7, 8, 26, 27] [0, 64] ?_
            conv => whnf
            refine splD (fun g129 => ?_) (fun g129 => ?_)
            · replace h := iteP h g129
              conv => whnf
              obtain ⟨g133, x130, x131, e132, h⟩ := row_si_ex h
              refine Req.of g133 ?_
              refine Row.of _ e132 ?_
              conv => whnf
              refine Pick.no ?_
              conv => whnf
              obtain ⟨y134, e135, h⟩ := bind_ex h
              refine CallOk.of (impl_cmp_ct e135) ?_
              conv => whnf
              refine splD (fun g136 => ?_) (fun g136 => ?_)
              · replace h := iteP h g136
                conv => whnf
                refine CutK.norm [0, 1, 2, 26, 27, 81] [0, 64] ?_
                conv => whnf
                cases h
                exact Done.of [some 0, some 64] [] rfl rfl ⟨⟨rfl, rfl⟩, ⟨rfl, ⟨rfl, rfl, trivial⟩, ⟨rfl, rfl, trivial⟩, trivial⟩, rfl, trivial⟩
              · replace h := iteN h g136
                conv => whnf
                refine CutK.norm [0, 1, 2, 26, 27, 81] [0, 64] ?_
                conv => whnf
                refine CutK.norm [0, 1, 2, 26, 27] [0, 64] ?_
                conv => whnf
                exact LoopOk.back (impl_ordinalAt_l0_ct hx rest (v76n + 1) _ hd1 h) [some 0, some 64] [] ⟨⟨rfl, rfl⟩, ⟨rfl, ⟨rfl, rfl, trivial⟩, ⟨rfl, rfl, trivial⟩, trivial⟩, ⟨rfl, rfl⟩, rfl, ⟨rfl, rfl⟩, rfl, i64eq (wrap_up hlt hx), trivial⟩
            · replace h := iteN h g129
              conv => whnf
              refine CutK.norm [0, 1, 2, 26, 27, 81] [0, 64] ?_
              conv => whnf
              refine CutK.norm [0, 1, 2, 26, 27] [0, 64] ?_
              conv => whnf
              exact LoopOk.back (impl_ordinalAt_l0_ct hx rest (v76n + 1) _ hd1 h) [some 0, some 64] [] ⟨⟨rfl, rfl⟩, ⟨rfl, ⟨rfl, rfl, trivial⟩, ⟨rfl, rfl, trivial⟩, trivial⟩, ⟨rfl, rfl⟩, rfl, ⟨rfl, rfl⟩, rfl, i64eq (wrap_up hlt hx), trivial⟩
          · replace h := iteF h g128
            conv => whnf
            refine CutK.norm [0, 1, 2, 7, 8, 26, 27, 62] [0, 64] ?_
            conv => whnf
            cases h
            exact Done.of [some 0, some 64] [] rfl rfl ⟨⟨rfl, rfl⟩, ⟨rfl, ⟨rfl, rfl, trivial⟩, ⟨rfl, rfl, trivial⟩, trivial⟩, rfl, trivial⟩
        · replace h := iteF h g125
          conv => whnf
          refine CutK.norm [0, 1, 2, 7, 8, 26, 27, 62] [0, 64] ?_
          conv => whnf
          cases h
          exact Done.of [some 0, some 64] [] rfl rfl ⟨⟨rfl, rfl⟩, ⟨rfl, ⟨rfl, rfl, trivial⟩, ⟨rfl, rfl, trivial⟩, trivial⟩, rfl, trivial⟩
def impl_ordinalAt (k : Nat) (a1 : Rw) (a2 : Int) (a3 : Int) : Option (Bool × Rw × Int) :=
  (if (60 : Int) < (IntKind.i64.wrap (a3 + 1)) then some (false, a1, IntKind.i64.wrap (a3 + 1)) else (if (6 : Int) < a2 then some (false, a1, IntKind.i64.wrap (a3 + 1)) else (if a1.length ≤ cap then (impl_ordinalAt_l0 k a1 a2 (fun (v98 : Int) => (impl_ordinalAt_p3 a1 v98)) a1 0 (IntKind.i64.wrap (a3 + 1))) else none)))
set_option maxHeartbeats 4000000 in
set_option maxRecDepth 100000 in
theorem impl_ordinalAt_ct {k : Nat} {a1 : Rw} {a2 : Int} {a3 : Int} {r : Bool × Rw × Int} (h : impl_ordinalAt k a1 a2 a3 = some r) : Ct prog 147 [.ptr 0 0, .d (D.int .i64 a2), .ptr 64 0] (⟨[(59, [.d (D.sl a1)]), (3, [.d (D.int .i64 a3)])], []⟩) (.d (D.bool r.1)) (⟨[(59, [.d (D.sl r.2.1)]), (3, [.d (D.int .i64 r.2.2)])], []⟩) := by
  rw [impl_ordinalAt] at h
  refine Ct.of (c := _) mixed func147 ⟨rfl, rfl, rfl⟩ ?_ rfl
  conv => whnf
  refine splD (fun g62 => ?_) (fun g62 => ?_)
  · replace h := iteP h g62
    conv => whnf
    cases h
    exact Done.of [some 0, some 64] [] rfl rfl ⟨⟨rfl, rfl⟩, ⟨rfl, ⟨rfl, rfl, trivial⟩, ⟨rfl, rfl, trivial⟩, trivial⟩, rfl, trivial⟩
  · replace h := iteN h g62
    conv => whnf
    refine splD (fun g63 => ?_) (fun g63 => ?_)
    · replace h := iteP h g63
      conv => whnf
      cases h
      exact Done.of [some 0, some 64] [] rfl rfl ⟨⟨rfl, rfl⟩, ⟨rfl, ⟨rfl, rfl, trivial⟩, ⟨rfl, rfl, trivial⟩, trivial⟩, rfl, trivial⟩
    · replace h := iteN h g63
      conv => whnf
      obtain ⟨g137, h⟩ := req_ex h
      refine LoopOk.into (impl_ordinalAt_l0_ct  g137 _ _ _ rfl h) [some 0, some 64] [] ⟨⟨rfl, rfl⟩, ⟨rfl, ⟨rfl, rfl, trivial⟩, ⟨rfl, rfl, trivial⟩, trivial⟩, ⟨rfl, rfl⟩, rfl, ⟨rfl, rfl⟩, rfl, rfl, trivial⟩ ?_ (fun _ hs => hs)
      rintro i ts os ⟨rfl, v98, h, rfl, rfl⟩
      conv => whnf
      exact CutK.piece (impl_ordinalAt_p3_ct  h) [some 0, some 64] [] ⟨⟨rfl, rfl⟩, ⟨rfl, ⟨rfl, rfl, trivial⟩, ⟨rfl, rfl, trivial⟩, trivial⟩, trivial⟩

def impl_IsOrdinal (k : Nat) (a1 : Rw) : Option Bool :=
  ((impl_ordinalAt k a1 0 0).bind fun y2 => (if y2.1 = true then some true else some false))
set_option maxHeartbeats 4000000 in
set_option maxRecDepth 100000 in
theorem impl_IsOrdinal_ct {k : Nat} {a1 : Rw} {r : Bool} (h : impl_IsOrdinal k a1 = some r) : Ct prog 86 [.agg [.d (D.sl a1)]] (⟨[], []⟩) (.d (D.bool r)) (⟨[], []⟩) := by
  rw [impl_IsOrdinal] at h
  refine Ct.of (c := _) mixed func86 ⟨rfl, rfl, rfl⟩ ?_ rfl
  conv => whnf
  refine Pick.no ?_
  conv => whnf
  obtain ⟨y2, e3, h⟩ := bind_ex h
  refine CallOk.of (impl_ordinalAt_ct e3) ?_
  conv => whnf
  refine spl (fun g4 => ?_) (fun g4 => ?_)
  · replace h := iteT h g4
    conv => whnf
    refine CutK.go ?_
    conv => whnf
    cases h
    exact Done.of [] [] rfl rfl ⟨⟨rfl, rfl⟩, ⟨rfl, trivial⟩, rfl, trivial⟩
  · replace h := iteF h g4
    conv => whnf
    refine CutK.go ?_
    conv => whnf
    cases h
    exact Done.of [] [] rfl rfl ⟨⟨rfl, rfl⟩, ⟨rfl, trivial⟩, rfl, trivial⟩

def impl_cloneOrdinal_l0 (rec_impl_cloneOrdinal : Rw → Option Rw) (a1 : Rw) (K0 : Rw → Option Rw) : Rw → Rw → Option Rw
  | [], v10 => (K0 v10)
  | cs :: rest, v10 => (cell_si cs fun x28 x29 => ((rec_impl_cloneOrdinal x28).bind fun y31 => (if v10.length + 1 ≤ cap then (impl_cloneOrdinal_l0 rec_impl_cloneOrdinal a1 K0 rest (v10 ++ ([[D.sl y31, D.int .i64 x29]]))) else none)))
set_option maxHeartbeats 4000000 in
set_option maxRecDepth 100000 in
theorem impl_cloneOrdinal_l0_ct {rec_impl_cloneOrdinal : Rw → Option Rw} {a1 : Rw} {K0 : Rw → Option Rw} (hrec_impl_cloneOrdinal : ∀ (a1 : Rw) (r : Rw), rec_impl_cloneOrdinal a1 = some r → Ct prog 140 [.agg [.d (D.sl a1)]] (⟨[], []⟩) (.agg [.os 8 r.length]) (⟨[], [(122, true, r)]⟩)) {r : Rw} (hx : a1.length ≤ cap) : ∀ (rest : Rw) (v9n : Nat) (v10 : Rw), a1.drop v9n = rest → impl_cloneOrdinal_l0 rec_impl_cloneOrdinal a1 K0 rest v10 = some r → LoopOk prog 0 (lp f140 0) (mk 27 [(2, .ptr 128 0), (3, .ptr 192 0), (8, .d (D.sl a1)), (9, .d (D.int .i64 (a1.length : Int))), (10, .d (D.int .i64 (v9n : Int)))] [(128, .box 59 [.es]), (192, .box 59 [.os 64000 v10.length]), (64000, .arr 122 true v10)]) (LoopEnd prog f140 0 27 (.agg [.os 8 r.length]) (⟨[], [(122, true, r)]⟩) (fun i ts os => (i = 0 ∧ ∃ v19 : Rw, K0 v19 = some r ∧ ts = [(2, .ptr 128 0), (3, .ptr 192 0)] ∧ os = [(128, .box 59 [.es]), (192, .box 59 [.os 67001 v19.length]), (67001, .arr 122 true v19)])))
  | [], v9n, v10, hd, h => by
      rw [impl_cloneOrdinal_l0] at h
      have hn := drop_nil hd
      refine LoopOk.step ?_
      conv => whnf
      refine splD (fun g => absurd g hn) (fun _ => ?_)
      conv => whnf
      exact ⟨_, _, [some 128, some 192, some 64000], [], ⟨rfl, _, h, rfl, rfl⟩, ⟨⟨rfl, rfl⟩, ⟨rfl, ⟨rfl, trivial, trivial⟩, ⟨rfl, ⟨rfl, rfl⟩, trivial⟩, ⟨rfl, rfl, rows_same⟩, trivial⟩, ⟨rfl, rfl⟩, ⟨rfl, rfl⟩, trivial⟩⟩
  | cs :: rest, v9n, v10, hd, h => by
      rw [impl_cloneOrdinal_l0] at h
      obtain ⟨hrow, hd1, hlt⟩ := drop_cons hd
      refine LoopOk.step ?_
      conv => whnf
      refine splD (fun _ => ?_) (fun g => absurd hlt g)
      conv => whnf
      obtain ⟨x28, x29, e30, h⟩ := cell_si_ex h
      rw [e30] at hrow
      refine Req.of (Int.natCast_nonneg _) ?_
      refine Row.of _ hrow ?_
      conv => whnf
      refine Pick.no ?_
      conv => whnf
      obtain ⟨y31, e32, h⟩ := bind_ex h
      refine CallOk.of (hrec_impl_cloneOrdinal _ _ e32) ?_
      conv => whnf
      refine Take.all (rfl) ?_
      conv => whnf
      refine Take.all (rfl) ?_
      conv => whnf
      refine Take.all (by first | rfl | exact List.length_append.symm | (simp; done) | omega | (dsimp only; omega)) ?_
      conv => whnf
      obtain ⟨g33, h⟩ := req_ex h
      refine Req.of (room (b := 32) (by decide) g33 (wide1 rfl wide0)) ?_
      conv => whnf
      refine CutK.go ?_
      conv => whnf
      exact LoopOk.back (impl_cloneOrdinal_l0_ct hrec_impl_cloneOrdinal hx rest (v9n + 1) _ hd1 h) [some 128, some 192, some 1472] [] ⟨⟨rfl, rfl⟩, ⟨rfl, ⟨rfl, trivial, trivial⟩, ⟨rfl, ⟨(by first | rfl | exact List.length_append.symm | (simp; done) | omega | (dsimp only; omega)), rfl⟩, trivial⟩, ⟨rfl, rfl, rows_same⟩, trivial⟩, ⟨rfl, rfl⟩, ⟨rfl, rfl⟩, rfl, rfl, i64eq (wrap_up hlt hx), trivial⟩
def impl_cloneOrdinal_b (rec_impl_cloneOrdinal : Rw → Option Rw) (a1 : Rw) : Option Rw :=
  (if a1.length ≤ cap then (impl_cloneOrdinal_l0 rec_impl_cloneOrdinal a1 (fun (v19 : Rw) => some v19) a1 ([] : Rw)) else none)
set_option maxHeartbeats 4000000 in
set_option maxRecDepth 100000 in
theorem impl_cloneOrdinal_b_ct {rec_impl_cloneOrdinal : Rw → Option Rw} (hrec_impl_cloneOrdinal : ∀ (a1 : Rw) (r : Rw), rec_impl_cloneOrdinal a1 = some r → Ct prog 140 [.agg [.d (D.sl a1)]] (⟨[], []⟩) (.agg [.os 8 r.length]) (⟨[], [(122, true, r)]⟩)) {a1 : Rw} {r : Rw} (h : impl_cloneOrdinal_b rec_impl_cloneOrdinal a1 = some r) : Ct prog 140 [.agg [.d (D.sl a1)]] (⟨[], []⟩) (.agg [.os 8 r.length]) (⟨[], [(122, true, r)]⟩) := by
  rw [impl_cloneOrdinal_b] at h
  refine Ct.of (c := _) mixed func140 ⟨rfl, rfl, rfl⟩ ?_ rfl
  conv => whnf
  obtain ⟨g34, h⟩ := req_ex h
  refine LoopOk.into (impl_cloneOrdinal_l0_ct hrec_impl_cloneOrdinal g34 _ _ _ rfl h) [some 128, some 192, none] [] ⟨⟨rfl, rfl⟩, ⟨rfl, ⟨rfl, trivial, trivial⟩, ⟨rfl, ⟨rfl, rfl⟩, trivial⟩, rfl, trivial⟩, ⟨rfl, rfl⟩, ⟨rfl, rfl⟩, rfl, rfl, rfl, trivial⟩ ?_ (fun _ hs => hs)
  rintro i ts os ⟨rfl, v19, h, rfl, rfl⟩
  conv => whnf
  refine CutK.go ?_
  conv => whnf
  cases h
  exact Done.of [some 67001] [] rfl rfl ⟨⟨rfl, rfl⟩, ⟨rfl, ⟨rfl, rfl, rows_same⟩, trivial⟩, ⟨⟨rfl, rfl⟩, trivial⟩, trivial⟩
def impl_cloneOrdinal : Nat → Rw → Option Rw
  | 0, _ => none
  | k + 1, a1 => impl_cloneOrdinal_b (impl_cloneOrdinal k) a1
theorem impl_cloneOrdinal_ct' : ∀ (k : Nat) (a1 : Rw) (r : Rw), impl_cloneOrdinal k a1 = some r → Ct prog 140 [.agg [.d (D.sl a1)]] (⟨[], []⟩) (.agg [.os 8 r.length]) (⟨[], [(122, true, r)]⟩)
  | 0, _, _, h => by rw [impl_cloneOrdinal] at h; cases h
  | k + 1, _, _, h => by rw [impl_cloneOrdinal] at h; exact impl_cloneOrdinal_b_ct (impl_cloneOrdinal_ct' k) h
theorem impl_cloneOrdinal_ct {k : Nat} {a1 : Rw} {r : Rw} (h : impl_cloneOrdinal k a1 = some r) : Ct prog 140 [.agg [.d (D.sl a1)]] (⟨[], []⟩) (.agg [.os 8 r.length]) (⟨[], [(122, true, r)]⟩) := impl_cloneOrdinal_ct' k _ _ h

def impl_told (k : Nat) (a1 : Rw) : Option (Rw × Bool) :=
  ((impl_IsOrdinal k a1).bind fun y2 => (if y2 = true then ((impl_cloneOrdinal k a1).bind fun y5 => some (y5, true)) else some (([] : Rw), false)))
set_option maxHeartbeats 4000000 in
set_option maxRecDepth 100000 in
theorem impl_told_ct {k : Nat} {a1 : Rw} {r : Rw × Bool} (h : impl_told k a1 = some r) : Ct prog 74 [.agg [.d (D.sl a1)]] (⟨[], []⟩) (.tup [.agg [.os 8 r.1.length], .d (D.bool r.2)]) (⟨[], [(122, true, r.1)]⟩) := by
  rw [impl_told] at h
  refine Ct.of (c := _) mixed func74 ⟨rfl, rfl, rfl⟩ ?_ rfl
  conv => whnf
  refine Pick.no ?_
  conv => whnf
  obtain ⟨y2, e3, h⟩ := bind_ex h
  refine CallOk.of (impl_IsOrdinal_ct e3) ?_
  conv => whnf
  refine spl (fun g4 => ?_) (fun g4 => ?_)
  · replace h := iteT h g4
    conv => whnf
    refine CutK.go ?_
    conv => whnf
    refine CutK.go ?_
    conv => whnf
    refine Pick.no ?_
    conv => whnf
    obtain ⟨y5, e6, h⟩ := bind_ex h
    refine CallOk.of (impl_cloneOrdinal_ct e6) ?_
    conv => whnf
    refine CutK.go ?_
    conv => whnf
    cases h
    exact Done.of [some 576] [] rfl rfl ⟨⟨rfl, rfl⟩, ⟨rfl, ⟨rfl, rfl, rows_same⟩, trivial⟩, ⟨⟨⟨rfl, rfl⟩, trivial⟩, rfl, trivial⟩, trivial⟩
  · replace h := iteF h g4
    conv => whnf
    refine CutK.go ?_
    conv => whnf
    cases h
    exact Done.of [none] [] rfl rfl ⟨⟨rfl, rfl⟩, ⟨rfl, rfl, trivial⟩, ⟨⟨⟨rfl, rfl⟩, trivial⟩, rfl, trivial⟩, trivial⟩

def impl_HereditaryOrdinal (k : Nat) (a1 : Int) (a2 : Int) : Option (Rw × Bool) :=
  ((impl_in a1 0 1000000).bind fun y3 => (if y3 = true then ((impl_baseOk a2).bind fun y6 => (if y6 = true then ((impl_hereditary k a1 a2).bind fun y9 => ((impl_told k y9).bind fun y11 => (if y11.2 = true then some (y11.1, true) else some (y11.1, false)))) else some (([] : Rw), false))) else some (([] : Rw), false)))
set_option maxHeartbeats 4000000 in
set_option maxRecDepth 100000 in
theorem impl_HereditaryOrdinal_ct {k : Nat} {a1 : Int} {a2 : Int} {r : Rw × Bool} (h : impl_HereditaryOrdinal k a1 a2 = some r) : Ct prog 29 [.d (D.int .i64 a1), .d (D.int .i64 a2)] (⟨[], []⟩) (.tup [.agg [.os 8 r.1.length], .d (D.bool r.2)]) (⟨[], [(122, true, r.1)]⟩) := by
  rw [impl_HereditaryOrdinal] at h
  refine Ct.of (c := _) mixed func29 ⟨rfl, rfl, rfl⟩ ?_ rfl
  conv => whnf
  refine Pick.no ?_
  conv => whnf
  obtain ⟨y3, e4, h⟩ := bind_ex h
  refine CallOk.of (impl_in_ct e4) ?_
  conv => whnf
  refine spl (fun g5 => ?_) (fun g5 => ?_)
  · replace h := iteT h g5
    conv => whnf
    refine Pick.no ?_
    conv => whnf
    obtain ⟨y6, e7, h⟩ := bind_ex h
    refine CallOk.of (impl_baseOk_ct e7) ?_
    conv => whnf
    refine spl (fun g8 => ?_) (fun g8 => ?_)
    · replace h := iteT h g8
      conv => whnf
      refine CutK.go ?_
      conv => whnf
      refine CutK.go ?_
      conv => whnf
      refine Pick.no ?_
      conv => whnf
      obtain ⟨y9, e10, h⟩ := bind_ex h
      refine CallOk.of (impl_hereditary_ct e10) ?_
      conv => whnf
      refine Pick.no ?_
      conv => whnf
      refine Take.all (rfl) ?_
      conv => whnf
      obtain ⟨y11, e12, h⟩ := bind_ex h
      refine CallOk.of (impl_told_ct e12) ?_
      conv => whnf
      refine spl (fun g13 => ?_) (fun g13 => ?_)
      · replace h := iteT h g13
        conv => whnf
        refine CutK.go ?_
        conv => whnf
        cases h
        exact Done.of [some 1152] [] rfl rfl ⟨⟨rfl, rfl⟩, ⟨rfl, ⟨rfl, rfl, rows_same⟩, trivial⟩, ⟨⟨⟨rfl, rfl⟩, trivial⟩, rfl, trivial⟩, trivial⟩
      · replace h := iteF h g13
        conv => whnf
        refine CutK.go ?_
        conv => whnf
        cases h
        exact Done.of [some 1152] [] rfl rfl ⟨⟨rfl, rfl⟩, ⟨rfl, ⟨rfl, rfl, rows_same⟩, trivial⟩, ⟨⟨⟨rfl, rfl⟩, trivial⟩, rfl, trivial⟩, trivial⟩
    · replace h := iteF h g8
      conv => whnf
      refine CutK.go ?_
      conv => whnf
      cases h
      exact Done.of [none] [] rfl rfl ⟨⟨rfl, rfl⟩, ⟨rfl, rfl, trivial⟩, ⟨⟨⟨rfl, rfl⟩, trivial⟩, rfl, trivial⟩, trivial⟩
  · replace h := iteF h g5
    conv => whnf
    refine CutK.go ?_
    conv => whnf
    cases h
    exact Done.of [none] [] rfl rfl ⟨⟨rfl, rfl⟩, ⟨rfl, rfl, trivial⟩, ⟨⟨⟨rfl, rfl⟩, trivial⟩, rfl, trivial⟩, trivial⟩

def impl_IsDescent_1 (k : Nat) (a1 : Rw) : Option Bool :=
  ((impl_IsOrdinal k a1).bind fun y2 => (if y2 = true then some false else some true))
set_option maxHeartbeats 4000000 in
set_option maxRecDepth 100000 in
theorem impl_IsDescent_1_ct {k : Nat} {a1 : Rw} {r : Bool} (h : impl_IsDescent_1 k a1 = some r) : Ct prog 85 [.agg [.d (D.sl a1)]] (⟨[], []⟩) (.d (D.bool r)) (⟨[], []⟩) := by
  rw [impl_IsDescent_1] at h
  refine Ct.of (c := _) mixed func85 ⟨rfl, rfl, rfl⟩ ?_ rfl
  conv => whnf
  refine Pick.no ?_
  conv => whnf
  obtain ⟨y2, e3, h⟩ := bind_ex h
  refine CallOk.of (impl_IsOrdinal_ct e3) ?_
  conv => whnf
  refine spl (fun g4 => ?_) (fun g4 => ?_)
  · replace h := iteT h g4
    conv => whnf
    refine CutK.go ?_
    conv => whnf
    cases h
    exact Done.of [] [] rfl rfl ⟨⟨rfl, rfl⟩, ⟨rfl, trivial⟩, rfl, trivial⟩
  · replace h := iteF h g4
    conv => whnf
    refine CutK.go ?_
    conv => whnf
    cases h
    exact Done.of [] [] rfl rfl ⟨⟨rfl, rfl⟩, ⟨rfl, trivial⟩, rfl, trivial⟩

def slices_IndexFunc__IsDescent_1_l0 (k : Nat) (a1 : Rw) (K0 : Option Int) : Rw → Nat → Option Int
  | [], v9n => (K0)
  | cs :: rest, v9n => (cell_s cs fun x17 => ((impl_IsDescent_1 k x17).bind fun y19 => (if y19 = true then some (v9n : Int) else (slices_IndexFunc__IsDescent_1_l0 k a1 K0 rest (v9n + 1)))))
set_option maxHeartbeats 4000000 in
set_option maxRecDepth 100000 in
theorem slices_IndexFunc__IsDescent_1_l0_ct {k : Nat} {a1 : Rw} {K0 : Option Int} {r : Int} (hx : a1.length ≤ cap) : ∀ (rest : Rw) (v9n : Nat), a1.drop v9n = rest → slices_IndexFunc__IsDescent_1_l0 k a1 K0 rest v9n = some r → LoopOk prog 0 (lp f146 0) (mk 19 [(0, .d (D.sl a1)), (1, .fn 85 []), (7, .d (D.int .i64 (a1.length : Int))), (8, .d (D.int .i64 (v9n : Int)))] []) (LoopEnd prog f146 0 19 (.d (D.int .i64 r)) (⟨[], []⟩) (fun i ts os => (i = 0 ∧ K0 = some r ∧ ts = [] ∧ os = [])))
  | [], v9n, hd, h => by
      rw [slices_IndexFunc__IsDescent_1_l0] at h
      have hn := drop_nil hd
      refine LoopOk.step ?_
      conv => whnf
      refine splD (fun g => absurd g hn) (fun _ => ?_)
      conv => whnf
      exact ⟨_, _, [], [], ⟨rfl, h, rfl, rfl⟩, ⟨⟨rfl, rfl⟩, ⟨rfl, trivial⟩, trivial⟩⟩
  | cs :: rest, v9n, hd, h => by
      rw [slices_IndexFunc__IsDescent_1_l0] at h
      obtain ⟨hrow, hd1, hlt⟩ := drop_cons hd
      refine LoopOk.step ?_
      conv => whnf
      refine splD (fun _ => ?_) (fun g => absurd hlt g)
      conv => whnf
      obtain ⟨x17, e18, h⟩ := cell_s_ex h
      rw [e18] at hrow
      refine Req.of (Int.natCast_nonneg _) ?_
      refine Row.of _ hrow ?_
      conv => whnf
      refine Pick.no ?_
      conv => whnf
      obtain ⟨y19, e20, h⟩ := bind_ex h
      refine CallOk.of (impl_IsDescent_1_ct e20) ?_
      conv => whnf
      refine spl (fun g21 => ?_) (fun g21 => ?_)
      · replace h := iteT h g21
        conv => whnf
        refine CutK.go ?_
        conv => whnf
        cases h
        exact Done.of [] [] rfl rfl ⟨⟨rfl, rfl⟩, ⟨rfl, trivial⟩, rfl, trivial⟩
      · replace h := iteF h g21
        conv => whnf
        refine CutK.go ?_
        conv => whnf
        refine CutK.go ?_
        conv => whnf
        exact LoopOk.back (slices_IndexFunc__IsDescent_1_l0_ct hx rest (v9n + 1)  hd1 h) [] [] ⟨⟨rfl, rfl⟩, ⟨rfl, trivial⟩, rfl, ⟨rfl, trivial⟩, rfl, i64eq (wrap_up hlt hx), trivial⟩
def slices_IndexFunc__IsDescent_1 (k : Nat) (a1 : Rw) : Option Int :=
  (if a1.length ≤ cap then (slices_IndexFunc__IsDescent_1_l0 k a1 (some (-1)) a1 0) else none)
set_option maxHeartbeats 4000000 in
set_option maxRecDepth 100000 in
theorem slices_IndexFunc__IsDescent_1_ct {k : Nat} {a1 : Rw} {r : Int} (h : slices_IndexFunc__IsDescent_1 k a1 = some r) : Ct prog 146 [.d (D.sl a1), .fn 85 []] (⟨[], []⟩) (.d (D.int .i64 r)) (⟨[], []⟩) := by
  rw [slices_IndexFunc__IsDescent_1] at h
  refine Ct.of (c := _) mixed func146 ⟨rfl, rfl, rfl⟩ ?_ rfl
  conv => whnf
  obtain ⟨g22, h⟩ := req_ex h
  refine LoopOk.into (slices_IndexFunc__IsDescent_1_l0_ct  g22 _ _  rfl h) [] [] ⟨⟨rfl, rfl⟩, ⟨rfl, trivial⟩, rfl, ⟨rfl, trivial⟩, rfl, rfl, trivial⟩ ?_ (fun _ hs => hs)
  rintro i ts os ⟨rfl, h, rfl, rfl⟩
  conv => whnf
  refine CutK.go ?_
  conv => whnf
  cases h
  exact Done.of [] [] rfl rfl ⟨⟨rfl, rfl⟩, ⟨rfl, trivial⟩, rfl, trivial⟩

def slices_ContainsFunc__IsDescent_1 (k : Nat) (a1 : Rw) : Option Bool :=
  ((slices_IndexFunc__IsDescent_1 k a1).bind fun y2 => (if (0 : Int) ≤ y2 then some true else some false))
set_option maxHeartbeats 4000000 in
set_option maxRecDepth 100000 in
theorem slices_ContainsFunc__IsDescent_1_ct {k : Nat} {a1 : Rw} {r : Bool} (h : slices_ContainsFunc__IsDescent_1 k a1 = some r) : Ct prog 84 [.d (D.sl a1), .fn 85 []] (⟨[], []⟩) (.d (D.bool r)) (⟨[], []⟩) := by
  rw [slices_ContainsFunc__IsDescent_1] at h
  refine Ct.of (c := _) mixed func84 ⟨rfl, rfl, rfl⟩ ?_ rfl
  conv => whnf
  refine Pick.no ?_
  conv => whnf
  obtain ⟨y2, e3, h⟩ := bind_ex h
  refine CallOk.of (slices_IndexFunc__IsDescent_1_ct e3) ?_
  conv => whnf
  refine splD (fun g4 => ?_) (fun g4 => ?_)
  · replace h := iteP h g4
    conv => whnf
    refine CutK.go ?_
    conv => whnf
    cases h
    exact Done.of [] [] rfl rfl ⟨⟨rfl, rfl⟩, ⟨rfl, trivial⟩, rfl, trivial⟩
  · replace h := iteN h g4
    conv => whnf
    refine CutK.go ?_
    conv => whnf
    cases h
    exact Done.of [] [] rfl rfl ⟨⟨rfl, rfl⟩, ⟨rfl, trivial⟩, rfl, trivial⟩

def impl_IsDescent_l0 (k : Nat) (a1 : Rw) (K0 : Bool → Option (Bool × Bool)) : Nat → Int → Bool → Option (Bool × Bool)
  | 0, _, _ => none
  | n + 1, v16, v17 => (cond v17 (if v16 < (a1.length : Int) then (row_s a1 (IntKind.i64.wrap (v16 - 1)) fun x43 => (row_s a1 v16 fun x46 => ((impl_cmp k x43 x46).bind fun y49 => (if (0 : Int) < y49 then (impl_IsDescent_l0 k a1 K0 n (IntKind.i64.wrap (v16 + 1)) true) else (impl_IsDescent_l0 k a1 K0 n (IntKind.i64.wrap (v16 + 1)) false))))) else (K0 true)) (if v16 < (a1.length : Int) then (impl_IsDescent_l0 k a1 K0 n (IntKind.i64.wrap (v16 + 1)) false) else (K0 false)))
set_option maxHeartbeats 4000000 in
set_option maxRecDepth 100000 in
theorem impl_IsDescent_l0_ct {k : Nat} {a1 : Rw} {K0 : Bool → Option (Bool × Bool)} {r : Bool × Bool} : ∀ (n : Nat) (v16 : Int) (v17 : Bool), impl_IsDescent_l0 k a1 K0 n v16 v17 = some r → LoopOk prog 0 (lp f26 0) (mk 34 [(0, .d (D.sl a1)), (4, .d (D.bool v17)), (5, .d (D.int .i64 v16))] []) (LoopEnd prog f26 0 34 (.tup [.d (D.bool r.1), .d (D.bool r.2)]) (⟨[], []⟩) (fun i ts os => (i = 0 ∧ ∃ v19 : Bool, K0 v19 = some r ∧ ts = [(4, .d (D.bool v19))] ∧ os = [])))
  | 0, _, _, h => by
      rw [impl_IsDescent_l0] at h; cases h
  | n + 1, v16, v17, h => by
      rw [impl_IsDescent_l0] at h
      cases v17
      · replace h := condF h
        refine LoopOk.step ?_
        conv => whnf
        refine splD (fun g41 => ?_) (fun g41 => ?_)
        · replace h := iteP h g41
          conv => whnf
          refine CutK.norm [0, 4, 5] [] ?_
          conv => whnf
          exact LoopOk.back (impl_IsDescent_l0_ct  n _ _ h) [] [] ⟨⟨rfl, rfl⟩, ⟨rfl, trivial⟩, rfl, rfl, rfl, trivial⟩
        · replace h := iteN h g41
          conv => whnf
          exact ⟨_, _, [], [], ⟨rfl, _, h, rfl, rfl⟩, ⟨⟨rfl, rfl⟩, ⟨rfl, trivial⟩, rfl, trivial⟩⟩
      · replace h := condT h
        refine LoopOk.step ?_
        conv => whnf
        refine splD (fun g42 => ?_) (fun g42 => ?_)
        · replace h := iteP h g42
          conv => whnf
          obtain ⟨g45, x43, e44, h⟩ := row_s_ex h
          refine Req.of g45 ?_
          refine Row.of _ e44 ?_
          conv => whnf
          obtain ⟨g48, x46, e47, h⟩ := row_s_ex h
          refine Req.of g48 ?_
          refine Row.of _ e47 ?_
          conv => whnf
          refine Pick.no ?_
          conv => whnf
          obtain ⟨y49, e50, h⟩ := bind_ex h
          refine CallOk.of (impl_cmp_ct e50) ?_
          conv => whnf
          refine splD (fun g51 => ?_) (fun g51 => ?_)
          · replace h := iteP h g51
            conv => whnf
            refine CutK.norm [0, 4, 5] [] ?_
            conv => whnf
            exact LoopOk.back (impl_IsDescent_l0_ct  n _ _ h) [] [] ⟨⟨rfl, rfl⟩, ⟨rfl, trivial⟩, rfl, rfl, rfl, trivial⟩
          · replace h := iteN h g51
            conv => whnf
            refine CutK.norm [0, 4, 5] [] ?_
            conv => whnf
            exact LoopOk.back (impl_IsDescent_l0_ct  n _ _ h) [] [] ⟨⟨rfl, rfl⟩, ⟨rfl, trivial⟩, rfl, rfl, rfl, trivial⟩
        · replace h := iteN h g42
          conv => whnf
          exact ⟨_, _, [], [], ⟨rfl, _, h, rfl, rfl⟩, ⟨⟨rfl, rfl⟩, ⟨rfl, trivial⟩, rfl, trivial⟩⟩
def impl_IsDescent (k : Nat) (a1 : Rw) : Option (Bool × Bool) :=
  (if (61 : Int) < (a1.length : Int) then some (false, false) else ((slices_ContainsFunc__IsDescent_1 k a1).bind fun y3 => (if y3 = true then some (false, false) else (impl_IsDescent_l0 k a1 (fun (v19 : Bool) => (cond v19 (some (true, true)) (some (false, true)))) k 1 true))))
set_option maxHeartbeats 4000000 in
set_option maxRecDepth 100000 in
theorem impl_IsDescent_ct {k : Nat} {a1 : Rw} {r : Bool × Bool} (h : impl_IsDescent k a1 = some r) : Ct prog 26 [.d (D.sl a1)] (⟨[], []⟩) (.tup [.d (D.bool r.1), .d (D.bool r.2)]) (⟨[], []⟩) := by
  rw [impl_IsDescent] at h
  refine Ct.of (c := _) mixed func26 ⟨rfl, rfl, rfl⟩ ?_ rfl
  conv => whnf
  refine splD (fun g2 => ?_) (fun g2 => ?_)
  · replace h := iteP h g2
    conv => whnf
    refine CutK.norm [0, 12] [] ?_
    conv => whnf
    cases h
    exact Done.of [] [] rfl rfl ⟨⟨rfl, rfl⟩, ⟨rfl, trivial⟩, ⟨rfl, rfl, trivial⟩, trivial⟩
  · replace h := iteN h g2
    conv => whnf
    refine Pick.no ?_
    conv => whnf
    obtain ⟨y3, e4, h⟩ := bind_ex h
    refine CallOk.of (slices_ContainsFunc__IsDescent_1_ct e4) ?_
    conv => whnf
    refine spl (fun g5 => ?_) (fun g5 => ?_)
    · replace h := iteT h g5
      conv => whnf
      refine CutK.norm [0, 12] [] ?_
      conv => whnf
      cases h
      exact Done.of [] [] rfl rfl ⟨⟨rfl, rfl⟩, ⟨rfl, trivial⟩, ⟨rfl, rfl, trivial⟩, trivial⟩
    · replace h := iteF h g5
      conv => whnf
      refine CutK.norm [0, 12] [] ?_
      conv => whnf
      refine CutK.norm [0] [] ?_
      conv => whnf
      refine LoopOk.into (impl_IsDescent_l0_ct  _ _ _ h) [] [] ⟨⟨rfl, rfl⟩, ⟨rfl, trivial⟩, rfl, rfl, rfl, trivial⟩ ?_ (fun _ hs => hs)
      rintro i ts os ⟨rfl, v19, h, rfl, rfl⟩
      cases v19
      · replace h := condF h
        conv => whnf
        refine CutK.norm [4] [] ?_
        conv => whnf
        cases h
        exact Done.of [] [] rfl rfl ⟨⟨rfl, rfl⟩, ⟨rfl, trivial⟩, ⟨rfl, rfl, trivial⟩, trivial⟩
      · replace h := condT h
        conv => whnf
        refine CutK.norm [4] [] ?_
        conv => whnf
        cases h
        exact Done.of [] [] rfl rfl ⟨⟨rfl, rfl⟩, ⟨rfl, trivial⟩, ⟨rfl, rfl, trivial⟩, trivial⟩

def spec_deForm_l0 (rec_spec_deForm : Int → Int → Option Rw) (a2 : Int) (K0 : Rw → Option Rw) : Nat → Int → Int → Rw → Option Rw
  | 0, _, _, _ => none
  | n + 1, v9, v10, v11 => (if (0 : Int) < v9 then (if a2 ≠ 0 then (if (0 : Int) < (v9.tmod a2) then ((rec_spec_deForm v10 a2).bind fun y28 => (if ([[D.sl y28, D.int .i64 (v9.tmod a2)]] : Rw).length + v11.length ≤ cap ∧ (∀ cs ∈ v11, cs.length = 2) then (spec_deForm_l0 rec_spec_deForm a2 K0 n (IntKind.i64.wrap (v9.tdiv a2)) (IntKind.i64.wrap (v10 + 1)) (([[D.sl y28, D.int .i64 (v9.tmod a2)]]) ++ v11)) else none)) else (spec_deForm_l0 rec_spec_deForm a2 K0 n (IntKind.i64.wrap (v9.tdiv a2)) (IntKind.i64.wrap (v10 + 1)) v11)) else none) else (K0 v11))
set_option maxHeartbeats 4000000 in
set_option maxRecDepth 100000 in
theorem spec_deForm_l0_ct {rec_spec_deForm : Int → Int → Option Rw} {a2 : Int} {K0 : Rw → Option Rw} (hrec_spec_deForm : ∀ (a1 : Int) (a2 : Int) (r : Rw), rec_spec_deForm a1 a2 = some r → Ct prog 79 [.d (D.int .i64 a1), .d (D.int .i64 a2)] (⟨[], []⟩) (.agg [.os 8 r.length]) (⟨[], [(122, true, r)]⟩)) {r : Rw} : ∀ (n : Nat) (v9 : Int) (v10 : Int) (v11 : Rw), spec_deForm_l0 rec_spec_deForm a2 K0 n v9 v10 v11 = some r → LoopOk prog 0 (lp f79 0) (mk 34 [(0, .d (D.int .i64 v9)), (1, .d (D.int .i64 a2)), (4, .ptr 256 0), (5, .ptr 320 0), (6, .d (D.int .i64 v10))] [(256, .box 59 [.es]), (320, .box 59 [.os 64000 v11.length]), (64000, .arr 122 true v11)]) (LoopEnd prog f79 0 34 (.agg [.os 8 r.length]) (⟨[], [(122, true, r)]⟩) (fun i ts os => (i = 0 ∧ ∃ v18 : Rw, K0 v18 = some r ∧ ts = [(4, .ptr 256 0), (5, .ptr 320 0)] ∧ os = [(256, .box 59 [.es]), (320, .box 59 [.os 67001 v18.length]), (67001, .arr 122 true v18)])))
  | 0, _, _, _, h => by
      rw [spec_deForm_l0] at h; cases h
  | n + 1, v9, v10, v11, h => by
      rw [spec_deForm_l0] at h
      refine LoopOk.step ?_
      conv => whnf
      refine splD (fun g25 => ?_) (fun g25 => ?_)
      · replace h := iteP h g25
        conv => whnf
        obtain ⟨g26, h⟩ := req_ex h
        refine Req.of g26 ?_
        conv => whnf
        refine splD (fun g27 => ?_) (fun g27 => ?_)
        · replace h := iteP h g27
          conv => whnf
          refine Pick.no ?_
          conv => whnf
          obtain ⟨y28, e29, h⟩ := bind_ex h
          refine CallOk.of (hrec_spec_deForm _ _ _ e29) ?_
          conv => whnf
          refine Req.of g26 ?_
          conv => whnf
          refine CutK.norm [0, 1, 4, 5, 6, 7] [256, 320, 448, 1216, 64000] ?_
          conv => whnf
          refine Take.all (rfl) ?_
          conv => whnf
          refine Take.all (by first | rfl | exact List.length_append.symm | (simp; done) | omega | (dsimp only; omega)) ?_
          conv => whnf
          refine Take.all (rfl) ?_
          conv => whnf
          obtain ⟨g30, h⟩ := req_ex h
          refine Req.of (room (b := 32) (by decide) g30.1 g30.2) ?_
          conv => whnf
          refine CutK.norm [0, 1, 4, 5, 6] [256, 320, 1792] ?_
          conv => whnf
          refine Req.of g26 ?_
          conv => whnf
          refine CutK.norm [0, 1, 4, 5, 6] [256, 320, 1792] ?_
          conv => whnf
          exact LoopOk.back (spec_deForm_l0_ct hrec_spec_deForm n _ _ _ h) [some 256, some 320, some 1792] [] ⟨⟨rfl, rfl⟩, ⟨rfl, ⟨rfl, trivial, trivial⟩, ⟨rfl, ⟨(by first | rfl | exact List.length_append.symm | (simp; done) | omega | (dsimp only; omega)), rfl⟩, trivial⟩, ⟨rfl, rfl, rows_same⟩, trivial⟩, rfl, rfl, ⟨rfl, rfl⟩, ⟨rfl, rfl⟩, rfl, trivial⟩
        · replace h := iteN h g27
          conv => whnf
          refine CutK.norm [0, 1, 4, 5, 6] [256, 320, 64000] ?_
          conv => whnf
          refine Req.of g26 ?_
          conv => whnf
          refine CutK.norm [0, 1, 4, 5, 6] [256, 320, 64000] ?_
          conv => whnf
          exact LoopOk.back (spec_deForm_l0_ct hrec_spec_deForm n _ _ _ h) [some 256, some 320, some 64000] [] ⟨⟨rfl, rfl⟩, ⟨rfl, ⟨rfl, trivial, trivial⟩, ⟨rfl, ⟨rfl, rfl⟩, trivial⟩, ⟨rfl, rfl, rows_same⟩, trivial⟩, rfl, rfl, ⟨rfl, rfl⟩, ⟨rfl, rfl⟩, rfl, trivial⟩
      · replace h := iteN h g25
        conv => whnf
        exact ⟨_, _, [some 256, some 320, some 64000], [], ⟨rfl, _, h, rfl, rfl⟩, ⟨⟨rfl, rfl⟩, ⟨rfl, ⟨rfl, trivial, trivial⟩, ⟨rfl, ⟨rfl, rfl⟩, trivial⟩, ⟨rfl, rfl, rows_same⟩, trivial⟩, ⟨rfl, rfl⟩, ⟨rfl, rfl⟩, trivial⟩⟩
def spec_deForm_b (k : Nat) (rec_spec_deForm : Int → Int → Option Rw) (a1 : Int) (a2 : Int) : Option Rw :=
  (spec_deForm_l0 rec_spec_deForm a2 (fun (v18 : Rw) => some v18) k a1 0 ([] : Rw))
set_option maxHeartbeats 4000000 in
set_option maxRecDepth 100000 in
theorem spec_deForm_b_ct {k : Nat} {rec_spec_deForm : Int → Int → Option Rw} (hrec_spec_deForm : ∀ (a1 : Int) (a2 : Int) (r : Rw), rec_spec_deForm a1 a2 = some r → Ct prog 79 [.d (D.int .i64 a1), .d (D.int .i64 a2)] (⟨[], []⟩) (.agg [.os 8 r.length]) (⟨[], [(122, true, r)]⟩)) {a1 : Int} {a2 : Int} {r : Rw} (h : spec_deForm_b k rec_spec_deForm a1 a2 = some r) : Ct prog 79 [.d (D.int .i64 a1), .d (D.int .i64 a2)] (⟨[], []⟩) (.agg [.os 8 r.length]) (⟨[], [(122, true, r)]⟩) := by
  rw [spec_deForm_b] at h
  refine Ct.of (c := _) mixed func79 ⟨rfl, rfl, rfl⟩ ?_ rfl
  conv => whnf
  refine LoopOk.into (spec_deForm_l0_ct hrec_spec_deForm _ _ _ _ h) [some 256, some 320, none] [] ⟨⟨rfl, rfl⟩, ⟨rfl, ⟨rfl, trivial, trivial⟩, ⟨rfl, ⟨rfl, rfl⟩, trivial⟩, rfl, trivial⟩, rfl, rfl, ⟨rfl, rfl⟩, ⟨rfl, rfl⟩, rfl, trivial⟩ ?_ (fun _ hs => hs)
  rintro i ts os ⟨rfl, v18, h, rfl, rfl⟩
  conv => whnf
  refine CutK.norm [4, 5] [256, 320, 67001] ?_
  conv => whnf
  cases h
  exact Done.of [some 67001] [] rfl rfl ⟨⟨rfl, rfl⟩, ⟨rfl, ⟨rfl, rfl, rows_same⟩, trivial⟩, ⟨⟨rfl, rfl⟩, trivial⟩, trivial⟩
def spec_deForm : Nat → Int → Int → Option Rw
  | 0, _, _ => none
  | k + 1, a1, a2 => spec_deForm_b k (spec_deForm k) a1 a2
theorem spec_deForm_ct' : ∀ (k : Nat) (a1 : Int) (a2 : Int) (r : Rw), spec_deForm k a1 a2 = some r → Ct prog 79 [.d (D.int .i64 a1), .d (D.int .i64 a2)] (⟨[], []⟩) (.agg [.os 8 r.length]) (⟨[], [(122, true, r)]⟩)
  | 0, _, _, _, h => by rw [spec_deForm] at h; cases h
  | k + 1, _, _, _, h => by rw [spec_deForm] at h; exact spec_deForm_b_ct (spec_deForm_ct' k) h
theorem spec_deForm_ct {k : Nat} {a1 : Int} {a2 : Int} {r : Rw} (h : spec_deForm k a1 a2 = some r) : Ct prog 79 [.d (D.int .i64 a1), .d (D.int .i64 a2)] (⟨[], []⟩) (.agg [.os 8 r.length]) (⟨[], [(122, true, r)]⟩) := spec_deForm_ct' k _ _ _ h

def spec_odLeft_l0 (rec_spec_odLeft : Rw → Int → Int → Option Int) (a1 : Rw) (a2 : Int) (K0 : Int → Option Int) : Rw → Int → Option Int
  | [], v13 => (K0 v13)
  | cs :: rest, v13 => (cell_si cs fun x34 x35 => (if v13 < (0 : Int) then some (-1) else (if a2 = (0 : Int) then some (-1) else ((rec_spec_odLeft x34 (IntKind.i64.wrap (a2 - 1)) (IntKind.i64.wrap (v13 - 1))).bind fun y39 => (spec_odLeft_l0 rec_spec_odLeft a1 a2 K0 rest y39)))))
set_option maxHeartbeats 4000000 in
set_option maxRecDepth 100000 in
theorem spec_odLeft_l0_ct {rec_spec_odLeft : Rw → Int → Int → Option Int} {a1 : Rw} {a2 : Int} {K0 : Int → Option Int} (hrec_spec_odLeft : ∀ (a1 : Rw) (a2 : Int) (a3 : Int) (r : Int), rec_spec_odLeft a1 a2 a3 = some r → Ct prog 144 [.agg [.d (D.sl a1)], .d (D.int .i64 a2), .d (D.int .i64 a3)] (⟨[], []⟩) (.d (D.int .i64 r)) (⟨[], []⟩)) {r : Int} (hx : a1.length ≤ cap) : ∀ (rest : Rw) (v14n : Nat) (v13 : Int), a1.drop v14n = rest → spec_odLeft_l0 rec_spec_odLeft a1 a2 K0 rest v13 = some r → LoopOk prog 0 (lp f144 0) (mk 33 [(1, .d (D.int .i64 a2)), (2, .d (D.int .i64 v13)), (12, .d (D.sl a1)), (13, .d (D.int .i64 (a1.length : Int))), (14, .d (D.int .i64 (v14n : Int)))] []) (LoopEnd prog f144 0 33 (.d (D.int .i64 r)) (⟨[], []⟩) (fun i ts os => (i = 0 ∧ ∃ v24 : Int, K0 v24 = some r ∧ ts = [(2, .d (D.int .i64 v24))] ∧ os = [])))
  | [], v14n, v13, hd, h => by
      rw [spec_odLeft_l0] at h
      have hn := drop_nil hd
      refine LoopOk.step ?_
      conv => whnf
      refine splD (fun g => absurd g hn) (fun _ => ?_)
      conv => whnf
      exact ⟨_, _, [], [], ⟨rfl, _, h, rfl, rfl⟩, ⟨⟨rfl, rfl⟩, ⟨rfl, trivial⟩, rfl, trivial⟩⟩
  | cs :: rest, v14n, v13, hd, h => by
      rw [spec_odLeft_l0] at h
      obtain ⟨hrow, hd1, hlt⟩ := drop_cons hd
      refine LoopOk.step ?_
      conv => whnf
      refine splD (fun _ => ?_) (fun g => absurd hlt g)
      conv => whnf
      obtain ⟨x34, x35, e36, h⟩ := cell_si_ex h
      rw [e36] at hrow
      refine Req.of (Int.natCast_nonneg _) ?_
      refine Row.of _ hrow ?_
      conv => whnf
      refine splD (fun g37 => ?_) (fun g37 => ?_)
      · replace h := iteP h g37
        conv => whnf
        cases h
        exact Done.of [] [] rfl rfl ⟨⟨rfl, rfl⟩, ⟨rfl, trivial⟩, rfl, trivial⟩
      · replace h := iteN h g37
        conv => whnf
        refine splD (fun g38 => ?_) (fun g38 => ?_)
        · replace h := iteP h g38
          conv => whnf
          cases h
          exact Done.of [] [] rfl rfl ⟨⟨rfl, rfl⟩, ⟨rfl, trivial⟩, rfl, trivial⟩
        · replace h := iteN h g38
          conv => whnf
          refine Pick.no ?_
          conv => whnf
          obtain ⟨y39, e40, h⟩ := bind_ex h
          refine CallOk.of (hrec_spec_odLeft _ _ _ _ e40) ?_
          conv => whnf
          refine CutK.norm [1, 2, 12, 13, 14] [] ?_
          conv => whnf
          exact LoopOk.back (spec_odLeft_l0_ct hrec_spec_odLeft hx rest (v14n + 1) _ hd1 h) [] [] ⟨⟨rfl, rfl⟩, ⟨rfl, trivial⟩, rfl, rfl, rfl, rfl, i64eq (wrap_up hlt hx), trivial⟩
def spec_odLeft_b (rec_spec_odLeft : Rw → Int → Int → Option Int) (a1 : Rw) (a2 : Int) (a3 : Int) : Option Int :=
  (if a1.length ≤ cap then (spec_odLeft_l0 rec_spec_odLeft a1 a2 (fun (v24 : Int) => some v24) a1 (IntKind.i64.wrap (a3 - 1))) else none)
set_option maxHeartbeats 4000000 in
set_option maxRecDepth 100000 in
theorem spec_odLeft_b_ct {rec_spec_odLeft : Rw → Int → Int → Option Int} (hrec_spec_odLeft : ∀ (a1 : Rw) (a2 : Int) (a3 : Int) (r : Int), rec_spec_odLeft a1 a2 a3 = some r → Ct prog 144 [.agg [.d (D.sl a1)], .d (D.int .i64 a2), .d (D.int .i64 a3)] (⟨[], []⟩) (.d (D.int .i64 r)) (⟨[], []⟩)) {a1 : Rw} {a2 : Int} {a3 : Int} {r : Int} (h : spec_odLeft_b rec_spec_odLeft a1 a2 a3 = some r) : Ct prog 144 [.agg [.d (D.sl a1)], .d (D.int .i64 a2), .d (D.int .i64 a3)] (⟨[], []⟩) (.d (D.int .i64 r)) (⟨[], []⟩) := by
  rw [spec_odLeft_b] at h
  refine Ct.of (c := _) mixed func144 ⟨rfl, rfl, rfl⟩ ?_ rfl
  conv => whnf
  obtain ⟨g41, h⟩ := req_ex h
  refine LoopOk.into (spec_odLeft_l0_ct hrec_spec_odLeft g41 _ _ _ rfl h) [] [] ⟨⟨rfl, rfl⟩, ⟨rfl, trivial⟩, rfl, rfl, rfl, rfl, rfl, trivial⟩ ?_ (fun _ hs => hs)
  rintro i ts os ⟨rfl, v24, h, rfl, rfl⟩
  conv => whnf
  refine CutK.norm [2] [] ?_
  conv => whnf
  cases h
  exact Done.of [] [] rfl rfl ⟨⟨rfl, rfl⟩, ⟨rfl, trivial⟩, rfl, trivial⟩
def spec_odLeft : Nat → Rw → Int → Int → Option Int
  | 0, _, _, _ => none
  | k + 1, a1, a2, a3 => spec_odLeft_b (spec_odLeft k) a1 a2 a3
theorem spec_odLeft_ct' : ∀ (k : Nat) (a1 : Rw) (a2 : Int) (a3 : Int) (r : Int), spec_odLeft k a1 a2 a3 = some r → Ct prog 144 [.agg [.d (D.sl a1)], .d (D.int .i64 a2), .d (D.int .i64 a3)] (⟨[], []⟩) (.d (D.int .i64 r)) (⟨[], []⟩)
  | 0, _, _, _, _, h => by rw [spec_odLeft] at h; cases h
  | k + 1, _, _, _, _, h => by rw [spec_odLeft] at h; exact spec_odLeft_b_ct (spec_odLeft_ct' k) h
theorem spec_odLeft_ct {k : Nat} {a1 : Rw} {a2 : Int} {a3 : Int} {r : Int} (h : spec_odLeft k a1 a2 a3 = some r) : Ct prog 144 [.agg [.d (D.sl a1)], .d (D.int .i64 a2), .d (D.int .i64 a3)] (⟨[], []⟩) (.d (D.int .i64 r)) (⟨[], []⟩) := spec_odLeft_ct' k _ _ _ _ h

def spec_l1In  (a1 : Int) (a2 : Int) (a3 : Int) : Option Bool :=
  (if a2 ≤ a1 then (if a1 ≤ a3 then some true else some false) else some false)
set_option maxHeartbeats 4000000 in
set_option maxRecDepth 100000 in
theorem spec_l1In_ct  {a1 : Int} {a2 : Int} {a3 : Int} {r : Bool} (h : spec_l1In a1 a2 a3 = some r) : Ct prog 142 [.d (D.int .i64 a1), .d (D.int .i64 a2), .d (D.int .i64 a3)] (⟨[], []⟩) (.d (D.bool r)) (⟨[], []⟩) := by
  rw [spec_l1In] at h
  refine Ct.of (c := _) mixed func142 ⟨rfl, rfl, rfl⟩ ?_ rfl
  conv => whnf
  refine splD (fun g4 => ?_) (fun g4 => ?_)
  · replace h := iteP h g4
    conv => whnf
    refine splD (fun g5 => ?_) (fun g5 => ?_)
    · replace h := iteP h g5
      conv => whnf
      cases h
      exact Done.of [] [] rfl rfl ⟨⟨rfl, rfl⟩, ⟨rfl, trivial⟩, rfl, trivial⟩
    · replace h := iteN h g5
      conv => whnf
      cases h
      exact Done.of [] [] rfl rfl ⟨⟨rfl, rfl⟩, ⟨rfl, trivial⟩, rfl, trivial⟩
  · replace h := iteN h g4
    conv => whnf
    cases h
    exact Done.of [] [] rfl rfl ⟨⟨rfl, rfl⟩, ⟨rfl, trivial⟩, rfl, trivial⟩

def spec_l1Sign  (a1 : Int) : Option Int :=
  (if (0 : Int) < a1 then some 1 else (if a1 < (0 : Int) then some (-1) else some 0))
set_option maxHeartbeats 4000000 in
set_option maxRecDepth 100000 in
theorem spec_l1Sign_ct  {a1 : Int} {r : Int} (h : spec_l1Sign a1 = some r) : Ct prog 103 [.d (D.int .i64 a1)] (⟨[], []⟩) (.d (D.int .i64 r)) (⟨[], []⟩) := by
  rw [spec_l1Sign] at h
  refine Ct.of (c := _) mixed func103 ⟨rfl, rfl, rfl⟩ ?_ rfl
  conv => whnf
  refine splD (fun g2 => ?_) (fun g2 => ?_)
  · replace h := iteP h g2
    conv => whnf
    cases h
    exact Done.of [] [] rfl rfl ⟨⟨rfl, rfl⟩, ⟨rfl, trivial⟩, rfl, trivial⟩
  · replace h := iteN h g2
    conv => whnf
    refine splD (fun g3 => ?_) (fun g3 => ?_)
    · replace h := iteP h g3
      conv => whnf
      cases h
      exact Done.of [] [] rfl rfl ⟨⟨rfl, rfl⟩, ⟨rfl, trivial⟩, rfl, trivial⟩
    · replace h := iteN h g3
      conv => whnf
      cases h
      exact Done.of [] [] rfl rfl ⟨⟨rfl, rfl⟩, ⟨rfl, trivial⟩, rfl, trivial⟩

def spec_odCmp_p2 (a1 : Rw) (a2 : Rw) : Option Int :=
  (if (a1.length : Int) < (a2.length : Int) then some (-1) else some 0)
set_option maxHeartbeats 4000000 in
set_option maxRecDepth 100000 in
theorem spec_odCmp_p2_ct {a1 : Rw} {a2 : Rw} {r : Int} (h : spec_odCmp_p2 a1 a2 = some r) : X prog 0 (tlF f180 2) (mk 60 [(2, .ptr 128 0), (3, .ptr 192 0)] [(128, .box 59 [.d (D.sl a1)]), (192, .box 59 [.d (D.sl a2)])]) (finK prog f180 0 (.d (D.int .i64 r)) (⟨[], []⟩)) := by
  rw [spec_odCmp_p2] at h
  conv => whnf
  refine splD (fun g37 => ?_) (fun g37 => ?_)
  · replace h := iteP h g37
    conv => whnf
    cases h
    exact Done.of [] [] rfl rfl ⟨⟨rfl, rfl⟩, ⟨rfl, trivial⟩, rfl, trivial⟩
  · replace h := iteN h g37
    conv => whnf
    cases h
    exact Done.of [] [] rfl rfl ⟨⟨rfl, rfl⟩, ⟨rfl, trivial⟩, rfl, trivial⟩
def spec_odCmp_l0 (rec_spec_odCmp : Rw → Rw → Option Int) (a1 : Rw) (a2 : Rw) (K0 : Option Int) : Rw → Nat → Option Int
  | [], v54n => (K0)
  | cs :: rest, v54n => (cell_si cs fun x71 x72 => (if (v54n : Int) = (a2.length : Int) then some 1 else (row_si a2 (v54n : Int) fun x75 x76 => ((rec_spec_odCmp x71 x75).bind fun y79 => (if y79 = (0 : Int) then (if x72 = x76 then (spec_odCmp_l0 rec_spec_odCmp a1 a2 K0 rest (v54n + 1)) else ((spec_l1Sign (IntKind.i64.wrap (x72 - x76))).bind fun y83 => some y83)) else some y79)))))
set_option maxHeartbeats 4000000 in
set_option maxRecDepth 100000 in
theorem spec_odCmp_l0_ct {rec_spec_odCmp : Rw → Rw → Option Int} {a1 : Rw} {a2 : Rw} {K0 : Option Int} (hrec_spec_odCmp : ∀ (a1 : Rw) (a2 : Rw) (r : Int), rec_spec_odCmp a1 a2 = some r → Ct prog 180 [.agg [.d (D.sl a1)], .agg [.d (D.sl a2)]] (⟨[], []⟩) (.d (D.int .i64 r)) (⟨[], []⟩)) {r : Int} (hx : a1.length ≤ cap) : ∀ (rest : Rw) (v54n : Nat), a1.drop v54n = rest → spec_odCmp_l0 rec_spec_odCmp a1 a2 K0 rest v54n = some r → LoopOk prog 0 (lp f180 0) (mk 60 [(2, .ptr 128 0), (3, .ptr 192 0), (9, .d (D.sl a1)), (10, .d (D.int .i64 (a1.length : Int))), (11, .d (D.int .i64 (v54n : Int)))] [(128, .box 59 [.d (D.sl a1)]), (192, .box 59 [.d (D.sl a2)])]) (LoopEnd prog f180 0 60 (.d (D.int .i64 r)) (⟨[], []⟩) (fun i ts os => (i = 0 ∧ K0 = some r ∧ ts = [(2, .ptr 128 0), (3, .ptr 192 0)] ∧ os = [(128, .box 59 [.d (D.sl a1)]), (192, .box 59 [.d (D.sl a2)])])))
  | [], v54n, hd, h => by
      rw [spec_odCmp_l0] at h
      have hn := drop_nil hd
      refine LoopOk.step ?_
      conv => whnf
      refine splD (fun g => absurd g hn) (fun _ => ?_)
      conv => whnf
      exact ⟨_, _, [some 128, some 192], [], ⟨rfl, h, rfl, rfl⟩, ⟨⟨rfl, rfl⟩, ⟨rfl, ⟨rfl, rfl, trivial⟩, ⟨rfl, rfl, trivial⟩, trivial⟩, ⟨rfl, rfl⟩, ⟨rfl, rfl⟩, trivial⟩⟩
  | cs :: rest, v54n, hd, h => by
      rw [spec_odCmp_l0] at h
      obtain ⟨hrow, hd1, hlt⟩ := drop_cons hd
      refine LoopOk.step ?_
      conv => whnf
      refine splD (fun _ => ?_) (fun g => absurd hlt g)
      conv => whnf
      obtain ⟨x71, x72, e73, h⟩ := cell_si_ex h
      rw [e73] at hrow
      refine Req.of (Int.natCast_nonneg _) ?_
      refine Row.of _ hrow ?_
      conv => whnf
      refine splD (fun g74 => ?_) (fun g74 => ?_)
      · replace h := iteP h g74
        conv => whnf
        cases h
        exact Done.of [] [] rfl rfl ⟨⟨rfl, rfl⟩, ⟨rfl, trivial⟩, rfl, trivial⟩
      · replace h := iteN h g74
        conv => whnf
        obtain ⟨g78, x75, x76, e77, h⟩ := row_si_ex h
        refine Req.of g78 ?_
        refine Row.of _ e77 ?_
        conv => whnf
        refine Pick.no ?_
        conv => whnf
        obtain ⟨y79, e80, h⟩ := bind_ex h
        refine CallOk.of (hrec_spec_odCmp _ _ _ e80) ?_
        conv => whnf
        refine CutK.norm [2, 3, 5, 6, 7, 9, 10, 11] [128, 192, 384] ?_
        conv => whnf
        refine splN (fun g81 => ?_) (fun g81 => ?_)
        · replace h := iteN h g81
          conv => whnf
          cases h
          exact Done.of [] [] rfl rfl ⟨⟨rfl, rfl⟩, ⟨rfl, trivial⟩, rfl, trivial⟩
        · replace h := iteP h g81
          conv => whnf
          refine CutK.norm [2, 3, 5, 6, 9, 10, 11] [128, 192, 384] ?_
          conv => whnf
          refine Req.of g78 ?_
          refine Row.of _ e77 ?_
          conv => whnf
          refine splN (fun g82 => ?_) (fun g82 => ?_)
          · replace h := iteN h g82
            conv => whnf
            refine Req.of g78 ?_
            refine Row.of _ e77 ?_
            conv => whnf
            refine Pick.no ?_
            conv => whnf
            obtain ⟨y83, e84, h⟩ := bind_ex h
            refine CallOk.of (spec_l1Sign_ct e84) ?_
            conv => whnf
            refine CutK.norm [4] [] ?_
            conv => whnf
            cases h
            exact Done.of [] [] rfl rfl ⟨⟨rfl, rfl⟩, ⟨rfl, trivial⟩, rfl, trivial⟩
          · replace h := iteP h g82
            conv => whnf
            refine CutK.norm [2, 3, 9, 10, 11] [128, 192] ?_
            conv => whnf
            exact LoopOk.back (spec_odCmp_l0_ct hrec_spec_odCmp hx rest (v54n + 1)  hd1 h) [some 128, some 192] [] ⟨⟨rfl, rfl⟩, ⟨rfl, ⟨rfl, rfl, trivial⟩, ⟨rfl, rfl, trivial⟩, trivial⟩, ⟨rfl, rfl⟩, ⟨rfl, rfl⟩, rfl, rfl, i64eq (wrap_up hlt hx), trivial⟩
def spec_odCmp_b (rec_spec_odCmp : Rw → Rw → Option Int) (a1 : Rw) (a2 : Rw) : Option Int :=
  (if a1.length ≤ cap then (spec_odCmp_l0 rec_spec_odCmp a1 a2 (spec_odCmp_p2 a1 a2) a1 0) else none)
set_option maxHeartbeats 4000000 in
set_option maxRecDepth 100000 in
theorem spec_odCmp_b_ct {rec_spec_odCmp : Rw → Rw → Option Int} (hrec_spec_odCmp : ∀ (a1 : Rw) (a2 : Rw) (r : Int), rec_spec_odCmp a1 a2 = some r → Ct prog 180 [.agg [.d (D.sl a1)], .agg [.d (D.sl a2)]] (⟨[], []⟩) (.d (D.int .i64 r)) (⟨[], []⟩)) {a1 : Rw} {a2 : Rw} {r : Int} (h : spec_odCmp_b rec_spec_odCmp a1 a2 = some r) : Ct prog 180 [.agg [.d (D.sl a1)], .agg [.d (D.sl a2)]] (⟨[], []⟩) (.d (D.int .i64 r)) (⟨[], []⟩) := by
  rw [spec_odCmp_b] at h
  refine Ct.of (c := _) mixed func180 ⟨rfl, rfl, rfl⟩ ?_ rfl
  conv => whnf
  obtain ⟨g85, h⟩ := req_ex h
  refine LoopOk.into (spec_odCmp_l0_ct hrec_spec_odCmp g85 _ _  rfl h) [some 128, some 192] [] ⟨⟨rfl, rfl⟩, ⟨rfl, ⟨rfl, rfl, trivial⟩, ⟨rfl, rfl, trivial⟩, trivial⟩, ⟨rfl, rfl⟩, ⟨rfl, rfl⟩, rfl, rfl, rfl, trivial⟩ ?_ (fun _ hs => hs)
  rintro i ts os ⟨rfl, h, rfl, rfl⟩
  conv => whnf
  exact CutK.piece (spec_odCmp_p2_ct  h) [some 128, some 192] [] ⟨⟨rfl, rfl⟩, ⟨rfl, ⟨rfl, rfl, trivial⟩, ⟨rfl, rfl, trivial⟩, trivial⟩, ⟨rfl, rfl⟩, ⟨rfl, rfl⟩, trivial⟩
def spec_odCmp : Nat → Rw → Rw → Option Int
  | 0, _, _ => none
  | k + 1, a1, a2 => spec_odCmp_b (spec_odCmp k) a1 a2
theorem spec_odCmp_ct' : ∀ (k : Nat) (a1 : Rw) (a2 : Rw) (r : Int), spec_odCmp k a1 a2 = some r → Ct prog 180 [.agg [.d (D.sl a1)], .agg [.d (D.sl a2)]] (⟨[], []⟩) (.d (D.int .i64 r)) (⟨[], []⟩)
  | 0, _, _, _, h => by rw [spec_odCmp] at h; cases h
  | k + 1, _, _, _, h => by rw [spec_odCmp] at h; exact spec_odCmp_b_ct (spec_odCmp_ct' k) h
theorem spec_odCmp_ct {k : Nat} {a1 : Rw} {a2 : Rw} {r : Int} (h : spec_odCmp k a1 a2 = some r) : Ct prog 180 [.agg [.d (D.sl a1)], .agg [.d (D.sl a2)]] (⟨[], []⟩) (.d (D.int .i64 r)) (⟨[], []⟩) := spec_odCmp_ct' k _ _ _ h

def spec_odForm_p3  : Option Bool :=
  some true
set_option maxHeartbeats 4000000 in
set_option maxRecDepth 100000 in
theorem spec_odForm_p3_ct  {r : Bool} (h : spec_odForm_p3 = some r) : X prog 0 (tlF f145 3) (mk 47 [] []) (finK prog f145 0 (.d (D.bool r)) (⟨[], []⟩)) := by
  rw [spec_odForm_p3] at h
  conv => whnf
  cases h
  exact Done.of [] [] rfl rfl ⟨⟨rfl, rfl⟩, ⟨rfl, trivial⟩, rfl, trivial⟩
def spec_odForm_l0 (k : Nat) (rec_spec_odForm : Rw → Int → Option Bool) (a1 : Rw) (a2 : Int) (K0 : Option Bool) : Rw → Nat → Option Bool
  | [], v47n => (K0)
  | cs :: rest, v47n => (cell_si cs fun x67 x68 => ((spec_l1In x68 1 1000000).bind fun y70 => (if y70 = true then ((rec_spec_odForm x67 (IntKind.i64.wrap (a2 - 1))).bind fun y73 => (if y73 = true then (if (0 : Int) < (v47n : Int) then (row_si a1 (IntKind.i64.wrap ((v47n : Int) - 1)) fun x77 x78 => ((spec_odCmp k x77 x67).bind fun y81 => (if y81 ≤ (0 : Int) then some false else (spec_odForm_l0 k rec_spec_odForm a1 a2 K0 rest (v47n + 1))))) else (spec_odForm_l0 k rec_spec_odForm a1 a2 K0 rest (v47n + 1))) else some false)) else some false)))
set_option maxHeartbeats 4000000 in
set_option maxRecDepth 100000 in
theorem spec_odForm_l0_ct {k : Nat} {rec_spec_odForm : Rw → Int → Option Bool} {a1 : Rw} {a2 : Int} {K0 : Option Bool} (hrec_spec_odForm : ∀ (a1 : Rw) (a2 : Int) (r : Bool), rec_spec_odForm a1 a2 = some r → Ct prog 145 [.agg [.d (D.sl a1)], .d (D.int .i64 a2)] (⟨[], []⟩) (.d (D.bool r)) (⟨[], []⟩)) {r : Bool} (hx : a1.length ≤ cap) : ∀ (rest : Rw) (v47n : Nat), a1.drop v47n = rest → spec_odForm_l0 k rec_spec_odForm a1 a2 K0 rest v47n = some r → LoopOk prog 0 (lp f145 0) (mk 47 [(1, .d (D.int .i64 a2)), (2, .ptr 128 0), (10, .d (D.sl a1)), (11, .d (D.int .i64 (a1.length : Int))), (12, .d (D.int .i64 (v47n : Int)))] [(128, .box 59 [.d (D.sl a1)])]) (LoopEnd prog f145 0 47 (.d (D.bool r)) (⟨[], []⟩) (fun i ts os => (i = 0 ∧ K0 = some r ∧ ts = [] ∧ os = [])))
  | [], v47n, hd, h => by
      rw [spec_odForm_l0] at h
      have hn := drop_nil hd
      refine LoopOk.step ?_
      conv => whnf
      refine splD (fun g => absurd g hn) (fun _ => ?_)
      conv => whnf
      exact ⟨_, _, [], [], ⟨rfl, h, rfl, rfl⟩, ⟨⟨rfl, rfl⟩, ⟨rfl, trivial⟩, trivial⟩⟩
  | cs :: rest, v47n, hd, h => by
      rw [spec_odForm_l0] at h
      obtain ⟨hrow, hd1, hlt⟩ := drop_cons hd
      refine LoopOk.step ?_
      conv => whnf
      refine splD (fun _ => ?_) (fun g => absurd hlt g)
      conv => whnf
      obtain ⟨x67, x68, e69, h⟩ := cell_si_ex h
      rw [e69] at hrow
      refine Req.of (Int.natCast_nonneg _) ?_
      refine Row.of _ hrow ?_
      conv => whnf
      refine Pick.no ?_
      conv => whnf
      obtain ⟨y70, e71, h⟩ := bind_ex h
      refine CallOk.of (spec_l1In_ct e71) ?_
      conv => whnf
      refine spl (fun g72 => ?_) (fun g72 => ?_)
      · replace h := iteT h g72
        conv => whnf
        refine Pick.no ?_
        conv => whnf
        obtain ⟨y73, e74, h⟩ := bind_ex h
        refine CallOk.of (hrec_spec_odForm _ _ _ e74) ?_
        conv => whnf
        refine spl (fun g75 => ?_) (fun g75 => ?_)
        · replace h := iteT h g75
          conv => whnf
          refine splD (fun g76 => ?_) (fun g76 => ?_)
          · replace h := iteP h g76
            conv => whnf
            obtain ⟨g80, x77, x78, e79, h⟩ := row_si_ex h
            refine Req.of g80 ?_
            refine Row.of _ e79 ?_
            conv => whnf
            refine Pick.no ?_
            conv => whnf
            obtain ⟨y81, e82, h⟩ := bind_ex h
            refine CallOk.of (spec_odCmp_ct e82) ?_
            conv => whnf
            refine splD (fun g83 => ?_) (fun g83 => ?_)
            · replace h := iteP h g83
              conv => whnf
              refine CutK.norm [1, 2, 10, 11, 12, 45] [128] ?_
              conv => whnf
              cases h
              exact Done.of [] [] rfl rfl ⟨⟨rfl, rfl⟩, ⟨rfl, trivial⟩, rfl, trivial⟩
            · replace h := iteN h g83
              conv => whnf
              refine CutK.norm [1, 2, 10, 11, 12, 45] [128] ?_
              conv => whnf
              refine CutK.norm [1, 2, 10, 11, 12] [128] ?_
              conv => whnf
              exact LoopOk.back (spec_odForm_l0_ct hrec_spec_odForm hx rest (v47n + 1)  hd1 h) [some 128] [] ⟨⟨rfl, rfl⟩, ⟨rfl, ⟨rfl, rfl, trivial⟩, trivial⟩, rfl, ⟨rfl, rfl⟩, rfl, rfl, i64eq (wrap_up hlt hx), trivial⟩
          · replace h := iteN h g76
            conv => whnf
            refine CutK.norm [1, 2, 10, 11, 12, 45] [128] ?_
            conv => whnf
            refine CutK.norm [1, 2, 10, 11, 12] [128] ?_
            conv => whnf
            exact LoopOk.back (spec_odForm_l0_ct hrec_spec_odForm hx rest (v47n + 1)  hd1 h) [some 128] [] ⟨⟨rfl, rfl⟩, ⟨rfl, ⟨rfl, rfl, trivial⟩, trivial⟩, rfl, ⟨rfl, rfl⟩, rfl, rfl, i64eq (wrap_up hlt hx), trivial⟩
        · replace h := iteF h g75
          conv => whnf
          refine CutK.norm [1, 2, 10, 11, 12, 45] [128] ?_
          conv => whnf
          cases h
          exact Done.of [] [] rfl rfl ⟨⟨rfl, rfl⟩, ⟨rfl, trivial⟩, rfl, trivial⟩
      · replace h := iteF h g72
        conv => whnf
        refine CutK.norm [1, 2, 10, 11, 12, 45] [128] ?_
        conv => whnf
        cases h
        exact Done.of [] [] rfl rfl ⟨⟨rfl, rfl⟩, ⟨rfl, trivial⟩, rfl, trivial⟩
def spec_odForm_b (k : Nat) (rec_spec_odForm : Rw → Int → Option Bool) (a1 : Rw) (a2 : Int) : Option Bool :=
  (if a2 < (0 : Int) then some false else (if a1.length ≤ cap then (spec_odForm_l0 k rec_spec_odForm a1 a2 (spec_odForm_p3) a1 0) else none))
set_option maxHeartbeats 4000000 in
set_option maxRecDepth 100000 in
theorem spec_odForm_b_ct {k : Nat} {rec_spec_odForm : Rw → Int → Option Bool} (hrec_spec_odForm : ∀ (a1 : Rw) (a2 : Int) (r : Bool), rec_spec_odForm a1 a2 = some r → Ct prog 145 [.agg [.d (D.sl a1)], .d (D.int .i64 a2)] (⟨[], []⟩) (.d (D.bool r)) (⟨[], []⟩)) {a1 : Rw} {a2 : Int} {r : Bool} (h : spec_odForm_b k rec_spec_odForm a1 a2 = some r) : Ct prog 145 [.agg [.d (D.sl a1)], .d (D.int .i64 a2)] (⟨[], []⟩) (.d (D.bool r)) (⟨[], []⟩) := by
  rw [spec_odForm_b] at h
  refine Ct.of (c := _) mixed func145 ⟨rfl, rfl, rfl⟩ ?_ rfl
  conv => whnf
  refine splD (fun g35 => ?_) (fun g35 => ?_)
  · replace h := iteP h g35
    conv => whnf
    cases h
    exact Done.of [] [] rfl rfl ⟨⟨rfl, rfl⟩, ⟨rfl, trivial⟩, rfl, trivial⟩
  · replace h := iteN h g35
    conv => whnf
    obtain ⟨g84, h⟩ := req_ex h
    refine LoopOk.into (spec_odForm_l0_ct hrec_spec_odForm g84 _ _  rfl h) [some 128] [] ⟨⟨rfl, rfl⟩, ⟨rfl, ⟨rfl, rfl, trivial⟩, trivial⟩, rfl, ⟨rfl, rfl⟩, rfl, rfl, rfl, trivial⟩ ?_ (fun _ hs => hs)
    rintro i ts os ⟨rfl, h, rfl, rfl⟩
    conv => whnf
    exact CutK.piece (spec_odForm_p3_ct  h) [] [] ⟨⟨rfl, rfl⟩, ⟨rfl, trivial⟩, trivial⟩
def spec_odForm : Nat → Rw → Int → Option Bool
  | 0, _, _ => none
  | k + 1, a1, a2 => spec_odForm_b k (spec_odForm k) a1 a2
theorem spec_odForm_ct' : ∀ (k : Nat) (a1 : Rw) (a2 : Int) (r : Bool), spec_odForm k a1 a2 = some r → Ct prog 145 [.agg [.d (D.sl a1)], .d (D.int .i64 a2)] (⟨[], []⟩) (.d (D.bool r)) (⟨[], []⟩)
  | 0, _, _, _, h => by rw [spec_odForm] at h; cases h
  | k + 1, _, _, _, h => by rw [spec_odForm] at h; exact spec_odForm_b_ct (spec_odForm_ct' k) h
theorem spec_odForm_ct {k : Nat} {a1 : Rw} {a2 : Int} {r : Bool} (h : spec_odForm k a1 a2 = some r) : Ct prog 145 [.agg [.d (D.sl a1)], .d (D.int .i64 a2)] (⟨[], []⟩) (.d (D.bool r)) (⟨[], []⟩) := spec_odForm_ct' k _ _ _ h

def spec_odGood (k : Nat) (a1 : Rw) : Option Bool :=
  ((spec_odLeft k a1 6 60).bind fun y2 => (if (0 : Int) ≤ y2 then ((spec_odForm k a1 6).bind fun y5 => (if y5 = true then some true else some false)) else some false))
set_option maxHeartbeats 4000000 in
set_option maxRecDepth 100000 in
theorem spec_odGood_ct {k : Nat} {a1 : Rw} {r : Bool} (h : spec_odGood k a1 = some r) : Ct prog 80 [.agg [.d (D.sl a1)]] (⟨[], []⟩) (.d (D.bool r)) (⟨[], []⟩) := by
  rw [spec_odGood] at h
  refine Ct.of (c := _) mixed func80 ⟨rfl, rfl, rfl⟩ ?_ rfl
  conv => whnf
  refine Pick.no ?_
  conv => whnf
  obtain ⟨y2, e3, h⟩ := bind_ex h
  refine CallOk.of (spec_odLeft_ct e3) ?_
  conv => whnf
  refine splD (fun g4 => ?_) (fun g4 => ?_)
  · replace h := iteP h g4
    conv => whnf
    refine Pick.no ?_
    conv => whnf
    obtain ⟨y5, e6, h⟩ := bind_ex h
    refine CallOk.of (spec_odForm_ct e6) ?_
    conv => whnf
    refine spl (fun g7 => ?_) (fun g7 => ?_)
    · replace h := iteT h g7
      conv => whnf
      refine CutK.go ?_
      conv => whnf
      cases h
      exact Done.of [] [] rfl rfl ⟨⟨rfl, rfl⟩, ⟨rfl, trivial⟩, rfl, trivial⟩
    · replace h := iteF h g7
      conv => whnf
      refine CutK.go ?_
      conv => whnf
      cases h
      exact Done.of [] [] rfl rfl ⟨⟨rfl, rfl⟩, ⟨rfl, trivial⟩, rfl, trivial⟩
  · replace h := iteN h g4
    conv => whnf
    refine CutK.go ?_
    conv => whnf
    cases h
    exact Done.of [] [] rfl rfl ⟨⟨rfl, rfl⟩, ⟨rfl, trivial⟩, rfl, trivial⟩

def spec_dePower_l0 (a1 : Int) (K0 : Int → Option Int) : Nat → Int → Int → Option Int
  | 0, _, _ => none
  | n + 1, v4, v5 => (if (0 : Int) < v4 then (if v5 ≤ (1000000 : Int) then (spec_dePower_l0 a1 K0 n (IntKind.i64.wrap (v4 - 1)) (IntKind.i64.wrap (v5 * a1))) else (K0 v5)) else (K0 v5))
set_option maxHeartbeats 4000000 in
set_option maxRecDepth 100000 in
theorem spec_dePower_l0_ct {a1 : Int} {K0 : Int → Option Int} {r : Int} : ∀ (n : Nat) (v4 : Int) (v5 : Int), spec_dePower_l0 a1 K0 n v4 v5 = some r → LoopOk prog 0 (lp f187 0) (mk 18 [(0, .d (D.int .i64 a1)), (1, .d (D.int .i64 v4)), (5, .d (D.int .i64 v5))] []) (LoopEnd prog f187 0 18 (.d (D.int .i64 r)) (⟨[], []⟩) (fun i ts os => (i = 0 ∧ ∃ v8 : Int, K0 v8 = some r ∧ ts = [(5, .d (D.int .i64 v8))] ∧ os = [])))
  | 0, _, _, h => by
      rw [spec_dePower_l0] at h; cases h
  | n + 1, v4, v5, h => by
      rw [spec_dePower_l0] at h
      refine LoopOk.step ?_
      conv => whnf
      refine splD (fun g11 => ?_) (fun g11 => ?_)
      · replace h := iteP h g11
        conv => whnf
        refine splD (fun g12 => ?_) (fun g12 => ?_)
        · replace h := iteP h g12
          conv => whnf
          exact LoopOk.back (spec_dePower_l0_ct  n _ _ h) [] [] ⟨⟨rfl, rfl⟩, ⟨rfl, trivial⟩, rfl, rfl, rfl, trivial⟩
        · replace h := iteN h g12
          conv => whnf
          exact ⟨_, _, [], [], ⟨rfl, _, h, rfl, rfl⟩, ⟨⟨rfl, rfl⟩, ⟨rfl, trivial⟩, rfl, trivial⟩⟩
      · replace h := iteN h g11
        conv => whnf
        exact ⟨_, _, [], [], ⟨rfl, _, h, rfl, rfl⟩, ⟨⟨rfl, rfl⟩, ⟨rfl, trivial⟩, rfl, trivial⟩⟩
def spec_dePower (k : Nat) (a1 : Int) (a2 : Int) : Option Int :=
  (spec_dePower_l0 a1 (fun (v8 : Int) => some v8) k a2 1)
set_option maxHeartbeats 4000000 in
set_option maxRecDepth 100000 in
theorem spec_dePower_ct {k : Nat} {a1 : Int} {a2 : Int} {r : Int} (h : spec_dePower k a1 a2 = some r) : Ct prog 187 [.d (D.int .i64 a1), .d (D.int .i64 a2)] (⟨[], []⟩) (.d (D.int .i64 r)) (⟨[], []⟩) := by
  rw [spec_dePower] at h
  refine Ct.of (c := _) mixed func187 ⟨rfl, rfl, rfl⟩ ?_ rfl
  conv => whnf
  refine LoopOk.into (spec_dePower_l0_ct  _ _ _ h) [] [] ⟨⟨rfl, rfl⟩, ⟨rfl, trivial⟩, rfl, rfl, rfl, trivial⟩ ?_ (fun _ hs => hs)
  rintro i ts os ⟨rfl, v8, h, rfl, rfl⟩
  conv => whnf
  refine CutK.go ?_
  conv => whnf
  cases h
  exact Done.of [] [] rfl rfl ⟨⟨rfl, rfl⟩, ⟨rfl, trivial⟩, rfl, trivial⟩

def spec_deValue_l0 (k : Nat) (rec_spec_deValue : Rw → Int → Option Int) (a1 : Rw) (a2 : Int) (K0 : Int → Option Int) : Rw → Int → Option Int
  | [], v14 => (K0 v14)
  | cs :: rest, v14 => (cell_si cs fun x39 x40 => ((rec_spec_deValue x39 a2).bind fun y42 => (if (1000000 : Int) < y42 then some y42 else ((spec_dePower k a2 y42).bind fun y45 => (if (1000000 : Int) < (IntKind.i64.wrap (v14 + (IntKind.i64.wrap (x40 * y45)))) then some 1000001 else (spec_deValue_l0 k rec_spec_deValue a1 a2 K0 rest (IntKind.i64.wrap (v14 + (IntKind.i64.wrap (x40 * y45))))))))))
set_option maxHeartbeats 4000000 in
set_option maxRecDepth 100000 in
theorem spec_deValue_l0_ct {k : Nat} {rec_spec_deValue : Rw → Int → Option Int} {a1 : Rw} {a2 : Int} {K0 : Int → Option Int} (hrec_spec_deValue : ∀ (a1 : Rw) (a2 : Int) (r : Int), rec_spec_deValue a1 a2 = some r → Ct prog 179 [.agg [.d (D.sl a1)], .d (D.int .i64 a2)] (⟨[], []⟩) (.d (D.int .i64 r)) (⟨[], []⟩)) {r : Int} (hx : a1.length ≤ cap) : ∀ (rest : Rw) (v15n : Nat) (v14 : Int), a1.drop v15n = rest → spec_deValue_l0 k rec_spec_deValue a1 a2 K0 rest v14 = some r → LoopOk prog 0 (lp f179 0) (mk 35 [(1, .d (D.int .i64 a2)), (5, .d (D.int .i64 v14)), (10, .d (D.sl a1)), (11, .d (D.int .i64 (a1.length : Int))), (12, .d (D.int .i64 (v15n : Int)))] []) (LoopEnd prog f179 0 35 (.d (D.int .i64 r)) (⟨[], []⟩) (fun i ts os => (i = 0 ∧ ∃ v27 : Int, K0 v27 = some r ∧ ts = [(5, .d (D.int .i64 v27))] ∧ os = [])))
  | [], v15n, v14, hd, h => by
      rw [spec_deValue_l0] at h
      have hn := drop_nil hd
      refine LoopOk.step ?_
      conv => whnf
      refine splD (fun g => absurd g hn) (fun _ => ?_)
      conv => whnf
      exact ⟨_, _, [], [], ⟨rfl, _, h, rfl, rfl⟩, ⟨⟨rfl, rfl⟩, ⟨rfl, trivial⟩, rfl, trivial⟩⟩
  | cs :: rest, v15n, v14, hd, h => by
      rw [spec_deValue_l0] at h
      obtain ⟨hrow, hd1, hlt⟩ := drop_cons hd
      refine LoopOk.step ?_
      conv => whnf
      refine splD (fun _ => ?_) (fun g => absurd hlt g)
      conv => whnf
      obtain ⟨x39, x40, e41, h⟩ := cell_si_ex h
      rw [e41] at hrow
      refine Req.of (Int.natCast_nonneg _) ?_
      refine Row.of _ hrow ?_
      conv => whnf
      refine Pick.no ?_
      conv => whnf
      obtain ⟨y42, e43, h⟩ := bind_ex h
      refine CallOk.of (hrec_spec_deValue _ _ _ e43) ?_
      conv => whnf
      refine CutK.norm [1, 5, 7, 8, 10, 11, 12] [448] ?_
      conv => whnf
      refine splD (fun g44 => ?_) (fun g44 => ?_)
      · replace h := iteP h g44
        conv => whnf
        cases h
        exact Done.of [] [] rfl rfl ⟨⟨rfl, rfl⟩, ⟨rfl, trivial⟩, rfl, trivial⟩
      · replace h := iteN h g44
        conv => whnf
        refine Pick.no ?_
        conv => whnf
        obtain ⟨y45, e46, h⟩ := bind_ex h
        refine CallOk.of (spec_dePower_ct e46) ?_
        conv => whnf
        refine CutK.norm [1, 5, 10, 11, 12] [] ?_
        conv => whnf
        refine splD (fun g47 => ?_) (fun g47 => ?_)
        · replace h := iteP h g47
          conv => whnf
          cases h
          exact Done.of [] [] rfl rfl ⟨⟨rfl, rfl⟩, ⟨rfl, trivial⟩, rfl, trivial⟩
        · replace h := iteN h g47
          conv => whnf
          refine CutK.norm [1, 5, 10, 11, 12] [] ?_
          conv => whnf
          exact LoopOk.back (spec_deValue_l0_ct hrec_spec_deValue hx rest (v15n + 1) _ hd1 h) [] [] ⟨⟨rfl, rfl⟩, ⟨rfl, trivial⟩, rfl, rfl, rfl, rfl, i64eq (wrap_up hlt hx), trivial⟩
def spec_deValue_b (k : Nat) (rec_spec_deValue : Rw → Int → Option Int) (a1 : Rw) (a2 : Int) : Option Int :=
  (if a1.length ≤ cap then (spec_deValue_l0 k rec_spec_deValue a1 a2 (fun (v27 : Int) => some v27) a1 0) else none)
set_option maxHeartbeats 4000000 in
set_option maxRecDepth 100000 in
theorem spec_deValue_b_ct {k : Nat} {rec_spec_deValue : Rw → Int → Option Int} (hrec_spec_deValue : ∀ (a1 : Rw) (a2 : Int) (r : Int), rec_spec_deValue a1 a2 = some r → Ct prog 179 [.agg [.d (D.sl a1)], .d (D.int .i64 a2)] (⟨[], []⟩) (.d (D.int .i64 r)) (⟨[], []⟩)) {a1 : Rw} {a2 : Int} {r : Int} (h : spec_deValue_b k rec_spec_deValue a1 a2 = some r) : Ct prog 179 [.agg [.d (D.sl a1)], .d (D.int .i64 a2)] (⟨[], []⟩) (.d (D.int .i64 r)) (⟨[], []⟩) := by
  rw [spec_deValue_b] at h
  refine Ct.of (c := _) mixed func179 ⟨rfl, rfl, rfl⟩ ?_ rfl
  conv => whnf
  obtain ⟨g48, h⟩ := req_ex h
  refine LoopOk.into (spec_deValue_l0_ct hrec_spec_deValue g48 _ _ _ rfl h) [] [] ⟨⟨rfl, rfl⟩, ⟨rfl, trivial⟩, rfl, rfl, rfl, rfl, rfl, trivial⟩ ?_ (fun _ hs => hs)
  rintro i ts os ⟨rfl, v27, h, rfl, rfl⟩
  conv => whnf
  refine CutK.norm [5] [] ?_
  conv => whnf
  cases h
  exact Done.of [] [] rfl rfl ⟨⟨rfl, rfl⟩, ⟨rfl, trivial⟩, rfl, trivial⟩
def spec_deValue : Nat → Rw → Int → Option Int
  | 0, _, _ => none
  | k + 1, a1, a2 => spec_deValue_b k (spec_deValue k) a1 a2
theorem spec_deValue_ct' : ∀ (k : Nat) (a1 : Rw) (a2 : Int) (r : Int), spec_deValue k a1 a2 = some r → Ct prog 179 [.agg [.d (D.sl a1)], .d (D.int .i64 a2)] (⟨[], []⟩) (.d (D.int .i64 r)) (⟨[], []⟩)
  | 0, _, _, _, h => by rw [spec_deValue] at h; cases h
  | k + 1, _, _, _, h => by rw [spec_deValue] at h; exact spec_deValue_b_ct (spec_deValue_ct' k) h
theorem spec_deValue_ct {k : Nat} {a1 : Rw} {a2 : Int} {r : Int} (h : spec_deValue k a1 a2 = some r) : Ct prog 179 [.agg [.d (D.sl a1)], .d (D.int .i64 a2)] (⟨[], []⟩) (.d (D.int .i64 r)) (⟨[], []⟩) := spec_deValue_ct' k _ _ _ h

def spec_deRaise (k : Nat) (a1 : Int) (a2 : Int) : Option Int :=
  ((spec_deForm k a1 a2).bind fun y3 => ((spec_deValue k y3 (IntKind.i64.wrap (a2 + 1))).bind fun y5 => some y5))
set_option maxHeartbeats 4000000 in
set_option maxRecDepth 100000 in
theorem spec_deRaise_ct {k : Nat} {a1 : Int} {a2 : Int} {r : Int} (h : spec_deRaise k a1 a2 = some r) : Ct prog 143 [.d (D.int .i64 a1), .d (D.int .i64 a2)] (⟨[], []⟩) (.d (D.int .i64 r)) (⟨[], []⟩) := by
  rw [spec_deRaise] at h
  refine Ct.of (c := _) mixed func143 ⟨rfl, rfl, rfl⟩ ?_ rfl
  conv => whnf
  refine Pick.no ?_
  conv => whnf
  obtain ⟨y3, e4, h⟩ := bind_ex h
  refine CallOk.of (spec_deForm_ct e4) ?_
  conv => whnf
  refine Choice.old ?_
  conv => whnf
  refine Pick.no ?_
  conv => whnf
  refine Take.all (rfl) ?_
  conv => whnf
  obtain ⟨y5, e6, h⟩ := bind_ex h
  refine CallOk.of (spec_deValue_ct e6) ?_
  conv => whnf
  refine CutK.go ?_
  conv => whnf
  cases h
  exact Done.of [] [] rfl rfl ⟨⟨rfl, rfl⟩, ⟨rfl, trivial⟩, rfl, trivial⟩

def spec_deRun_l0 (k : Nat) (K0 : Rw → Option (Rw × Bool)) : Nat → Int → Int → Int → Rw → Option (Rw × Bool)
  | 0, _, _, _, _ => none
  | n + 1, v10, v11, v12, v13 => (if (0 : Int) < v12 then (if (0 : Int) < v10 then ((spec_deRaise k v10 v11).bind fun y29 => (if (1000000 : Int) < y29 then some (([] : Rw), false) else (if v13.length + 1 ≤ cap then (spec_deRun_l0 k K0 n (IntKind.i64.wrap (y29 - 1)) (IntKind.i64.wrap (v11 + 1)) (IntKind.i64.wrap (v12 - 1)) (v13 ++ ([[D.int .i64 (IntKind.i64.wrap (y29 - 1))]]))) else none))) else (K0 v13)) else (K0 v13))
set_option maxHeartbeats 4000000 in
set_option maxRecDepth 100000 in
theorem spec_deRun_l0_ct {k : Nat} {K0 : Rw → Option (Rw × Bool)} {r : Rw × Bool} : ∀ (n : Nat) (v10 : Int) (v11 : Int) (v12 : Int) (v13 : Rw), spec_deRun_l0 k K0 n v10 v11 v12 v13 = some r → LoopOk prog 0 (lp f78 0) (mk 33 [(0, .d (D.int .i64 v10)), (1, .d (D.int .i64 v11)), (2, .d (D.int .i64 v12)), (8, .os 64000 v13.length)] [(64000, .arr 3 true v13)]) (LoopEnd prog f78 0 33 (.tup [.os 8 r.1.length, .d (D.bool r.2)]) (⟨[], [(3, true, r.1)]⟩) (fun i ts os => (i = 0 ∧ ∃ v20 : Rw, K0 v20 = some r ∧ ts = [(8, .os 67001 v20.length)] ∧ os = [(67001, .arr 3 true v20)])))
  | 0, _, _, _, _, h => by
      rw [spec_deRun_l0] at h; cases h
  | n + 1, v10, v11, v12, v13, h => by
      rw [spec_deRun_l0] at h
      refine LoopOk.step ?_
      conv => whnf
      refine splD (fun g27 => ?_) (fun g27 => ?_)
      · replace h := iteP h g27
        conv => whnf
        refine splD (fun g28 => ?_) (fun g28 => ?_)
        · replace h := iteP h g28
          conv => whnf
          refine Pick.no ?_
          conv => whnf
          obtain ⟨y29, e30, h⟩ := bind_ex h
          refine CallOk.of (spec_deRaise_ct e30) ?_
          conv => whnf
          refine CutK.norm [0, 1, 2, 8] [64000] ?_
          conv => whnf
          refine splD (fun g31 => ?_) (fun g31 => ?_)
          · replace h := iteP h g31
            conv => whnf
            cases h
            exact Done.of [none] [] rfl rfl ⟨⟨rfl, rfl⟩, ⟨rfl, rfl, trivial⟩, ⟨⟨rfl, rfl⟩, rfl, trivial⟩, trivial⟩
          · replace h := iteN h g31
            conv => whnf
            refine Take.all (rfl) ?_
            conv => whnf
            refine Take.all (by first | rfl | exact List.length_append.symm | (simp; done) | omega | (dsimp only; omega)) ?_
            conv => whnf
            obtain ⟨g32, h⟩ := req_ex h
            refine Req.of (room (b := 8) (by decide) g32 (wide1 rfl wide0)) ?_
            conv => whnf
            refine CutK.norm [0, 1, 2, 8] [1984] ?_
            conv => whnf
            exact LoopOk.back (spec_deRun_l0_ct  n _ _ _ _ h) [some 1984] [] ⟨⟨rfl, rfl⟩, ⟨rfl, ⟨rfl, rfl, rows_same⟩, trivial⟩, rfl, rfl, rfl, ⟨(by first | rfl | exact List.length_append.symm | (simp; done) | omega | (dsimp only; omega)), rfl⟩, trivial⟩
        · replace h := iteN h g28
          conv => whnf
          exact ⟨_, _, [some 64000], [], ⟨rfl, _, h, rfl, rfl⟩, ⟨⟨rfl, rfl⟩, ⟨rfl, ⟨rfl, rfl, rows_same⟩, trivial⟩, ⟨rfl, rfl⟩, trivial⟩⟩
      · replace h := iteN h g27
        conv => whnf
        exact ⟨_, _, [some 64000], [], ⟨rfl, _, h, rfl, rfl⟩, ⟨⟨rfl, rfl⟩, ⟨rfl, ⟨rfl, rfl, rows_same⟩, trivial⟩, ⟨rfl, rfl⟩, trivial⟩⟩
def spec_deRun (k : Nat) (a1 : Int) (a2 : Int) (a3 : Int) : Option (Rw × Bool) :=
  (spec_deRun_l0 k (fun (v20 : Rw) => some (v20, true)) k a1 a2 a3 ([[D.int .i64 a1]] : Rw))
set_option maxHeartbeats 4000000 in
set_option maxRecDepth 100000 in
theorem spec_deRun_ct {k : Nat} {a1 : Int} {a2 : Int} {a3 : Int} {r : Rw × Bool} (h : spec_deRun k a1 a2 a3 = some r) : Ct prog 78 [.d (D.int .i64 a1), .d (D.int .i64 a2), .d (D.int .i64 a3)] (⟨[], []⟩) (.tup [.os 8 r.1.length, .d (D.bool r.2)]) (⟨[], [(3, true, r.1)]⟩) := by
  rw [spec_deRun] at h
  refine Ct.of (c := _) mixed func78 ⟨rfl, rfl, rfl⟩ ?_ rfl
  conv => whnf
  refine LoopOk.into (spec_deRun_l0_ct  _ _ _ _ _ h) [some 640] [] ⟨⟨rfl, rfl⟩, ⟨rfl, ⟨rfl, rfl, rows_same⟩, trivial⟩, rfl, rfl, rfl, ⟨(by first | rfl | exact List.length_append.symm | (simp; done) | omega | (dsimp only; omega)), rfl⟩, trivial⟩ ?_ (fun _ hs => hs)
  rintro i ts os ⟨rfl, v20, h, rfl, rfl⟩
  conv => whnf
  refine CutK.norm [8] [67001] ?_
  conv => whnf
  cases h
  exact Done.of [some 67001] [] rfl rfl ⟨⟨rfl, rfl⟩, ⟨rfl, ⟨rfl, rfl, rows_same⟩, trivial⟩, ⟨⟨rfl, rfl⟩, rfl, trivial⟩, trivial⟩

def spec_deBase  (a1 : Int) (a2 : Int) : Option Bool :=
  ((spec_l1In a1 0 1000000).bind fun y3 => (if y3 = true then ((spec_l1In a2 2 1000).bind fun y6 => (if y6 = true then some true else some false)) else some false))
set_option maxHeartbeats 4000000 in
set_option maxRecDepth 100000 in
theorem spec_deBase_ct  {a1 : Int} {a2 : Int} {r : Bool} (h : spec_deBase a1 a2 = some r) : Ct prog 76 [.d (D.int .i64 a1), .d (D.int .i64 a2)] (⟨[], []⟩) (.d (D.bool r)) (⟨[], []⟩) := by
  rw [spec_deBase] at h
  refine Ct.of (c := _) mixed func76 ⟨rfl, rfl, rfl⟩ ?_ rfl
  conv => whnf
  refine Pick.no ?_
  conv => whnf
  obtain ⟨y3, e4, h⟩ := bind_ex h
  refine CallOk.of (spec_l1In_ct e4) ?_
  conv => whnf
  refine spl (fun g5 => ?_) (fun g5 => ?_)
  · replace h := iteT h g5
    conv => whnf
    refine Pick.no ?_
    conv => whnf
    obtain ⟨y6, e7, h⟩ := bind_ex h
    refine CallOk.of (spec_l1In_ct e7) ?_
    conv => whnf
    refine spl (fun g8 => ?_) (fun g8 => ?_)
    · replace h := iteT h g8
      conv => whnf
      refine CutK.go ?_
      conv => whnf
      cases h
      exact Done.of [] [] rfl rfl ⟨⟨rfl, rfl⟩, ⟨rfl, trivial⟩, rfl, trivial⟩
    · replace h := iteF h g8
      conv => whnf
      refine CutK.go ?_
      conv => whnf
      cases h
      exact Done.of [] [] rfl rfl ⟨⟨rfl, rfl⟩, ⟨rfl, trivial⟩, rfl, trivial⟩
  · replace h := iteF h g5
    conv => whnf
    refine CutK.go ?_
    conv => whnf
    cases h
    exact Done.of [] [] rfl rfl ⟨⟨rfl, rfl⟩, ⟨rfl, trivial⟩, rfl, trivial⟩

def spec_deTurns  (a1 : Int) : Option Bool :=
  ((spec_l1In a1 0 60).bind fun y2 => (if y2 = true then some true else some false))
set_option maxHeartbeats 4000000 in
set_option maxRecDepth 100000 in
theorem spec_deTurns_ct  {a1 : Int} {r : Bool} (h : spec_deTurns a1 = some r) : Ct prog 77 [.d (D.int .i64 a1)] (⟨[], []⟩) (.d (D.bool r)) (⟨[], []⟩) := by
  rw [spec_deTurns] at h
  refine Ct.of (c := _) mixed func77 ⟨rfl, rfl, rfl⟩ ?_ rfl
  conv => whnf
  refine Pick.no ?_
  conv => whnf
  obtain ⟨y2, e3, h⟩ := bind_ex h
  refine CallOk.of (spec_l1In_ct e3) ?_
  conv => whnf
  refine spl (fun g4 => ?_) (fun g4 => ?_)
  · replace h := iteT h g4
    conv => whnf
    refine CutK.go ?_
    conv => whnf
    cases h
    exact Done.of [] [] rfl rfl ⟨⟨rfl, rfl⟩, ⟨rfl, trivial⟩, rfl, trivial⟩
  · replace h := iteF h g4
    conv => whnf
    refine CutK.go ?_
    conv => whnf
    cases h
    exact Done.of [] [] rfl rfl ⟨⟨rfl, rfl⟩, ⟨rfl, trivial⟩, rfl, trivial⟩

def spec_DescentOf_p6 (o50 : Rw) : Option (Rw × Bool) :=
  some (o50, true)
set_option maxHeartbeats 4000000 in
set_option maxRecDepth 100000 in
theorem spec_DescentOf_p6_ct {o50 : Rw} {r : Rw × Bool} (h : spec_DescentOf_p6 o50 = some r) : X prog 0 (tlF f24 6) (mk 53 [(10, .os 1094000 o50.length)] [(1094000, .arr 59 true o50)]) (finK prog f24 0 (.tup [.os 8 r.1.length, .d (D.bool r.2)]) (⟨[], [(59, true, r.1)]⟩)) := by
  rw [spec_DescentOf_p6] at h
  conv => whnf
  cases h
  exact Done.of [some 1094000] [] rfl rfl ⟨⟨rfl, rfl⟩, ⟨rfl, ⟨rfl, rfl, rows_same⟩, trivial⟩, ⟨⟨rfl, rfl⟩, rfl, trivial⟩, trivial⟩
def spec_DescentOf_l0 (k : Nat) (a2 : Int) (o13 : Rw) (K0 : Rw → Option (Rw × Bool)) : Rw → Nat → Rw → Option (Rw × Bool)
  | [], v62n, v61 => (K0 v61)
  | cs :: rest, v62n, v61 => (if 0 ≤ (v62n : Int) ∧ (v62n : Int) < (o13.length : Int) then (cell_i cs fun x87 => ((spec_deForm k x87 (IntKind.i64.wrap (a2 + (v62n : Int)))).bind fun y89 => ((spec_odGood k y89).bind fun y91 => (if y91 = true then (if v61.length + 1 ≤ cap then (spec_DescentOf_l0 k a2 o13 K0 rest (v62n + 1) (v61 ++ ([[D.sl y89]]))) else none) else some (([] : Rw), false))))) else none)
set_option maxHeartbeats 4000000 in
set_option maxRecDepth 100000 in
theorem spec_DescentOf_l0_ct {k : Nat} {a2 : Int} {o13 : Rw} {K0 : Rw → Option (Rw × Bool)} {r : Rw × Bool} (hx : o13.length ≤ cap) : ∀ (rest : Rw) (v62n : Nat) (v61 : Rw), o13.drop v62n = rest → spec_DescentOf_l0 k a2 o13 K0 rest v62n v61 = some r → LoopOk prog 0 (lp f24 0) (mk 53 [(1, .d (D.int .i64 a2)), (10, .os 64001 v61.length), (32, .os 64000 o13.length), (33, .d (D.int .i64 (o13.length : Int))), (34, .d (D.int .i64 (v62n : Int)))] [(64000, .arr 3 true o13), (64001, .arr 59 true v61)]) (LoopEnd prog f24 0 53 (.tup [.os 8 r.1.length, .d (D.bool r.2)]) (⟨[], [(59, true, r.1)]⟩) (fun i ts os => (i = 0 ∧ ∃ v74 : Rw, K0 v74 = some r ∧ ts = [(10, .os 67002 v74.length)] ∧ os = [(67002, .arr 59 true v74)])))
  | [], v62n, v61, hd, h => by
      rw [spec_DescentOf_l0] at h
      have hn := drop_nil hd
      refine LoopOk.step ?_
      conv => whnf
      refine splD (fun g => absurd g hn) (fun _ => ?_)
      conv => whnf
      exact ⟨_, _, [some 64001], [], ⟨rfl, _, h, rfl, rfl⟩, ⟨⟨rfl, rfl⟩, ⟨rfl, ⟨rfl, rfl, rows_same⟩, trivial⟩, ⟨rfl, rfl⟩, trivial⟩⟩
  | cs :: rest, v62n, v61, hd, h => by
      rw [spec_DescentOf_l0] at h
      obtain ⟨hrow, hd1, hlt⟩ := drop_cons hd
      refine LoopOk.step ?_
      conv => whnf
      refine splD (fun _ => ?_) (fun g => absurd hlt g)
      conv => whnf
      obtain ⟨g86, h⟩ := req_ex h
      refine Req.of g86 ?_
      conv => whnf
      obtain ⟨x87, e88, h⟩ := cell_i_ex h
      rw [e88] at hrow
      refine Row.of _ hrow ?_
      conv => whnf
      refine Pick.no ?_
      conv => whnf
      obtain ⟨y89, e90, h⟩ := bind_ex h
      refine CallOk.of (spec_deForm_ct e90) ?_
      conv => whnf
      refine CutK.norm [1, 10, 13, 32, 33, 34] [832, 2752, 64000, 64001] ?_
      conv => whnf
      refine Pick.no ?_
      conv => whnf
      refine Take.all (rfl) ?_
      conv => whnf
      obtain ⟨y91, e92, h⟩ := bind_ex h
      refine CallOk.of (spec_odGood_ct e92) ?_
      conv => whnf
      refine spl (fun g93 => ?_) (fun g93 => ?_)
      · replace h := iteT h g93
        conv => whnf
        refine CutK.norm [1, 10, 13, 32, 33, 34, 46] [832, 2752, 64000, 64001] ?_
        conv => whnf
        refine CutK.norm [1, 10, 13, 32, 33, 34] [832, 2752, 64000, 64001] ?_
        conv => whnf
        refine Take.all (rfl) ?_
        conv => whnf
        refine Take.all (rfl) ?_
        conv => whnf
        refine Take.all (by first | rfl | exact List.length_append.symm | (simp; done) | omega | (dsimp only; omega)) ?_
        conv => whnf
        obtain ⟨g94, h⟩ := req_ex h
        refine Req.of (room (b := 24) (by decide) g94 (wide1 rfl wide0)) ?_
        conv => whnf
        refine CutK.norm [1, 10, 32, 33, 34] [3200, 64000] ?_
        conv => whnf
        exact LoopOk.back (spec_DescentOf_l0_ct hx rest (v62n + 1) _ hd1 h) [some 64000, some 3200] [] ⟨⟨rfl, rfl⟩, ⟨rfl, ⟨rfl, rfl, rows_same⟩, ⟨rfl, rfl, rows_same⟩, trivial⟩, rfl, ⟨(by first | rfl | exact List.length_append.symm | (simp; done) | omega | (dsimp only; omega)), rfl⟩, ⟨rfl, rfl⟩, rfl, i64eq (wrap_up hlt hx), trivial⟩
      · replace h := iteF h g93
        conv => whnf
        refine CutK.norm [1, 10, 13, 32, 33, 34, 46] [832, 2752, 64000, 64001] ?_
        conv => whnf
        cases h
        exact Done.of [none] [] rfl rfl ⟨⟨rfl, rfl⟩, ⟨rfl, rfl, trivial⟩, ⟨⟨rfl, rfl⟩, rfl, trivial⟩, trivial⟩
def spec_DescentOf_p3 (k : Nat) (a2 : Int) (o13 : Rw) (v14 : Bool) : Option (Rw × Bool) :=
  (cond v14 (if o13.length ≤ cap then (spec_DescentOf_l0 k a2 o13 (fun (v74 : Rw) => (spec_DescentOf_p6 v74)) o13 0 ([] : Rw)) else none) (some (([] : Rw), false)))
set_option maxHeartbeats 4000000 in
set_option maxRecDepth 100000 in
theorem spec_DescentOf_p3_ct {k : Nat} {a2 : Int} {o13 : Rw} {v14 : Bool} {r : Rw × Bool} (h : spec_DescentOf_p3 k a2 o13 v14 = some r) : X prog 0 (tlF f24 3) (mk 53 [(1, .d (D.int .i64 a2)), (8, .os 1079000 o13.length), (9, .d (D.bool v14))] [(1079000, .arr 3 true o13)]) (finK prog f24 0 (.tup [.os 8 r.1.length, .d (D.bool r.2)]) (⟨[], [(59, true, r.1)]⟩)) := by
  rw [spec_DescentOf_p3] at h
  cases v14
  · replace h := condF h
    conv => whnf
    cases h
    exact Done.of [none] [] rfl rfl ⟨⟨rfl, rfl⟩, ⟨rfl, rfl, trivial⟩, ⟨⟨rfl, rfl⟩, rfl, trivial⟩, trivial⟩
  · replace h := condT h
    conv => whnf
    obtain ⟨g95, h⟩ := req_ex h
    refine LoopOk.into (spec_DescentOf_l0_ct  g95 _ _ _ rfl h) [some 1079000, none] [] ⟨⟨rfl, rfl⟩, ⟨rfl, ⟨rfl, rfl, rows_same⟩, rfl, trivial⟩, rfl, ⟨rfl, rfl⟩, ⟨rfl, rfl⟩, rfl, rfl, trivial⟩ ?_ (fun _ hs => hs)
    rintro i ts os ⟨rfl, v74, h, rfl, rfl⟩
    conv => whnf
    exact CutK.piece (spec_DescentOf_p6_ct  h) [some 67002] [] ⟨⟨rfl, rfl⟩, ⟨rfl, ⟨rfl, rfl, rows_same⟩, trivial⟩, ⟨rfl, rfl⟩, trivial⟩
def spec_DescentOf_p2 (k : Nat) (a1 : Int) (a2 : Int) (a3 : Int) : Option (Rw × Bool) :=
  ((spec_deRun k a1 a2 a3).bind fun y96 => (if y96.2 = true then (spec_DescentOf_p3 k a2 y96.1 true) else (spec_DescentOf_p3 k a2 y96.1 false)))
set_option maxHeartbeats 4000000 in
set_option maxRecDepth 100000 in
theorem spec_DescentOf_p2_ct {k : Nat} {a1 : Int} {a2 : Int} {a3 : Int} {r : Rw × Bool} (h : spec_DescentOf_p2 k a1 a2 a3 = some r) : X prog 0 (tlF f24 2) (mk 53 [(0, .d (D.int .i64 a1)), (1, .d (D.int .i64 a2)), (2, .d (D.int .i64 a3))] []) (finK prog f24 0 (.tup [.os 8 r.1.length, .d (D.bool r.2)]) (⟨[], [(59, true, r.1)]⟩)) := by
  rw [spec_DescentOf_p2] at h
  conv => whnf
  refine Pick.no ?_
  conv => whnf
  obtain ⟨y96, e97, h⟩ := bind_ex h
  refine CallOk.of (spec_deRun_ct e97) ?_
  conv => whnf
  refine spl (fun g98 => ?_) (fun g98 => ?_)
  · replace h := iteT h g98
    conv => whnf
    exact CutK.piece (spec_DescentOf_p3_ct  h) [some 1728] [] ⟨⟨rfl, rfl⟩, ⟨rfl, ⟨rfl, rfl, rows_same⟩, trivial⟩, rfl, ⟨rfl, rfl⟩, rfl, trivial⟩
  · replace h := iteF h g98
    conv => whnf
    exact CutK.piece (spec_DescentOf_p3_ct  h) [some 1728] [] ⟨⟨rfl, rfl⟩, ⟨rfl, ⟨rfl, rfl, rows_same⟩, trivial⟩, rfl, ⟨rfl, rfl⟩, rfl, trivial⟩
def spec_DescentOf (k : Nat) (a1 : Int) (a2 : Int) (a3 : Int) : Option (Rw × Bool) :=
  ((spec_deBase a1 a2).bind fun y99 => (if y99 = true then ((spec_deTurns a3).bind fun y102 => (if y102 = true then (spec_DescentOf_p2 k a1 a2 a3) else some (([] : Rw), false))) else some (([] : Rw), false)))
set_option maxHeartbeats 4000000 in
set_option maxRecDepth 100000 in
theorem spec_DescentOf_ct {k : Nat} {a1 : Int} {a2 : Int} {a3 : Int} {r : Rw × Bool} (h : spec_DescentOf k a1 a2 a3 = some r) : Ct prog 24 [.d (D.int .i64 a1), .d (D.int .i64 a2), .d (D.int .i64 a3)] (⟨[], []⟩) (.tup [.os 8 r.1.length, .d (D.bool r.2)]) (⟨[], [(59, true, r.1)]⟩) := by
  rw [spec_DescentOf] at h
  refine Ct.of (c := _) mixed func24 ⟨rfl, rfl, rfl⟩ ?_ rfl
  conv => whnf
  refine Pick.no ?_
  conv => whnf
  obtain ⟨y99, e100, h⟩ := bind_ex h
  refine CallOk.of (spec_deBase_ct e100) ?_
  conv => whnf
  refine spl (fun g101 => ?_) (fun g101 => ?_)
  · replace h := iteT h g101
    conv => whnf
    refine Pick.no ?_
    conv => whnf
    obtain ⟨y102, e103, h⟩ := bind_ex h
    refine CallOk.of (spec_deTurns_ct e103) ?_
    conv => whnf
    refine spl (fun g104 => ?_) (fun g104 => ?_)
    · replace h := iteT h g104
      conv => whnf
      refine CutK.norm [0, 1, 2, 22] [] ?_
      conv => whnf
      exact CutK.piece (spec_DescentOf_p2_ct  h) [] [] ⟨⟨rfl, rfl⟩, ⟨rfl, trivial⟩, rfl, rfl, rfl, trivial⟩
    · replace h := iteF h g104
      conv => whnf
      refine CutK.norm [0, 1, 2, 22] [] ?_
      conv => whnf
      cases h
      exact Done.of [none] [] rfl rfl ⟨⟨rfl, rfl⟩, ⟨rfl, rfl, trivial⟩, ⟨⟨rfl, rfl⟩, rfl, trivial⟩, trivial⟩
  · replace h := iteF h g101
    conv => whnf
    refine CutK.norm [0, 1, 2, 22] [] ?_
    conv => whnf
    cases h
    exact Done.of [none] [] rfl rfl ⟨⟨rfl, rfl⟩, ⟨rfl, rfl, trivial⟩, ⟨⟨rfl, rfl⟩, rfl, trivial⟩, trivial⟩

def impl_DescentOf_p5 (o44 : Rw) : Option (Rw × Bool) :=
  some (o44, true)
set_option maxHeartbeats 4000000 in
set_option maxRecDepth 100000 in
theorem impl_DescentOf_p5_ct {o44 : Rw} {r : Rw × Bool} (h : impl_DescentOf_p5 o44 = some r) : X prog 0 (tlF f23 5) (mk 49 [(10, .os 1089000 o44.length)] [(1089000, .arr 59 true o44)]) (finK prog f23 0 (.tup [.os 8 r.1.length, .d (D.bool r.2)]) (⟨[], [(59, true, r.1)]⟩)) := by
  rw [impl_DescentOf_p5] at h
  conv => whnf
  cases h
  exact Done.of [some 1089000] [] rfl rfl ⟨⟨rfl, rfl⟩, ⟨rfl, ⟨rfl, rfl, rows_same⟩, trivial⟩, ⟨⟨rfl, rfl⟩, rfl, trivial⟩, trivial⟩
def impl_DescentOf_l0 (k : Nat) (a2 : Int) (o7 : Rw) (K0 : Rw → Option (Rw × Bool)) : Rw → Nat → Rw → Option (Rw × Bool)
  | [], v56n, v55 => (K0 v55)
  | cs :: rest, v56n, v55 => (if 0 ≤ (v56n : Int) ∧ (v56n : Int) < (o7.length : Int) then (cell_i cs fun x81 => ((impl_hereditary k x81 (IntKind.i64.wrap (a2 + (v56n : Int)))).bind fun y83 => ((impl_told k y83).bind fun y85 => (if y85.2 = true then (if v55.length + 1 ≤ cap then (impl_DescentOf_l0 k a2 o7 K0 rest (v56n + 1) (v55 ++ ([[D.sl y85.1]]))) else none) else some (([] : Rw), false))))) else none)
set_option maxHeartbeats 4000000 in
set_option maxRecDepth 100000 in
theorem impl_DescentOf_l0_ct {k : Nat} {a2 : Int} {o7 : Rw} {K0 : Rw → Option (Rw × Bool)} {r : Rw × Bool} (hx : o7.length ≤ cap) : ∀ (rest : Rw) (v56n : Nat) (v55 : Rw), o7.drop v56n = rest → impl_DescentOf_l0 k a2 o7 K0 rest v56n v55 = some r → LoopOk prog 0 (lp f23 0) (mk 49 [(1, .d (D.int .i64 a2)), (10, .os 64000 v55.length), (25, .os 64001 o7.length), (26, .d (D.int .i64 (o7.length : Int))), (27, .d (D.int .i64 (v56n : Int)))] [(64000, .arr 59 true v55), (64001, .arr 3 true o7)]) (LoopEnd prog f23 0 49 (.tup [.os 8 r.1.length, .d (D.bool r.2)]) (⟨[], [(59, true, r.1)]⟩) (fun i ts os => (i = 0 ∧ ∃ v68 : Rw, K0 v68 = some r ∧ ts = [(10, .os 67002 v68.length)] ∧ os = [(67002, .arr 59 true v68)])))
  | [], v56n, v55, hd, h => by
      rw [impl_DescentOf_l0] at h
      have hn := drop_nil hd
      refine LoopOk.step ?_
      conv => whnf
      refine splD (fun g => absurd g hn) (fun _ => ?_)
      conv => whnf
      exact ⟨_, _, [some 64000], [], ⟨rfl, _, h, rfl, rfl⟩, ⟨⟨rfl, rfl⟩, ⟨rfl, ⟨rfl, rfl, rows_same⟩, trivial⟩, ⟨rfl, rfl⟩, trivial⟩⟩
  | cs :: rest, v56n, v55, hd, h => by
      rw [impl_DescentOf_l0] at h
      obtain ⟨hrow, hd1, hlt⟩ := drop_cons hd
      refine LoopOk.step ?_
      conv => whnf
      refine splD (fun _ => ?_) (fun g => absurd hlt g)
      conv => whnf
      obtain ⟨g80, h⟩ := req_ex h
      refine Req.of g80 ?_
      conv => whnf
      obtain ⟨x81, e82, h⟩ := cell_i_ex h
      rw [e82] at hrow
      refine Row.of _ hrow ?_
      conv => whnf
      refine Pick.no ?_
      conv => whnf
      obtain ⟨y83, e84, h⟩ := bind_ex h
      refine CallOk.of (impl_hereditary_ct e84) ?_
      conv => whnf
      refine Pick.no ?_
      conv => whnf
      refine Take.all (rfl) ?_
      conv => whnf
      obtain ⟨y85, e86, h⟩ := bind_ex h
      refine CallOk.of (impl_told_ct e86) ?_
      conv => whnf
      refine spl (fun g87 => ?_) (fun g87 => ?_)
      · replace h := iteT h g87
        conv => whnf
        refine CutK.norm [1, 10, 13, 14, 25, 26, 27] [832, 2432, 64000, 64001] ?_
        conv => whnf
        refine Take.all (rfl) ?_
        conv => whnf
        refine Take.all (rfl) ?_
        conv => whnf
        refine Take.all (by first | rfl | exact List.length_append.symm | (simp; done) | omega | (dsimp only; omega)) ?_
        conv => whnf
        obtain ⟨g88, h⟩ := req_ex h
        refine Req.of (room (b := 24) (by decide) g88 (wide1 rfl wide0)) ?_
        conv => whnf
        refine CutK.norm [1, 10, 25, 26, 27] [2944, 64001] ?_
        conv => whnf
        exact LoopOk.back (impl_DescentOf_l0_ct hx rest (v56n + 1) _ hd1 h) [some 2944, some 64001] [] ⟨⟨rfl, rfl⟩, ⟨rfl, ⟨rfl, rfl, rows_same⟩, ⟨rfl, rfl, rows_same⟩, trivial⟩, rfl, ⟨(by first | rfl | exact List.length_append.symm | (simp; done) | omega | (dsimp only; omega)), rfl⟩, ⟨rfl, rfl⟩, rfl, i64eq (wrap_up hlt hx), trivial⟩
      · replace h := iteF h g87
        conv => whnf
        refine CutK.norm [1, 10, 13, 14, 25, 26, 27] [832, 2432, 64000, 64001] ?_
        conv => whnf
        cases h
        exact Done.of [none] [] rfl rfl ⟨⟨rfl, rfl⟩, ⟨rfl, rfl, trivial⟩, ⟨⟨rfl, rfl⟩, rfl, trivial⟩, trivial⟩
def impl_DescentOf_p2 (k : Nat) (a2 : Int) (o7 : Rw) (v8 : Bool) : Option (Rw × Bool) :=
  (cond v8 (if o7.length ≤ cap then (impl_DescentOf_l0 k a2 o7 (fun (v68 : Rw) => (impl_DescentOf_p5 v68)) o7 0 ([] : Rw)) else none) (some (([] : Rw), false)))
set_option maxHeartbeats 4000000 in
set_option maxRecDepth 100000 in
theorem impl_DescentOf_p2_ct {k : Nat} {a2 : Int} {o7 : Rw} {v8 : Bool} {r : Rw × Bool} (h : impl_DescentOf_p2 k a2 o7 v8 = some r) : X prog 0 (tlF f23 2) (mk 49 [(1, .d (D.int .i64 a2)), (8, .os 1074000 o7.length), (9, .d (D.bool v8))] [(1074000, .arr 3 true o7)]) (finK prog f23 0 (.tup [.os 8 r.1.length, .d (D.bool r.2)]) (⟨[], [(59, true, r.1)]⟩)) := by
  rw [impl_DescentOf_p2] at h
  cases v8
  · replace h := condF h
    conv => whnf
    cases h
    exact Done.of [none] [] rfl rfl ⟨⟨rfl, rfl⟩, ⟨rfl, rfl, trivial⟩, ⟨⟨rfl, rfl⟩, rfl, trivial⟩, trivial⟩
  · replace h := condT h
    conv => whnf
    obtain ⟨g89, h⟩ := req_ex h
    refine LoopOk.into (impl_DescentOf_l0_ct  g89 _ _ _ rfl h) [some 1536, some 1074000] [] ⟨⟨rfl, rfl⟩, ⟨rfl, ⟨rfl, rfl, rows_same⟩, ⟨rfl, rfl, rows_same⟩, trivial⟩, rfl, ⟨(by first | rfl | exact List.length_append.symm | (simp; done) | omega | (dsimp only; omega)), rfl⟩, ⟨rfl, rfl⟩, rfl, rfl, trivial⟩ ?_ (fun _ hs => hs)
    rintro i ts os ⟨rfl, v68, h, rfl, rfl⟩
    conv => whnf
    exact CutK.piece (impl_DescentOf_p5_ct  h) [some 67002] [] ⟨⟨rfl, rfl⟩, ⟨rfl, ⟨rfl, rfl, rows_same⟩, trivial⟩, ⟨rfl, rfl⟩, trivial⟩
def impl_DescentOf (k : Nat) (a1 : Int) (a2 : Int) (a3 : Int) : Option (Rw × Bool) :=
  ((impl_GoodsteinRun k a1 a2 a3).bind fun y90 => (if y90.2 = true then (impl_DescentOf_p2 k a2 y90.1 true) else (impl_DescentOf_p2 k a2 y90.1 false)))
set_option maxHeartbeats 4000000 in
set_option maxRecDepth 100000 in
theorem impl_DescentOf_ct {k : Nat} {a1 : Int} {a2 : Int} {a3 : Int} {r : Rw × Bool} (h : impl_DescentOf k a1 a2 a3 = some r) : Ct prog 23 [.d (D.int .i64 a1), .d (D.int .i64 a2), .d (D.int .i64 a3)] (⟨[], []⟩) (.tup [.os 8 r.1.length, .d (D.bool r.2)]) (⟨[], [(59, true, r.1)]⟩) := by
  rw [impl_DescentOf] at h
  refine Ct.of (c := _) mixed func23 ⟨rfl, rfl, rfl⟩ ?_ rfl
  conv => whnf
  refine Pick.no ?_
  conv => whnf
  obtain ⟨y90, e91, h⟩ := bind_ex h
  refine CallOk.of (impl_GoodsteinRun_ct e91) ?_
  conv => whnf
  refine spl (fun g92 => ?_) (fun g92 => ?_)
  · replace h := iteT h g92
    conv => whnf
    exact CutK.piece (impl_DescentOf_p2_ct  h) [some 1216] [] ⟨⟨rfl, rfl⟩, ⟨rfl, ⟨rfl, rfl, rows_same⟩, trivial⟩, rfl, ⟨rfl, rfl⟩, rfl, trivial⟩
  · replace h := iteF h g92
    conv => whnf
    exact CutK.piece (impl_DescentOf_p2_ct  h) [some 1216] [] ⟨⟨rfl, rfl⟩, ⟨rfl, ⟨rfl, rfl, rows_same⟩, trivial⟩, rfl, ⟨rfl, rfl⟩, rfl, trivial⟩

def spec_l1Cur_next  (a1 : Rw) (a2 : Int) (a3 : Int) : Option (Int × Rw × Int × Int) :=
  (if a2 < (a1.length : Int) then (row_iu8 a1 a2 fun x5 => (if (IntKind.i64.wrap (a2 + 1)) ≤ (a1.length : Int) then some (IntKind.i64.wrap x5, a1, IntKind.i64.wrap (a2 + 1), IntKind.u64.wrap ((IntKind.u64.wrap ((IntKind.u64.wrap (a3 * 6364136223846793005)) + (IntKind.u64.wrap (IntKind.i64.wrap x5)))) + 1442695040888963407)) else some (IntKind.i64.wrap (IntKind.u64.wrap (BitVec.ofInt (IntKind.u64).bits ((IntKind.u64.wrap ((IntKind.u64.wrap ((IntKind.u64.wrap (a3 * 6364136223846793005)) + (IntKind.u64.wrap (IntKind.i64.wrap x5)))) + 1442695040888963407)).fdiv (2 ^ (min (40 : Int).toNat (IntKind.u64).bits))) &&& BitVec.ofInt (IntKind.u64).bits 255).toNat), a1, IntKind.i64.wrap (a2 + 1), IntKind.u64.wrap ((IntKind.u64.wrap ((IntKind.u64.wrap (a3 * 6364136223846793005)) + (IntKind.u64.wrap (IntKind.i64.wrap x5)))) + 1442695040888963407)))) else (if (IntKind.i64.wrap (a2 + 1)) ≤ (a1.length : Int) then some (0, a1, IntKind.i64.wrap (a2 + 1), IntKind.u64.wrap ((IntKind.u64.wrap ((IntKind.u64.wrap (a3 * 6364136223846793005)) + (IntKind.u64.wrap 0))) + 1442695040888963407)) else some (IntKind.i64.wrap (IntKind.u64.wrap (BitVec.ofInt (IntKind.u64).bits ((IntKind.u64.wrap ((IntKind.u64.wrap ((IntKind.u64.wrap (a3 * 6364136223846793005)) + (IntKind.u64.wrap 0))) + 1442695040888963407)).fdiv (2 ^ (min (40 : Int).toNat (IntKind.u64).bits))) &&& BitVec.ofInt (IntKind.u64).bits 255).toNat), a1, IntKind.i64.wrap (a2 + 1), IntKind.u64.wrap ((IntKind.u64.wrap ((IntKind.u64.wrap (a3 * 6364136223846793005)) + (IntKind.u64.wrap 0))) + 1442695040888963407))))
set_option maxHeartbeats 4000000 in
set_option maxRecDepth 100000 in
theorem spec_l1Cur_next_ct  {a1 : Rw} {a2 : Int} {a3 : Int} {r : Int × Rw × Int × Int} (h : spec_l1Cur_next a1 a2 a3 = some r) : Ct prog 102 [.ptr 0 0] (⟨[(81, [.d (D.sl a1), .d (D.int .i64 a2), .d (D.int .u64 a3)])], []⟩) (.d (D.int .i64 r.1)) (⟨[(81, [.d (D.sl r.2.1), .d (D.int .i64 r.2.2.1), .d (D.int .u64 r.2.2.2)])], []⟩) := by
  rw [spec_l1Cur_next] at h
  refine Ct.of (c := _) mixed func102 ⟨rfl, rfl, rfl⟩ ?_ rfl
  conv => whnf
  refine splD (fun g4 => ?_) (fun g4 => ?_)
  · replace h := iteP h g4
    conv => whnf
    obtain ⟨g7, x5, e6, h⟩ := row_iu8_ex h
    refine Req.of g7 ?_
    refine Row.of _ e6 ?_
    conv => whnf
    refine splD (fun g8 => ?_) (fun g8 => ?_)
    · replace h := iteP h g8
      conv => whnf
      cases h
      exact Done.of [some 0] [] rfl rfl ⟨⟨rfl, rfl⟩, ⟨rfl, ⟨rfl, rfl, rfl, rfl, trivial⟩, trivial⟩, rfl, trivial⟩
    · replace h := iteN h g8
      conv => whnf
      refine Req.of (by decide) ?_
      conv => whnf
      cases h
      exact Done.of [some 0] [] rfl rfl ⟨⟨rfl, rfl⟩, ⟨rfl, ⟨rfl, rfl, rfl, rfl, trivial⟩, trivial⟩, rfl, trivial⟩
  · replace h := iteN h g4
    conv => whnf
    refine splD (fun g9 => ?_) (fun g9 => ?_)
    · replace h := iteP h g9
      conv => whnf
      cases h
      exact Done.of [some 0] [] rfl rfl ⟨⟨rfl, rfl⟩, ⟨rfl, ⟨rfl, rfl, rfl, rfl, trivial⟩, trivial⟩, rfl, trivial⟩
    · replace h := iteN h g9
      conv => whnf
      refine Req.of (by decide) ?_
      conv => whnf
      cases h
      exact Done.of [some 0] [] rfl rfl ⟨⟨rfl, rfl⟩, ⟨rfl, ⟨rfl, rfl, rfl, rfl, trivial⟩, trivial⟩, rfl, trivial⟩

def spec_l1Cur_pick  (a1 : Rw) (a2 : Int) (a3 : Int) (a4 : Int) : Option (Int × Rw × Int × Int) :=
  (if a4 ≤ (1 : Int) then some (0, a1, a2, a3) else ((spec_l1Cur_next a1 a2 a3).bind fun y6 => (if (200 : Int) < a4 then ((spec_l1Cur_next y6.2.1 y6.2.2.1 y6.2.2.2).bind fun y9 => (if a4 ≠ 0 then some ((IntKind.i64.wrap ((IntKind.i64.wrap (y6.1 * 256)) + y9.1)).tmod a4, y9.2.1, y9.2.2.1, y9.2.2.2) else none)) else (if a4 ≠ 0 then some (y6.1.tmod a4, y6.2.1, y6.2.2.1, y6.2.2.2) else none))))
set_option maxHeartbeats 4000000 in
set_option maxRecDepth 100000 in
theorem spec_l1Cur_pick_ct  {a1 : Rw} {a2 : Int} {a3 : Int} {a4 : Int} {r : Int × Rw × Int × Int} (h : spec_l1Cur_pick a1 a2 a3 a4 = some r) : Ct prog 41 [.ptr 0 0, .d (D.int .i64 a4)] (⟨[(81, [.d (D.sl a1), .d (D.int .i64 a2), .d (D.int .u64 a3)])], []⟩) (.d (D.int .i64 r.1)) (⟨[(81, [.d (D.sl r.2.1), .d (D.int .i64 r.2.2.1), .d (D.int .u64 r.2.2.2)])], []⟩) := by
  rw [spec_l1Cur_pick] at h
  refine Ct.of (c := _) mixed func41 ⟨rfl, rfl, rfl⟩ ?_ rfl
  conv => whnf
  refine splD (fun g5 => ?_) (fun g5 => ?_)
  · replace h := iteP h g5
    conv => whnf
    cases h
    exact Done.of [some 0] [] rfl rfl ⟨⟨rfl, rfl⟩, ⟨rfl, ⟨rfl, rfl, rfl, rfl, trivial⟩, trivial⟩, rfl, trivial⟩
  · replace h := iteN h g5
    conv => whnf
    refine Pick.no ?_
    conv => whnf
    obtain ⟨y6, e7, h⟩ := bind_ex h
    refine CallOk.of (spec_l1Cur_next_ct e7) ?_
    conv => whnf
    refine CutK.go ?_
    conv => whnf
    refine splD (fun g8 => ?_) (fun g8 => ?_)
    · replace h := iteP h g8
      conv => whnf
      refine Pick.no ?_
      conv => whnf
      obtain ⟨y9, e10, h⟩ := bind_ex h
      refine CallOk.of (spec_l1Cur_next_ct e10) ?_
      conv => whnf
      refine CutK.go ?_
      conv => whnf
      obtain ⟨g11, h⟩ := req_ex h
      refine Req.of g11 ?_
      conv => whnf
      cases h
      exact Done.of [some 0] [] rfl rfl ⟨⟨rfl, rfl⟩, ⟨rfl, ⟨rfl, rfl, rfl, rfl, trivial⟩, trivial⟩, rfl, trivial⟩
    · replace h := iteN h g8
      conv => whnf
      refine CutK.go ?_
      conv => whnf
      obtain ⟨g12, h⟩ := req_ex h
      refine Req.of g12 ?_
      conv => whnf
      cases h
      exact Done.of [some 0] [] rfl rfl ⟨⟨rfl, rfl⟩, ⟨rfl, ⟨rfl, rfl, rfl, rfl, trivial⟩, trivial⟩, rfl, trivial⟩

def spec_l1Cur_among  (a1 : Rw) (a2 : Int) (a3 : Int) (a4 : Rw) : Option (Int × Rw × Int × Int) :=
  ((spec_l1Cur_pick a1 a2 a3 (a4.length : Int)).bind fun y5 => (row_i a4 y5.1 fun x7 => some (x7, y5.2.1, y5.2.2.1, y5.2.2.2)))
set_option maxHeartbeats 4000000 in
set_option maxRecDepth 100000 in
theorem spec_l1Cur_among_ct  {a1 : Rw} {a2 : Int} {a3 : Int} {a4 : Rw} {r : Int × Rw × Int × Int} (h : spec_l1Cur_among a1 a2 a3 a4 = some r) : Ct prog 53 [.ptr 0 0, .d (D.sl a4)] (⟨[(81, [.d (D.sl a1), .d (D.int .i64 a2), .d (D.int .u64 a3)])], []⟩) (.d (D.int .i64 r.1)) (⟨[(81, [.d (D.sl r.2.1), .d (D.int .i64 r.2.2.1), .d (D.int .u64 r.2.2.2)])], []⟩) := by
  rw [spec_l1Cur_among] at h
  refine Ct.of (c := _) mixed func53 ⟨rfl, rfl, rfl⟩ ?_ rfl
  conv => whnf
  refine Pick.no ?_
  conv => whnf
  obtain ⟨y5, e6, h⟩ := bind_ex h
  refine CallOk.of (spec_l1Cur_pick_ct e6) ?_
  conv => whnf
  obtain ⟨g9, x7, e8, h⟩ := row_i_ex h
  refine Req.of g9 ?_
  refine Row.of _ e8 ?_
  conv => whnf
  refine CutK.go ?_
  conv => whnf
  cases h
  exact Done.of [some 0] [] rfl rfl ⟨⟨rfl, rfl⟩, ⟨rfl, ⟨rfl, rfl, rfl, rfl, trivial⟩, trivial⟩, rfl, trivial⟩

def spec_l1Cur_count9  (a1 : Rw) (a2 : Int) (a3 : Int) : Option (Int × Rw × Int × Int) :=
  ((spec_l1Cur_pick a1 a2 a3 8).bind fun y4 => (if y4.1 = (0 : Int) then ((spec_l1Cur_among y4.2.1 y4.2.2.1 y4.2.2.2 ([[D.int .i64 (-1)], [D.int .i64 0], [D.int .i64 1000000], [D.int .i64 1000001]] : Rw)).bind fun y7 => some (y7.1, y7.2.1, y7.2.2.1, y7.2.2.2)) else (if y4.1 = (1 : Int) then ((spec_l1Cur_pick y4.2.1 y4.2.2.1 y4.2.2.2 1000000).bind fun y10 => some (y10.1, y10.2.1, y10.2.2.1, y10.2.2.2)) else ((spec_l1Cur_pick y4.2.1 y4.2.2.1 y4.2.2.2 40).bind fun y12 => some (y12.1, y12.2.1, y12.2.2.1, y12.2.2.2)))))
set_option maxHeartbeats 4000000 in
set_option maxRecDepth 100000 in
theorem spec_l1Cur_count9_ct  {a1 : Rw} {a2 : Int} {a3 : Int} {r : Int × Rw × Int × Int} (h : spec_l1Cur_count9 a1 a2 a3 = some r) : Ct prog 71 [.ptr 0 0] (⟨[(81, [.d (D.sl a1), .d (D.int .i64 a2), .d (D.int .u64 a3)])], []⟩) (.d (D.int .i64 r.1)) (⟨[(81, [.d (D.sl r.2.1), .d (D.int .i64 r.2.2.1), .d (D.int .u64 r.2.2.2)])], []⟩) := by
  rw [spec_l1Cur_count9] at h
  refine Ct.of (c := _) mixed func71 ⟨rfl, rfl, rfl⟩ ?_ rfl
  conv => whnf
  refine Pick.no ?_
  conv => whnf
  obtain ⟨y4, e5, h⟩ := bind_ex h
  refine CallOk.of (spec_l1Cur_pick_ct e5) ?_
  conv => whnf
  refine CutK.go ?_
  conv => whnf
  refine splD (fun g6 => ?_) (fun g6 => ?_)
  · replace h := iteP h g6
    conv => whnf
    refine Pick.no ?_
    conv => whnf
    refine Take.all (by first | rfl | exact List.length_append.symm | (simp; done) | omega | (dsimp only; omega)) ?_
    conv => whnf
    obtain ⟨y7, e8, h⟩ := bind_ex h
    refine CallOk.of (spec_l1Cur_among_ct e8) ?_
    conv => whnf
    refine CutK.go ?_
    conv => whnf
    cases h
    exact Done.of [some 0] [] rfl rfl ⟨⟨rfl, rfl⟩, ⟨rfl, ⟨rfl, rfl, rfl, rfl, trivial⟩, trivial⟩, rfl, trivial⟩
  · replace h := iteN h g6
    conv => whnf
    refine splD (fun g9 => ?_) (fun g9 => ?_)
    · replace h := iteP h g9
      conv => whnf
      refine Pick.no ?_
      conv => whnf
      obtain ⟨y10, e11, h⟩ := bind_ex h
      refine CallOk.of (spec_l1Cur_pick_ct e11) ?_
      conv => whnf
      refine CutK.go ?_
      conv => whnf
      cases h
      exact Done.of [some 0] [] rfl rfl ⟨⟨rfl, rfl⟩, ⟨rfl, ⟨rfl, rfl, rfl, rfl, trivial⟩, trivial⟩, rfl, trivial⟩
    · replace h := iteN h g9
      conv => whnf
      refine CutK.go ?_
      conv => whnf
      refine Pick.no ?_
      conv => whnf
      obtain ⟨y12, e13, h⟩ := bind_ex h
      refine CallOk.of (spec_l1Cur_pick_ct e13) ?_
      conv => whnf
      refine CutK.go ?_
      conv => whnf
      cases h
      exact Done.of [some 0] [] rfl rfl ⟨⟨rfl, rfl⟩, ⟨rfl, ⟨rfl, rfl, rfl, rfl, trivial⟩, trivial⟩, rfl, trivial⟩

def spec_l1Cur_one  (a1 : Rw) (a2 : Int) (a3 : Int) (a4 : Int) : Option (Bool × Rw × Int × Int) :=
  ((spec_l1Cur_pick a1 a2 a3 a4).bind fun y5 => (if y5.1 = (0 : Int) then some (true, y5.2.1, y5.2.2.1, y5.2.2.2) else some (false, y5.2.1, y5.2.2.1, y5.2.2.2)))
set_option maxHeartbeats 4000000 in
set_option maxRecDepth 100000 in
theorem spec_l1Cur_one_ct  {a1 : Rw} {a2 : Int} {a3 : Int} {a4 : Int} {r : Bool × Rw × Int × Int} (h : spec_l1Cur_one a1 a2 a3 a4 = some r) : Ct prog 38 [.ptr 0 0, .d (D.int .i64 a4)] (⟨[(81, [.d (D.sl a1), .d (D.int .i64 a2), .d (D.int .u64 a3)])], []⟩) (.d (D.bool r.1)) (⟨[(81, [.d (D.sl r.2.1), .d (D.int .i64 r.2.2.1), .d (D.int .u64 r.2.2.2)])], []⟩) := by
  rw [spec_l1Cur_one] at h
  refine Ct.of (c := _) mixed func38 ⟨rfl, rfl, rfl⟩ ?_ rfl
  conv => whnf
  refine Pick.no ?_
  conv => whnf
  obtain ⟨y5, e6, h⟩ := bind_ex h
  refine CallOk.of (spec_l1Cur_pick_ct e6) ?_
  conv => whnf
  refine splD (fun g7 => ?_) (fun g7 => ?_)
  · replace h := iteP h g7
    conv => whnf
    refine CutK.go ?_
    conv => whnf
    cases h
    exact Done.of [some 0] [] rfl rfl ⟨⟨rfl, rfl⟩, ⟨rfl, ⟨rfl, rfl, rfl, rfl, trivial⟩, trivial⟩, rfl, trivial⟩
  · replace h := iteN h g7
    conv => whnf
    refine CutK.go ?_
    conv => whnf
    cases h
    exact Done.of [some 0] [] rfl rfl ⟨⟨rfl, rfl⟩, ⟨rfl, ⟨rfl, rfl, rfl, rfl, trivial⟩, trivial⟩, rfl, trivial⟩

def spec_l1Cur_base  (a1 : Rw) (a2 : Int) (a3 : Int) : Option (Int × Rw × Int × Int) :=
  ((spec_l1Cur_one a1 a2 a3 8).bind fun y4 => (if y4.1 = true then ((spec_l1Cur_among y4.2.1 y4.2.2.1 y4.2.2.2 ([[D.int .i64 (-1)], [D.int .i64 1], [D.int .i64 10], [D.int .i64 1000], [D.int .i64 1001]] : Rw)).bind fun y7 => some (y7.1, y7.2.1, y7.2.2.1, y7.2.2.2)) else ((spec_l1Cur_pick y4.2.1 y4.2.2.1 y4.2.2.2 5).bind fun y9 => some (IntKind.i64.wrap (2 + y9.1), y9.2.1, y9.2.2.1, y9.2.2.2))))
set_option maxHeartbeats 4000000 in
set_option maxRecDepth 100000 in
theorem spec_l1Cur_base_ct  {a1 : Rw} {a2 : Int} {a3 : Int} {r : Int × Rw × Int × Int} (h : spec_l1Cur_base a1 a2 a3 = some r) : Ct prog 72 [.ptr 0 0] (⟨[(81, [.d (D.sl a1), .d (D.int .i64 a2), .d (D.int .u64 a3)])], []⟩) (.d (D.int .i64 r.1)) (⟨[(81, [.d (D.sl r.2.1), .d (D.int .i64 r.2.2.1), .d (D.int .u64 r.2.2.2)])], []⟩) := by
  rw [spec_l1Cur_base] at h
  refine Ct.of (c := _) mixed func72 ⟨rfl, rfl, rfl⟩ ?_ rfl
  conv => whnf
  refine Pick.no ?_
  conv => whnf
  obtain ⟨y4, e5, h⟩ := bind_ex h
  refine CallOk.of (spec_l1Cur_one_ct e5) ?_
  conv => whnf
  refine spl (fun g6 => ?_) (fun g6 => ?_)
  · replace h := iteT h g6
    conv => whnf
    refine CutK.go ?_
    conv => whnf
    refine Pick.no ?_
    conv => whnf
    refine Take.all (by first | rfl | exact List.length_append.symm | (simp; done) | omega | (dsimp only; omega)) ?_
    conv => whnf
    obtain ⟨y7, e8, h⟩ := bind_ex h
    refine CallOk.of (spec_l1Cur_among_ct e8) ?_
    conv => whnf
    refine CutK.go ?_
    conv => whnf
    cases h
    exact Done.of [some 0] [] rfl rfl ⟨⟨rfl, rfl⟩, ⟨rfl, ⟨rfl, rfl, rfl, rfl, trivial⟩, trivial⟩, rfl, trivial⟩
  · replace h := iteF h g6
    conv => whnf
    refine CutK.go ?_
    conv => whnf
    refine CutK.go ?_
    conv => whnf
    refine Pick.no ?_
    conv => whnf
    obtain ⟨y9, e10, h⟩ := bind_ex h
    refine CallOk.of (spec_l1Cur_pick_ct e10) ?_
    conv => whnf
    refine CutK.go ?_
    conv => whnf
    cases h
    exact Done.of [some 0] [] rfl rfl ⟨⟨rfl, rfl⟩, ⟨rfl, ⟨rfl, rfl, rfl, rfl, trivial⟩, trivial⟩, rfl, trivial⟩

def spec_l1Cur_turns  (a1 : Rw) (a2 : Int) (a3 : Int) : Option (Int × Rw × Int × Int) :=
  ((spec_l1Cur_one a1 a2 a3 8).bind fun y4 => (if y4.1 = true then ((spec_l1Cur_among y4.2.1 y4.2.2.1 y4.2.2.2 ([[D.int .i64 (-1)], [D.int .i64 0], [D.int .i64 60], [D.int .i64 61]] : Rw)).bind fun y7 => some (y7.1, y7.2.1, y7.2.2.1, y7.2.2.2)) else ((spec_l1Cur_pick y4.2.1 y4.2.2.1 y4.2.2.2 12).bind fun y9 => some (y9.1, y9.2.1, y9.2.2.1, y9.2.2.2))))
set_option maxHeartbeats 4000000 in
set_option maxRecDepth 100000 in
theorem spec_l1Cur_turns_ct  {a1 : Rw} {a2 : Int} {a3 : Int} {r : Int × Rw × Int × Int} (h : spec_l1Cur_turns a1 a2 a3 = some r) : Ct prog 73 [.ptr 0 0] (⟨[(81, [.d (D.sl a1), .d (D.int .i64 a2), .d (D.int .u64 a3)])], []⟩) (.d (D.int .i64 r.1)) (⟨[(81, [.d (D.sl r.2.1), .d (D.int .i64 r.2.2.1), .d (D.int .u64 r.2.2.2)])], []⟩) := by
  rw [spec_l1Cur_turns] at h
  refine Ct.of (c := _) mixed func73 ⟨rfl, rfl, rfl⟩ ?_ rfl
  conv => whnf
  refine Pick.no ?_
  conv => whnf
  obtain ⟨y4, e5, h⟩ := bind_ex h
  refine CallOk.of (spec_l1Cur_one_ct e5) ?_
  conv => whnf
  refine spl (fun g6 => ?_) (fun g6 => ?_)
  · replace h := iteT h g6
    conv => whnf
    refine CutK.go ?_
    conv => whnf
    refine Pick.no ?_
    conv => whnf
    refine Take.all (by first | rfl | exact List.length_append.symm | (simp; done) | omega | (dsimp only; omega)) ?_
    conv => whnf
    obtain ⟨y7, e8, h⟩ := bind_ex h
    refine CallOk.of (spec_l1Cur_among_ct e8) ?_
    conv => whnf
    refine CutK.go ?_
    conv => whnf
    cases h
    exact Done.of [some 0] [] rfl rfl ⟨⟨rfl, rfl⟩, ⟨rfl, ⟨rfl, rfl, rfl, rfl, trivial⟩, trivial⟩, rfl, trivial⟩
  · replace h := iteF h g6
    conv => whnf
    refine CutK.go ?_
    conv => whnf
    refine CutK.go ?_
    conv => whnf
    refine Pick.no ?_
    conv => whnf
    obtain ⟨y9, e10, h⟩ := bind_ex h
    refine CallOk.of (spec_l1Cur_pick_ct e10) ?_
    conv => whnf
    refine CutK.go ?_
    conv => whnf
    cases h
    exact Done.of [some 0] [] rfl rfl ⟨⟨rfl, rfl⟩, ⟨rfl, ⟨rfl, rfl, rfl, rfl, trivial⟩, trivial⟩, rfl, trivial⟩

def spec_DrawDescentOf  (a1 : Rw) : Option (Int × Int × Int) :=
  ((spec_l1Cur_count9 a1 0 0).bind fun y2 => ((spec_l1Cur_base y2.2.1 y2.2.2.1 y2.2.2.2).bind fun y4 => ((spec_l1Cur_turns y4.2.1 y4.2.2.1 y4.2.2.2).bind fun y6 => some (y2.1, y4.1, y6.1))))
set_option maxHeartbeats 4000000 in
set_option maxRecDepth 100000 in
theorem spec_DrawDescentOf_ct  {a1 : Rw} {r : Int × Int × Int} (h : spec_DrawDescentOf a1 = some r) : Ct prog 22 [.d (D.sl a1)] (⟨[], []⟩) (.tup [.d (D.int .i64 r.1), .d (D.int .i64 r.2.1), .d (D.int .i64 r.2.2)]) (⟨[], []⟩) := by
  rw [spec_DrawDescentOf] at h
  refine Ct.of (c := _) mixed func22 ⟨rfl, rfl, rfl⟩ ?_ rfl
  conv => whnf
  refine Pick.no ?_
  conv => whnf
  obtain ⟨y2, e3, h⟩ := bind_ex h
  refine CallOk.of (spec_l1Cur_count9_ct e3) ?_
  conv => whnf
  refine Pick.no ?_
  conv => whnf
  obtain ⟨y4, e5, h⟩ := bind_ex h
  refine CallOk.of (spec_l1Cur_base_ct e5) ?_
  conv => whnf
  refine Pick.no ?_
  conv => whnf
  obtain ⟨y6, e7, h⟩ := bind_ex h
  refine CallOk.of (spec_l1Cur_turns_ct e7) ?_
  conv => whnf
  refine CutK.go ?_
  conv => whnf
  cases h
  exact Done.of [] [] rfl rfl ⟨⟨rfl, rfl⟩, ⟨rfl, trivial⟩, ⟨rfl, rfl, rfl, trivial⟩, trivial⟩

def laws_big  (a1 : Rw) (a2 : Rw) : Option Bool :=
  (if (1048576 : Int) < (a1.length : Int) then some true else (if (IntKind.i64.wrap (1048576 - (a1.length : Int))) < (a2.length : Int) then some true else some false))
set_option maxHeartbeats 4000000 in
set_option maxRecDepth 100000 in
theorem laws_big_ct  {a1 : Rw} {a2 : Rw} {r : Bool} (h : laws_big a1 a2 = some r) : Ct prog 7 [.d (D.sl a1), .d (D.sl a2)] (⟨[], []⟩) (.d (D.bool r)) (⟨[], []⟩) := by
  rw [laws_big] at h
  refine Ct.of (c := _) mixed func7 ⟨rfl, rfl, rfl⟩ ?_ rfl
  conv => whnf
  refine splD (fun g3 => ?_) (fun g3 => ?_)
  · replace h := iteP h g3
    conv => whnf
    cases h
    exact Done.of [] [] rfl rfl ⟨⟨rfl, rfl⟩, ⟨rfl, trivial⟩, rfl, trivial⟩
  · replace h := iteN h g3
    conv => whnf
    refine splD (fun g4 => ?_) (fun g4 => ?_)
    · replace h := iteP h g4
      conv => whnf
      cases h
      exact Done.of [] [] rfl rfl ⟨⟨rfl, rfl⟩, ⟨rfl, trivial⟩, rfl, trivial⟩
    · replace h := iteN h g4
      conv => whnf
      cases h
      exact Done.of [] [] rfl rfl ⟨⟨rfl, rfl⟩, ⟨rfl, trivial⟩, rfl, trivial⟩

def laws_FnGoodsteinFalls_p12 (o153 : Int) (o154 : Rw) (o155 : Int) (v156 : Bool) : Option Bool :=
  (cond v156 (if 0 ≤ (IntKind.i64.wrap ((o154.length : Int) - 1)) ∧ (IntKind.i64.wrap ((o154.length : Int) - 1)) < (o154.length : Int) then (row_i o154 (IntKind.i64.wrap ((o154.length : Int) - 1)) fun x176 => (if x176 = (0 : Int) then (if o155 = (IntKind.i64.wrap ((o154.length : Int) - 1)) then some true else some false) else some false)) else none) (if 0 ≤ (IntKind.i64.wrap ((o154.length : Int) - 1)) ∧ (IntKind.i64.wrap ((o154.length : Int) - 1)) < (o154.length : Int) then (row_i o154 (IntKind.i64.wrap ((o154.length : Int) - 1)) fun x170 => (if x170 = (0 : Int) then some false else (if (o154.length : Int) = (IntKind.i64.wrap (o153 + 1)) then some true else some false))) else none))
set_option maxHeartbeats 4000000 in
set_option maxRecDepth 100000 in
theorem laws_FnGoodsteinFalls_p12_ct {o153 : Int} {o154 : Rw} {o155 : Int} {v156 : Bool} {r : Bool} (h : laws_FnGoodsteinFalls_p12 o153 o154 o155 v156 = some r) : X prog 0 (tlF f5 12) (mk 212 [(7, .d (D.int .i64 o153)), (12, .os 1124000 o154.length), (21, .d (D.int .i64 o155)), (22, .d (D.bool v156))] [(1124000, .arr 3 true o154)]) (finK prog f5 0 (.d (D.bool r)) (⟨[], []⟩)) := by
  rw [laws_FnGoodsteinFalls_p12] at h
  cases v156
  · replace h := condF h
    conv => whnf
    obtain ⟨g169, h⟩ := req_ex h
    refine Req.of g169 ?_
    conv => whnf
    obtain ⟨g172, x170, e171, h⟩ := row_i_ex h
    refine Row.of _ e171 ?_
    conv => whnf
    refine splD (fun g173 => ?_) (fun g173 => ?_)
    · replace h := iteP h g173
      conv => whnf
      refine splF ?_
      conv => whnf
      cases h
      exact Done.of [] [] rfl rfl ⟨⟨rfl, rfl⟩, ⟨rfl, trivial⟩, rfl, trivial⟩
    · replace h := iteN h g173
      conv => whnf
      refine splT ?_
      conv => whnf
      refine splD (fun g174 => ?_) (fun g174 => ?_)
      · replace h := iteP h g174
        conv => whnf
        cases h
        exact Done.of [] [] rfl rfl ⟨⟨rfl, rfl⟩, ⟨rfl, trivial⟩, rfl, trivial⟩
      · replace h := iteN h g174
        conv => whnf
        cases h
        exact Done.of [] [] rfl rfl ⟨⟨rfl, rfl⟩, ⟨rfl, trivial⟩, rfl, trivial⟩
  · replace h := condT h
    conv => whnf
    obtain ⟨g175, h⟩ := req_ex h
    refine Req.of g175 ?_
    conv => whnf
    obtain ⟨g178, x176, e177, h⟩ := row_i_ex h
    refine Row.of _ e177 ?_
    conv => whnf
    refine splD (fun g179 => ?_) (fun g179 => ?_)
    · replace h := iteP h g179
      conv => whnf
      refine splT ?_
      conv => whnf
      refine splD (fun g180 => ?_) (fun g180 => ?_)
      · replace h := iteP h g180
        conv => whnf
        cases h
        exact Done.of [] [] rfl rfl ⟨⟨rfl, rfl⟩, ⟨rfl, trivial⟩, rfl, trivial⟩
      · replace h := iteN h g180
        conv => whnf
        cases h
        exact Done.of [] [] rfl rfl ⟨⟨rfl, rfl⟩, ⟨rfl, trivial⟩, rfl, trivial⟩
    · replace h := iteN h g179
      conv => whnf
      refine splF ?_
      conv => whnf
      cases h
      exact Done.of [] [] rfl rfl ⟨⟨rfl, rfl⟩, ⟨rfl, trivial⟩, rfl, trivial⟩
def laws_FnGoodsteinFalls_p11 (k : Nat) (o146 : Int) (o147 : Int) (o148 : Int) (o149 : Rw) : Option Bool :=
  ((impl_StepsToZero k o146 o147 o148).bind fun y181 => (if y181.2 = true then (laws_FnGoodsteinFalls_p12 o148 o149 y181.1 true) else (laws_FnGoodsteinFalls_p12 o148 o149 y181.1 false)))
set_option maxHeartbeats 4000000 in
set_option maxRecDepth 100000 in
theorem laws_FnGoodsteinFalls_p11_ct {k : Nat} {o146 : Int} {o147 : Int} {o148 : Int} {o149 : Rw} {r : Bool} (h : laws_FnGoodsteinFalls_p11 k o146 o147 o148 o149 = some r) : X prog 0 (tlF f5 11) (mk 212 [(5, .d (D.int .i64 o146)), (6, .d (D.int .i64 o147)), (7, .d (D.int .i64 o148)), (12, .os 1119000 o149.length)] [(1119000, .arr 3 true o149)]) (finK prog f5 0 (.d (D.bool r)) (⟨[], []⟩)) := by
  rw [laws_FnGoodsteinFalls_p11] at h
  conv => whnf
  refine Pick.no ?_
  conv => whnf
  obtain ⟨y181, e182, h⟩ := bind_ex h
  refine CallOk.of (impl_StepsToZero_ct e182) ?_
  conv => whnf
  refine spl (fun g183 => ?_) (fun g183 => ?_)
  · replace h := iteT h g183
    conv => whnf
    exact CutK.piece (laws_FnGoodsteinFalls_p12_ct  h) [some 1119000] [] ⟨⟨rfl, rfl⟩, ⟨rfl, ⟨rfl, rfl, rows_same⟩, trivial⟩, rfl, ⟨rfl, rfl⟩, rfl, rfl, trivial⟩
  · replace h := iteF h g183
    conv => whnf
    exact CutK.piece (laws_FnGoodsteinFalls_p12_ct  h) [some 1119000] [] ⟨⟨rfl, rfl⟩, ⟨rfl, ⟨rfl, rfl, rows_same⟩, trivial⟩, rfl, ⟨rfl, rfl⟩, rfl, rfl, trivial⟩
def laws_FnGoodsteinFalls_l0 (k : Nat) (o48 : Int) (o49 : Int) (o50 : Int) (o51 : Rw) (o52 : Rw) (o53 : Rw) (K0 : Option Bool) : Nat → Int → Option Bool
  | 0, _ => none
  | n + 1, v222 => (if (IntKind.i64.wrap (v222 + 1)) < (o53.length : Int) then (row_s o51 v222 fun x268 => (row_s o52 v222 fun x271 => ((laws_qSameOrdinal k x268 x271).bind fun y274 => (if y274 = true then (if (1000 : Int) ≤ (IntKind.i64.wrap (o49 + v222)) then ((laws_qSameOrdinal k x268 x271).bind fun y278 => (if y278 = true then some true else some false)) else (if 0 ≤ v222 ∧ v222 < (o53.length : Int) then (row_i o53 v222 fun x282 => ((impl_RaiseBase k x282 (IntKind.i64.wrap (o49 + v222))).bind fun y285 => (if y285.2 = true then ((impl_HereditaryOrdinal k x282 (IntKind.i64.wrap (o49 + v222))).bind fun y288 => (if y288.2 = true then (if 0 ≤ (IntKind.i64.wrap (v222 + 1)) ∧ (IntKind.i64.wrap (v222 + 1)) < (o53.length : Int) then (row_i o53 (IntKind.i64.wrap (v222 + 1)) fun x292 => (if y285.1 = (IntKind.i64.wrap (x292 + 1)) then ((laws_qSameOrdinal k y288.1 x268).bind fun y296 => (if y296 = true then (laws_FnGoodsteinFalls_l0 k o48 o49 o50 o51 o52 o53 K0 n (IntKind.i64.wrap (v222 + 1))) else some false)) else some false)) else none) else some false)) else ((impl_HereditaryOrdinal k x282 (IntKind.i64.wrap (o49 + v222))).bind fun y299 => (if y299.2 = true then some false else some false))))) else none)) else ((laws_qSameOrdinal k x268 x271).bind fun y302 => (if y302 = true then some true else some false)))))) else (K0))
set_option maxHeartbeats 4000000 in
set_option maxRecDepth 100000 in
theorem laws_FnGoodsteinFalls_l0_ct {k : Nat} {o48 : Int} {o49 : Int} {o50 : Int} {o51 : Rw} {o52 : Rw} {o53 : Rw} {K0 : Option Bool} {r : Bool} : ∀ (n : Nat) (v222 : Int), laws_FnGoodsteinFalls_l0 k o48 o49 o50 o51 o52 o53 K0 n v222 = some r → LoopOk prog 0 (lp f5 0) (mk 212 [(5, .d (D.int .i64 o48)), (6, .d (D.int .i64 o49)), (7, .d (D.int .i64 o50)), (8, .d (D.sl o51)), (10, .d (D.sl o52)), (12, .os 64000 o53.length), (16, .d (D.int .i64 v222))] [(64000, .arr 3 true o53)]) (LoopEnd prog f5 0 212 (.d (D.bool r)) (⟨[], []⟩) (fun i ts os => (i = 0 ∧ K0 = some r ∧ ts = [(5, .d (D.int .i64 o48)), (6, .d (D.int .i64 o49)), (7, .d (D.int .i64 o50)), (12, .os 67001 o53.length)] ∧ os = [(67001, .arr 3 true o53)])))
  | 0, _, h => by
      rw [laws_FnGoodsteinFalls_l0] at h; cases h
  | n + 1, v222, h => by
      rw [laws_FnGoodsteinFalls_l0] at h
      refine LoopOk.step ?_
      conv => whnf
      refine splD (fun g267 => ?_) (fun g267 => ?_)
      · replace h := iteP h g267
        conv => whnf
        obtain ⟨g270, x268, e269, h⟩ := row_s_ex h
        refine Req.of g270 ?_
        refine Row.of _ e269 ?_
        conv => whnf
        obtain ⟨g273, x271, e272, h⟩ := row_s_ex h
        refine Req.of g273 ?_
        refine Row.of _ e272 ?_
        conv => whnf
        refine Pick.no ?_
        conv => whnf
        obtain ⟨y274, e275, h⟩ := bind_ex h
        refine CallOk.of (laws_qSameOrdinal_ct e275) ?_
        conv => whnf
        refine spl (fun g276 => ?_) (fun g276 => ?_)
        · replace h := iteT h g276
          conv => whnf
          refine splD (fun g277 => ?_) (fun g277 => ?_)
          · replace h := iteP h g277
            conv => whnf
            refine CutK.norm [5, 6, 7, 8, 10, 12, 16, 117] [64000] ?_
            conv => whnf
            refine Req.of g270 ?_
            refine Row.of _ e269 ?_
            conv => whnf
            refine Req.of g273 ?_
            refine Row.of _ e272 ?_
            conv => whnf
            refine Pick.no ?_
            conv => whnf
            obtain ⟨y278, e279, h⟩ := bind_ex h
            refine CallOk.of (laws_qSameOrdinal_ct e279) ?_
            conv => whnf
            refine spl (fun g280 => ?_) (fun g280 => ?_)
            · replace h := iteT h g280
              conv => whnf
              refine CutK.norm [4] [] ?_
              conv => whnf
              cases h
              exact Done.of [] [] rfl rfl ⟨⟨rfl, rfl⟩, ⟨rfl, trivial⟩, rfl, trivial⟩
            · replace h := iteF h g280
              conv => whnf
              refine CutK.norm [4] [] ?_
              conv => whnf
              cases h
              exact Done.of [] [] rfl rfl ⟨⟨rfl, rfl⟩, ⟨rfl, trivial⟩, rfl, trivial⟩
          · replace h := iteN h g277
            conv => whnf
            refine CutK.norm [5, 6, 7, 8, 10, 12, 16, 117] [64000] ?_
            conv => whnf
            refine CutK.norm [5, 6, 7, 8, 10, 12, 16] [64000] ?_
            conv => whnf
            obtain ⟨g281, h⟩ := req_ex h
            refine Req.of g281 ?_
            conv => whnf
            obtain ⟨g284, x282, e283, h⟩ := row_i_ex h
            refine Row.of _ e283 ?_
            conv => whnf
            refine Pick.no ?_
            conv => whnf
            obtain ⟨y285, e286, h⟩ := bind_ex h
            refine CallOk.of (impl_RaiseBase_ct e286) ?_
            conv => whnf
            refine spl (fun g287 => ?_) (fun g287 => ?_)
            · replace h := iteT h g287
              conv => whnf
              refine CutK.norm [5, 6, 7, 8, 10, 12, 16, 17, 18] [64000] ?_
              conv => whnf
              refine Req.of g281 ?_
              conv => whnf
              refine Row.of _ e283 ?_
              conv => whnf
              refine Pick.no ?_
              conv => whnf
              obtain ⟨y288, e289, h⟩ := bind_ex h
              refine CallOk.of (impl_HereditaryOrdinal_ct e289) ?_
              conv => whnf
              refine spl (fun g290 => ?_) (fun g290 => ?_)
              · replace h := iteT h g290
                conv => whnf
                refine CutK.norm [5, 6, 7, 8, 10, 12, 16, 17, 18, 19, 20] [1216, 9344, 64000] ?_
                conv => whnf
                obtain ⟨g291, h⟩ := req_ex h
                refine Req.of g291 ?_
                conv => whnf
                obtain ⟨g294, x292, e293, h⟩ := row_i_ex h
                refine Row.of _ e293 ?_
                conv => whnf
                refine splN (fun g295 => ?_) (fun g295 => ?_)
                · replace h := iteN h g295
                  conv => whnf
                  refine CutK.norm [5, 6, 7, 8, 10, 12, 16, 173] [64000] ?_
                  conv => whnf
                  cases h
                  exact Done.of [] [] rfl rfl ⟨⟨rfl, rfl⟩, ⟨rfl, trivial⟩, rfl, trivial⟩
                · replace h := iteP h g295
                  conv => whnf
                  refine Req.of g270 ?_
                  refine Row.of _ e269 ?_
                  conv => whnf
                  refine Pick.no ?_
                  conv => whnf
                  refine Take.all (rfl) ?_
                  conv => whnf
                  obtain ⟨y296, e297, h⟩ := bind_ex h
                  refine CallOk.of (laws_qSameOrdinal_ct e297) ?_
                  conv => whnf
                  refine spl (fun g298 => ?_) (fun g298 => ?_)
                  · replace h := iteT h g298
                    conv => whnf
                    refine CutK.norm [5, 6, 7, 8, 10, 12, 16, 173] [64000] ?_
                    conv => whnf
                    refine CutK.norm [5, 6, 7, 8, 10, 12, 16] [64000] ?_
                    conv => whnf
                    exact LoopOk.back (laws_FnGoodsteinFalls_l0_ct  n _ h) [some 64000] [] ⟨⟨rfl, rfl⟩, ⟨rfl, ⟨rfl, rfl, rows_same⟩, trivial⟩, rfl, rfl, rfl, rfl, rfl, ⟨rfl, rfl⟩, rfl, trivial⟩
                  · replace h := iteF h g298
                    conv => whnf
                    refine CutK.norm [5, 6, 7, 8, 10, 12, 16, 173] [64000] ?_
                    conv => whnf
                    cases h
                    exact Done.of [] [] rfl rfl ⟨⟨rfl, rfl⟩, ⟨rfl, trivial⟩, rfl, trivial⟩
              · replace h := iteF h g290
                conv => whnf
                refine CutK.norm [5, 6, 7, 8, 10, 12, 16, 17, 18, 19, 20] [1216, 9344, 64000] ?_
                conv => whnf
                refine CutK.norm [5, 6, 7, 8, 10, 12, 16, 173] [64000] ?_
                conv => whnf
                cases h
                exact Done.of [] [] rfl rfl ⟨⟨rfl, rfl⟩, ⟨rfl, trivial⟩, rfl, trivial⟩
            · replace h := iteF h g287
              conv => whnf
              refine CutK.norm [5, 6, 7, 8, 10, 12, 16, 17, 18] [64000] ?_
              conv => whnf
              refine Req.of g281 ?_
              conv => whnf
              refine Row.of _ e283 ?_
              conv => whnf
              refine Pick.no ?_
              conv => whnf
              obtain ⟨y299, e300, h⟩ := bind_ex h
              refine CallOk.of (impl_HereditaryOrdinal_ct e300) ?_
              conv => whnf
              refine spl (fun g301 => ?_) (fun g301 => ?_)
              · replace h := iteT h g301
                conv => whnf
                refine CutK.norm [5, 6, 7, 8, 10, 12, 16, 17, 18, 19, 20] [1216, 9344, 64000] ?_
                conv => whnf
                refine CutK.norm [5, 6, 7, 8, 10, 12, 16, 173] [64000] ?_
                conv => whnf
                cases h
                exact Done.of [] [] rfl rfl ⟨⟨rfl, rfl⟩, ⟨rfl, trivial⟩, rfl, trivial⟩
              · replace h := iteF h g301
                conv => whnf
                refine CutK.norm [5, 6, 7, 8, 10, 12, 16, 17, 18, 19, 20] [1216, 9344, 64000] ?_
                conv => whnf
                refine CutK.norm [5, 6, 7, 8, 10, 12, 16, 173] [64000] ?_
                conv => whnf
                cases h
                exact Done.of [] [] rfl rfl ⟨⟨rfl, rfl⟩, ⟨rfl, trivial⟩, rfl, trivial⟩
        · replace h := iteF h g276
          conv => whnf
          refine CutK.norm [5, 6, 7, 8, 10, 12, 16, 117] [64000] ?_
          conv => whnf
          refine Req.of g270 ?_
          refine Row.of _ e269 ?_
          conv => whnf
          refine Req.of g273 ?_
          refine Row.of _ e272 ?_
          conv => whnf
          refine Pick.no ?_
          conv => whnf
          obtain ⟨y302, e303, h⟩ := bind_ex h
          refine CallOk.of (laws_qSameOrdinal_ct e303) ?_
          conv => whnf
          refine spl (fun g304 => ?_) (fun g304 => ?_)
          · replace h := iteT h g304
            conv => whnf
            refine CutK.norm [4] [] ?_
            conv => whnf
            cases h
            exact Done.of [] [] rfl rfl ⟨⟨rfl, rfl⟩, ⟨rfl, trivial⟩, rfl, trivial⟩
          · replace h := iteF h g304
            conv => whnf
            refine CutK.norm [4] [] ?_
            conv => whnf
            cases h
            exact Done.of [] [] rfl rfl ⟨⟨rfl, rfl⟩, ⟨rfl, trivial⟩, rfl, trivial⟩
      · replace h := iteN h g267
        conv => whnf
        exact ⟨_, _, [some 64000], [], ⟨rfl, h, rfl, rfl⟩, ⟨⟨rfl, rfl⟩, ⟨rfl, ⟨rfl, rfl, rows_same⟩, trivial⟩, rfl, rfl, rfl, ⟨rfl, rfl⟩, trivial⟩⟩
def laws_FnGoodsteinFalls_p9 (k : Nat) (o48 : Int) (o49 : Int) (o50 : Int) (o51 : Rw) (o52 : Rw) (o53 : Rw) (v54 : Bool) (v56 : Bool) (v61 : Bool) : Option Bool :=
  (cond v54 (cond v56 (cond v61 (if (o53.length : Int) = (o51.length : Int) then (if 0 ≤ (0 : Int) ∧ (0 : Int) < (o53.length : Int) then (row_i o53 0 fun x186 => (if x186 = o48 then (laws_FnGoodsteinFalls_l0 k o48 o49 o50 o51 o52 o53 (laws_FnGoodsteinFalls_p11 k o48 o49 o50 o53) k 0) else some false)) else none) else some false) (some false)) (cond v61 (some false) (some false))) (cond v56 (cond v61 (some false) (some false)) (cond v61 (some false) (some false))))
set_option maxHeartbeats 4000000 in
set_option maxRecDepth 100000 in
theorem laws_FnGoodsteinFalls_p9_ct {k : Nat} {o48 : Int} {o49 : Int} {o50 : Int} {o51 : Rw} {o52 : Rw} {o53 : Rw} {v54 : Bool} {v56 : Bool} {v61 : Bool} {r : Bool} (h : laws_FnGoodsteinFalls_p9 k o48 o49 o50 o51 o52 o53 v54 v56 v61 = some r) : X prog 0 (tlF f5 9) (mk 212 [(5, .d (D.int .i64 o48)), (6, .d (D.int .i64 o49)), (7, .d (D.int .i64 o50)), (8, .d (D.sl o51)), (10, .d (D.sl o52)), (12, .os 1109002 o53.length), (13, .d (D.bool v61)), (14, .d (D.bool v56)), (15, .d (D.bool v54))] [(1109002, .arr 3 true o53)]) (finK prog f5 0 (.d (D.bool r)) (⟨[], []⟩)) := by
  rw [laws_FnGoodsteinFalls_p9] at h
  cases v54
  · replace h := condF h
    cases v56
    · replace h := condF h
      cases v61
      · replace h := condF h
        conv => whnf
        cases h
        exact Done.of [] [] rfl rfl ⟨⟨rfl, rfl⟩, ⟨rfl, trivial⟩, rfl, trivial⟩
      · replace h := condT h
        conv => whnf
        cases h
        exact Done.of [] [] rfl rfl ⟨⟨rfl, rfl⟩, ⟨rfl, trivial⟩, rfl, trivial⟩
    · replace h := condT h
      cases v61
      · replace h := condF h
        conv => whnf
        cases h
        exact Done.of [] [] rfl rfl ⟨⟨rfl, rfl⟩, ⟨rfl, trivial⟩, rfl, trivial⟩
      · replace h := condT h
        conv => whnf
        cases h
        exact Done.of [] [] rfl rfl ⟨⟨rfl, rfl⟩, ⟨rfl, trivial⟩, rfl, trivial⟩
  · replace h := condT h
    cases v56
    · replace h := condF h
      cases v61
      · replace h := condF h
        conv => whnf
        cases h
        exact Done.of [] [] rfl rfl ⟨⟨rfl, rfl⟩, ⟨rfl, trivial⟩, rfl, trivial⟩
      · replace h := condT h
        conv => whnf
        cases h
        exact Done.of [] [] rfl rfl ⟨⟨rfl, rfl⟩, ⟨rfl, trivial⟩, rfl, trivial⟩
    · replace h := condT h
      cases v61
      · replace h := condF h
        conv => whnf
        cases h
        exact Done.of [] [] rfl rfl ⟨⟨rfl, rfl⟩, ⟨rfl, trivial⟩, rfl, trivial⟩
      · replace h := condT h
        conv => whnf
        refine splN (fun g184 => ?_) (fun g184 => ?_)
        · replace h := iteN h g184
          conv => whnf
          cases h
          exact Done.of [] [] rfl rfl ⟨⟨rfl, rfl⟩, ⟨rfl, trivial⟩, rfl, trivial⟩
        · replace h := iteP h g184
          conv => whnf
          obtain ⟨g185, h⟩ := req_ex h
          refine Req.of g185 ?_
          conv => whnf
          obtain ⟨g188, x186, e187, h⟩ := row_i_ex h
          refine Row.of _ e187 ?_
          conv => whnf
          refine splN (fun g189 => ?_) (fun g189 => ?_)
          · replace h := iteN h g189
            conv => whnf
            cases h
            exact Done.of [] [] rfl rfl ⟨⟨rfl, rfl⟩, ⟨rfl, trivial⟩, rfl, trivial⟩
          · replace h := iteP h g189
            conv => whnf
            refine LoopOk.into (laws_FnGoodsteinFalls_l0_ct  _ _ h) [some 1109002] [] ⟨⟨rfl, rfl⟩, ⟨rfl, ⟨rfl, rfl, rows_same⟩, trivial⟩, rfl, rfl, rfl, rfl, rfl, ⟨rfl, rfl⟩, rfl, trivial⟩ ?_ (fun _ hs => hs)
            rintro i ts os ⟨rfl, h, rfl, rfl⟩
            conv => whnf
            exact CutK.piece (laws_FnGoodsteinFalls_p11_ct  h) [some 67001] [] ⟨⟨rfl, rfl⟩, ⟨rfl, ⟨rfl, rfl, rows_same⟩, trivial⟩, rfl, rfl, rfl, ⟨rfl, rfl⟩, trivial⟩
def laws_FnGoodsteinFalls_p8 (k : Nat) (o37 : Int) (o38 : Int) (o39 : Int) (o40 : Rw) (o41 : Rw) (o42 : Rw) (v43 : Bool) : Option Bool :=
  (cond v43 ((impl_IsDescent k o40).bind fun y310 => (if y310.1 = true then (if y310.2 = true then (laws_FnGoodsteinFalls_p9 k o37 o38 o39 o40 o41 o42 true true true) else (laws_FnGoodsteinFalls_p9 k o37 o38 o39 o40 o41 o42 false true true)) else (if y310.2 = true then (laws_FnGoodsteinFalls_p9 k o37 o38 o39 o40 o41 o42 true false true) else (laws_FnGoodsteinFalls_p9 k o37 o38 o39 o40 o41 o42 false false true)))) ((impl_IsDescent k o40).bind fun y305 => (if y305.1 = true then (if y305.2 = true then (laws_FnGoodsteinFalls_p9 k o37 o38 o39 o40 o41 o42 true true false) else (laws_FnGoodsteinFalls_p9 k o37 o38 o39 o40 o41 o42 false true false)) else (if y305.2 = true then (laws_FnGoodsteinFalls_p9 k o37 o38 o39 o40 o41 o42 true false false) else (laws_FnGoodsteinFalls_p9 k o37 o38 o39 o40 o41 o42 false false false)))))
set_option maxHeartbeats 4000000 in
set_option maxRecDepth 100000 in
theorem laws_FnGoodsteinFalls_p8_ct {k : Nat} {o37 : Int} {o38 : Int} {o39 : Int} {o40 : Rw} {o41 : Rw} {o42 : Rw} {v43 : Bool} {r : Bool} (h : laws_FnGoodsteinFalls_p8 k o37 o38 o39 o40 o41 o42 v43 = some r) : X prog 0 (tlF f5 8) (mk 212 [(5, .d (D.int .i64 o37)), (6, .d (D.int .i64 o38)), (7, .d (D.int .i64 o39)), (8, .os 1104000 o40.length), (10, .os 1104001 o41.length), (12, .os 1104002 o42.length), (13, .d (D.bool v43))] [(1104000, .arr 59 true o40), (1104001, .arr 59 true o41), (1104002, .arr 3 true o42)]) (finK prog f5 0 (.d (D.bool r)) (⟨[], []⟩)) := by
  rw [laws_FnGoodsteinFalls_p8] at h
  cases v43
  · replace h := condF h
    conv => whnf
    refine Pick.no ?_
    conv => whnf
    refine Take.all (rfl) ?_
    conv => whnf
    obtain ⟨y305, e306, h⟩ := bind_ex h
    refine CallOk.of (impl_IsDescent_ct e306) ?_
    conv => whnf
    refine spl (fun g307 => ?_) (fun g307 => ?_)
    · replace h := iteT h g307
      conv => whnf
      refine spl (fun g308 => ?_) (fun g308 => ?_)
      · replace h := iteT h g308
        conv => whnf
        exact CutK.piece (laws_FnGoodsteinFalls_p9_ct  h) [some 1104002] [1104000, 1104001] ⟨⟨rfl, rfl⟩, ⟨rfl, ⟨rfl, rfl, rows_same⟩, trivial⟩, rfl, rfl, rfl, ⟨rfl, Nat.le_of_eq rfl, eq_take rfl⟩, ⟨rfl, Nat.le_of_eq rfl, eq_take rfl⟩, ⟨rfl, rfl⟩, rfl, rfl, rfl, trivial⟩
      · replace h := iteF h g308
        conv => whnf
        exact CutK.piece (laws_FnGoodsteinFalls_p9_ct  h) [some 1104002] [1104000, 1104001] ⟨⟨rfl, rfl⟩, ⟨rfl, ⟨rfl, rfl, rows_same⟩, trivial⟩, rfl, rfl, rfl, ⟨rfl, Nat.le_of_eq rfl, eq_take rfl⟩, ⟨rfl, Nat.le_of_eq rfl, eq_take rfl⟩, ⟨rfl, rfl⟩, rfl, rfl, rfl, trivial⟩
    · replace h := iteF h g307
      conv => whnf
      refine spl (fun g309 => ?_) (fun g309 => ?_)
      · replace h := iteT h g309
        conv => whnf
        exact CutK.piece (laws_FnGoodsteinFalls_p9_ct  h) [some 1104002] [1104000, 1104001] ⟨⟨rfl, rfl⟩, ⟨rfl, ⟨rfl, rfl, rows_same⟩, trivial⟩, rfl, rfl, rfl, ⟨rfl, Nat.le_of_eq rfl, eq_take rfl⟩, ⟨rfl, Nat.le_of_eq rfl, eq_take rfl⟩, ⟨rfl, rfl⟩, rfl, rfl, rfl, trivial⟩
      · replace h := iteF h g309
        conv => whnf
        exact CutK.piece (laws_FnGoodsteinFalls_p9_ct  h) [some 1104002] [1104000, 1104001] ⟨⟨rfl, rfl⟩, ⟨rfl, ⟨rfl, rfl, rows_same⟩, trivial⟩, rfl, rfl, rfl, ⟨rfl, Nat.le_of_eq rfl, eq_take rfl⟩, ⟨rfl, Nat.le_of_eq rfl, eq_take rfl⟩, ⟨rfl, rfl⟩, rfl, rfl, rfl, trivial⟩
  · replace h := condT h
    conv => whnf
    refine Pick.no ?_
    conv => whnf
    refine Take.all (rfl) ?_
    conv => whnf
    obtain ⟨y310, e311, h⟩ := bind_ex h
    refine CallOk.of (impl_IsDescent_ct e311) ?_
    conv => whnf
    refine spl (fun g312 => ?_) (fun g312 => ?_)
    · replace h := iteT h g312
      conv => whnf
      refine spl (fun g313 => ?_) (fun g313 => ?_)
      · replace h := iteT h g313
        conv => whnf
        exact CutK.piece (laws_FnGoodsteinFalls_p9_ct  h) [some 1104002] [1104000, 1104001] ⟨⟨rfl, rfl⟩, ⟨rfl, ⟨rfl, rfl, rows_same⟩, trivial⟩, rfl, rfl, rfl, ⟨rfl, Nat.le_of_eq rfl, eq_take rfl⟩, ⟨rfl, Nat.le_of_eq rfl, eq_take rfl⟩, ⟨rfl, rfl⟩, rfl, rfl, rfl, trivial⟩
      · replace h := iteF h g313
        conv => whnf
        exact CutK.piece (laws_FnGoodsteinFalls_p9_ct  h) [some 1104002] [1104000, 1104001] ⟨⟨rfl, rfl⟩, ⟨rfl, ⟨rfl, rfl, rows_same⟩, trivial⟩, rfl, rfl, rfl, ⟨rfl, Nat.le_of_eq rfl, eq_take rfl⟩, ⟨rfl, Nat.le_of_eq rfl, eq_take rfl⟩, ⟨rfl, rfl⟩, rfl, rfl, rfl, trivial⟩
    · replace h := iteF h g312
      conv => whnf
      refine spl (fun g314 => ?_) (fun g314 => ?_)
      · replace h := iteT h g314
        conv => whnf
        exact CutK.piece (laws_FnGoodsteinFalls_p9_ct  h) [some 1104002] [1104000, 1104001] ⟨⟨rfl, rfl⟩, ⟨rfl, ⟨rfl, rfl, rows_same⟩, trivial⟩, rfl, rfl, rfl, ⟨rfl, Nat.le_of_eq rfl, eq_take rfl⟩, ⟨rfl, Nat.le_of_eq rfl, eq_take rfl⟩, ⟨rfl, rfl⟩, rfl, rfl, rfl, trivial⟩
      · replace h := iteF h g314
        conv => whnf
        exact CutK.piece (laws_FnGoodsteinFalls_p9_ct  h) [some 1104002] [1104000, 1104001] ⟨⟨rfl, rfl⟩, ⟨rfl, ⟨rfl, rfl, rows_same⟩, trivial⟩, rfl, rfl, rfl, ⟨rfl, Nat.le_of_eq rfl, eq_take rfl⟩, ⟨rfl, Nat.le_of_eq rfl, eq_take rfl⟩, ⟨rfl, rfl⟩, rfl, rfl, rfl, trivial⟩
def laws_FnGoodsteinFalls_p5 (k : Nat) (o22 : Int) (o23 : Int) (o24 : Int) (o25 : Rw) (o26 : Rw) (v27 : Bool) (v31 : Bool) : Option Bool :=
  (cond v27 (cond v31 (if (o25.length : Int) = (o26.length : Int) then ((impl_GoodsteinRun k o22 o23 o24).bind fun y317 => (if y317.2 = true then (laws_FnGoodsteinFalls_p8 k o22 o23 o24 o25 o26 y317.1 true) else (laws_FnGoodsteinFalls_p8 k o22 o23 o24 o25 o26 y317.1 false))) else some false) (some false)) (cond v31 (some false) (if (o25.length : Int) = (o26.length : Int) then some true else some false)))
set_option maxHeartbeats 4000000 in
set_option maxRecDepth 100000 in
theorem laws_FnGoodsteinFalls_p5_ct {k : Nat} {o22 : Int} {o23 : Int} {o24 : Int} {o25 : Rw} {o26 : Rw} {v27 : Bool} {v31 : Bool} {r : Bool} (h : laws_FnGoodsteinFalls_p5 k o22 o23 o24 o25 o26 v27 v31 = some r) : X prog 0 (tlF f5 5) (mk 212 [(5, .d (D.int .i64 o22)), (6, .d (D.int .i64 o23)), (7, .d (D.int .i64 o24)), (8, .os 1089000 o25.length), (9, .d (D.bool v31)), (10, .os 1089001 o26.length), (11, .d (D.bool v27))] [(1089000, .arr 59 true o25), (1089001, .arr 59 true o26)]) (finK prog f5 0 (.d (D.bool r)) (⟨[], []⟩)) := by
  rw [laws_FnGoodsteinFalls_p5] at h
  cases v27
  · replace h := condF h
    cases v31
    · replace h := condF h
      conv => whnf
      refine splF ?_
      conv => whnf
      refine splN (fun g315 => ?_) (fun g315 => ?_)
      · replace h := iteN h g315
        conv => whnf
        cases h
        exact Done.of [] [] rfl rfl ⟨⟨rfl, rfl⟩, ⟨rfl, trivial⟩, rfl, trivial⟩
      · replace h := iteP h g315
        conv => whnf
        cases h
        exact Done.of [] [] rfl rfl ⟨⟨rfl, rfl⟩, ⟨rfl, trivial⟩, rfl, trivial⟩
    · replace h := condT h
      conv => whnf
      refine splT ?_
      conv => whnf
      cases h
      exact Done.of [] [] rfl rfl ⟨⟨rfl, rfl⟩, ⟨rfl, trivial⟩, rfl, trivial⟩
  · replace h := condT h
    cases v31
    · replace h := condF h
      conv => whnf
      refine splT ?_
      conv => whnf
      cases h
      exact Done.of [] [] rfl rfl ⟨⟨rfl, rfl⟩, ⟨rfl, trivial⟩, rfl, trivial⟩
    · replace h := condT h
      conv => whnf
      refine splF ?_
      conv => whnf
      refine splN (fun g316 => ?_) (fun g316 => ?_)
      · replace h := iteN h g316
        conv => whnf
        cases h
        exact Done.of [] [] rfl rfl ⟨⟨rfl, rfl⟩, ⟨rfl, trivial⟩, rfl, trivial⟩
      · replace h := iteP h g316
        conv => whnf
        refine Pick.no ?_
        conv => whnf
        obtain ⟨y317, e318, h⟩ := bind_ex h
        refine CallOk.of (impl_GoodsteinRun_ct e318) ?_
        conv => whnf
        refine spl (fun g319 => ?_) (fun g319 => ?_)
        · replace h := iteT h g319
          conv => whnf
          exact CutK.piece (laws_FnGoodsteinFalls_p8_ct  h) [some 1089000, some 1089001, some 4032] [] ⟨⟨rfl, rfl⟩, ⟨rfl, ⟨rfl, rfl, rows_same⟩, ⟨rfl, rfl, rows_same⟩, ⟨rfl, rfl, rows_same⟩, trivial⟩, rfl, rfl, rfl, ⟨rfl, rfl⟩, ⟨rfl, rfl⟩, ⟨rfl, rfl⟩, rfl, trivial⟩
        · replace h := iteF h g319
          conv => whnf
          exact CutK.piece (laws_FnGoodsteinFalls_p8_ct  h) [some 1089000, some 1089001, some 4032] [] ⟨⟨rfl, rfl⟩, ⟨rfl, ⟨rfl, rfl, rows_same⟩, ⟨rfl, rfl, rows_same⟩, ⟨rfl, rfl, rows_same⟩, trivial⟩, rfl, rfl, rfl, ⟨rfl, rfl⟩, ⟨rfl, rfl⟩, ⟨rfl, rfl⟩, rfl, trivial⟩
def laws_FnGoodsteinFalls_p4 (k : Nat) (o14 : Int) (o15 : Int) (o16 : Int) (o17 : Rw) (v18 : Bool) : Option Bool :=
  (cond v18 ((spec_DescentOf k o14 o15 o16).bind fun y323 => (if y323.2 = true then (laws_FnGoodsteinFalls_p5 k o14 o15 o16 o17 y323.1 true true) else (laws_FnGoodsteinFalls_p5 k o14 o15 o16 o17 y323.1 false true))) ((spec_DescentOf k o14 o15 o16).bind fun y320 => (if y320.2 = true then (laws_FnGoodsteinFalls_p5 k o14 o15 o16 o17 y320.1 true false) else (laws_FnGoodsteinFalls_p5 k o14 o15 o16 o17 y320.1 false false))))
set_option maxHeartbeats 4000000 in
set_option maxRecDepth 100000 in
theorem laws_FnGoodsteinFalls_p4_ct {k : Nat} {o14 : Int} {o15 : Int} {o16 : Int} {o17 : Rw} {v18 : Bool} {r : Bool} (h : laws_FnGoodsteinFalls_p4 k o14 o15 o16 o17 v18 = some r) : X prog 0 (tlF f5 4) (mk 212 [(5, .d (D.int .i64 o14)), (6, .d (D.int .i64 o15)), (7, .d (D.int .i64 o16)), (8, .os 1084000 o17.length), (9, .d (D.bool v18))] [(1084000, .arr 59 true o17)]) (finK prog f5 0 (.d (D.bool r)) (⟨[], []⟩)) := by
  rw [laws_FnGoodsteinFalls_p4] at h
  cases v18
  · replace h := condF h
    conv => whnf
    refine Pick.no ?_
    conv => whnf
    obtain ⟨y320, e321, h⟩ := bind_ex h
    refine CallOk.of (spec_DescentOf_ct e321) ?_
    conv => whnf
    refine spl (fun g322 => ?_) (fun g322 => ?_)
    · replace h := iteT h g322
      conv => whnf
      exact CutK.piece (laws_FnGoodsteinFalls_p5_ct  h) [some 1084000, some 2816] [] ⟨⟨rfl, rfl⟩, ⟨rfl, ⟨rfl, rfl, rows_same⟩, ⟨rfl, rfl, rows_same⟩, trivial⟩, rfl, rfl, rfl, ⟨rfl, rfl⟩, rfl, ⟨rfl, rfl⟩, rfl, trivial⟩
    · replace h := iteF h g322
      conv => whnf
      exact CutK.piece (laws_FnGoodsteinFalls_p5_ct  h) [some 1084000, some 2816] [] ⟨⟨rfl, rfl⟩, ⟨rfl, ⟨rfl, rfl, rows_same⟩, ⟨rfl, rfl, rows_same⟩, trivial⟩, rfl, rfl, rfl, ⟨rfl, rfl⟩, rfl, ⟨rfl, rfl⟩, rfl, trivial⟩
  · replace h := condT h
    conv => whnf
    refine Pick.no ?_
    conv => whnf
    obtain ⟨y323, e324, h⟩ := bind_ex h
    refine CallOk.of (spec_DescentOf_ct e324) ?_
    conv => whnf
    refine spl (fun g325 => ?_) (fun g325 => ?_)
    · replace h := iteT h g325
      conv => whnf
      exact CutK.piece (laws_FnGoodsteinFalls_p5_ct  h) [some 1084000, some 2816] [] ⟨⟨rfl, rfl⟩, ⟨rfl, ⟨rfl, rfl, rows_same⟩, ⟨rfl, rfl, rows_same⟩, trivial⟩, rfl, rfl, rfl, ⟨rfl, rfl⟩, rfl, ⟨rfl, rfl⟩, rfl, trivial⟩
    · replace h := iteF h g325
      conv => whnf
      exact CutK.piece (laws_FnGoodsteinFalls_p5_ct  h) [some 1084000, some 2816] [] ⟨⟨rfl, rfl⟩, ⟨rfl, ⟨rfl, rfl, rows_same⟩, ⟨rfl, rfl, rows_same⟩, trivial⟩, rfl, rfl, rfl, ⟨rfl, rfl⟩, rfl, ⟨rfl, rfl⟩, rfl, trivial⟩
def laws_FnGoodsteinFalls_p3 (k : Nat) (o8 : Int) (o9 : Int) (o10 : Int) : Option Bool :=
  ((impl_DescentOf k o8 o9 o10).bind fun y326 => (if y326.2 = true then (laws_FnGoodsteinFalls_p4 k o8 o9 o10 y326.1 true) else (laws_FnGoodsteinFalls_p4 k o8 o9 o10 y326.1 false)))
set_option maxHeartbeats 4000000 in
set_option maxRecDepth 100000 in
theorem laws_FnGoodsteinFalls_p3_ct {k : Nat} {o8 : Int} {o9 : Int} {o10 : Int} {r : Bool} (h : laws_FnGoodsteinFalls_p3 k o8 o9 o10 = some r) : X prog 0 (tlF f5 3) (mk 212 [(5, .d (D.int .i64 o8)), (6, .d (D.int .i64 o9)), (7, .d (D.int .i64 o10))] []) (finK prog f5 0 (.d (D.bool r)) (⟨[], []⟩)) := by
  rw [laws_FnGoodsteinFalls_p3] at h
  conv => whnf
  refine Pick.no ?_
  conv => whnf
  obtain ⟨y326, e327, h⟩ := bind_ex h
  refine CallOk.of (impl_DescentOf_ct e327) ?_
  conv => whnf
  refine spl (fun g328 => ?_) (fun g328 => ?_)
  · replace h := iteT h g328
    conv => whnf
    exact CutK.piece (laws_FnGoodsteinFalls_p4_ct  h) [some 2368] [] ⟨⟨rfl, rfl⟩, ⟨rfl, ⟨rfl, rfl, rows_same⟩, trivial⟩, rfl, rfl, rfl, ⟨rfl, rfl⟩, rfl, trivial⟩
  · replace h := iteF h g328
    conv => whnf
    exact CutK.piece (laws_FnGoodsteinFalls_p4_ct  h) [some 2368] [] ⟨⟨rfl, rfl⟩, ⟨rfl, ⟨rfl, rfl, rows_same⟩, trivial⟩, rfl, rfl, rfl, ⟨rfl, rfl⟩, rfl, trivial⟩
def laws_FnGoodsteinFalls_p2 (k : Nat) (a1 : Rw) : Option Bool :=
  ((spec_DrawDescentOf a1).bind fun y329 => (laws_FnGoodsteinFalls_p3 k y329.1 y329.2.1 y329.2.2))
set_option maxHeartbeats 4000000 in
set_option maxRecDepth 100000 in
theorem laws_FnGoodsteinFalls_p2_ct {k : Nat} {a1 : Rw} {r : Bool} (h : laws_FnGoodsteinFalls_p2 k a1 = some r) : X prog 0 (tlF f5 2) (mk 212 [(0, .d (D.sl a1))] []) (finK prog f5 0 (.d (D.bool r)) (⟨[], []⟩)) := by
  rw [laws_FnGoodsteinFalls_p2] at h
  conv => whnf
  refine Pick.no ?_
  conv => whnf
  obtain ⟨y329, e330, h⟩ := bind_ex h
  refine CallOk.of (spec_DrawDescentOf_ct e330) ?_
  conv => whnf
  exact CutK.piece (laws_FnGoodsteinFalls_p3_ct  h) [] [] ⟨⟨rfl, rfl⟩, ⟨rfl, trivial⟩, rfl, rfl, rfl, trivial⟩
def laws_FnGoodsteinFalls (k : Nat) (a1 : Rw) (a2 : Rw) : Option Bool :=
  ((laws_big a1 a2).bind fun y331 => (if y331 = true then some true else (laws_FnGoodsteinFalls_p2 k a1)))
set_option maxHeartbeats 4000000 in
set_option maxRecDepth 100000 in
theorem laws_FnGoodsteinFalls_ct {k : Nat} {a1 : Rw} {a2 : Rw} {r : Bool} (h : laws_FnGoodsteinFalls k a1 a2 = some r) : Ct prog 5 [.d (D.sl a1), .d (D.sl a2)] (⟨[], []⟩) (.d (D.bool r)) (⟨[], []⟩) := by
  rw [laws_FnGoodsteinFalls] at h
  refine Ct.of (c := _) mixed func5 ⟨rfl, rfl, rfl⟩ ?_ rfl
  conv => whnf
  refine Pick.no ?_
  conv => whnf
  obtain ⟨y331, e332, h⟩ := bind_ex h
  refine CallOk.of (laws_big_ct e332) ?_
  conv => whnf
  refine spl (fun g333 => ?_) (fun g333 => ?_)
  · replace h := iteT h g333
    conv => whnf
    refine CutK.norm [0, 26] [] ?_
    conv => whnf
    cases h
    exact Done.of [] [] rfl rfl ⟨⟨rfl, rfl⟩, ⟨rfl, trivial⟩, rfl, trivial⟩
  · replace h := iteF h g333
    conv => whnf
    refine CutK.norm [0, 26] [] ?_
    conv => whnf
    exact CutK.piece (laws_FnGoodsteinFalls_p2_ct  h) [] [] ⟨⟨rfl, rfl⟩, ⟨rfl, trivial⟩, rfl, trivial⟩
end
end Go.Proofs.Try
