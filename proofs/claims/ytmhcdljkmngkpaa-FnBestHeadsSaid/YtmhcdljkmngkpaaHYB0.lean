/- Printed by program (axgen): pure functions, and that the Go functions compute them. -/
import Derived.Test.YtmhcdljkmngkpaaProg
import Derived.Test.YtmhcdljkmngkpaaAxC
import Derived.KernelRfl
import Derived.Test.YtmhcdljkmngkpaaHyd
set_option linter.unusedVariables false
set_option linter.unusedSimpArgs false
namespace Go.Proofs.Try
open Go Go.AX
theorem mixed : prog.follows .mixedOrders = true := by kernel_rfl
def cell_i {α : Type} (cs : List D) (K : Int → Option α) : Option α := match cs with | [.int .i64 a0] => K a0 | _ => none
def row_i {α : Type} (es : Rw) (i : Int) (K : Int → Option α) : Option α := if 0 ≤ i then (match es[i.toNat]? with | some cs => cell_i cs K | none => none) else none
theorem cell_i_ex {α : Type} {cs : List D} {K : Int → Option α} {r : α} (h : cell_i cs K = some r) : ∃ a0, cs = [.int .i64 a0] ∧ K a0 = some r := by
  unfold cell_i at h
  split at h
  · exact ⟨_, rfl, h⟩
  · cases h
theorem row_i_ex {α : Type} {es : Rw} {i : Int} {K : Int → Option α} {r : α} (h : row_i es i K = some r) : 0 ≤ i ∧ ∃ a0, es[i.toNat]? = some [.int .i64 a0] ∧ K a0 = some r := by
  unfold row_i at h
  obtain ⟨g, h⟩ := req_ex h
  split at h
  · rename_i cs e
    obtain ⟨a0, rfl, h⟩ := cell_i_ex h
    exact ⟨g, a0, e, h⟩
  · cases h
def cell_is {α : Type} (cs : List D) (K : Int → Rw → Option α) : Option α := match cs with | [.int .i64 a0, .sl a1] => K a0 a1 | _ => none
def row_is {α : Type} (es : Rw) (i : Int) (K : Int → Rw → Option α) : Option α := if 0 ≤ i then (match es[i.toNat]? with | some cs => cell_is cs K | none => none) else none
theorem cell_is_ex {α : Type} {cs : List D} {K : Int → Rw → Option α} {r : α} (h : cell_is cs K = some r) : ∃ a0 a1, cs = [.int .i64 a0, .sl a1] ∧ K a0 a1 = some r := by
  unfold cell_is at h
  split at h
  · exact ⟨_, _, rfl, h⟩
  · cases h
theorem row_is_ex {α : Type} {es : Rw} {i : Int} {K : Int → Rw → Option α} {r : α} (h : row_is es i K = some r) : 0 ≤ i ∧ ∃ a0 a1, es[i.toNat]? = some [.int .i64 a0, .sl a1] ∧ K a0 a1 = some r := by
  unfold row_is at h
  obtain ⟨g, h⟩ := req_ex h
  split at h
  · rename_i cs e
    obtain ⟨a0, a1, rfl, h⟩ := cell_is_ex h
    exact ⟨g, a0, a1, e, h⟩
  · cases h
def cell_iu8 {α : Type} (cs : List D) (K : Int → Option α) : Option α := match cs with | [.int .u8 a0] => K a0 | _ => none
def row_iu8 {α : Type} (es : Rw) (i : Int) (K : Int → Option α) : Option α := if 0 ≤ i then (match es[i.toNat]? with | some cs => cell_iu8 cs K | none => none) else none
theorem cell_iu8_ex {α : Type} {cs : List D} {K : Int → Option α} {r : α} (h : cell_iu8 cs K = some r) : ∃ a0, cs = [.int .u8 a0] ∧ K a0 = some r := by
  unfold cell_iu8 at h
  split at h
  · exact ⟨_, rfl, h⟩
  · cases h
theorem row_iu8_ex {α : Type} {es : Rw} {i : Int} {K : Int → Option α} {r : α} (h : row_iu8 es i K = some r) : 0 ≤ i ∧ ∃ a0, es[i.toNat]? = some [.int .u8 a0] ∧ K a0 = some r := by
  unfold row_iu8 at h
  obtain ⟨g, h⟩ := req_ex h
  split at h
  · rename_i cs e
    obtain ⟨a0, rfl, h⟩ := cell_iu8_ex h
    exact ⟨g, a0, e, h⟩
  · cases h
def cell_p {α : Type} (cs : List D) (K : Cs → Option α) : Option α := match cs with | [.pt a0] => K a0 | _ => none
def row_p {α : Type} (es : Rw) (i : Int) (K : Cs → Option α) : Option α := if 0 ≤ i then (match es[i.toNat]? with | some cs => cell_p cs K | none => none) else none
theorem cell_p_ex {α : Type} {cs : List D} {K : Cs → Option α} {r : α} (h : cell_p cs K = some r) : ∃ a0, cs = [.pt a0] ∧ K a0 = some r := by
  unfold cell_p at h
  split at h
  · exact ⟨_, rfl, h⟩
  · cases h
theorem row_p_ex {α : Type} {es : Rw} {i : Int} {K : Cs → Option α} {r : α} (h : row_p es i K = some r) : 0 ≤ i ∧ ∃ a0, es[i.toNat]? = some [.pt a0] ∧ K a0 = some r := by
  unfold row_p at h
  obtain ⟨g, h⟩ := req_ex h
  split at h
  · rename_i cs e
    obtain ⟨a0, rfl, h⟩ := cell_p_ex h
    exact ⟨g, a0, e, h⟩
  · cases h
def cell_si {α : Type} (cs : List D) (K : Rw → Int → Option α) : Option α := match cs with | [.sl a0, .int .i64 a1] => K a0 a1 | _ => none
def row_si {α : Type} (es : Rw) (i : Int) (K : Rw → Int → Option α) : Option α := if 0 ≤ i then (match es[i.toNat]? with | some cs => cell_si cs K | none => none) else none
theorem cell_si_ex {α : Type} {cs : List D} {K : Rw → Int → Option α} {r : α} (h : cell_si cs K = some r) : ∃ a0 a1, cs = [.sl a0, .int .i64 a1] ∧ K a0 a1 = some r := by
  unfold cell_si at h
  split at h
  · exact ⟨_, _, rfl, h⟩
  · cases h
theorem row_si_ex {α : Type} {es : Rw} {i : Int} {K : Rw → Int → Option α} {r : α} (h : row_si es i K = some r) : 0 ≤ i ∧ ∃ a0 a1, es[i.toNat]? = some [.sl a0, .int .i64 a1] ∧ K a0 a1 = some r := by
  unfold row_si at h
  obtain ⟨g, h⟩ := req_ex h
  split at h
  · rename_i cs e
    obtain ⟨a0, a1, rfl, h⟩ := cell_si_ex h
    exact ⟨g, a0, a1, e, h⟩
  · cases h
noncomputable section
def impl_in  (a1 : Int) (a2 : Int) (a3 : Int) : Option Bool :=
  (if a2 ≤ a1 then (if a1 ≤ a3 then some true else some false) else some false)
set_option maxHeartbeats 4000000 in
set_option maxRecDepth 100000 in
theorem impl_in_ct  {a1 : Int} {a2 : Int} {a3 : Int} {r : Bool} (h : impl_in a1 a2 a3 = some r) : Ct prog 59 [.d (D.int .i64 a1), .d (D.int .i64 a2), .d (D.int .i64 a3)] (⟨[], []⟩) (.d (D.bool r)) (⟨[], []⟩) := by
  rw [impl_in] at h
  refine Ct.of (c := _) mixed func59 ⟨rfl, rfl, rfl⟩ ?_ rfl
  conv => whnf
  refine splD (fun g4 => ?_) (fun g4 => ?_)
  · replace h := iteP h g4
    conv => whnf
    refine splD (fun g5 => ?_) (fun g5 => ?_)
    · replace h := iteP h g5
      conv => whnf
      cases h
      exact Done.of [] [] rfl rfl ⟨⟨rfl, rfl⟩, ⟨rfl, trivial⟩, rfl, trivial⟩
    · replace h := iteN h g5
      conv => whnf
      cases h
      exact Done.of [] [] rfl rfl ⟨⟨rfl, rfl⟩, ⟨rfl, trivial⟩, rfl, trivial⟩
  · replace h := iteN h g4
    conv => whnf
    cases h
    exact Done.of [] [] rfl rfl ⟨⟨rfl, rfl⟩, ⟨rfl, trivial⟩, rfl, trivial⟩

def slices_Index_l0 (a1 : Rw) (a2 : Int) (K0 : Option Int) : Rw → Nat → Option Int
  | [], v8n => (K0)
  | cs :: rest, v8n => (cell_i cs fun x14 => (if a2 = x14 then some (v8n : Int) else (slices_Index_l0 a1 a2 K0 rest (v8n + 1))))
set_option maxHeartbeats 4000000 in
set_option maxRecDepth 100000 in
theorem slices_Index_l0_ct {a1 : Rw} {a2 : Int} {K0 : Option Int} {r : Int} (hx : a1.length ≤ cap) : ∀ (rest : Rw) (v8n : Nat), a1.drop v8n = rest → slices_Index_l0 a1 a2 K0 rest v8n = some r → LoopOk prog 0 (lp f66 0) (mk 19 [(0, .d (D.sl a1)), (1, .d (D.int .i64 a2)), (7, .d (D.int .i64 (a1.length : Int))), (8, .d (D.int .i64 (v8n : Int)))] []) (LoopEnd prog f66 0 19 (.d (D.int .i64 r)) (⟨[], []⟩) (fun i ts os => (i = 0 ∧ K0 = some r ∧ ts = [] ∧ os = [])))
  | [], v8n, hd, h => by
      rw [slices_Index_l0] at h
      have hn := drop_nil hd
      refine LoopOk.step ?_
      conv => whnf
      refine splD (fun g => absurd g hn) (fun _ => ?_)
      conv => whnf
      exact ⟨_, _, [], [], ⟨rfl, h, rfl, rfl⟩, ⟨⟨rfl, rfl⟩, ⟨rfl, trivial⟩, trivial⟩⟩
  | cs :: rest, v8n, hd, h => by
      rw [slices_Index_l0] at h
      obtain ⟨hrow, hd1, hlt⟩ := drop_cons hd
      refine LoopOk.step ?_
      conv => whnf
      refine splD (fun _ => ?_) (fun g => absurd hlt g)
      conv => whnf
      obtain ⟨x14, e15, h⟩ := cell_i_ex h
      rw [e15] at hrow
      refine Req.of (Int.natCast_nonneg _) ?_
      refine Row.of _ hrow ?_
      conv => whnf
      refine splD (fun g16 => ?_) (fun g16 => ?_)
      · replace h := iteP h g16
        conv => whnf
        cases h
        exact Done.of [] [] rfl rfl ⟨⟨rfl, rfl⟩, ⟨rfl, trivial⟩, rfl, trivial⟩
      · replace h := iteN h g16
        conv => whnf
        exact LoopOk.back (slices_Index_l0_ct hx rest (v8n + 1)  hd1 h) [] [] ⟨⟨rfl, rfl⟩, ⟨rfl, trivial⟩, rfl, rfl, rfl, i64eq (wrap_up hlt hx), trivial⟩
def slices_Index  (a1 : Rw) (a2 : Int) : Option Int :=
  (if a1.length ≤ cap then (slices_Index_l0 a1 a2 (some (-1)) a1 0) else none)
set_option maxHeartbeats 4000000 in
set_option maxRecDepth 100000 in
theorem slices_Index_ct  {a1 : Rw} {a2 : Int} {r : Int} (h : slices_Index a1 a2 = some r) : Ct prog 66 [.d (D.sl a1), .d (D.int .i64 a2)] (⟨[], []⟩) (.d (D.int .i64 r)) (⟨[], []⟩) := by
  rw [slices_Index] at h
  refine Ct.of (c := _) mixed func66 ⟨rfl, rfl, rfl⟩ ?_ rfl
  conv => whnf
  obtain ⟨g17, h⟩ := req_ex h
  refine LoopOk.into (slices_Index_l0_ct  g17 _ _  rfl h) [] [] ⟨⟨rfl, rfl⟩, ⟨rfl, trivial⟩, rfl, rfl, rfl, rfl, trivial⟩ ?_ (fun _ hs => hs)
  rintro i ts os ⟨rfl, h, rfl, rfl⟩
  conv => whnf
  refine CutK.go ?_
  conv => whnf
  cases h
  exact Done.of [] [] rfl rfl ⟨⟨rfl, rfl⟩, ⟨rfl, trivial⟩, rfl, trivial⟩

def impl_IsHydra_l0 (a1 : Rw) (K0 : Option Bool) : Nat → Rw → Int → Option Bool
  | 0, _, _ => none
  | n + 1, v19, v20 => (if v20 < (a1.length : Int) then (row_i a1 v20 fun x32 => ((slices_Index v19 x32).bind fun y35 => (if y35 < (0 : Int) then some false else (if 0 ≤ (IntKind.i64.wrap (y35 + 1)) ∧ (IntKind.i64.wrap (y35 + 1)) ≤ (v19.length : Int) then (if (IntKind.i64.wrap (y35 + 1) : Int).toNat ≤ v19.length then (if (v19.take ((IntKind.i64.wrap (y35 + 1) : Int).toNat)).length + 1 ≤ cap then (impl_IsHydra_l0 a1 K0 n ((v19.take ((IntKind.i64.wrap (y35 + 1) : Int).toNat)) ++ ([[D.int .i64 v20]])) (IntKind.i64.wrap (v20 + 1))) else none) else none) else none)))) else (K0))
set_option maxHeartbeats 4000000 in
set_option maxRecDepth 100000 in
theorem impl_IsHydra_l0_ct {a1 : Rw} {K0 : Option Bool} {r : Bool} : ∀ (n : Nat) (v19 : Rw) (v20 : Int), impl_IsHydra_l0 a1 K0 n v19 v20 = some r → LoopOk prog 0 (lp f25 0) (mk 42 [(1, .ptr 64 0), (3, .os 64000 v19.length), (4, .d (D.int .i64 v20))] [(64, .box 31 [.d (D.sl a1)]), (64000, .arr 3 true v19)]) (LoopEnd prog f25 0 42 (.d (D.bool r)) (⟨[], []⟩) (fun i ts os => (i = 0 ∧ K0 = some r ∧ ts = [] ∧ os = [])))
  | 0, _, _, h => by
      rw [impl_IsHydra_l0] at h; cases h
  | n + 1, v19, v20, h => by
      rw [impl_IsHydra_l0] at h
      refine LoopOk.step ?_
      conv => whnf
      refine splD (fun g31 => ?_) (fun g31 => ?_)
      · replace h := iteP h g31
        conv => whnf
        obtain ⟨g34, x32, e33, h⟩ := row_i_ex h
        refine Req.of g34 ?_
        refine Row.of _ e33 ?_
        conv => whnf
        refine Choice.old ?_
        conv => whnf
        refine Pick.no ?_
        conv => whnf
        refine Take.all (rfl) ?_
        conv => whnf
        obtain ⟨y35, e36, h⟩ := bind_ex h
        refine CallOk.of (slices_Index_ct e36) ?_
        conv => whnf
        refine CutK.norm [1, 3, 4, 5] [64, 64000] ?_
        conv => whnf
        refine splD (fun g37 => ?_) (fun g37 => ?_)
        · replace h := iteP h g37
          conv => whnf
          cases h
          exact Done.of [] [] rfl rfl ⟨⟨rfl, rfl⟩, ⟨rfl, trivial⟩, rfl, trivial⟩
        · replace h := iteN h g37
          conv => whnf
          obtain ⟨g38, h⟩ := req_ex h
          refine Req.of (⟨rfl, g38⟩) ?_
          conv => whnf
          obtain ⟨g39, h⟩ := req_ex h
          refine Take.of _ g39 rfl ?_
          conv => whnf
          refine Take.all (by first | rfl | exact List.length_append.symm | (simp; done) | omega | (dsimp only; omega)) ?_
          conv => whnf
          obtain ⟨g40, h⟩ := req_ex h
          refine Req.of (room (b := 8) (by decide) g40 (wide1 rfl wide0)) ?_
          conv => whnf
          refine CutK.norm [1, 3, 4] [64, 2624] ?_
          conv => whnf
          exact LoopOk.back (impl_IsHydra_l0_ct  n _ _ h) [some 64, some 2624] [] ⟨⟨rfl, rfl⟩, ⟨rfl, ⟨rfl, rfl, trivial⟩, ⟨rfl, rfl, rows_same⟩, trivial⟩, ⟨rfl, rfl⟩, ⟨(by first | rfl | exact List.length_append.symm | (simp; done) | omega | (dsimp only; omega)), rfl⟩, rfl, trivial⟩
      · replace h := iteN h g31
        conv => whnf
        exact ⟨_, _, [], [], ⟨rfl, h, rfl, rfl⟩, ⟨⟨rfl, rfl⟩, ⟨rfl, trivial⟩, trivial⟩⟩
def impl_IsHydra (k : Nat) (a1 : Rw) : Option Bool :=
  ((impl_in (a1.length : Int) 1 40).bind fun y2 => (if y2 = true then (row_i a1 0 fun x5 => (if x5 = ((-1) : Int) then (impl_IsHydra_l0 a1 (some true) k ([[D.int .i64 0]] : Rw) 1) else some false)) else some false))
set_option maxHeartbeats 4000000 in
set_option maxRecDepth 100000 in
theorem impl_IsHydra_ct {k : Nat} {a1 : Rw} {r : Bool} (h : impl_IsHydra k a1 = some r) : Ct prog 25 [.agg [.d (D.sl a1)]] (⟨[], []⟩) (.d (D.bool r)) (⟨[], []⟩) := by
  rw [impl_IsHydra] at h
  refine Ct.of (c := _) mixed func25 ⟨rfl, rfl, rfl⟩ ?_ rfl
  conv => whnf
  refine Pick.no ?_
  conv => whnf
  obtain ⟨y2, e3, h⟩ := bind_ex h
  refine CallOk.of (impl_in_ct e3) ?_
  conv => whnf
  refine spl (fun g4 => ?_) (fun g4 => ?_)
  · replace h := iteT h g4
    conv => whnf
    obtain ⟨g7, x5, e6, h⟩ := row_i_ex h
    refine Req.of g7 ?_
    refine Row.of _ e6 ?_
    conv => whnf
    refine splN (fun g8 => ?_) (fun g8 => ?_)
    · replace h := iteN h g8
      conv => whnf
      refine CutK.norm [1, 17] [64] ?_
      conv => whnf
      cases h
      exact Done.of [] [] rfl rfl ⟨⟨rfl, rfl⟩, ⟨rfl, trivial⟩, rfl, trivial⟩
    · replace h := iteP h g8
      conv => whnf
      refine CutK.norm [1, 17] [64] ?_
      conv => whnf
      refine CutK.norm [1] [64] ?_
      conv => whnf
      refine LoopOk.into (impl_IsHydra_l0_ct  _ _ _ h) [some 64, some 1152] [] ⟨⟨rfl, rfl⟩, ⟨rfl, ⟨rfl, rfl, trivial⟩, ⟨rfl, rfl, rows_same⟩, trivial⟩, ⟨rfl, rfl⟩, ⟨(by first | rfl | exact List.length_append.symm | (simp; done) | omega | (dsimp only; omega)), rfl⟩, rfl, trivial⟩ ?_ (fun _ hs => hs)
      rintro i ts os ⟨rfl, h, rfl, rfl⟩
      conv => whnf
      refine CutK.norm [] [] ?_
      conv => whnf
      cases h
      exact Done.of [] [] rfl rfl ⟨⟨rfl, rfl⟩, ⟨rfl, trivial⟩, rfl, trivial⟩
  · replace h := iteF h g4
    conv => whnf
    refine CutK.norm [1, 17] [64] ?_
    conv => whnf
    cases h
    exact Done.of [] [] rfl rfl ⟨⟨rfl, rfl⟩, ⟨rfl, trivial⟩, rfl, trivial⟩

def slices_Contains  (a1 : Rw) (a2 : Int) : Option Bool :=
  ((slices_Index a1 a2).bind fun y3 => (if (0 : Int) ≤ y3 then some true else some false))
set_option maxHeartbeats 4000000 in
set_option maxRecDepth 100000 in
theorem slices_Contains_ct  {a1 : Rw} {a2 : Int} {r : Bool} (h : slices_Contains a1 a2 = some r) : Ct prog 60 [.d (D.sl a1), .d (D.int .i64 a2)] (⟨[], []⟩) (.d (D.bool r)) (⟨[], []⟩) := by
  rw [slices_Contains] at h
  refine Ct.of (c := _) mixed func60 ⟨rfl, rfl, rfl⟩ ?_ rfl
  conv => whnf
  refine Pick.no ?_
  conv => whnf
  obtain ⟨y3, e4, h⟩ := bind_ex h
  refine CallOk.of (slices_Index_ct e4) ?_
  conv => whnf
  refine splD (fun g5 => ?_) (fun g5 => ?_)
  · replace h := iteP h g5
    conv => whnf
    refine CutK.go ?_
    conv => whnf
    cases h
    exact Done.of [] [] rfl rfl ⟨⟨rfl, rfl⟩, ⟨rfl, trivial⟩, rfl, trivial⟩
  · replace h := iteN h g5
    conv => whnf
    refine CutK.go ?_
    conv => whnf
    cases h
    exact Done.of [] [] rfl rfl ⟨⟨rfl, rfl⟩, ⟨rfl, trivial⟩, rfl, trivial⟩

def impl_heads_l0 (a1 : Rw) (K0 : Rw → Option Rw) : Nat → Int → Rw → Option Rw
  | 0, _, _ => none
  | n + 1, v6, v7 => (if v6 < (a1.length : Int) then ((slices_Contains a1 v6).bind fun y20 => (if y20 = true then (impl_heads_l0 a1 K0 n (IntKind.i64.wrap (v6 + 1)) v7) else (if v7.length + 1 ≤ cap then (impl_heads_l0 a1 K0 n (IntKind.i64.wrap (v6 + 1)) (v7 ++ ([[D.int .i64 v6]]))) else none))) else (K0 v7))
set_option maxHeartbeats 4000000 in
set_option maxRecDepth 100000 in
theorem impl_heads_l0_ct {a1 : Rw} {K0 : Rw → Option Rw} {r : Rw} : ∀ (n : Nat) (v6 : Int) (v7 : Rw), impl_heads_l0 a1 K0 n v6 v7 = some r → LoopOk prog 0 (lp f61 0) (mk 23 [(1, .ptr 64 0), (3, .os 64000 v7.length), (4, .d (D.int .i64 v6))] [(64, .box 31 [.d (D.sl a1)]), (64000, .arr 3 true v7)]) (LoopEnd prog f61 0 23 (.os 8 r.length) (⟨[], [(3, true, r)]⟩) (fun i ts os => (i = 0 ∧ ∃ v13 : Rw, K0 v13 = some r ∧ ts = [(3, .os 67001 v13.length)] ∧ os = [(67001, .arr 3 true v13)])))
  | 0, _, _, h => by
      rw [impl_heads_l0] at h; cases h
  | n + 1, v6, v7, h => by
      rw [impl_heads_l0] at h
      refine LoopOk.step ?_
      conv => whnf
      refine splD (fun g19 => ?_) (fun g19 => ?_)
      · replace h := iteP h g19
        conv => whnf
        refine Pick.no ?_
        conv => whnf
        obtain ⟨y20, e21, h⟩ := bind_ex h
        refine CallOk.of (slices_Contains_ct e21) ?_
        conv => whnf
        refine spl (fun g22 => ?_) (fun g22 => ?_)
        · replace h := iteT h g22
          conv => whnf
          refine CutK.go ?_
          conv => whnf
          refine CutK.go ?_
          conv => whnf
          exact LoopOk.back (impl_heads_l0_ct  n _ _ h) [some 64, some 64000] [] ⟨⟨rfl, rfl⟩, ⟨rfl, ⟨rfl, rfl, trivial⟩, ⟨rfl, rfl, rows_same⟩, trivial⟩, ⟨rfl, rfl⟩, ⟨rfl, rfl⟩, rfl, trivial⟩
        · replace h := iteF h g22
          conv => whnf
          refine CutK.go ?_
          conv => whnf
          refine Take.all (rfl) ?_
          conv => whnf
          refine Take.all (by first | rfl | exact List.length_append.symm | (simp; done) | omega | (dsimp only; omega)) ?_
          conv => whnf
          obtain ⟨g23, h⟩ := req_ex h
          refine Req.of (room (b := 8) (by decide) g23 (wide1 rfl wide0)) ?_
          conv => whnf
          refine CutK.go ?_
          conv => whnf
          exact LoopOk.back (impl_heads_l0_ct  n _ _ h) [some 64, some 1344] [] ⟨⟨rfl, rfl⟩, ⟨rfl, ⟨rfl, rfl, trivial⟩, ⟨rfl, rfl, rows_same⟩, trivial⟩, ⟨rfl, rfl⟩, ⟨(by first | rfl | exact List.length_append.symm | (simp; done) | omega | (dsimp only; omega)), rfl⟩, rfl, trivial⟩
      · replace h := iteN h g19
        conv => whnf
        exact ⟨_, _, [some 64000], [], ⟨rfl, _, h, rfl, rfl⟩, ⟨⟨rfl, rfl⟩, ⟨rfl, ⟨rfl, rfl, rows_same⟩, trivial⟩, ⟨rfl, rfl⟩, trivial⟩⟩
def impl_heads (k : Nat) (a1 : Rw) : Option Rw :=
  (impl_heads_l0 a1 (fun (v13 : Rw) => some v13) k 1 ([] : Rw))
set_option maxHeartbeats 4000000 in
set_option maxRecDepth 100000 in
theorem impl_heads_ct {k : Nat} {a1 : Rw} {r : Rw} (h : impl_heads k a1 = some r) : Ct prog 61 [.agg [.d (D.sl a1)]] (⟨[], []⟩) (.os 8 r.length) (⟨[], [(3, true, r)]⟩) := by
  rw [impl_heads] at h
  refine Ct.of (c := _) mixed func61 ⟨rfl, rfl, rfl⟩ ?_ rfl
  conv => whnf
  refine LoopOk.into (impl_heads_l0_ct  _ _ _ h) [some 64, some 320] [] ⟨⟨rfl, rfl⟩, ⟨rfl, ⟨rfl, rfl, trivial⟩, ⟨rfl, rfl, rows_same⟩, trivial⟩, ⟨rfl, rfl⟩, ⟨(by first | rfl | exact List.length_append.symm | (simp; done) | omega | (dsimp only; omega)), rfl⟩, rfl, trivial⟩ ?_ (fun _ hs => hs)
  rintro i ts os ⟨rfl, v13, h, rfl, rfl⟩
  conv => whnf
  refine CutK.go ?_
  conv => whnf
  cases h
  exact Done.of [some 67001] [] rfl rfl ⟨⟨rfl, rfl⟩, ⟨rfl, ⟨rfl, rfl, rows_same⟩, trivial⟩, ⟨rfl, rfl⟩, trivial⟩



def impl_ChopHead (k : Nat) (a1 : Rw) (a2 : Int) (a3 : Int) : Option (Rw × Bool) :=
  ((impl_IsHydra k a1).bind fun y4 => (if y4 = true then ((impl_in a3 0 99).bind fun y7 => (if y7 = true then ((impl_heads k a1).bind fun y10 => ((slices_Contains y10 a2).bind fun y12 => (if y12 = true then ((lib_chop a1 a2 a3).bind fun y15 => (if y15.2 = true then some (y15.1, true) else some (y15.1, false))) else some (([] : Rw), false)))) else some (([] : Rw), false))) else some (([] : Rw), false)))
set_option maxHeartbeats 4000000 in
set_option maxRecDepth 100000 in
theorem impl_ChopHead_ct {k : Nat} {a1 : Rw} {a2 : Int} {a3 : Int} {r : Rw × Bool} (h : impl_ChopHead k a1 a2 a3 = some r) : Ct prog 20 [.agg [.d (D.sl a1)], .d (D.int .i64 a2), .d (D.int .i64 a3)] (⟨[], []⟩) (.tup [.agg [.d (D.sl r.1)], .d (D.bool r.2)]) (⟨[], []⟩) := by
  rw [impl_ChopHead] at h
  refine Ct.of (c := _) mixed func20 ⟨rfl, rfl, rfl⟩ ?_ rfl
  conv => whnf
  refine Pick.no ?_
  conv => whnf
  obtain ⟨y4, e5, h⟩ := bind_ex h
  refine CallOk.of (impl_IsHydra_ct e5) ?_
  conv => whnf
  refine spl (fun g6 => ?_) (fun g6 => ?_)
  · replace h := iteT h g6
    conv => whnf
    refine Pick.no ?_
    conv => whnf
    obtain ⟨y7, e8, h⟩ := bind_ex h
    refine CallOk.of (impl_in_ct e8) ?_
    conv => whnf
    refine spl (fun g9 => ?_) (fun g9 => ?_)
    · replace h := iteT h g9
      conv => whnf
      refine Pick.no ?_
      conv => whnf
      obtain ⟨y10, e11, h⟩ := bind_ex h
      refine CallOk.of (impl_heads_ct e11) ?_
      conv => whnf
      refine Choice.old ?_
      conv => whnf
      refine Pick.no ?_
      conv => whnf
      refine Take.all (rfl) ?_
      conv => whnf
      obtain ⟨y12, e13, h⟩ := bind_ex h
      refine CallOk.of (slices_Contains_ct e13) ?_
      conv => whnf
      refine spl (fun g14 => ?_) (fun g14 => ?_)
      · replace h := iteT h g14
        conv => whnf
        refine CutK.go ?_
        conv => whnf
        refine CutK.go ?_
        conv => whnf
        refine Pick.no ?_
        conv => whnf
        obtain ⟨y15, e16, h⟩ := bind_ex h
        refine CallOk.of (lib_chop_ct e16) ?_
        conv => whnf
        refine spl (fun g17 => ?_) (fun g17 => ?_)
        · replace h := iteT h g17
          conv => whnf
          refine CutK.go ?_
          conv => whnf
          cases h
          exact Done.of [] [] rfl rfl ⟨⟨rfl, rfl⟩, ⟨rfl, trivial⟩, ⟨⟨rfl, trivial⟩, rfl, trivial⟩, trivial⟩
        · replace h := iteF h g17
          conv => whnf
          refine CutK.go ?_
          conv => whnf
          cases h
          exact Done.of [] [] rfl rfl ⟨⟨rfl, rfl⟩, ⟨rfl, trivial⟩, ⟨⟨rfl, trivial⟩, rfl, trivial⟩, trivial⟩
      · replace h := iteF h g14
        conv => whnf
        refine CutK.go ?_
        conv => whnf
        cases h
        exact Done.of [] [] rfl rfl ⟨⟨rfl, rfl⟩, ⟨rfl, trivial⟩, ⟨⟨rfl, trivial⟩, rfl, trivial⟩, trivial⟩
    · replace h := iteF h g9
      conv => whnf
      refine CutK.go ?_
      conv => whnf
      cases h
      exact Done.of [] [] rfl rfl ⟨⟨rfl, rfl⟩, ⟨rfl, trivial⟩, ⟨⟨rfl, trivial⟩, rfl, trivial⟩, trivial⟩
  · replace h := iteF h g6
    conv => whnf
    refine CutK.go ?_
    conv => whnf
    cases h
    exact Done.of [] [] rfl rfl ⟨⟨rfl, rfl⟩, ⟨rfl, trivial⟩, ⟨⟨rfl, trivial⟩, rfl, trivial⟩, trivial⟩



def impl_power  (a1 : Rw) (a2 : Int) : Option Rw :=
  (if a2 = (0 : Int) then some ([] : Rw) else some ([[D.sl a1, D.int .i64 a2]] : Rw))
set_option maxHeartbeats 4000000 in
set_option maxRecDepth 100000 in
theorem impl_power_ct  {a1 : Rw} {a2 : Int} {r : Rw} (h : impl_power a1 a2 = some r) : Ct prog 87 [.agg [.d (D.sl a1)], .d (D.int .i64 a2)] (⟨[], []⟩) (.agg [.os 8 r.length]) (⟨[], [(96, false, r)]⟩) := by
  rw [impl_power] at h
  refine Ct.of (c := _) mixed func87 ⟨rfl, rfl, rfl⟩ ?_ rfl
  conv => whnf
  refine splD (fun g3 => ?_) (fun g3 => ?_)
  · replace h := iteP h g3
    conv => whnf
    cases h
    exact Done.of [none] [] rfl rfl ⟨⟨rfl, rfl⟩, ⟨rfl, rfl, trivial⟩, ⟨⟨rfl, rfl⟩, trivial⟩, trivial⟩
  · replace h := iteN h g3
    conv => whnf
    cases h
    exact Done.of [some 704] [] rfl rfl ⟨⟨rfl, rfl⟩, ⟨rfl, ⟨rfl, rfl, rows_same⟩, trivial⟩, ⟨⟨(by first | rfl | exact List.length_append.symm | (simp; done) | omega | (dsimp only; omega)), rfl⟩, trivial⟩, trivial⟩

def impl_compare  (a1 : Int) (a2 : Int) : Option Int :=
  (if a1 < a2 then some (-1) else (if a2 < a1 then some 1 else some 0))
set_option maxHeartbeats 4000000 in
set_option maxRecDepth 100000 in
theorem impl_compare_ct  {a1 : Int} {a2 : Int} {r : Int} (h : impl_compare a1 a2 = some r) : Ct prog 106 [.d (D.int .i64 a1), .d (D.int .i64 a2)] (⟨[], []⟩) (.d (D.int .i64 r)) (⟨[], []⟩) := by
  rw [impl_compare] at h
  refine Ct.of (c := _) mixed func106 ⟨rfl, rfl, rfl⟩ ?_ rfl
  conv => whnf
  refine splD (fun g3 => ?_) (fun g3 => ?_)
  · replace h := iteP h g3
    conv => whnf
    cases h
    exact Done.of [] [] rfl rfl ⟨⟨rfl, rfl⟩, ⟨rfl, trivial⟩, rfl, trivial⟩
  · replace h := iteN h g3
    conv => whnf
    refine splD (fun g4 => ?_) (fun g4 => ?_)
    · replace h := iteP h g4
      conv => whnf
      cases h
      exact Done.of [] [] rfl rfl ⟨⟨rfl, rfl⟩, ⟨rfl, trivial⟩, rfl, trivial⟩
    · replace h := iteN h g4
      conv => whnf
      cases h
      exact Done.of [] [] rfl rfl ⟨⟨rfl, rfl⟩, ⟨rfl, trivial⟩, rfl, trivial⟩

def impl_cmpTerms (rec_impl_cmp : Rw → Rw → Option Int) (a1 : Rw) (a2 : Int) (a3 : Rw) (a4 : Int) : Option Int :=
  ((rec_impl_cmp a1 a3).bind fun y5 => (if y5 = (0 : Int) then ((impl_compare a2 a4).bind fun y8 => some y8) else some y5))
set_option maxHeartbeats 4000000 in
set_option maxRecDepth 100000 in
theorem impl_cmpTerms_ct {rec_impl_cmp : Rw → Rw → Option Int} (hrec_impl_cmp : ∀ (a1 : Rw) (a2 : Rw) (r : Int), rec_impl_cmp a1 a2 = some r → Ct prog 68 [.agg [.d (D.sl a1)], .agg [.d (D.sl a2)]] (⟨[], []⟩) (.d (D.int .i64 r)) (⟨[], []⟩)) {a1 : Rw} {a2 : Int} {a3 : Rw} {a4 : Int} {r : Int} (h : impl_cmpTerms rec_impl_cmp a1 a2 a3 a4 = some r) : Ct prog 94 [.agg [.d (D.sl a1), .d (D.int .i64 a2)], .agg [.d (D.sl a3), .d (D.int .i64 a4)]] (⟨[], []⟩) (.d (D.int .i64 r)) (⟨[], []⟩) := by
  rw [impl_cmpTerms] at h
  refine Ct.of (c := _) mixed func94 ⟨rfl, rfl, rfl⟩ ?_ rfl
  conv => whnf
  refine Pick.no ?_
  conv => whnf
  obtain ⟨y5, e6, h⟩ := bind_ex h
  refine CallOk.of (hrec_impl_cmp _ _ _ e6) ?_
  conv => whnf
  refine CutK.go ?_
  conv => whnf
  refine splN (fun g7 => ?_) (fun g7 => ?_)
  · replace h := iteN h g7
    conv => whnf
    cases h
    exact Done.of [] [] rfl rfl ⟨⟨rfl, rfl⟩, ⟨rfl, trivial⟩, rfl, trivial⟩
  · replace h := iteP h g7
    conv => whnf
    refine CutK.go ?_
    conv => whnf
    refine Pick.no ?_
    conv => whnf
    obtain ⟨y8, e9, h⟩ := bind_ex h
    refine CallOk.of (impl_compare_ct e9) ?_
    conv => whnf
    refine CutK.go ?_
    conv => whnf
    cases h
    exact Done.of [] [] rfl rfl ⟨⟨rfl, rfl⟩, ⟨rfl, trivial⟩, rfl, trivial⟩

def slices_CompareFunc__cmpTerms_l0 (rec_impl_cmp : Rw → Rw → Option Int) (a1 : Rw) (a2 : Rw) (K0 : Option Int) : Rw → Nat → Option Int
  | [], v16n => (K0)
  | cs :: rest, v16n => (cell_si cs fun x30 x31 => (if (a2.length : Int) ≤ (v16n : Int) then some 1 else (row_si a2 (v16n : Int) fun x34 x35 => ((impl_cmpTerms rec_impl_cmp x30 x31 x34 x35).bind fun y38 => (if y38 = (0 : Int) then (slices_CompareFunc__cmpTerms_l0 rec_impl_cmp a1 a2 K0 rest (v16n + 1)) else some y38)))))
set_option maxHeartbeats 4000000 in
set_option maxRecDepth 100000 in
theorem slices_CompareFunc__cmpTerms_l0_ct {rec_impl_cmp : Rw → Rw → Option Int} {a1 : Rw} {a2 : Rw} {K0 : Option Int} (hrec_impl_cmp : ∀ (a1 : Rw) (a2 : Rw) (r : Int), rec_impl_cmp a1 a2 = some r → Ct prog 68 [.agg [.d (D.sl a1)], .agg [.d (D.sl a2)]] (⟨[], []⟩) (.d (D.int .i64 r)) (⟨[], []⟩)) {r : Int} (hx : a1.length ≤ cap) : ∀ (rest : Rw) (v16n : Nat), a1.drop v16n = rest → slices_CompareFunc__cmpTerms_l0 rec_impl_cmp a1 a2 K0 rest v16n = some r → LoopOk prog 0 (lp f93 0) (mk 39 [(0, .d (D.sl a1)), (1, .d (D.sl a2)), (2, .fn 94 []), (11, .d (D.sl a1)), (12, .d (D.int .i64 (a1.length : Int))), (13, .d (D.int .i64 (v16n : Int)))] []) (LoopEnd prog f93 0 39 (.d (D.int .i64 r)) (⟨[], []⟩) (fun i ts os => (i = 0 ∧ K0 = some r ∧ ts = [(0, .d (D.sl a1)), (1, .d (D.sl a2))] ∧ os = [])))
  | [], v16n, hd, h => by
      rw [slices_CompareFunc__cmpTerms_l0] at h
      have hn := drop_nil hd
      refine LoopOk.step ?_
      conv => whnf
      refine splD (fun g => absurd g hn) (fun _ => ?_)
      conv => whnf
      exact ⟨_, _, [], [], ⟨rfl, h, rfl, rfl⟩, ⟨⟨rfl, rfl⟩, ⟨rfl, trivial⟩, rfl, rfl, trivial⟩⟩
  | cs :: rest, v16n, hd, h => by
      rw [slices_CompareFunc__cmpTerms_l0] at h
      obtain ⟨hrow, hd1, hlt⟩ := drop_cons hd
      refine LoopOk.step ?_
      conv => whnf
      refine splD (fun _ => ?_) (fun g => absurd hlt g)
      conv => whnf
      obtain ⟨x30, x31, e32, h⟩ := cell_si_ex h
      rw [e32] at hrow
      refine Req.of (Int.natCast_nonneg _) ?_
      refine Row.of _ hrow ?_
      conv => whnf
      refine splD (fun g33 => ?_) (fun g33 => ?_)
      · replace h := iteP h g33
        conv => whnf
        cases h
        exact Done.of [] [] rfl rfl ⟨⟨rfl, rfl⟩, ⟨rfl, trivial⟩, rfl, trivial⟩
      · replace h := iteN h g33
        conv => whnf
        obtain ⟨g37, x34, x35, e36, h⟩ := row_si_ex h
        refine Req.of g37 ?_
        refine Row.of _ e36 ?_
        conv => whnf
        refine Pick.no ?_
        conv => whnf
        obtain ⟨y38, e39, h⟩ := bind_ex h
        refine CallOk.of (impl_cmpTerms_ct hrec_impl_cmp e39) ?_
        conv => whnf
        refine CutK.norm [0, 1, 2, 10, 11, 12, 13] [] ?_
        conv => whnf
        refine splN (fun g40 => ?_) (fun g40 => ?_)
        · replace h := iteN h g40
          conv => whnf
          cases h
          exact Done.of [] [] rfl rfl ⟨⟨rfl, rfl⟩, ⟨rfl, trivial⟩, rfl, trivial⟩
        · replace h := iteP h g40
          conv => whnf
          refine CutK.norm [0, 1, 2, 11, 12, 13] [] ?_
          conv => whnf
          exact LoopOk.back (slices_CompareFunc__cmpTerms_l0_ct hrec_impl_cmp hx rest (v16n + 1)  hd1 h) [] [] ⟨⟨rfl, rfl⟩, ⟨rfl, trivial⟩, rfl, rfl, ⟨rfl, trivial⟩, rfl, rfl, i64eq (wrap_up hlt hx), trivial⟩
def slices_CompareFunc__cmpTerms (rec_impl_cmp : Rw → Rw → Option Int) (a1 : Rw) (a2 : Rw) : Option Int :=
  (if a1.length ≤ cap then (slices_CompareFunc__cmpTerms_l0 rec_impl_cmp a1 a2 (if (a1.length : Int) < (a2.length : Int) then some (-1) else some 0) a1 0) else none)
set_option maxHeartbeats 4000000 in
set_option maxRecDepth 100000 in
theorem slices_CompareFunc__cmpTerms_ct {rec_impl_cmp : Rw → Rw → Option Int} (hrec_impl_cmp : ∀ (a1 : Rw) (a2 : Rw) (r : Int), rec_impl_cmp a1 a2 = some r → Ct prog 68 [.agg [.d (D.sl a1)], .agg [.d (D.sl a2)]] (⟨[], []⟩) (.d (D.int .i64 r)) (⟨[], []⟩)) {a1 : Rw} {a2 : Rw} {r : Int} (h : slices_CompareFunc__cmpTerms rec_impl_cmp a1 a2 = some r) : Ct prog 93 [.d (D.sl a1), .d (D.sl a2), .fn 94 []] (⟨[], []⟩) (.d (D.int .i64 r)) (⟨[], []⟩) := by
  rw [slices_CompareFunc__cmpTerms] at h
  refine Ct.of (c := _) mixed func93 ⟨rfl, rfl, rfl⟩ ?_ rfl
  conv => whnf
  obtain ⟨g41, h⟩ := req_ex h
  refine LoopOk.into (slices_CompareFunc__cmpTerms_l0_ct hrec_impl_cmp g41 _ _  rfl h) [] [] ⟨⟨rfl, rfl⟩, ⟨rfl, trivial⟩, rfl, rfl, ⟨rfl, trivial⟩, rfl, rfl, rfl, trivial⟩ ?_ (fun _ hs => hs)
  rintro i ts os ⟨rfl, h, rfl, rfl⟩
  conv => whnf
  refine CutK.norm [0, 1] [] ?_
  conv => whnf
  refine splD (fun g42 => ?_) (fun g42 => ?_)
  · replace h := iteP h g42
    conv => whnf
    cases h
    exact Done.of [] [] rfl rfl ⟨⟨rfl, rfl⟩, ⟨rfl, trivial⟩, rfl, trivial⟩
  · replace h := iteN h g42
    conv => whnf
    cases h
    exact Done.of [] [] rfl rfl ⟨⟨rfl, rfl⟩, ⟨rfl, trivial⟩, rfl, trivial⟩

def impl_cmp_b (rec_impl_cmp : Rw → Rw → Option Int) (a1 : Rw) (a2 : Rw) : Option Int :=
  ((slices_CompareFunc__cmpTerms rec_impl_cmp a1 a2).bind fun y3 => some y3)
set_option maxHeartbeats 4000000 in
set_option maxRecDepth 100000 in
theorem impl_cmp_b_ct {rec_impl_cmp : Rw → Rw → Option Int} (hrec_impl_cmp : ∀ (a1 : Rw) (a2 : Rw) (r : Int), rec_impl_cmp a1 a2 = some r → Ct prog 68 [.agg [.d (D.sl a1)], .agg [.d (D.sl a2)]] (⟨[], []⟩) (.d (D.int .i64 r)) (⟨[], []⟩)) {a1 : Rw} {a2 : Rw} {r : Int} (h : impl_cmp_b rec_impl_cmp a1 a2 = some r) : Ct prog 68 [.agg [.d (D.sl a1)], .agg [.d (D.sl a2)]] (⟨[], []⟩) (.d (D.int .i64 r)) (⟨[], []⟩) := by
  rw [impl_cmp_b] at h
  refine Ct.of (c := _) mixed func68 ⟨rfl, rfl, rfl⟩ ?_ rfl
  conv => whnf
  refine Pick.no ?_
  conv => whnf
  obtain ⟨y3, e4, h⟩ := bind_ex h
  refine CallOk.of (slices_CompareFunc__cmpTerms_ct hrec_impl_cmp e4) ?_
  conv => whnf
  refine CutK.go ?_
  conv => whnf
  cases h
  exact Done.of [] [] rfl rfl ⟨⟨rfl, rfl⟩, ⟨rfl, trivial⟩, rfl, trivial⟩
def impl_cmp : Nat → Rw → Rw → Option Int
  | 0, _, _ => none
  | k + 1, a1, a2 => impl_cmp_b (impl_cmp k) a1 a2
theorem impl_cmp_ct' : ∀ (k : Nat) (a1 : Rw) (a2 : Rw) (r : Int), impl_cmp k a1 a2 = some r → Ct prog 68 [.agg [.d (D.sl a1)], .agg [.d (D.sl a2)]] (⟨[], []⟩) (.d (D.int .i64 r)) (⟨[], []⟩)
  | 0, _, _, _, h => by rw [impl_cmp] at h; cases h
  | k + 1, _, _, _, h => by rw [impl_cmp] at h; exact impl_cmp_b_ct (impl_cmp_ct' k) h
theorem impl_cmp_ct {k : Nat} {a1 : Rw} {a2 : Rw} {r : Int} (h : impl_cmp k a1 a2 = some r) : Ct prog 68 [.agg [.d (D.sl a1)], .agg [.d (D.sl a2)]] (⟨[], []⟩) (.d (D.int .i64 r)) (⟨[], []⟩) := impl_cmp_ct' k _ _ _ h

def impl_naturalSum_p4 (o163 : Rw) : Option Rw :=
  some o163
set_option maxHeartbeats 4000000 in
set_option maxRecDepth 100000 in
theorem impl_naturalSum_p4_ct {o163 : Rw} {r : Rw} (h : impl_naturalSum_p4 o163 = some r) : X prog 0 (tlF f86 4) (mk 85 [(4, .ptr 256 0), (5, .ptr 320 0)] [(256, .box 28 [.es]), (320, .box 28 [.os 1084000 o163.length]), (1084000, .arr 96 false o163)]) (finK prog f86 0 (.agg [.os 8 r.length]) (⟨[], [(96, false, r)]⟩)) := by
  rw [impl_naturalSum_p4] at h
  conv => whnf
  cases h
  exact Done.of [some 1084000] [] rfl rfl ⟨⟨rfl, rfl⟩, ⟨rfl, ⟨rfl, rfl, rows_same⟩, trivial⟩, ⟨⟨rfl, rfl⟩, trivial⟩, trivial⟩
def impl_naturalSum_l0 (k : Nat) (a1 : Rw) (a2 : Rw) (K0 : Rw → Option Rw) : Nat → Int → Rw → Int → Option Rw
  | 0, _, _, _ => none
  | n + 1, v170, v171, v185 => (if v170 < (a1.length : Int) then (if v185 = (a2.length : Int) then (row_si a1 v170 fun x326 x327 => (if v171.length + 1 ≤ cap then (impl_naturalSum_l0 k a1 a2 K0 n (IntKind.i64.wrap (v170 + 1)) (v171 ++ ([[D.sl x326, D.int .i64 x327]])) v185) else none)) else (if v170 = (a1.length : Int) then (row_si a2 v185 fun x332 x333 => (if v171.length + 1 ≤ cap then (impl_naturalSum_l0 k a1 a2 K0 n v170 (v171 ++ ([[D.sl x332, D.int .i64 (IntKind.i64.wrap (0 + x333))]])) (IntKind.i64.wrap (v185 + 1))) else none)) else (row_si a1 v170 fun x337 x338 => (row_si a2 v185 fun x341 x342 => ((impl_cmp k x337 x341).bind fun y345 => (if (0 : Int) ≤ y345 then (if y345 ≤ (0 : Int) then (if v171.length + 1 ≤ cap then (impl_naturalSum_l0 k a1 a2 K0 n (IntKind.i64.wrap (v170 + 1)) (v171 ++ ([[D.sl x341, D.int .i64 (IntKind.i64.wrap (x338 + x342))]])) (IntKind.i64.wrap (v185 + 1))) else none) else (if v171.length + 1 ≤ cap then (impl_naturalSum_l0 k a1 a2 K0 n (IntKind.i64.wrap (v170 + 1)) (v171 ++ ([[D.sl x337, D.int .i64 x338]])) v185) else none)) else (if y345 ≤ (0 : Int) then (if v171.length + 1 ≤ cap then (impl_naturalSum_l0 k a1 a2 K0 n v170 (v171 ++ ([[D.sl x341, D.int .i64 (IntKind.i64.wrap (0 + x342))]])) (IntKind.i64.wrap (v185 + 1))) else none) else none))))))) else (if v185 < (a2.length : Int) then (if v185 = (a2.length : Int) then (row_si a1 v170 fun x355 x356 => (if v171.length + 1 ≤ cap then (impl_naturalSum_l0 k a1 a2 K0 n (IntKind.i64.wrap (v170 + 1)) (v171 ++ ([[D.sl x355, D.int .i64 x356]])) v185) else none)) else (if v170 = (a1.length : Int) then (row_si a2 v185 fun x361 x362 => (if v171.length + 1 ≤ cap then (impl_naturalSum_l0 k a1 a2 K0 n v170 (v171 ++ ([[D.sl x361, D.int .i64 (IntKind.i64.wrap (0 + x362))]])) (IntKind.i64.wrap (v185 + 1))) else none)) else (row_si a1 v170 fun x366 x367 => (row_si a2 v185 fun x370 x371 => ((impl_cmp k x366 x370).bind fun y374 => (if (0 : Int) ≤ y374 then (if y374 ≤ (0 : Int) then (if v171.length + 1 ≤ cap then (impl_naturalSum_l0 k a1 a2 K0 n (IntKind.i64.wrap (v170 + 1)) (v171 ++ ([[D.sl x370, D.int .i64 (IntKind.i64.wrap (x367 + x371))]])) (IntKind.i64.wrap (v185 + 1))) else none) else (if v171.length + 1 ≤ cap then (impl_naturalSum_l0 k a1 a2 K0 n (IntKind.i64.wrap (v170 + 1)) (v171 ++ ([[D.sl x366, D.int .i64 x367]])) v185) else none)) else (if y374 ≤ (0 : Int) then (if v171.length + 1 ≤ cap then (impl_naturalSum_l0 k a1 a2 K0 n v170 (v171 ++ ([[D.sl x370, D.int .i64 (IntKind.i64.wrap (0 + x371))]])) (IntKind.i64.wrap (v185 + 1))) else none) else none))))))) else (K0 v171)))
set_option maxHeartbeats 4000000 in
set_option maxRecDepth 100000 in
theorem impl_naturalSum_l0_ct {k : Nat} {a1 : Rw} {a2 : Rw} {K0 : Rw → Option Rw} {r : Rw} : ∀ (n : Nat) (v170 : Int) (v171 : Rw) (v185 : Int), impl_naturalSum_l0 k a1 a2 K0 n v170 v171 v185 = some r → LoopOk prog 0 (lp f86 0) (mk 85 [(2, .ptr 128 0), (3, .ptr 192 0), (4, .ptr 256 0), (5, .ptr 320 0), (6, .d (D.int .i64 v170)), (7, .d (D.int .i64 v185))] [(128, .box 28 [.d (D.sl a1)]), (192, .box 28 [.d (D.sl a2)]), (256, .box 28 [.es]), (320, .box 28 [.os 64000 v171.length]), (64000, .arr 96 false v171)]) (LoopEnd prog f86 0 85 (.agg [.os 8 r.length]) (⟨[], [(96, false, r)]⟩) (fun i ts os => (i = 0 ∧ ∃ v265 : Rw, K0 v265 = some r ∧ ts = [(4, .ptr 256 0), (5, .ptr 320 0)] ∧ os = [(256, .box 28 [.es]), (320, .box 28 [.os 67001 v265.length]), (67001, .arr 96 false v265)])))
  | 0, _, _, _, h => by
      rw [impl_naturalSum_l0] at h; cases h
  | n + 1, v170, v171, v185, h => by
      rw [impl_naturalSum_l0] at h
      refine LoopOk.step ?_
      conv => whnf
      refine splD (fun g324 => ?_) (fun g324 => ?_)
      · replace h := iteP h g324
        conv => whnf
        refine splD (fun g325 => ?_) (fun g325 => ?_)
        · replace h := iteP h g325
          conv => whnf
          refine CutK.norm [2, 3, 4, 5, 6, 7, 8] [128, 192, 256, 320, 64000] ?_
          conv => whnf
          refine splD (fun _ => ?_) (fun g => absurd (by decide) g)
          conv => whnf
          obtain ⟨g329, x326, x327, e328, h⟩ := row_si_ex h
          refine Req.of g329 ?_
          refine Row.of _ e328 ?_
          conv => whnf
          refine splD (fun g => absurd g (by decide)) (fun _ => ?_)
          conv => whnf
          refine Take.all (rfl) ?_
          conv => whnf
          refine Take.all (by first | rfl | exact List.length_append.symm | (simp; done) | omega | (dsimp only; omega)) ?_
          conv => whnf
          obtain ⟨g330, h⟩ := req_ex h
          refine Req.of (room (b := 32) (by decide) g330 (wide1 rfl wide0)) ?_
          conv => whnf
          exact LoopOk.back (impl_naturalSum_l0_ct  n _ _ _ h) [some 128, some 192, some 256, some 320, some 5248] [] ⟨⟨rfl, rfl⟩, ⟨rfl, ⟨rfl, rfl, trivial⟩, ⟨rfl, rfl, trivial⟩, ⟨rfl, trivial, trivial⟩, ⟨rfl, ⟨(by first | rfl | exact List.length_append.symm | (simp; done) | omega | (dsimp only; omega)), rfl⟩, trivial⟩, ⟨rfl, rfl, rows_same⟩, trivial⟩, ⟨rfl, rfl⟩, ⟨rfl, rfl⟩, ⟨rfl, rfl⟩, ⟨rfl, rfl⟩, rfl, rfl, trivial⟩
        · replace h := iteN h g325
          conv => whnf
          refine splD (fun g331 => ?_) (fun g331 => ?_)
          · replace h := iteP h g331
            conv => whnf
            refine CutK.norm [2, 3, 4, 5, 6, 7, 8] [128, 192, 256, 320, 64000] ?_
            conv => whnf
            refine splD (fun g => absurd g (by decide)) (fun _ => ?_)
            conv => whnf
            refine splD (fun _ => ?_) (fun g => absurd (by decide) g)
            conv => whnf
            obtain ⟨g335, x332, x333, e334, h⟩ := row_si_ex h
            refine Req.of g335 ?_
            refine Row.of _ e334 ?_
            conv => whnf
            refine Req.of g335 ?_
            refine Row.of _ e334 ?_
            conv => whnf
            refine Take.all (rfl) ?_
            conv => whnf
            refine Take.all (by first | rfl | exact List.length_append.symm | (simp; done) | omega | (dsimp only; omega)) ?_
            conv => whnf
            obtain ⟨g336, h⟩ := req_ex h
            refine Req.of (room (b := 32) (by decide) g336 (wide1 rfl wide0)) ?_
            conv => whnf
            exact LoopOk.back (impl_naturalSum_l0_ct  n _ _ _ h) [some 128, some 192, some 256, some 320, some 5248] [] ⟨⟨rfl, rfl⟩, ⟨rfl, ⟨rfl, rfl, trivial⟩, ⟨rfl, rfl, trivial⟩, ⟨rfl, trivial, trivial⟩, ⟨rfl, ⟨(by first | rfl | exact List.length_append.symm | (simp; done) | omega | (dsimp only; omega)), rfl⟩, trivial⟩, ⟨rfl, rfl, rows_same⟩, trivial⟩, ⟨rfl, rfl⟩, ⟨rfl, rfl⟩, ⟨rfl, rfl⟩, ⟨rfl, rfl⟩, rfl, rfl, trivial⟩
          · replace h := iteN h g331
            conv => whnf
            obtain ⟨g340, x337, x338, e339, h⟩ := row_si_ex h
            refine Req.of g340 ?_
            refine Row.of _ e339 ?_
            conv => whnf
            obtain ⟨g344, x341, x342, e343, h⟩ := row_si_ex h
            refine Req.of g344 ?_
            refine Row.of _ e343 ?_
            conv => whnf
            refine Pick.no ?_
            conv => whnf
            obtain ⟨y345, e346, h⟩ := bind_ex h
            refine CallOk.of (impl_cmp_ct e346) ?_
            conv => whnf
            refine CutK.norm [2, 3, 4, 5, 6, 7, 8] [128, 192, 256, 320, 64000] ?_
            conv => whnf
            refine splD (fun g347 => ?_) (fun g347 => ?_)
            · replace h := iteP h g347
              conv => whnf
              refine Req.of g340 ?_
              refine Row.of _ e339 ?_
              conv => whnf
              refine splD (fun g348 => ?_) (fun g348 => ?_)
              · replace h := iteP h g348
                conv => whnf
                refine Req.of g344 ?_
                refine Row.of _ e343 ?_
                conv => whnf
                refine Req.of g344 ?_
                refine Row.of _ e343 ?_
                conv => whnf
                refine Take.all (rfl) ?_
                conv => whnf
                refine Take.all (by first | rfl | exact List.length_append.symm | (simp; done) | omega | (dsimp only; omega)) ?_
                conv => whnf
                obtain ⟨g349, h⟩ := req_ex h
                refine Req.of (room (b := 32) (by decide) g349 (wide1 rfl wide0)) ?_
                conv => whnf
                exact LoopOk.back (impl_naturalSum_l0_ct  n _ _ _ h) [some 128, some 192, some 256, some 320, some 5248] [] ⟨⟨rfl, rfl⟩, ⟨rfl, ⟨rfl, rfl, trivial⟩, ⟨rfl, rfl, trivial⟩, ⟨rfl, trivial, trivial⟩, ⟨rfl, ⟨(by first | rfl | exact List.length_append.symm | (simp; done) | omega | (dsimp only; omega)), rfl⟩, trivial⟩, ⟨rfl, rfl, rows_same⟩, trivial⟩, ⟨rfl, rfl⟩, ⟨rfl, rfl⟩, ⟨rfl, rfl⟩, ⟨rfl, rfl⟩, rfl, rfl, trivial⟩
              · replace h := iteN h g348
                conv => whnf
                refine Take.all (rfl) ?_
                conv => whnf
                refine Take.all (by first | rfl | exact List.length_append.symm | (simp; done) | omega | (dsimp only; omega)) ?_
                conv => whnf
                obtain ⟨g350, h⟩ := req_ex h
                refine Req.of (room (b := 32) (by decide) g350 (wide1 rfl wide0)) ?_
                conv => whnf
                exact LoopOk.back (impl_naturalSum_l0_ct  n _ _ _ h) [some 128, some 192, some 256, some 320, some 5248] [] ⟨⟨rfl, rfl⟩, ⟨rfl, ⟨rfl, rfl, trivial⟩, ⟨rfl, rfl, trivial⟩, ⟨rfl, trivial, trivial⟩, ⟨rfl, ⟨(by first | rfl | exact List.length_append.symm | (simp; done) | omega | (dsimp only; omega)), rfl⟩, trivial⟩, ⟨rfl, rfl, rows_same⟩, trivial⟩, ⟨rfl, rfl⟩, ⟨rfl, rfl⟩, ⟨rfl, rfl⟩, ⟨rfl, rfl⟩, rfl, rfl, trivial⟩
            · replace h := iteN h g347
              conv => whnf
              refine splD (fun g351 => ?_) (fun g351 => ?_)
              · replace h := iteP h g351
                conv => whnf
                refine Req.of g344 ?_
                refine Row.of _ e343 ?_
                conv => whnf
                refine Req.of g344 ?_
                refine Row.of _ e343 ?_
                conv => whnf
                refine Take.all (rfl) ?_
                conv => whnf
                refine Take.all (by first | rfl | exact List.length_append.symm | (simp; done) | omega | (dsimp only; omega)) ?_
                conv => whnf
                obtain ⟨g352, h⟩ := req_ex h
                refine Req.of (room (b := 32) (by decide) g352 (wide1 rfl wide0)) ?_
                conv => whnf
                exact LoopOk.back (impl_naturalSum_l0_ct  n _ _ _ h) [some 128, some 192, some 256, some 320, some 5248] [] ⟨⟨rfl, rfl⟩, ⟨rfl, ⟨rfl, rfl, trivial⟩, ⟨rfl, rfl, trivial⟩, ⟨rfl, trivial, trivial⟩, ⟨rfl, ⟨(by first | rfl | exact List.length_append.symm | (simp; done) | omega | (dsimp only; omega)), rfl⟩, trivial⟩, ⟨rfl, rfl, rows_same⟩, trivial⟩, ⟨rfl, rfl⟩, ⟨rfl, rfl⟩, ⟨rfl, rfl⟩, ⟨rfl, rfl⟩, rfl, rfl, trivial⟩
              · replace h := iteN h g351
                exfalso; omega
      · replace h := iteN h g324
        conv => whnf
        refine splD (fun g353 => ?_) (fun g353 => ?_)
        · replace h := iteP h g353
          conv => whnf
          refine splD (fun g354 => ?_) (fun g354 => ?_)
          · replace h := iteP h g354
            conv => whnf
            refine CutK.norm [2, 3, 4, 5, 6, 7, 8] [128, 192, 256, 320, 64000] ?_
            conv => whnf
            refine splD (fun _ => ?_) (fun g => absurd (by decide) g)
            conv => whnf
            obtain ⟨g358, x355, x356, e357, h⟩ := row_si_ex h
            refine Req.of g358 ?_
            refine Row.of _ e357 ?_
            conv => whnf
            refine splD (fun g => absurd g (by decide)) (fun _ => ?_)
            conv => whnf
            refine Take.all (rfl) ?_
            conv => whnf
            refine Take.all (by first | rfl | exact List.length_append.symm | (simp; done) | omega | (dsimp only; omega)) ?_
            conv => whnf
            obtain ⟨g359, h⟩ := req_ex h
            refine Req.of (room (b := 32) (by decide) g359 (wide1 rfl wide0)) ?_
            conv => whnf
            exact LoopOk.back (impl_naturalSum_l0_ct  n _ _ _ h) [some 128, some 192, some 256, some 320, some 5248] [] ⟨⟨rfl, rfl⟩, ⟨rfl, ⟨rfl, rfl, trivial⟩, ⟨rfl, rfl, trivial⟩, ⟨rfl, trivial, trivial⟩, ⟨rfl, ⟨(by first | rfl | exact List.length_append.symm | (simp; done) | omega | (dsimp only; omega)), rfl⟩, trivial⟩, ⟨rfl, rfl, rows_same⟩, trivial⟩, ⟨rfl, rfl⟩, ⟨rfl, rfl⟩, ⟨rfl, rfl⟩, ⟨rfl, rfl⟩, rfl, rfl, trivial⟩
          · replace h := iteN h g354
            conv => whnf
            refine splD (fun g360 => ?_) (fun g360 => ?_)
            · replace h := iteP h g360
              conv => whnf
              refine CutK.norm [2, 3, 4, 5, 6, 7, 8] [128, 192, 256, 320, 64000] ?_
              conv => whnf
              refine splD (fun g => absurd g (by decide)) (fun _ => ?_)
              conv => whnf
              refine splD (fun _ => ?_) (fun g => absurd (by decide) g)
              conv => whnf
              obtain ⟨g364, x361, x362, e363, h⟩ := row_si_ex h
              refine Req.of g364 ?_
              refine Row.of _ e363 ?_
              conv => whnf
              refine Req.of g364 ?_
              refine Row.of _ e363 ?_
              conv => whnf
              refine Take.all (rfl) ?_
              conv => whnf
              refine Take.all (by first | rfl | exact List.length_append.symm | (simp; done) | omega | (dsimp only; omega)) ?_
              conv => whnf
              obtain ⟨g365, h⟩ := req_ex h
              refine Req.of (room (b := 32) (by decide) g365 (wide1 rfl wide0)) ?_
              conv => whnf
              exact LoopOk.back (impl_naturalSum_l0_ct  n _ _ _ h) [some 128, some 192, some 256, some 320, some 5248] [] ⟨⟨rfl, rfl⟩, ⟨rfl, ⟨rfl, rfl, trivial⟩, ⟨rfl, rfl, trivial⟩, ⟨rfl, trivial, trivial⟩, ⟨rfl, ⟨(by first | rfl | exact List.length_append.symm | (simp; done) | omega | (dsimp only; omega)), rfl⟩, trivial⟩, ⟨rfl, rfl, rows_same⟩, trivial⟩, ⟨rfl, rfl⟩, ⟨rfl, rfl⟩, ⟨rfl, rfl⟩, ⟨rfl, rfl⟩, rfl, rfl, trivial⟩
            · replace h := iteN h g360
              conv => whnf
              obtain ⟨g369, x366, x367, e368, h⟩ := row_si_ex h
              refine Req.of g369 ?_
              refine Row.of _ e368 ?_
              conv => whnf
              obtain ⟨g373, x370, x371, e372, h⟩ := row_si_ex h
              refine Req.of g373 ?_
              refine Row.of _ e372 ?_
              conv => whnf
              refine Pick.no ?_
              conv => whnf
              obtain ⟨y374, e375, h⟩ := bind_ex h
              refine CallOk.of (impl_cmp_ct e375) ?_
              conv => whnf
              refine CutK.norm [2, 3, 4, 5, 6, 7, 8] [128, 192, 256, 320, 64000] ?_
              conv => whnf
              refine splD (fun g376 => ?_) (fun g376 => ?_)
              · replace h := iteP h g376
                conv => whnf
                refine Req.of g369 ?_
                refine Row.of _ e368 ?_
                conv => whnf
                refine splD (fun g377 => ?_) (fun g377 => ?_)
                · replace h := iteP h g377
                  conv => whnf
                  refine Req.of g373 ?_
                  refine Row.of _ e372 ?_
                  conv => whnf
                  refine Req.of g373 ?_
                  refine Row.of _ e372 ?_
                  conv => whnf
                  refine Take.all (rfl) ?_
                  conv => whnf
                  refine Take.all (by first | rfl | exact List.length_append.symm | (simp; done) | omega | (dsimp only; omega)) ?_
                  conv => whnf
                  obtain ⟨g378, h⟩ := req_ex h
                  refine Req.of (room (b := 32) (by decide) g378 (wide1 rfl wide0)) ?_
                  conv => whnf
                  exact LoopOk.back (impl_naturalSum_l0_ct  n _ _ _ h) [some 128, some 192, some 256, some 320, some 5248] [] ⟨⟨rfl, rfl⟩, ⟨rfl, ⟨rfl, rfl, trivial⟩, ⟨rfl, rfl, trivial⟩, ⟨rfl, trivial, trivial⟩, ⟨rfl, ⟨(by first | rfl | exact List.length_append.symm | (simp; done) | omega | (dsimp only; omega)), rfl⟩, trivial⟩, ⟨rfl, rfl, rows_same⟩, trivial⟩, ⟨rfl, rfl⟩, ⟨rfl, rfl⟩, ⟨rfl, rfl⟩, ⟨rfl, rfl⟩, rfl, rfl, trivial⟩
                · replace h := iteN h g377
                  conv => whnf
                  refine Take.all (rfl) ?_
                  conv => whnf
                  refine Take.all (by first | rfl | exact List.length_append.symm | (simp; done) | omega | (dsimp only; omega)) ?_
                  conv => whnf
                  obtain ⟨g379, h⟩ := req_ex h
                  refine Req.of (room (b := 32) (by decide) g379 (wide1 rfl wide0)) ?_
                  conv => whnf
                  exact LoopOk.back (impl_naturalSum_l0_ct  n _ _ _ h) [some 128, some 192, some 256, some 320, some 5248] [] ⟨⟨rfl, rfl⟩, ⟨rfl, ⟨rfl, rfl, trivial⟩, ⟨rfl, rfl, trivial⟩, ⟨rfl, trivial, trivial⟩, ⟨rfl, ⟨(by first | rfl | exact List.length_append.symm | (simp; done) | omega | (dsimp only; omega)), rfl⟩, trivial⟩, ⟨rfl, rfl, rows_same⟩, trivial⟩, ⟨rfl, rfl⟩, ⟨rfl, rfl⟩, ⟨rfl, rfl⟩, ⟨rfl, rfl⟩, rfl, rfl, trivial⟩
              · replace h := iteN h g376
                conv => whnf
                refine splD (fun g380 => ?_) (fun g380 => ?_)
                · replace h := iteP h g380
                  conv => whnf
                  refine Req.of g373 ?_
                  refine Row.of _ e372 ?_
                  conv => whnf
                  refine Req.of g373 ?_
                  refine Row.of _ e372 ?_
                  conv => whnf
                  refine Take.all (rfl) ?_
                  conv => whnf
                  refine Take.all (by first | rfl | exact List.length_append.symm | (simp; done) | omega | (dsimp only; omega)) ?_
                  conv => whnf
                  obtain ⟨g381, h⟩ := req_ex h
                  refine Req.of (room (b := 32) (by decide) g381 (wide1 rfl wide0)) ?_
                  conv => whnf
                  exact LoopOk.back (impl_naturalSum_l0_ct  n _ _ _ h) [some 128, some 192, some 256, some 320, some 5248] [] ⟨⟨rfl, rfl⟩, ⟨rfl, ⟨rfl, rfl, trivial⟩, ⟨rfl, rfl, trivial⟩, ⟨rfl, trivial, trivial⟩, ⟨rfl, ⟨(by first | rfl | exact List.length_append.symm | (simp; done) | omega | (dsimp only; omega)), rfl⟩, trivial⟩, ⟨rfl, rfl, rows_same⟩, trivial⟩, ⟨rfl, rfl⟩, ⟨rfl, rfl⟩, ⟨rfl, rfl⟩, ⟨rfl, rfl⟩, rfl, rfl, trivial⟩
                · replace h := iteN h g380
                  exfalso; omega
        · replace h := iteN h g353
          conv => whnf
          exact ⟨_, _, [some 256, some 320, some 64000], [], ⟨rfl, _, h, rfl, rfl⟩, ⟨⟨rfl, rfl⟩, ⟨rfl, ⟨rfl, trivial, trivial⟩, ⟨rfl, ⟨rfl, rfl⟩, trivial⟩, ⟨rfl, rfl, rows_same⟩, trivial⟩, ⟨rfl, rfl⟩, ⟨rfl, rfl⟩, trivial⟩⟩
def impl_naturalSum (k : Nat) (a1 : Rw) (a2 : Rw) : Option Rw :=
  (impl_naturalSum_l0 k a1 a2 (fun (v265 : Rw) => (impl_naturalSum_p4 v265)) k 0 ([] : Rw) 0)
set_option maxHeartbeats 4000000 in
set_option maxRecDepth 100000 in
theorem impl_naturalSum_ct {k : Nat} {a1 : Rw} {a2 : Rw} {r : Rw} (h : impl_naturalSum k a1 a2 = some r) : Ct prog 86 [.agg [.d (D.sl a1)], .agg [.d (D.sl a2)]] (⟨[], []⟩) (.agg [.os 8 r.length]) (⟨[], [(96, false, r)]⟩) := by
  rw [impl_naturalSum] at h
  refine Ct.of (c := _) mixed func86 ⟨rfl, rfl, rfl⟩ ?_ rfl
  conv => whnf
  refine LoopOk.into (impl_naturalSum_l0_ct  _ _ _ _ h) [some 128, some 192, some 256, some 320, none] [] ⟨⟨rfl, rfl⟩, ⟨rfl, ⟨rfl, rfl, trivial⟩, ⟨rfl, rfl, trivial⟩, ⟨rfl, trivial, trivial⟩, ⟨rfl, ⟨rfl, rfl⟩, trivial⟩, rfl, trivial⟩, ⟨rfl, rfl⟩, ⟨rfl, rfl⟩, ⟨rfl, rfl⟩, ⟨rfl, rfl⟩, rfl, rfl, trivial⟩ ?_ (fun _ hs => hs)
  rintro i ts os ⟨rfl, v265, h, rfl, rfl⟩
  conv => whnf
  exact CutK.piece (impl_naturalSum_p4_ct  h) [some 256, some 320, some 67001] [] ⟨⟨rfl, rfl⟩, ⟨rfl, ⟨rfl, trivial, trivial⟩, ⟨rfl, ⟨rfl, rfl⟩, trivial⟩, ⟨rfl, rfl, rows_same⟩, trivial⟩, ⟨rfl, rfl⟩, ⟨rfl, rfl⟩, trivial⟩

def impl_tree_ordinal_l0 (k : Nat) (rec_impl_tree_ordinal : Cs → Option Rw) (x3 : Rw) (K0 : Rw → Option Rw) : Rw → Rw → Option Rw
  | [], v16 => (K0 v16)
  | cs :: rest, v16 => (cell_p cs fun x38 => ((rec_impl_tree_ordinal x38).bind fun y40 => ((impl_power y40 1).bind fun y42 => ((impl_naturalSum k v16 y42).bind fun y44 => (impl_tree_ordinal_l0 k rec_impl_tree_ordinal x3 K0 rest y44)))))
set_option maxHeartbeats 4000000 in
set_option maxRecDepth 100000 in
theorem impl_tree_ordinal_l0_ct {k : Nat} {rec_impl_tree_ordinal : Cs → Option Rw} {x3 : Rw} {K0 : Rw → Option Rw} (hrec_impl_tree_ordinal : ∀ (a1 : Cs) (r : Rw), rec_impl_tree_ordinal a1 = some r → Ct prog 47 [.d (D.pt a1)] (⟨[], []⟩) (.agg [.os 8 r.length]) (⟨[], [(96, false, r)]⟩)) {r : Rw} (hx : x3.length ≤ cap) : ∀ (rest : Rw) (v15n : Nat) (v16 : Rw), x3.drop v15n = rest → impl_tree_ordinal_l0 k rec_impl_tree_ordinal x3 K0 rest v16 = some r → LoopOk prog 0 (lp f47 0) (mk 23 [(2, .ptr 128 0), (3, .ptr 192 0), (10, .d (D.sl x3)), (11, .d (D.int .i64 (x3.length : Int))), (12, .d (D.int .i64 (v15n : Int)))] [(128, .box 28 [.es]), (192, .box 28 [.os 64000 v16.length]), (64000, .arr 96 false v16)]) (LoopEnd prog f47 0 23 (.agg [.os 8 r.length]) (⟨[], [(96, false, r)]⟩) (fun i ts os => (i = 0 ∧ ∃ v27 : Rw, K0 v27 = some r ∧ ts = [(2, .ptr 128 0), (3, .ptr 192 0)] ∧ os = [(128, .box 28 [.es]), (192, .box 28 [.os 67001 v27.length]), (67001, .arr 96 false v27)])))
  | [], v15n, v16, hd, h => by
      rw [impl_tree_ordinal_l0] at h
      have hn := drop_nil hd
      refine LoopOk.step ?_
      conv => whnf
      refine splD (fun g => absurd g hn) (fun _ => ?_)
      conv => whnf
      exact ⟨_, _, [some 128, some 192, some 64000], [], ⟨rfl, _, h, rfl, rfl⟩, ⟨⟨rfl, rfl⟩, ⟨rfl, ⟨rfl, trivial, trivial⟩, ⟨rfl, ⟨rfl, rfl⟩, trivial⟩, ⟨rfl, rfl, rows_same⟩, trivial⟩, ⟨rfl, rfl⟩, ⟨rfl, rfl⟩, trivial⟩⟩
  | cs :: rest, v15n, v16, hd, h => by
      rw [impl_tree_ordinal_l0] at h
      obtain ⟨hrow, hd1, hlt⟩ := drop_cons hd
      refine LoopOk.step ?_
      conv => whnf
      refine splD (fun _ => ?_) (fun g => absurd hlt g)
      conv => whnf
      obtain ⟨x38, e39, h⟩ := cell_p_ex h
      rw [e39] at hrow
      refine Req.of (Int.natCast_nonneg _) ?_
      refine Row.of _ hrow ?_
      conv => whnf
      refine Pick.no ?_
      conv => whnf
      obtain ⟨y40, e41, h⟩ := bind_ex h
      refine CallOk.of (hrec_impl_tree_ordinal _ _ e41) ?_
      conv => whnf
      refine Pick.no ?_
      conv => whnf
      refine Take.all (rfl) ?_
      conv => whnf
      obtain ⟨y42, e43, h⟩ := bind_ex h
      refine CallOk.of (impl_power_ct e43) ?_
      conv => whnf
      refine Pick.no ?_
      conv => whnf
      refine Take.all (rfl) ?_
      conv => whnf
      refine Take.all (rfl) ?_
      conv => whnf
      obtain ⟨y44, e45, h⟩ := bind_ex h
      refine CallOk.of (impl_naturalSum_ct e45) ?_
      conv => whnf
      refine CutK.go ?_
      conv => whnf
      exact LoopOk.back (impl_tree_ordinal_l0_ct hrec_impl_tree_ordinal hx rest (v15n + 1) _ hd1 h) [some 128, some 192, some 1280] [] ⟨⟨rfl, rfl⟩, ⟨rfl, ⟨rfl, trivial, trivial⟩, ⟨rfl, ⟨rfl, rfl⟩, trivial⟩, ⟨rfl, rfl, rows_same⟩, trivial⟩, ⟨rfl, rfl⟩, ⟨rfl, rfl⟩, rfl, rfl, i64eq (wrap_up hlt hx), trivial⟩
def impl_tree_ordinal_b (k : Nat) (rec_impl_tree_ordinal : Cs → Option Rw) (a1 : Cs) : Option Rw :=
  (cell_is a1 fun x2 x3 => (if x3.length ≤ cap then (impl_tree_ordinal_l0 k rec_impl_tree_ordinal x3 (fun (v27 : Rw) => some v27) x3 ([] : Rw)) else none))
set_option maxHeartbeats 4000000 in
set_option maxRecDepth 100000 in
theorem impl_tree_ordinal_b_ct {k : Nat} {rec_impl_tree_ordinal : Cs → Option Rw} (hrec_impl_tree_ordinal : ∀ (a1 : Cs) (r : Rw), rec_impl_tree_ordinal a1 = some r → Ct prog 47 [.d (D.pt a1)] (⟨[], []⟩) (.agg [.os 8 r.length]) (⟨[], [(96, false, r)]⟩)) {a1 : Cs} {r : Rw} (h : impl_tree_ordinal_b k rec_impl_tree_ordinal a1 = some r) : Ct prog 47 [.d (D.pt a1)] (⟨[], []⟩) (.agg [.os 8 r.length]) (⟨[], [(96, false, r)]⟩) := by
  rw [impl_tree_ordinal_b] at h
  refine Ct.of (c := _) mixed func47 ⟨rfl, rfl, rfl⟩ ?_ rfl
  conv => whnf
  obtain ⟨x2, x3, e4, h⟩ := cell_is_ex h
  refine PtrOf.of _ e4 ?_
  conv => whnf
  obtain ⟨g46, h⟩ := req_ex h
  refine LoopOk.into (impl_tree_ordinal_l0_ct hrec_impl_tree_ordinal g46 _ _ _ rfl h) [some 128, some 192, none] [] ⟨⟨rfl, rfl⟩, ⟨rfl, ⟨rfl, trivial, trivial⟩, ⟨rfl, ⟨rfl, rfl⟩, trivial⟩, rfl, trivial⟩, ⟨rfl, rfl⟩, ⟨rfl, rfl⟩, rfl, rfl, rfl, trivial⟩ ?_ (fun _ hs => hs)
  rintro i ts os ⟨rfl, v27, h, rfl, rfl⟩
  conv => whnf
  refine CutK.go ?_
  conv => whnf
  cases h
  exact Done.of [some 67001] [] rfl rfl ⟨⟨rfl, rfl⟩, ⟨rfl, ⟨rfl, rfl, rows_same⟩, trivial⟩, ⟨⟨rfl, rfl⟩, trivial⟩, trivial⟩
def impl_tree_ordinal : Nat → Cs → Option Rw
  | 0, _ => none
  | k + 1, a1 => impl_tree_ordinal_b k (impl_tree_ordinal k) a1
theorem impl_tree_ordinal_ct' : ∀ (k : Nat) (a1 : Cs) (r : Rw), impl_tree_ordinal k a1 = some r → Ct prog 47 [.d (D.pt a1)] (⟨[], []⟩) (.agg [.os 8 r.length]) (⟨[], [(96, false, r)]⟩)
  | 0, _, _, h => by rw [impl_tree_ordinal] at h; cases h
  | k + 1, _, _, h => by rw [impl_tree_ordinal] at h; exact impl_tree_ordinal_b_ct (impl_tree_ordinal_ct' k) h
theorem impl_tree_ordinal_ct {k : Nat} {a1 : Cs} {r : Rw} (h : impl_tree_ordinal k a1 = some r) : Ct prog 47 [.d (D.pt a1)] (⟨[], []⟩) (.agg [.os 8 r.length]) (⟨[], [(96, false, r)]⟩) := impl_tree_ordinal_ct' k _ _ h

def impl_ordinalAt_2_p3 (o62 : Int) : Option (Bool × Int) :=
  some (true, o62)
set_option maxHeartbeats 4000000 in
set_option maxRecDepth 100000 in
theorem impl_ordinalAt_2_p3_ct {o62 : Int} {r : Bool × Int} (h : impl_ordinalAt_2_p3 o62 = some r) : X prog 1 (tlF f97 3) (mk 83 [] [(0, .box 3 [.d (D.int .i64 o62)])]) (finK prog f97 1 (.d (D.bool r.1)) (⟨[(3, [.d (D.int .i64 r.2)])], []⟩)) := by
  rw [impl_ordinalAt_2_p3] at h
  conv => whnf
  cases h
  exact Done.of [some 0] [] rfl rfl ⟨⟨rfl, rfl⟩, ⟨rfl, ⟨rfl, rfl, trivial⟩, trivial⟩, rfl, trivial⟩
def impl_ordinalAt_2_l0 (k : Nat) (rec_impl_ordinalAt_2 : Rw → Int → Int → Int → Option (Bool × Int)) (a1 : Rw) (a2 : Int) (a3 : Int) (K0 : Int → Option (Bool × Int)) : Rw → Nat → Int → Option (Bool × Int)
  | [], v77n, v78 => (K0 v78)
  | cs :: rest, v77n, v78 => (cell_si cs fun x120 x121 => (if (60 : Int) < (IntKind.i64.wrap (v78 + 1)) then some (false, IntKind.i64.wrap (v78 + 1)) else ((impl_in x121 1 1000000).bind fun y124 => (if y124 = true then ((rec_impl_ordinalAt_2 x120 x121 (IntKind.i64.wrap (a3 + 1)) (IntKind.i64.wrap (v78 + 1))).bind fun y127 => (if y127.1 = true then (if (0 : Int) < (v77n : Int) then (row_si a1 (IntKind.i64.wrap ((v77n : Int) - 1)) fun x131 x132 => ((impl_cmp k x131 x120).bind fun y135 => (if y135 ≤ (0 : Int) then some (false, y127.2) else (impl_ordinalAt_2_l0 k rec_impl_ordinalAt_2 a1 a2 a3 K0 rest (v77n + 1) y127.2)))) else (impl_ordinalAt_2_l0 k rec_impl_ordinalAt_2 a1 a2 a3 K0 rest (v77n + 1) y127.2)) else some (false, y127.2))) else some (false, IntKind.i64.wrap (v78 + 1))))))
set_option maxHeartbeats 4000000 in
set_option maxRecDepth 100000 in
theorem impl_ordinalAt_2_l0_ct {k : Nat} {rec_impl_ordinalAt_2 : Rw → Int → Int → Int → Option (Bool × Int)} {a1 : Rw} {a2 : Int} {a3 : Int} {K0 : Int → Option (Bool × Int)} (hrec_impl_ordinalAt_2 : ∀ (a1 : Rw) (a2 : Int) (a3 : Int) (a4 : Int) (r : Bool × Int), rec_impl_ordinalAt_2 a1 a2 a3 a4 = some r → Ct prog 97 [.dp [D.sl a1, D.int .i64 a2], .d (D.int .i64 a3), .ptr 0 0] (⟨[(3, [.d (D.int .i64 a4)])], []⟩) (.d (D.bool r.1)) (⟨[(3, [.d (D.int .i64 r.2)])], []⟩)) {r : Bool × Int} (hx : a1.length ≤ cap) : ∀ (rest : Rw) (v77n : Nat) (v78 : Int), a1.drop v77n = rest → impl_ordinalAt_2_l0 k rec_impl_ordinalAt_2 a1 a2 a3 K0 rest v77n v78 = some r → LoopOk prog 1 (lp f97 0) (mk 83 [(0, .dp [D.sl a1, D.int .i64 a2]), (1, .d (D.int .i64 a3)), (2, .ptr 0 0), (26, .d (D.int .i64 (a1.length : Int))), (27, .d (D.int .i64 (v77n : Int)))] [(0, .box 3 [.d (D.int .i64 v78)])]) (LoopEnd prog f97 1 83 (.d (D.bool r.1)) (⟨[(3, [.d (D.int .i64 r.2)])], []⟩) (fun i ts os => (i = 0 ∧ ∃ v99 : Int, K0 v99 = some r ∧ ts = [] ∧ os = [(0, .box 3 [.d (D.int .i64 v99)])])))
  | [], v77n, v78, hd, h => by
      rw [impl_ordinalAt_2_l0] at h
      have hn := drop_nil hd
      refine LoopOk.step ?_
      conv => whnf
      refine splD (fun g => absurd g hn) (fun _ => ?_)
      conv => whnf
      exact ⟨_, _, [some 0], [], ⟨rfl, _, h, rfl, rfl⟩, ⟨⟨rfl, rfl⟩, ⟨rfl, ⟨rfl, rfl, trivial⟩, trivial⟩, trivial⟩⟩
  | cs :: rest, v77n, v78, hd, h => by
      rw [impl_ordinalAt_2_l0] at h
      obtain ⟨hrow, hd1, hlt⟩ := drop_cons hd
      refine LoopOk.step ?_
      conv => whnf
      refine splD (fun _ => ?_) (fun g => absurd hlt g)
      conv => whnf
      obtain ⟨x120, x121, e122, h⟩ := cell_si_ex h
      rw [e122] at hrow
      refine Req.of (Int.natCast_nonneg _) ?_
      refine Row.of _ hrow ?_
      conv => whnf
      refine splD (fun g123 => ?_) (fun g123 => ?_)
      · replace h := iteP h g123
        conv => whnf
        refine CutK.norm [0, 1, 2, 7, 8, 26, 27, 62] [0] ?_
        conv => whnf
        cases h
        exact Done.of [some 0] [] rfl rfl ⟨⟨rfl, rfl⟩, ⟨rfl, ⟨rfl, rfl, trivial⟩, trivial⟩, rfl, trivial⟩
      · replace h := iteN h g123
        conv => whnf
        refine Pick.no ?_
        conv => whnf
        obtain ⟨y124, e125, h⟩ := bind_ex h
        refine CallOk.of (impl_in_ct e125) ?_
        conv => whnf
        refine spl (fun g126 => ?_) (fun g126 => ?_)
        · replace h := iteT h g126
          conv => whnf
          refine Pick.no ?_
          conv => whnf
          obtain ⟨y127, e128, h⟩ := bind_ex h
          refine CallOk.of (hrec_impl_ordinalAt_2 _ _ _ _ _ e128) ?_
          conv => whnf
          refine spl (fun g129 => ?_) (fun g129 => ?_)
          · replace h := iteT h g129
            conv => whnf
            refine CutK.norm [0, 1, 2, 7, 8, 26, 27, 62] [0] ?_
            conv => whnf
            refine CutK.norm [0, 1, 2, 7, 8, 26, 27] [0] ?_
            conv => whnf
            refine splD (fun g130 => ?_) (fun g130 => ?_)
            · replace h := iteP h g130
              conv => whnf
              obtain ⟨g134, x131, x132, e133, h⟩ := row_si_ex h
              refine Req.of g134 ?_
              refine Row.of _ e133 ?_
              conv => whnf
              refine Pick.no ?_
              conv => whnf
              obtain ⟨y135, e136, h⟩ := bind_ex h
              refine CallOk.of (impl_cmp_ct e136) ?_
              conv => whnf
              refine splD (fun g137 => ?_) (fun g137 => ?_)
              · replace h := iteP h g137
                conv => whnf
                refine CutK.norm [0, 1, 2, 26, 27, 81] [0] ?_
                conv => whnf
                cases h
                exact Done.of [some 0] [] rfl rfl ⟨⟨rfl, rfl⟩, ⟨rfl, ⟨rfl, rfl, trivial⟩, trivial⟩, rfl, trivial⟩
              · replace h := iteN h g137
                conv => whnf
                refine CutK.norm [0, 1, 2, 26, 27, 81] [0] ?_
                conv => whnf
                refine CutK.norm [0, 1, 2, 26, 27] [0] ?_
                conv => whnf
                exact LoopOk.back (impl_ordinalAt_2_l0_ct hrec_impl_ordinalAt_2 hx rest (v77n + 1) _ hd1 h) [some 0] [] ⟨⟨rfl, rfl⟩, ⟨rfl, ⟨rfl, rfl, trivial⟩, trivial⟩, rfl, rfl, ⟨rfl, rfl⟩, rfl, i64eq (wrap_up hlt hx), trivial⟩
            · replace h := iteN h g130
              conv => whnf
              refine CutK.norm [0, 1, 2, 26, 27, 81] [0] ?_
              conv => whnf
              refine CutK.norm [0, 1, 2, 26, 27] [0] ?_
              conv => whnf
              exact LoopOk.back (impl_ordinalAt_2_l0_ct hrec_impl_ordinalAt_2 hx rest (v77n + 1) _ hd1 h) [some 0] [] ⟨⟨rfl, rfl⟩, ⟨rfl, ⟨rfl, rfl, trivial⟩, trivial⟩, rfl, rfl, ⟨rfl, rfl⟩, rfl, i64eq (wrap_up hlt hx), trivial⟩
          · replace h := iteF h g129
            conv => whnf
            refine CutK.norm [0, 1, 2, 7, 8, 26, 27, 62] [0] ?_
            conv => whnf
            cases h
            exact Done.of [some 0] [] rfl rfl ⟨⟨rfl, rfl⟩, ⟨rfl, ⟨rfl, rfl, trivial⟩, trivial⟩, rfl, trivial⟩
        · replace h := iteF h g126
          conv => whnf
          refine CutK.norm [0, 1, 2, 7, 8, 26, 27, 62] [0] ?_
          conv => whnf
          cases h
          exact Done.of [some 0] [] rfl rfl ⟨⟨rfl, rfl⟩, ⟨rfl, ⟨rfl, rfl, trivial⟩, trivial⟩, rfl, trivial⟩
def impl_ordinalAt_2_b (k : Nat) (rec_impl_ordinalAt_2 : Rw → Int → Int → Int → Option (Bool × Int)) (a1 : Rw) (a2 : Int) (a3 : Int) (a4 : Int) : Option (Bool × Int) :=
  (if (60 : Int) < (IntKind.i64.wrap (a4 + 1)) then some (false, IntKind.i64.wrap (a4 + 1)) else (if (6 : Int) < a3 then some (false, IntKind.i64.wrap (a4 + 1)) else (if a1.length ≤ cap then (impl_ordinalAt_2_l0 k rec_impl_ordinalAt_2 a1 a2 a3 (fun (v99 : Int) => (impl_ordinalAt_2_p3 v99)) a1 0 (IntKind.i64.wrap (a4 + 1))) else none)))
set_option maxHeartbeats 4000000 in
set_option maxRecDepth 100000 in
theorem impl_ordinalAt_2_b_ct {k : Nat} {rec_impl_ordinalAt_2 : Rw → Int → Int → Int → Option (Bool × Int)} (hrec_impl_ordinalAt_2 : ∀ (a1 : Rw) (a2 : Int) (a3 : Int) (a4 : Int) (r : Bool × Int), rec_impl_ordinalAt_2 a1 a2 a3 a4 = some r → Ct prog 97 [.dp [D.sl a1, D.int .i64 a2], .d (D.int .i64 a3), .ptr 0 0] (⟨[(3, [.d (D.int .i64 a4)])], []⟩) (.d (D.bool r.1)) (⟨[(3, [.d (D.int .i64 r.2)])], []⟩)) {a1 : Rw} {a2 : Int} {a3 : Int} {a4 : Int} {r : Bool × Int} (h : impl_ordinalAt_2_b k rec_impl_ordinalAt_2 a1 a2 a3 a4 = some r) : Ct prog 97 [.dp [D.sl a1, D.int .i64 a2], .d (D.int .i64 a3), .ptr 0 0] (⟨[(3, [.d (D.int .i64 a4)])], []⟩) (.d (D.bool r.1)) (⟨[(3, [.d (D.int .i64 r.2)])], []⟩) := by
  rw [impl_ordinalAt_2_b] at h
  refine Ct.of (c := _) mixed func97 ⟨rfl, rfl, rfl⟩ ?_ rfl
  conv => whnf
  refine splD (fun g63 => ?_) (fun g63 => ?_)
  · replace h := iteP h g63
    conv => whnf
    cases h
    exact Done.of [some 0] [] rfl rfl ⟨⟨rfl, rfl⟩, ⟨rfl, ⟨rfl, rfl, trivial⟩, trivial⟩, rfl, trivial⟩
  · replace h := iteN h g63
    conv => whnf
    refine splD (fun g64 => ?_) (fun g64 => ?_)
    · replace h := iteP h g64
      conv => whnf
      cases h
      exact Done.of [some 0] [] rfl rfl ⟨⟨rfl, rfl⟩, ⟨rfl, ⟨rfl, rfl, trivial⟩, trivial⟩, rfl, trivial⟩
    · replace h := iteN h g64
      conv => whnf
      obtain ⟨g138, h⟩ := req_ex h
      refine LoopOk.into (impl_ordinalAt_2_l0_ct hrec_impl_ordinalAt_2 g138 _ _ _ rfl h) [some 0] [] ⟨⟨rfl, rfl⟩, ⟨rfl, ⟨rfl, rfl, trivial⟩, trivial⟩, rfl, rfl, ⟨rfl, rfl⟩, rfl, rfl, trivial⟩ ?_ (fun _ hs => hs)
      rintro i ts os ⟨rfl, v99, h, rfl, rfl⟩
      conv => whnf
      exact CutK.piece (impl_ordinalAt_2_p3_ct  h) [some 0] [] ⟨⟨rfl, rfl⟩, ⟨rfl, ⟨rfl, rfl, trivial⟩, trivial⟩, trivial⟩
def impl_ordinalAt_2 : Nat → Rw → Int → Int → Int → Option (Bool × Int)
  | 0, _, _, _, _ => none
  | k + 1, a1, a2, a3, a4 => impl_ordinalAt_2_b k (impl_ordinalAt_2 k) a1 a2 a3 a4
theorem impl_ordinalAt_2_ct' : ∀ (k : Nat) (a1 : Rw) (a2 : Int) (a3 : Int) (a4 : Int) (r : Bool × Int), impl_ordinalAt_2 k a1 a2 a3 a4 = some r → Ct prog 97 [.dp [D.sl a1, D.int .i64 a2], .d (D.int .i64 a3), .ptr 0 0] (⟨[(3, [.d (D.int .i64 a4)])], []⟩) (.d (D.bool r.1)) (⟨[(3, [.d (D.int .i64 r.2)])], []⟩)
  | 0, _, _, _, _, _, h => by rw [impl_ordinalAt_2] at h; cases h
  | k + 1, _, _, _, _, _, h => by rw [impl_ordinalAt_2] at h; exact impl_ordinalAt_2_b_ct (impl_ordinalAt_2_ct' k) h
theorem impl_ordinalAt_2_ct {k : Nat} {a1 : Rw} {a2 : Int} {a3 : Int} {a4 : Int} {r : Bool × Int} (h : impl_ordinalAt_2 k a1 a2 a3 a4 = some r) : Ct prog 97 [.dp [D.sl a1, D.int .i64 a2], .d (D.int .i64 a3), .ptr 0 0] (⟨[(3, [.d (D.int .i64 a4)])], []⟩) (.d (D.bool r.1)) (⟨[(3, [.d (D.int .i64 r.2)])], []⟩) := impl_ordinalAt_2_ct' k _ _ _ _ _ h

def impl_ordinalAt_p3 (a1 : Rw) (o61 : Int) : Option (Bool × Rw × Int) :=
  some (true, a1, o61)
set_option maxHeartbeats 4000000 in
set_option maxRecDepth 100000 in
theorem impl_ordinalAt_p3_ct {a1 : Rw} {o61 : Int} {r : Bool × Rw × Int} (h : impl_ordinalAt_p3 a1 o61 = some r) : X prog 2 (tlF f97 3) (mk 83 [] [(0, .box 28 [.d (D.sl a1)]), (64, .box 3 [.d (D.int .i64 o61)])]) (finK prog f97 2 (.d (D.bool r.1)) (⟨[(28, [.d (D.sl r.2.1)]), (3, [.d (D.int .i64 r.2.2)])], []⟩)) := by
  rw [impl_ordinalAt_p3] at h
  conv => whnf
  cases h
  exact Done.of [some 0, some 64] [] rfl rfl ⟨⟨rfl, rfl⟩, ⟨rfl, ⟨rfl, rfl, trivial⟩, ⟨rfl, rfl, trivial⟩, trivial⟩, rfl, trivial⟩
def impl_ordinalAt_l0 (k : Nat) (a1 : Rw) (a2 : Int) (K0 : Int → Option (Bool × Rw × Int)) : Rw → Nat → Int → Option (Bool × Rw × Int)
  | [], v76n, v77 => (K0 v77)
  | cs :: rest, v76n, v77 => (cell_si cs fun x119 x120 => (if (60 : Int) < (IntKind.i64.wrap (v77 + 1)) then some (false, a1, IntKind.i64.wrap (v77 + 1)) else ((impl_in x120 1 1000000).bind fun y123 => (if y123 = true then ((impl_ordinalAt_2 k x119 x120 (IntKind.i64.wrap (a2 + 1)) (IntKind.i64.wrap (v77 + 1))).bind fun y126 => (if y126.1 = true then (if (0 : Int) < (v76n : Int) then (row_si a1 (IntKind.i64.wrap ((v76n : Int) - 1)) fun x130 x131 => ((impl_cmp k x130 x119).bind fun y134 => (if y134 ≤ (0 : Int) then some (false, a1, y126.2) else (impl_ordinalAt_l0 k a1 a2 K0 rest (v76n + 1) y126.2)))) else (impl_ordinalAt_l0 k a1 a2 K0 rest (v76n + 1) y126.2)) else some (false, a1, y126.2))) else some (false, a1, IntKind.i64.wrap (v77 + 1))))))
set_option maxHeartbeats 4000000 in
set_option maxRecDepth 100000 in
theorem impl_ordinalAt_l0_ct {k : Nat} {a1 : Rw} {a2 : Int} {K0 : Int → Option (Bool × Rw × Int)} {r : Bool × Rw × Int} (hx : a1.length ≤ cap) : ∀ (rest : Rw) (v76n : Nat) (v77 : Int), a1.drop v76n = rest → impl_ordinalAt_l0 k a1 a2 K0 rest v76n v77 = some r → LoopOk prog 2 (lp f97 0) (mk 83 [(0, .ptr 0 0), (1, .d (D.int .i64 a2)), (2, .ptr 64 0), (26, .d (D.int .i64 (a1.length : Int))), (27, .d (D.int .i64 (v76n : Int)))] [(0, .box 28 [.d (D.sl a1)]), (64, .box 3 [.d (D.int .i64 v77)])]) (LoopEnd prog f97 2 83 (.d (D.bool r.1)) (⟨[(28, [.d (D.sl r.2.1)]), (3, [.d (D.int .i64 r.2.2)])], []⟩) (fun i ts os => (i = 0 ∧ ∃ v98 : Int, K0 v98 = some r ∧ ts = [] ∧ os = [(0, .box 28 [.d (D.sl a1)]), (64, .box 3 [.d (D.int .i64 v98)])])))
  | [], v76n, v77, hd, h => by
      rw [impl_ordinalAt_l0] at h
      have hn := drop_nil hd
      refine LoopOk.step ?_
      conv => whnf
      refine splD (fun g => absurd g hn) (fun _ => ?_)
      conv => whnf
      exact ⟨_, _, [some 0, some 64], [], ⟨rfl, _, h, rfl, rfl⟩, ⟨⟨rfl, rfl⟩, ⟨rfl, ⟨rfl, rfl, trivial⟩, ⟨rfl, rfl, trivial⟩, trivial⟩, trivial⟩⟩
  | cs :: rest, v76n, v77, hd, h => by
      rw [impl_ordinalAt_l0] at h
      obtain ⟨hrow, hd1, hlt⟩ := drop_cons hd
      refine LoopOk.step ?_
      conv => whnf
      refine splD (fun _ => ?_) (fun g => absurd hlt g)
      conv => whnf
      obtain ⟨x119, x120, e121, h⟩ := cell_si_ex h
      rw [e121] at hrow
      refine Req.of (Int.natCast_nonneg _) ?_
      refine Row.of _ hrow ?_
      conv => whnf
      refine splD (fun g122 => ?_) (fun g122 => ?_)
      · replace h := iteP h g122
        conv => whnf
        refine CutK.norm [0, 1, 2, 7, 8, 26, 27, 62] [0, 64] ?_
        conv => whnf
        cases h
        exact Done.of [some 0, some 64] [] rfl rfl ⟨⟨rfl, rfl⟩, ⟨rfl, ⟨rfl, rfl, trivial⟩, ⟨rfl, rfl, trivial⟩, trivial⟩, rfl, trivial⟩
      · replace h := iteN h g122
        conv => whnf
        refine Pick.no ?_
        conv => whnf
        obtain ⟨y123, e124, h⟩ := bind_ex h
        refine CallOk.of (impl_in_ct e124) ?_
        conv => whnf
        refine spl (fun g125 => ?_) (fun g125 => ?_)
        · replace h := iteT h g125
          conv => whnf
          refine Pick.no ?_
          conv => whnf
          obtain ⟨y126, e127, h⟩ := bind_ex h
          refine CallOk.of (impl_ordinalAt_2_ct e127) ?_
          conv => whnf
          refine spl (fun g128 => ?_) (fun g128 => ?_)
          · replace h := iteT h g128
            conv => whnf
            refine CutK.norm [0, 1, 2, 7, 8, 26, 27, 62] [0, 64] ?_
            conv => whnf
            refine CutK.norm [0, 1, 2, 7, 8, 26, 27] [0, 64] ?_
            conv => whnf
            refine splD (fun g129 => ?_) (fun g129 => ?_)
            · replace h := iteP h g129
              conv => whnf
              obtain ⟨g133, x130, x131, e132, h⟩ := row_si_ex h
              refine Req.of g133 ?_
              refine Row.of _ e132 ?_
              conv => whnf
              refine Pick.no ?_
              conv => whnf
              obtain ⟨y134, e135, h⟩ := bind_ex h
              refine CallOk.of (impl_cmp_ct e135) ?_
              conv => whnf
              refine splD (fun g136 => ?_) (fun g136 => ?_)
              · replace h := iteP h g136
                conv => whnf
                refine CutK.norm [0, 1, 2, 26, 27, 81] [0, 64] ?_
                conv => whnf
                cases h
                exact Done.of [some 0, some 64] [] rfl rfl ⟨⟨rfl, rfl⟩, ⟨rfl, ⟨rfl, rfl, trivial⟩, ⟨rfl, rfl, trivial⟩, trivial⟩, rfl, trivial⟩
              · replace h := iteN h g136
                conv => whnf
                refine CutK.norm [0, 1, 2, 26, 27, 81] [0, 64] ?_
                conv => whnf
                refine CutK.norm [0, 1, 2, 26, 27] [0, 64] ?_
                conv => whnf
                exact LoopOk.back (impl_ordinalAt_l0_ct hx rest (v76n + 1) _ hd1 h) [some 0, some 64] [] ⟨⟨rfl, rfl⟩, ⟨rfl, ⟨rfl, rfl, trivial⟩, ⟨rfl, rfl, trivial⟩, trivial⟩, ⟨rfl, rfl⟩, rfl, ⟨rfl, rfl⟩, rfl, i64eq (wrap_up hlt hx), trivial⟩
            · replace h := iteN h g129
              conv => whnf
              refine CutK.norm [0, 1, 2, 26, 27, 81] [0, 64] ?_
              conv => whnf
              refine CutK.norm [0, 1, 2, 26, 27] [0, 64] ?_
              conv => whnf
              exact LoopOk.back (impl_ordinalAt_l0_ct hx rest (v76n + 1) _ hd1 h) [some 0, some 64] [] ⟨⟨rfl, rfl⟩, ⟨rfl, ⟨rfl, rfl, trivial⟩, ⟨rfl, rfl, trivial⟩, trivial⟩, ⟨rfl, rfl⟩, rfl, ⟨rfl, rfl⟩, rfl, i64eq (wrap_up hlt hx), trivial⟩
          · replace h := iteF h g128
            conv => whnf
            refine CutK.norm [0, 1, 2, 7, 8, 26, 27, 62] [0, 64] ?_
            conv => whnf
            cases h
            exact Done.of [some 0, some 64] [] rfl rfl ⟨⟨rfl, rfl⟩, ⟨rfl, ⟨rfl, rfl, trivial⟩, ⟨rfl, rfl, trivial⟩, trivial⟩, rfl, trivial⟩
        · replace h := iteF h g125
          conv => whnf
          refine CutK.norm [0, 1, 2, 7, 8, 26, 27, 62] [0, 64] ?_
          conv => whnf
          cases h
          exact Done.of [some 0, some 64] [] rfl rfl ⟨⟨rfl, rfl⟩, ⟨rfl, ⟨rfl, rfl, trivial⟩, ⟨rfl, rfl, trivial⟩, trivial⟩, rfl, trivial⟩
def impl_ordinalAt (k : Nat) (a1 : Rw) (a2 : Int) (a3 : Int) : Option (Bool × Rw × Int) :=
  (if (60 : Int) < (IntKind.i64.wrap (a3 + 1)) then some (false, a1, IntKind.i64.wrap (a3 + 1)) else (if (6 : Int) < a2 then some (false, a1, IntKind.i64.wrap (a3 + 1)) else (if a1.length ≤ cap then (impl_ordinalAt_l0 k a1 a2 (fun (v98 : Int) => (impl_ordinalAt_p3 a1 v98)) a1 0 (IntKind.i64.wrap (a3 + 1))) else none)))
set_option maxHeartbeats 4000000 in
set_option maxRecDepth 100000 in
theorem impl_ordinalAt_ct {k : Nat} {a1 : Rw} {a2 : Int} {a3 : Int} {r : Bool × Rw × Int} (h : impl_ordinalAt k a1 a2 a3 = some r) : Ct prog 97 [.ptr 0 0, .d (D.int .i64 a2), .ptr 64 0] (⟨[(28, [.d (D.sl a1)]), (3, [.d (D.int .i64 a3)])], []⟩) (.d (D.bool r.1)) (⟨[(28, [.d (D.sl r.2.1)]), (3, [.d (D.int .i64 r.2.2)])], []⟩) := by
  rw [impl_ordinalAt] at h
  refine Ct.of (c := _) mixed func97 ⟨rfl, rfl, rfl⟩ ?_ rfl
  conv => whnf
  refine splD (fun g62 => ?_) (fun g62 => ?_)
  · replace h := iteP h g62
    conv => whnf
    cases h
    exact Done.of [some 0, some 64] [] rfl rfl ⟨⟨rfl, rfl⟩, ⟨rfl, ⟨rfl, rfl, trivial⟩, ⟨rfl, rfl, trivial⟩, trivial⟩, rfl, trivial⟩
  · replace h := iteN h g62
    conv => whnf
    refine splD (fun g63 => ?_) (fun g63 => ?_)
    · replace h := iteP h g63
      conv => whnf
      cases h
      exact Done.of [some 0, some 64] [] rfl rfl ⟨⟨rfl, rfl⟩, ⟨rfl, ⟨rfl, rfl, trivial⟩, ⟨rfl, rfl, trivial⟩, trivial⟩, rfl, trivial⟩
    · replace h := iteN h g63
      conv => whnf
      obtain ⟨g137, h⟩ := req_ex h
      refine LoopOk.into (impl_ordinalAt_l0_ct  g137 _ _ _ rfl h) [some 0, some 64] [] ⟨⟨rfl, rfl⟩, ⟨rfl, ⟨rfl, rfl, trivial⟩, ⟨rfl, rfl, trivial⟩, trivial⟩, ⟨rfl, rfl⟩, rfl, ⟨rfl, rfl⟩, rfl, rfl, trivial⟩ ?_ (fun _ hs => hs)
      rintro i ts os ⟨rfl, v98, h, rfl, rfl⟩
      conv => whnf
      exact CutK.piece (impl_ordinalAt_p3_ct  h) [some 0, some 64] [] ⟨⟨rfl, rfl⟩, ⟨rfl, ⟨rfl, rfl, trivial⟩, ⟨rfl, rfl, trivial⟩, trivial⟩, trivial⟩

def impl_IsOrdinal (k : Nat) (a1 : Rw) : Option Bool :=
  ((impl_ordinalAt k a1 0 0).bind fun y2 => (if y2.1 = true then some true else some false))
set_option maxHeartbeats 4000000 in
set_option maxRecDepth 100000 in
theorem impl_IsOrdinal_ct {k : Nat} {a1 : Rw} {r : Bool} (h : impl_IsOrdinal k a1 = some r) : Ct prog 76 [.agg [.d (D.sl a1)]] (⟨[], []⟩) (.d (D.bool r)) (⟨[], []⟩) := by
  rw [impl_IsOrdinal] at h
  refine Ct.of (c := _) mixed func76 ⟨rfl, rfl, rfl⟩ ?_ rfl
  conv => whnf
  refine Pick.no ?_
  conv => whnf
  obtain ⟨y2, e3, h⟩ := bind_ex h
  refine CallOk.of (impl_ordinalAt_ct e3) ?_
  conv => whnf
  refine spl (fun g4 => ?_) (fun g4 => ?_)
  · replace h := iteT h g4
    conv => whnf
    refine CutK.go ?_
    conv => whnf
    cases h
    exact Done.of [] [] rfl rfl ⟨⟨rfl, rfl⟩, ⟨rfl, trivial⟩, rfl, trivial⟩
  · replace h := iteF h g4
    conv => whnf
    refine CutK.go ?_
    conv => whnf
    cases h
    exact Done.of [] [] rfl rfl ⟨⟨rfl, rfl⟩, ⟨rfl, trivial⟩, rfl, trivial⟩

def impl_cloneOrdinal_l0 (rec_impl_cloneOrdinal : Rw → Option Rw) (a1 : Rw) (K0 : Rw → Option Rw) : Rw → Rw → Option Rw
  | [], v10 => (K0 v10)
  | cs :: rest, v10 => (cell_si cs fun x28 x29 => ((rec_impl_cloneOrdinal x28).bind fun y31 => (if v10.length + 1 ≤ cap then (impl_cloneOrdinal_l0 rec_impl_cloneOrdinal a1 K0 rest (v10 ++ ([[D.sl y31, D.int .i64 x29]]))) else none)))
set_option maxHeartbeats 4000000 in
set_option maxRecDepth 100000 in
theorem impl_cloneOrdinal_l0_ct {rec_impl_cloneOrdinal : Rw → Option Rw} {a1 : Rw} {K0 : Rw → Option Rw} (hrec_impl_cloneOrdinal : ∀ (a1 : Rw) (r : Rw), rec_impl_cloneOrdinal a1 = some r → Ct prog 85 [.agg [.d (D.sl a1)]] (⟨[], []⟩) (.agg [.os 8 r.length]) (⟨[], [(96, true, r)]⟩)) {r : Rw} (hx : a1.length ≤ cap) : ∀ (rest : Rw) (v9n : Nat) (v10 : Rw), a1.drop v9n = rest → impl_cloneOrdinal_l0 rec_impl_cloneOrdinal a1 K0 rest v10 = some r → LoopOk prog 0 (lp f85 0) (mk 27 [(2, .ptr 128 0), (3, .ptr 192 0), (8, .d (D.sl a1)), (9, .d (D.int .i64 (a1.length : Int))), (10, .d (D.int .i64 (v9n : Int)))] [(128, .box 28 [.es]), (192, .box 28 [.os 64000 v10.length]), (64000, .arr 96 true v10)]) (LoopEnd prog f85 0 27 (.agg [.os 8 r.length]) (⟨[], [(96, true, r)]⟩) (fun i ts os => (i = 0 ∧ ∃ v19 : Rw, K0 v19 = some r ∧ ts = [(2, .ptr 128 0), (3, .ptr 192 0)] ∧ os = [(128, .box 28 [.es]), (192, .box 28 [.os 67001 v19.length]), (67001, .arr 96 true v19)])))
  | [], v9n, v10, hd, h => by
      rw [impl_cloneOrdinal_l0] at h
      have hn := drop_nil hd
      refine LoopOk.step ?_
      conv => whnf
      refine splD (fun g => absurd g hn) (fun _ => ?_)
      conv => whnf
      exact ⟨_, _, [some 128, some 192, some 64000], [], ⟨rfl, _, h, rfl, rfl⟩, ⟨⟨rfl, rfl⟩, ⟨rfl, ⟨rfl, trivial, trivial⟩, ⟨rfl, ⟨rfl, rfl⟩, trivial⟩, ⟨rfl, rfl, rows_same⟩, trivial⟩, ⟨rfl, rfl⟩, ⟨rfl, rfl⟩, trivial⟩⟩
  | cs :: rest, v9n, v10, hd, h => by
      rw [impl_cloneOrdinal_l0] at h
      obtain ⟨hrow, hd1, hlt⟩ := drop_cons hd
      refine LoopOk.step ?_
      conv => whnf
      refine splD (fun _ => ?_) (fun g => absurd hlt g)
      conv => whnf
      obtain ⟨x28, x29, e30, h⟩ := cell_si_ex h
      rw [e30] at hrow
      refine Req.of (Int.natCast_nonneg _) ?_
      refine Row.of _ hrow ?_
      conv => whnf
      refine Pick.no ?_
      conv => whnf
      obtain ⟨y31, e32, h⟩ := bind_ex h
      refine CallOk.of (hrec_impl_cloneOrdinal _ _ e32) ?_
      conv => whnf
      refine Take.all (rfl) ?_
      conv => whnf
      refine Take.all (rfl) ?_
      conv => whnf
      refine Take.all (by first | rfl | exact List.length_append.symm | (simp; done) | omega | (dsimp only; omega)) ?_
      conv => whnf
      obtain ⟨g33, h⟩ := req_ex h
      refine Req.of (room (b := 32) (by decide) g33 (wide1 rfl wide0)) ?_
      conv => whnf
      refine CutK.go ?_
      conv => whnf
      exact LoopOk.back (impl_cloneOrdinal_l0_ct hrec_impl_cloneOrdinal hx rest (v9n + 1) _ hd1 h) [some 128, some 192, some 1472] [] ⟨⟨rfl, rfl⟩, ⟨rfl, ⟨rfl, trivial, trivial⟩, ⟨rfl, ⟨(by first | rfl | exact List.length_append.symm | (simp; done) | omega | (dsimp only; omega)), rfl⟩, trivial⟩, ⟨rfl, rfl, rows_same⟩, trivial⟩, ⟨rfl, rfl⟩, ⟨rfl, rfl⟩, rfl, rfl, i64eq (wrap_up hlt hx), trivial⟩
def impl_cloneOrdinal_b (rec_impl_cloneOrdinal : Rw → Option Rw) (a1 : Rw) : Option Rw :=
  (if a1.length ≤ cap then (impl_cloneOrdinal_l0 rec_impl_cloneOrdinal a1 (fun (v19 : Rw) => some v19) a1 ([] : Rw)) else none)
set_option maxHeartbeats 4000000 in
set_option maxRecDepth 100000 in
theorem impl_cloneOrdinal_b_ct {rec_impl_cloneOrdinal : Rw → Option Rw} (hrec_impl_cloneOrdinal : ∀ (a1 : Rw) (r : Rw), rec_impl_cloneOrdinal a1 = some r → Ct prog 85 [.agg [.d (D.sl a1)]] (⟨[], []⟩) (.agg [.os 8 r.length]) (⟨[], [(96, true, r)]⟩)) {a1 : Rw} {r : Rw} (h : impl_cloneOrdinal_b rec_impl_cloneOrdinal a1 = some r) : Ct prog 85 [.agg [.d (D.sl a1)]] (⟨[], []⟩) (.agg [.os 8 r.length]) (⟨[], [(96, true, r)]⟩) := by
  rw [impl_cloneOrdinal_b] at h
  refine Ct.of (c := _) mixed func85 ⟨rfl, rfl, rfl⟩ ?_ rfl
  conv => whnf
  obtain ⟨g34, h⟩ := req_ex h
  refine LoopOk.into (impl_cloneOrdinal_l0_ct hrec_impl_cloneOrdinal g34 _ _ _ rfl h) [some 128, some 192, none] [] ⟨⟨rfl, rfl⟩, ⟨rfl, ⟨rfl, trivial, trivial⟩, ⟨rfl, ⟨rfl, rfl⟩, trivial⟩, rfl, trivial⟩, ⟨rfl, rfl⟩, ⟨rfl, rfl⟩, rfl, rfl, rfl, trivial⟩ ?_ (fun _ hs => hs)
  rintro i ts os ⟨rfl, v19, h, rfl, rfl⟩
  conv => whnf
  refine CutK.go ?_
  conv => whnf
  cases h
  exact Done.of [some 67001] [] rfl rfl ⟨⟨rfl, rfl⟩, ⟨rfl, ⟨rfl, rfl, rows_same⟩, trivial⟩, ⟨⟨rfl, rfl⟩, trivial⟩, trivial⟩
def impl_cloneOrdinal : Nat → Rw → Option Rw
  | 0, _ => none
  | k + 1, a1 => impl_cloneOrdinal_b (impl_cloneOrdinal k) a1
theorem impl_cloneOrdinal_ct' : ∀ (k : Nat) (a1 : Rw) (r : Rw), impl_cloneOrdinal k a1 = some r → Ct prog 85 [.agg [.d (D.sl a1)]] (⟨[], []⟩) (.agg [.os 8 r.length]) (⟨[], [(96, true, r)]⟩)
  | 0, _, _, h => by rw [impl_cloneOrdinal] at h; cases h
  | k + 1, _, _, h => by rw [impl_cloneOrdinal] at h; exact impl_cloneOrdinal_b_ct (impl_cloneOrdinal_ct' k) h
theorem impl_cloneOrdinal_ct {k : Nat} {a1 : Rw} {r : Rw} (h : impl_cloneOrdinal k a1 = some r) : Ct prog 85 [.agg [.d (D.sl a1)]] (⟨[], []⟩) (.agg [.os 8 r.length]) (⟨[], [(96, true, r)]⟩) := impl_cloneOrdinal_ct' k _ _ h

def impl_told (k : Nat) (a1 : Rw) : Option (Rw × Bool) :=
  ((impl_IsOrdinal k a1).bind fun y2 => (if y2 = true then ((impl_cloneOrdinal k a1).bind fun y5 => some (y5, true)) else some (([] : Rw), false)))
set_option maxHeartbeats 4000000 in
set_option maxRecDepth 100000 in
theorem impl_told_ct {k : Nat} {a1 : Rw} {r : Rw × Bool} (h : impl_told k a1 = some r) : Ct prog 45 [.agg [.d (D.sl a1)]] (⟨[], []⟩) (.tup [.agg [.os 8 r.1.length], .d (D.bool r.2)]) (⟨[], [(96, true, r.1)]⟩) := by
  rw [impl_told] at h
  refine Ct.of (c := _) mixed func45 ⟨rfl, rfl, rfl⟩ ?_ rfl
  conv => whnf
  refine Pick.no ?_
  conv => whnf
  obtain ⟨y2, e3, h⟩ := bind_ex h
  refine CallOk.of (impl_IsOrdinal_ct e3) ?_
  conv => whnf
  refine spl (fun g4 => ?_) (fun g4 => ?_)
  · replace h := iteT h g4
    conv => whnf
    refine CutK.go ?_
    conv => whnf
    refine CutK.go ?_
    conv => whnf
    refine Pick.no ?_
    conv => whnf
    obtain ⟨y5, e6, h⟩ := bind_ex h
    refine CallOk.of (impl_cloneOrdinal_ct e6) ?_
    conv => whnf
    refine CutK.go ?_
    conv => whnf
    cases h
    exact Done.of [some 576] [] rfl rfl ⟨⟨rfl, rfl⟩, ⟨rfl, ⟨rfl, rfl, rows_same⟩, trivial⟩, ⟨⟨⟨rfl, rfl⟩, trivial⟩, rfl, trivial⟩, trivial⟩
  · replace h := iteF h g4
    conv => whnf
    refine CutK.go ?_
    conv => whnf
    cases h
    exact Done.of [none] [] rfl rfl ⟨⟨rfl, rfl⟩, ⟨rfl, rfl, trivial⟩, ⟨⟨⟨rfl, rfl⟩, trivial⟩, rfl, trivial⟩, trivial⟩

def impl_HydraOrdinal (k : Nat) (a1 : Rw) : Option (Rw × Bool) :=
  ((impl_IsHydra k a1).bind fun y2 => (if y2 = true then ((lib_treeOf a1).bind fun y5 => (row_p y5 0 fun x7 => ((impl_tree_ordinal k x7).bind fun y10 => ((impl_told k y10).bind fun y12 => (if y12.2 = true then some (y12.1, true) else some (y12.1, false)))))) else some (([] : Rw), false)))
set_option maxHeartbeats 4000000 in
set_option maxRecDepth 100000 in
theorem impl_HydraOrdinal_ct {k : Nat} {a1 : Rw} {r : Rw × Bool} (h : impl_HydraOrdinal k a1 = some r) : Ct prog 12 [.agg [.d (D.sl a1)]] (⟨[], []⟩) (.tup [.agg [.os 8 r.1.length], .d (D.bool r.2)]) (⟨[], [(96, true, r.1)]⟩) := by
  rw [impl_HydraOrdinal] at h
  refine Ct.of (c := _) mixed func12 ⟨rfl, rfl, rfl⟩ ?_ rfl
  conv => whnf
  refine Pick.no ?_
  conv => whnf
  obtain ⟨y2, e3, h⟩ := bind_ex h
  refine CallOk.of (impl_IsHydra_ct e3) ?_
  conv => whnf
  refine spl (fun g4 => ?_) (fun g4 => ?_)
  · replace h := iteT h g4
    conv => whnf
    refine CutK.go ?_
    conv => whnf
    refine CutK.go ?_
    conv => whnf
    refine Pick.no ?_
    conv => whnf
    obtain ⟨y5, e6, h⟩ := bind_ex h
    refine CallOk.of (lib_treeOf_ct e6) ?_
    conv => whnf
    obtain ⟨g9, x7, e8, h⟩ := row_p_ex h
    refine Req.of g9 ?_
    refine Row.of _ e8 ?_
    conv => whnf
    refine Pick.no ?_
    conv => whnf
    obtain ⟨y10, e11, h⟩ := bind_ex h
    refine CallOk.of (impl_tree_ordinal_ct e11) ?_
    conv => whnf
    refine Pick.no ?_
    conv => whnf
    refine Take.all (rfl) ?_
    conv => whnf
    obtain ⟨y12, e13, h⟩ := bind_ex h
    refine CallOk.of (impl_told_ct e13) ?_
    conv => whnf
    refine spl (fun g14 => ?_) (fun g14 => ?_)
    · replace h := iteT h g14
      conv => whnf
      refine CutK.go ?_
      conv => whnf
      cases h
      exact Done.of [some 832] [] rfl rfl ⟨⟨rfl, rfl⟩, ⟨rfl, ⟨rfl, rfl, rows_same⟩, trivial⟩, ⟨⟨⟨rfl, rfl⟩, trivial⟩, rfl, trivial⟩, trivial⟩
    · replace h := iteF h g14
      conv => whnf
      refine CutK.go ?_
      conv => whnf
      cases h
      exact Done.of [some 832] [] rfl rfl ⟨⟨rfl, rfl⟩, ⟨rfl, ⟨rfl, rfl, rows_same⟩, trivial⟩, ⟨⟨⟨rfl, rfl⟩, trivial⟩, rfl, trivial⟩, trivial⟩
  · replace h := iteF h g4
    conv => whnf
    refine CutK.go ?_
    conv => whnf
    cases h
    exact Done.of [none] [] rfl rfl ⟨⟨rfl, rfl⟩, ⟨rfl, rfl, trivial⟩, ⟨⟨⟨rfl, rfl⟩, trivial⟩, rfl, trivial⟩, trivial⟩

def impl_both (k : Nat) (a1 : Rw) (a2 : Rw) : Option Bool :=
  ((impl_IsOrdinal k a1).bind fun y3 => (if y3 = true then ((impl_IsOrdinal k a2).bind fun y6 => (if y6 = true then some true else some false)) else some false))
set_option maxHeartbeats 4000000 in
set_option maxRecDepth 100000 in
theorem impl_both_ct {k : Nat} {a1 : Rw} {a2 : Rw} {r : Bool} (h : impl_both k a1 a2 = some r) : Ct prog 67 [.agg [.d (D.sl a1)], .agg [.d (D.sl a2)]] (⟨[], []⟩) (.d (D.bool r)) (⟨[], []⟩) := by
  rw [impl_both] at h
  refine Ct.of (c := _) mixed func67 ⟨rfl, rfl, rfl⟩ ?_ rfl
  conv => whnf
  refine Pick.no ?_
  conv => whnf
  obtain ⟨y3, e4, h⟩ := bind_ex h
  refine CallOk.of (impl_IsOrdinal_ct e4) ?_
  conv => whnf
  refine spl (fun g5 => ?_) (fun g5 => ?_)
  · replace h := iteT h g5
    conv => whnf
    refine Pick.no ?_
    conv => whnf
    obtain ⟨y6, e7, h⟩ := bind_ex h
    refine CallOk.of (impl_IsOrdinal_ct e7) ?_
    conv => whnf
    refine spl (fun g8 => ?_) (fun g8 => ?_)
    · replace h := iteT h g8
      conv => whnf
      refine CutK.go ?_
      conv => whnf
      cases h
      exact Done.of [] [] rfl rfl ⟨⟨rfl, rfl⟩, ⟨rfl, trivial⟩, rfl, trivial⟩
    · replace h := iteF h g8
      conv => whnf
      refine CutK.go ?_
      conv => whnf
      cases h
      exact Done.of [] [] rfl rfl ⟨⟨rfl, rfl⟩, ⟨rfl, trivial⟩, rfl, trivial⟩
  · replace h := iteF h g5
    conv => whnf
    refine CutK.go ?_
    conv => whnf
    cases h
    exact Done.of [] [] rfl rfl ⟨⟨rfl, rfl⟩, ⟨rfl, trivial⟩, rfl, trivial⟩

def impl_CompareOrdinals (k : Nat) (a1 : Rw) (a2 : Rw) : Option (Int × Bool) :=
  ((impl_both k a1 a2).bind fun y3 => (if y3 = true then ((impl_cmp k a1 a2).bind fun y6 => some (y6, true)) else some (0, false)))
set_option maxHeartbeats 4000000 in
set_option maxRecDepth 100000 in
theorem impl_CompareOrdinals_ct {k : Nat} {a1 : Rw} {a2 : Rw} {r : Int × Bool} (h : impl_CompareOrdinals k a1 a2 = some r) : Ct prog 26 [.agg [.d (D.sl a1)], .agg [.d (D.sl a2)]] (⟨[], []⟩) (.tup [.d (D.int .i64 r.1), .d (D.bool r.2)]) (⟨[], []⟩) := by
  rw [impl_CompareOrdinals] at h
  refine Ct.of (c := _) mixed func26 ⟨rfl, rfl, rfl⟩ ?_ rfl
  conv => whnf
  refine Pick.no ?_
  conv => whnf
  obtain ⟨y3, e4, h⟩ := bind_ex h
  refine CallOk.of (impl_both_ct e4) ?_
  conv => whnf
  refine spl (fun g5 => ?_) (fun g5 => ?_)
  · replace h := iteT h g5
    conv => whnf
    refine CutK.go ?_
    conv => whnf
    refine CutK.go ?_
    conv => whnf
    refine Pick.no ?_
    conv => whnf
    obtain ⟨y6, e7, h⟩ := bind_ex h
    refine CallOk.of (impl_cmp_ct e7) ?_
    conv => whnf
    refine CutK.go ?_
    conv => whnf
    cases h
    exact Done.of [] [] rfl rfl ⟨⟨rfl, rfl⟩, ⟨rfl, trivial⟩, ⟨rfl, rfl, trivial⟩, trivial⟩
  · replace h := iteF h g5
    conv => whnf
    refine CutK.go ?_
    conv => whnf
    cases h
    exact Done.of [] [] rfl rfl ⟨⟨rfl, rfl⟩, ⟨rfl, trivial⟩, ⟨rfl, rfl, trivial⟩, trivial⟩

def laws_qHas_l0 (a1 : Rw) (a2 : Int) (K0 : Option Bool) : Rw → Option Bool
  | [] => (K0)
  | cs :: rest => (cell_i cs fun x14 => (if x14 = a2 then some true else (laws_qHas_l0 a1 a2 K0 rest)))
set_option maxHeartbeats 4000000 in
set_option maxRecDepth 100000 in
theorem laws_qHas_l0_ct {a1 : Rw} {a2 : Int} {K0 : Option Bool} {r : Bool} (hx : a1.length ≤ cap) : ∀ (rest : Rw) (v8n : Nat), a1.drop v8n = rest → laws_qHas_l0 a1 a2 K0 rest = some r → LoopOk prog 0 (lp f24 0) (mk 17 [(1, .d (D.int .i64 a2)), (7, .d (D.sl a1)), (8, .d (D.int .i64 (a1.length : Int))), (9, .d (D.int .i64 (v8n : Int)))] []) (LoopEnd prog f24 0 17 (.d (D.bool r)) (⟨[], []⟩) (fun i ts os => (i = 0 ∧ K0 = some r ∧ ts = [] ∧ os = [])))
  | [], v8n, hd, h => by
      rw [laws_qHas_l0] at h
      have hn := drop_nil hd
      refine LoopOk.step ?_
      conv => whnf
      refine splD (fun g => absurd g hn) (fun _ => ?_)
      conv => whnf
      exact ⟨_, _, [], [], ⟨rfl, h, rfl, rfl⟩, ⟨⟨rfl, rfl⟩, ⟨rfl, trivial⟩, trivial⟩⟩
  | cs :: rest, v8n, hd, h => by
      rw [laws_qHas_l0] at h
      obtain ⟨hrow, hd1, hlt⟩ := drop_cons hd
      refine LoopOk.step ?_
      conv => whnf
      refine splD (fun _ => ?_) (fun g => absurd hlt g)
      conv => whnf
      obtain ⟨x14, e15, h⟩ := cell_i_ex h
      rw [e15] at hrow
      refine Req.of (Int.natCast_nonneg _) ?_
      refine Row.of _ hrow ?_
      conv => whnf
      refine splD (fun g16 => ?_) (fun g16 => ?_)
      · replace h := iteP h g16
        conv => whnf
        cases h
        exact Done.of [] [] rfl rfl ⟨⟨rfl, rfl⟩, ⟨rfl, trivial⟩, rfl, trivial⟩
      · replace h := iteN h g16
        conv => whnf
        exact LoopOk.back (laws_qHas_l0_ct hx rest (v8n + 1)  hd1 h) [] [] ⟨⟨rfl, rfl⟩, ⟨rfl, trivial⟩, rfl, rfl, rfl, i64eq (wrap_up hlt hx), trivial⟩
def laws_qHas  (a1 : Rw) (a2 : Int) : Option Bool :=
  (if a1.length ≤ cap then (laws_qHas_l0 a1 a2 (some false) a1) else none)
set_option maxHeartbeats 4000000 in
set_option maxRecDepth 100000 in
theorem laws_qHas_ct  {a1 : Rw} {a2 : Int} {r : Bool} (h : laws_qHas a1 a2 = some r) : Ct prog 24 [.d (D.sl a1), .d (D.int .i64 a2)] (⟨[], []⟩) (.d (D.bool r)) (⟨[], []⟩) := by
  rw [laws_qHas] at h
  refine Ct.of (c := _) mixed func24 ⟨rfl, rfl, rfl⟩ ?_ rfl
  conv => whnf
  obtain ⟨g17, h⟩ := req_ex h
  refine LoopOk.into (laws_qHas_l0_ct  g17 _ _  rfl h) [] [] ⟨⟨rfl, rfl⟩, ⟨rfl, trivial⟩, rfl, rfl, rfl, rfl, trivial⟩ ?_ (fun _ hs => hs)
  rintro i ts os ⟨rfl, h, rfl, rfl⟩
  conv => whnf
  refine CutK.go ?_
  conv => whnf
  cases h
  exact Done.of [] [] rfl rfl ⟨⟨rfl, rfl⟩, ⟨rfl, trivial⟩, rfl, trivial⟩

def impl_HeadsOf (k : Nat) (a1 : Rw) : Option (Rw × Bool) :=
  ((impl_IsHydra k a1).bind fun y2 => (if y2 = true then ((impl_heads k a1).bind fun y5 => some (y5, true)) else some (([] : Rw), false)))
set_option maxHeartbeats 4000000 in
set_option maxRecDepth 100000 in
theorem impl_HeadsOf_ct {k : Nat} {a1 : Rw} {r : Rw × Bool} (h : impl_HeadsOf k a1 = some r) : Ct prog 23 [.agg [.d (D.sl a1)]] (⟨[], []⟩) (.tup [.os 8 r.1.length, .d (D.bool r.2)]) (⟨[], [(3, true, r.1)]⟩) := by
  rw [impl_HeadsOf] at h
  refine Ct.of (c := _) mixed func23 ⟨rfl, rfl, rfl⟩ ?_ rfl
  conv => whnf
  refine Pick.no ?_
  conv => whnf
  obtain ⟨y2, e3, h⟩ := bind_ex h
  refine CallOk.of (impl_IsHydra_ct e3) ?_
  conv => whnf
  refine spl (fun g4 => ?_) (fun g4 => ?_)
  · replace h := iteT h g4
    conv => whnf
    refine CutK.go ?_
    conv => whnf
    refine CutK.go ?_
    conv => whnf
    refine Pick.no ?_
    conv => whnf
    obtain ⟨y5, e6, h⟩ := bind_ex h
    refine CallOk.of (impl_heads_ct e6) ?_
    conv => whnf
    refine CutK.go ?_
    conv => whnf
    cases h
    exact Done.of [some 512] [] rfl rfl ⟨⟨rfl, rfl⟩, ⟨rfl, ⟨rfl, rfl, rows_same⟩, trivial⟩, ⟨⟨rfl, rfl⟩, rfl, trivial⟩, trivial⟩
  · replace h := iteF h g4
    conv => whnf
    refine CutK.go ?_
    conv => whnf
    cases h
    exact Done.of [none] [] rfl rfl ⟨⟨rfl, rfl⟩, ⟨rfl, rfl, trivial⟩, ⟨⟨rfl, rfl⟩, rfl, trivial⟩, trivial⟩

def spec_deChildren_l0 (a1 : Rw) (a2 : Int) (K0 : Rw → Option Rw) : Rw → Nat → Rw → Option Rw
  | [], v9n, v8 => (K0 v8)
  | cs :: rest, v9n, v8 => (cell_i cs fun x23 => (if x23 = a2 then (if v8.length + 1 ≤ cap then (spec_deChildren_l0 a1 a2 K0 rest (v9n + 1) (v8 ++ ([[D.int .i64 (v9n : Int)]]))) else none) else (spec_deChildren_l0 a1 a2 K0 rest (v9n + 1) v8)))
set_option maxHeartbeats 4000000 in
set_option maxRecDepth 100000 in
theorem spec_deChildren_l0_ct {a1 : Rw} {a2 : Int} {K0 : Rw → Option Rw} {r : Rw} (hx : a1.length ≤ cap) : ∀ (rest : Rw) (v9n : Nat) (v8 : Rw), a1.drop v9n = rest → spec_deChildren_l0 a1 a2 K0 rest v9n v8 = some r → LoopOk prog 0 (lp f83 0) (mk 25 [(1, .d (D.int .i64 a2)), (5, .os 64000 v8.length), (9, .d (D.sl a1)), (10, .d (D.int .i64 (a1.length : Int))), (11, .d (D.int .i64 (v9n : Int)))] [(64000, .arr 3 true v8)]) (LoopEnd prog f83 0 25 (.os 8 r.length) (⟨[], [(3, true, r)]⟩) (fun i ts os => (i = 0 ∧ ∃ v16 : Rw, K0 v16 = some r ∧ ts = [(5, .os 67001 v16.length)] ∧ os = [(67001, .arr 3 true v16)])))
  | [], v9n, v8, hd, h => by
      rw [spec_deChildren_l0] at h
      have hn := drop_nil hd
      refine LoopOk.step ?_
      conv => whnf
      refine splD (fun g => absurd g hn) (fun _ => ?_)
      conv => whnf
      exact ⟨_, _, [some 64000], [], ⟨rfl, _, h, rfl, rfl⟩, ⟨⟨rfl, rfl⟩, ⟨rfl, ⟨rfl, rfl, rows_same⟩, trivial⟩, ⟨rfl, rfl⟩, trivial⟩⟩
  | cs :: rest, v9n, v8, hd, h => by
      rw [spec_deChildren_l0] at h
      obtain ⟨hrow, hd1, hlt⟩ := drop_cons hd
      refine LoopOk.step ?_
      conv => whnf
      refine splD (fun _ => ?_) (fun g => absurd hlt g)
      conv => whnf
      obtain ⟨x23, e24, h⟩ := cell_i_ex h
      rw [e24] at hrow
      refine Req.of (Int.natCast_nonneg _) ?_
      refine Row.of _ hrow ?_
      conv => whnf
      refine splD (fun g25 => ?_) (fun g25 => ?_)
      · replace h := iteP h g25
        conv => whnf
        refine Take.all (rfl) ?_
        conv => whnf
        refine Take.all (by first | rfl | exact List.length_append.symm | (simp; done) | omega | (dsimp only; omega)) ?_
        conv => whnf
        obtain ⟨g26, h⟩ := req_ex h
        refine Req.of (room (b := 8) (by decide) g26 (wide1 rfl wide0)) ?_
        conv => whnf
        exact LoopOk.back (spec_deChildren_l0_ct hx rest (v9n + 1) _ hd1 h) [some 1408] [] ⟨⟨rfl, rfl⟩, ⟨rfl, ⟨rfl, rfl, rows_same⟩, trivial⟩, rfl, ⟨(by first | rfl | exact List.length_append.symm | (simp; done) | omega | (dsimp only; omega)), rfl⟩, rfl, rfl, i64eq (wrap_up hlt hx), trivial⟩
      · replace h := iteN h g25
        conv => whnf
        exact LoopOk.back (spec_deChildren_l0_ct hx rest (v9n + 1) _ hd1 h) [some 64000] [] ⟨⟨rfl, rfl⟩, ⟨rfl, ⟨rfl, rfl, rows_same⟩, trivial⟩, rfl, ⟨rfl, rfl⟩, rfl, rfl, i64eq (wrap_up hlt hx), trivial⟩
def spec_deChildren  (a1 : Rw) (a2 : Int) : Option Rw :=
  (if a1.length ≤ cap then (spec_deChildren_l0 a1 a2 (fun (v16 : Rw) => some v16) a1 0 ([] : Rw)) else none)
set_option maxHeartbeats 4000000 in
set_option maxRecDepth 100000 in
theorem spec_deChildren_ct  {a1 : Rw} {a2 : Int} {r : Rw} (h : spec_deChildren a1 a2 = some r) : Ct prog 83 [.agg [.d (D.sl a1)], .d (D.int .i64 a2)] (⟨[], []⟩) (.os 8 r.length) (⟨[], [(3, true, r)]⟩) := by
  rw [spec_deChildren] at h
  refine Ct.of (c := _) mixed func83 ⟨rfl, rfl, rfl⟩ ?_ rfl
  conv => whnf
  obtain ⟨g27, h⟩ := req_ex h
  refine LoopOk.into (spec_deChildren_l0_ct  g27 _ _ _ rfl h) [none] [] ⟨⟨rfl, rfl⟩, ⟨rfl, rfl, trivial⟩, rfl, ⟨rfl, rfl⟩, rfl, rfl, rfl, trivial⟩ ?_ (fun _ hs => hs)
  rintro i ts os ⟨rfl, v16, h, rfl, rfl⟩
  conv => whnf
  refine CutK.go ?_
  conv => whnf
  cases h
  exact Done.of [some 67001] [] rfl rfl ⟨⟨rfl, rfl⟩, ⟨rfl, ⟨rfl, rfl, rows_same⟩, trivial⟩, ⟨rfl, rfl⟩, trivial⟩

def spec_deHeads_l0 (a1 : Rw) (K0 : Rw → Option Rw) : Nat → Rw → Int → Option Rw
  | 0, _, _ => none
  | n + 1, v6, v7 => (if v7 < (a1.length : Int) then ((spec_deChildren a1 v7).bind fun y20 => (if (y20.length : Int) = (0 : Int) then (if v6.length + 1 ≤ cap then (spec_deHeads_l0 a1 K0 n (v6 ++ ([[D.int .i64 v7]])) (IntKind.i64.wrap (v7 + 1))) else none) else (spec_deHeads_l0 a1 K0 n v6 (IntKind.i64.wrap (v7 + 1))))) else (K0 v6))
set_option maxHeartbeats 4000000 in
set_option maxRecDepth 100000 in
theorem spec_deHeads_l0_ct {a1 : Rw} {K0 : Rw → Option Rw} {r : Rw} : ∀ (n : Nat) (v6 : Rw) (v7 : Int), spec_deHeads_l0 a1 K0 n v6 v7 = some r → LoopOk prog 0 (lp f55 0) (mk 22 [(1, .ptr 64 0), (3, .os 64000 v6.length), (4, .d (D.int .i64 v7))] [(64, .box 31 [.d (D.sl a1)]), (64000, .arr 3 true v6)]) (LoopEnd prog f55 0 22 (.os 8 r.length) (⟨[], [(3, true, r)]⟩) (fun i ts os => (i = 0 ∧ ∃ v13 : Rw, K0 v13 = some r ∧ ts = [(3, .os 67001 v13.length)] ∧ os = [(67001, .arr 3 true v13)])))
  | 0, _, _, h => by
      rw [spec_deHeads_l0] at h; cases h
  | n + 1, v6, v7, h => by
      rw [spec_deHeads_l0] at h
      refine LoopOk.step ?_
      conv => whnf
      refine splD (fun g19 => ?_) (fun g19 => ?_)
      · replace h := iteP h g19
        conv => whnf
        refine Pick.no ?_
        conv => whnf
        obtain ⟨y20, e21, h⟩ := bind_ex h
        refine CallOk.of (spec_deChildren_ct e21) ?_
        conv => whnf
        refine splD (fun g22 => ?_) (fun g22 => ?_)
        · replace h := iteP h g22
          conv => whnf
          refine CutK.go ?_
          conv => whnf
          refine Take.all (rfl) ?_
          conv => whnf
          refine Take.all (by first | rfl | exact List.length_append.symm | (simp; done) | omega | (dsimp only; omega)) ?_
          conv => whnf
          obtain ⟨g23, h⟩ := req_ex h
          refine Req.of (room (b := 8) (by decide) g23 (wide1 rfl wide0)) ?_
          conv => whnf
          refine CutK.go ?_
          conv => whnf
          exact LoopOk.back (spec_deHeads_l0_ct  n _ _ h) [some 64, some 1280] [] ⟨⟨rfl, rfl⟩, ⟨rfl, ⟨rfl, rfl, trivial⟩, ⟨rfl, rfl, rows_same⟩, trivial⟩, ⟨rfl, rfl⟩, ⟨(by first | rfl | exact List.length_append.symm | (simp; done) | omega | (dsimp only; omega)), rfl⟩, rfl, trivial⟩
        · replace h := iteN h g22
          conv => whnf
          refine CutK.go ?_
          conv => whnf
          refine CutK.go ?_
          conv => whnf
          exact LoopOk.back (spec_deHeads_l0_ct  n _ _ h) [some 64, some 64000] [] ⟨⟨rfl, rfl⟩, ⟨rfl, ⟨rfl, rfl, trivial⟩, ⟨rfl, rfl, rows_same⟩, trivial⟩, ⟨rfl, rfl⟩, ⟨rfl, rfl⟩, rfl, trivial⟩
      · replace h := iteN h g19
        conv => whnf
        exact ⟨_, _, [some 64000], [], ⟨rfl, _, h, rfl, rfl⟩, ⟨⟨rfl, rfl⟩, ⟨rfl, ⟨rfl, rfl, rows_same⟩, trivial⟩, ⟨rfl, rfl⟩, trivial⟩⟩
def spec_deHeads (k : Nat) (a1 : Rw) : Option Rw :=
  (spec_deHeads_l0 a1 (fun (v13 : Rw) => some v13) k ([] : Rw) 1)
set_option maxHeartbeats 4000000 in
set_option maxRecDepth 100000 in
theorem spec_deHeads_ct {k : Nat} {a1 : Rw} {r : Rw} (h : spec_deHeads k a1 = some r) : Ct prog 55 [.agg [.d (D.sl a1)]] (⟨[], []⟩) (.os 8 r.length) (⟨[], [(3, true, r)]⟩) := by
  rw [spec_deHeads] at h
  refine Ct.of (c := _) mixed func55 ⟨rfl, rfl, rfl⟩ ?_ rfl
  conv => whnf
  refine LoopOk.into (spec_deHeads_l0_ct  _ _ _ h) [some 64, none] [] ⟨⟨rfl, rfl⟩, ⟨rfl, ⟨rfl, rfl, trivial⟩, rfl, trivial⟩, ⟨rfl, rfl⟩, ⟨rfl, rfl⟩, rfl, trivial⟩ ?_ (fun _ hs => hs)
  rintro i ts os ⟨rfl, v13, h, rfl, rfl⟩
  conv => whnf
  refine CutK.go ?_
  conv => whnf
  cases h
  exact Done.of [some 67001] [] rfl rfl ⟨⟨rfl, rfl⟩, ⟨rfl, ⟨rfl, rfl, rows_same⟩, trivial⟩, ⟨rfl, rfl⟩, trivial⟩

def spec_l1Own  (a1 : Rw) : Option Rw :=
  (if a1.length ≤ cap ∧ (∀ cs ∈ a1, cs.length = 1) then some ([] ++ a1 : Rw) else none)
set_option maxHeartbeats 4000000 in
set_option maxRecDepth 100000 in
theorem spec_l1Own_ct  {a1 : Rw} {r : Rw} (h : spec_l1Own a1 = some r) : Ct prog 73 [.d (D.sl a1)] (⟨[], []⟩) (.os 8 r.length) (⟨[], [(3, false, r)]⟩) := by
  rw [spec_l1Own] at h
  refine Ct.of (c := _) mixed func73 ⟨rfl, rfl, rfl⟩ ?_ rfl
  conv => whnf
  refine Take.all (by first | rfl | exact List.length_append.symm | (simp; done) | omega | (dsimp only; omega)) ?_
  conv => whnf
  obtain ⟨g2, h⟩ := req_ex h
  refine Req.of (room0 (b := 8) (by decide) g2.1 g2.2) ?_
  conv => whnf
  cases h
  exact Done.of [some 320] [] rfl rfl ⟨⟨rfl, rfl⟩, ⟨rfl, ⟨rfl, rfl, rows_same⟩, trivial⟩, ⟨(by first | rfl | exact List.length_append.symm | (simp; done) | omega | (dsimp only; omega)), rfl⟩, trivial⟩

def spec_deCopy_l0 (rec_spec_deCopy : Rw → Int → Rw → Int → Int → Option Rw) (a1 : Rw) (a3 : Rw) (a5 : Int) (y9 : Rw) (K0 : Rw → Option Rw) : Rw → Nat → Rw → Option Rw
  | [], v20n, v19 => (K0 v19)
  | cs :: rest, v20n, v19 => (if 0 ≤ (v20n : Int) ∧ (v20n : Int) < (y9.length : Int) then (cell_i cs fun x39 => (if x39 = a5 then (spec_deCopy_l0 rec_spec_deCopy a1 a3 a5 y9 K0 rest (v20n + 1) v19) else ((rec_spec_deCopy v19 (a1.length : Int) a3 x39 a5).bind fun y42 => (spec_deCopy_l0 rec_spec_deCopy a1 a3 a5 y9 K0 rest (v20n + 1) y42)))) else none)
set_option maxHeartbeats 4000000 in
set_option maxRecDepth 100000 in
theorem spec_deCopy_l0_ct {rec_spec_deCopy : Rw → Int → Rw → Int → Int → Option Rw} {a1 : Rw} {a3 : Rw} {a5 : Int} {y9 : Rw} {K0 : Rw → Option Rw} (hrec_spec_deCopy : ∀ (a1 : Rw) (a2 : Int) (a3 : Rw) (a4 : Int) (a5 : Int) (r : Rw), rec_spec_deCopy a1 a2 a3 a4 a5 = some r → Ct prog 105 [.d (D.sl a1), .d (D.int .i64 a2), .agg [.d (D.sl a3)], .d (D.int .i64 a4), .d (D.int .i64 a5)] (⟨[], []⟩) (.os 8 r.length) (⟨[], [(3, false, r)]⟩)) {r : Rw} (hx : y9.length ≤ cap) : ∀ (rest : Rw) (v20n : Nat) (v19 : Rw), y9.drop v20n = rest → spec_deCopy_l0 rec_spec_deCopy a1 a3 a5 y9 K0 rest v20n v19 = some r → LoopOk prog 0 (lp f105 0) (mk 40 [(0, .os 64000 v19.length), (4, .d (D.int .i64 a5)), (7, .ptr 448 0), (11, .d (D.int .i64 (a1.length : Int))), (23, .os 64001 y9.length), (24, .d (D.int .i64 (y9.length : Int))), (25, .d (D.int .i64 (v20n : Int)))] [(448, .box 31 [.d (D.sl a3)]), (64000, .arr 3 false v19), (64001, .arr 3 true y9)]) (LoopEnd prog f105 0 40 (.os 8 r.length) (⟨[], [(3, false, r)]⟩) (fun i ts os => (i = 0 ∧ ∃ v29 : Rw, K0 v29 = some r ∧ ts = [(0, .os 67002 v29.length)] ∧ os = [(67002, .arr 3 false v29)])))
  | [], v20n, v19, hd, h => by
      rw [spec_deCopy_l0] at h
      have hn := drop_nil hd
      refine LoopOk.step ?_
      conv => whnf
      refine splD (fun g => absurd g hn) (fun _ => ?_)
      conv => whnf
      exact ⟨_, _, [some 64000], [], ⟨rfl, _, h, rfl, rfl⟩, ⟨⟨rfl, rfl⟩, ⟨rfl, ⟨rfl, rfl, rows_same⟩, trivial⟩, ⟨rfl, rfl⟩, trivial⟩⟩
  | cs :: rest, v20n, v19, hd, h => by
      rw [spec_deCopy_l0] at h
      obtain ⟨hrow, hd1, hlt⟩ := drop_cons hd
      refine LoopOk.step ?_
      conv => whnf
      refine splD (fun _ => ?_) (fun g => absurd hlt g)
      conv => whnf
      obtain ⟨g38, h⟩ := req_ex h
      refine Req.of g38 ?_
      conv => whnf
      obtain ⟨x39, e40, h⟩ := cell_i_ex h
      rw [e40] at hrow
      refine Row.of _ hrow ?_
      conv => whnf
      refine splN (fun g41 => ?_) (fun g41 => ?_)
      · replace h := iteN h g41
        conv => whnf
        refine Pick.no ?_
        conv => whnf
        refine Take.all (rfl) ?_
        conv => whnf
        obtain ⟨y42, e43, h⟩ := bind_ex h
        refine CallOk.of (hrec_spec_deCopy _ _ _ _ _ _ e43) ?_
        conv => whnf
        refine CutK.norm [0, 4, 7, 11, 23, 24, 25] [448, 2368, 64001] ?_
        conv => whnf
        exact LoopOk.back (spec_deCopy_l0_ct hrec_spec_deCopy hx rest (v20n + 1) _ hd1 h) [some 448, some 2368, some 64001] [] ⟨⟨rfl, rfl⟩, ⟨rfl, ⟨rfl, rfl, trivial⟩, ⟨rfl, rfl, rows_same⟩, ⟨rfl, rfl, rows_same⟩, trivial⟩, ⟨rfl, rfl⟩, rfl, ⟨rfl, rfl⟩, rfl, ⟨rfl, rfl⟩, rfl, i64eq (wrap_up hlt hx), trivial⟩
      · replace h := iteP h g41
        conv => whnf
        refine CutK.norm [0, 4, 7, 11, 23, 24, 25] [448, 64000, 64001] ?_
        conv => whnf
        exact LoopOk.back (spec_deCopy_l0_ct hrec_spec_deCopy hx rest (v20n + 1) _ hd1 h) [some 448, some 64000, some 64001] [] ⟨⟨rfl, rfl⟩, ⟨rfl, ⟨rfl, rfl, trivial⟩, ⟨rfl, rfl, rows_same⟩, ⟨rfl, rfl, rows_same⟩, trivial⟩, ⟨rfl, rfl⟩, rfl, ⟨rfl, rfl⟩, rfl, ⟨rfl, rfl⟩, rfl, i64eq (wrap_up hlt hx), trivial⟩
def spec_deCopy_b (rec_spec_deCopy : Rw → Int → Rw → Int → Int → Option Rw) (a1 : Rw) (a2 : Int) (a3 : Rw) (a4 : Int) (a5 : Int) : Option Rw :=
  ((spec_l1Own a1).bind fun y6 => (if y6.length + 1 ≤ cap then ((spec_deChildren a3 a4).bind fun y9 => (if y9.length ≤ cap then (spec_deCopy_l0 rec_spec_deCopy a1 a3 a5 y9 (fun (v29 : Rw) => some v29) y9 0 (y6 ++ ([[D.int .i64 a2]]))) else none)) else none))
set_option maxHeartbeats 4000000 in
set_option maxRecDepth 100000 in
theorem spec_deCopy_b_ct {rec_spec_deCopy : Rw → Int → Rw → Int → Int → Option Rw} (hrec_spec_deCopy : ∀ (a1 : Rw) (a2 : Int) (a3 : Rw) (a4 : Int) (a5 : Int) (r : Rw), rec_spec_deCopy a1 a2 a3 a4 a5 = some r → Ct prog 105 [.d (D.sl a1), .d (D.int .i64 a2), .agg [.d (D.sl a3)], .d (D.int .i64 a4), .d (D.int .i64 a5)] (⟨[], []⟩) (.os 8 r.length) (⟨[], [(3, false, r)]⟩)) {a1 : Rw} {a2 : Int} {a3 : Rw} {a4 : Int} {a5 : Int} {r : Rw} (h : spec_deCopy_b rec_spec_deCopy a1 a2 a3 a4 a5 = some r) : Ct prog 105 [.d (D.sl a1), .d (D.int .i64 a2), .agg [.d (D.sl a3)], .d (D.int .i64 a4), .d (D.int .i64 a5)] (⟨[], []⟩) (.os 8 r.length) (⟨[], [(3, false, r)]⟩) := by
  rw [spec_deCopy_b] at h
  refine Ct.of (c := _) mixed func105 ⟨rfl, rfl, rfl⟩ ?_ rfl
  conv => whnf
  refine Pick.no ?_
  conv => whnf
  obtain ⟨y6, e7, h⟩ := bind_ex h
  refine CallOk.of (spec_l1Own_ct e7) ?_
  conv => whnf
  refine Take.all (rfl) ?_
  conv => whnf
  refine Take.all (by first | rfl | exact List.length_append.symm | (simp; done) | omega | (dsimp only; omega)) ?_
  conv => whnf
  obtain ⟨g8, h⟩ := req_ex h
  refine Req.of (room (b := 8) (by decide) g8 (wide1 rfl wide0)) ?_
  conv => whnf
  refine CutK.norm [0, 3, 4, 7, 11] [448, 1280] ?_
  conv => whnf
  refine Pick.no ?_
  conv => whnf
  obtain ⟨y9, e10, h⟩ := bind_ex h
  refine CallOk.of (spec_deChildren_ct e10) ?_
  conv => whnf
  refine CutK.norm [0, 4, 7, 11, 23, 24, 25] [448, 1280, 1472] ?_
  conv => whnf
  obtain ⟨g44, h⟩ := req_ex h
  refine LoopOk.into (spec_deCopy_l0_ct hrec_spec_deCopy g44 _ _ _ rfl h) [some 448, some 1280, some 1472] [] ⟨⟨rfl, rfl⟩, ⟨rfl, ⟨rfl, rfl, trivial⟩, ⟨rfl, rfl, rows_same⟩, ⟨rfl, rfl, rows_same⟩, trivial⟩, ⟨(by first | rfl | exact List.length_append.symm | (simp; done) | omega | (dsimp only; omega)), rfl⟩, rfl, ⟨rfl, rfl⟩, rfl, ⟨rfl, rfl⟩, rfl, rfl, trivial⟩ ?_ (fun _ hs => hs)
  rintro i ts os ⟨rfl, v29, h, rfl, rfl⟩
  conv => whnf
  refine CutK.norm [0] [67002] ?_
  conv => whnf
  cases h
  exact Done.of [some 67002] [] rfl rfl ⟨⟨rfl, rfl⟩, ⟨rfl, ⟨rfl, rfl, rows_same⟩, trivial⟩, ⟨rfl, rfl⟩, trivial⟩
def spec_deCopy : Nat → Rw → Int → Rw → Int → Int → Option Rw
  | 0, _, _, _, _, _ => none
  | k + 1, a1, a2, a3, a4, a5 => spec_deCopy_b (spec_deCopy k) a1 a2 a3 a4 a5
theorem spec_deCopy_ct' : ∀ (k : Nat) (a1 : Rw) (a2 : Int) (a3 : Rw) (a4 : Int) (a5 : Int) (r : Rw), spec_deCopy k a1 a2 a3 a4 a5 = some r → Ct prog 105 [.d (D.sl a1), .d (D.int .i64 a2), .agg [.d (D.sl a3)], .d (D.int .i64 a4), .d (D.int .i64 a5)] (⟨[], []⟩) (.os 8 r.length) (⟨[], [(3, false, r)]⟩)
  | 0, _, _, _, _, _, _, h => by rw [spec_deCopy] at h; cases h
  | k + 1, _, _, _, _, _, _, h => by rw [spec_deCopy] at h; exact spec_deCopy_b_ct (spec_deCopy_ct' k) h
theorem spec_deCopy_ct {k : Nat} {a1 : Rw} {a2 : Int} {a3 : Rw} {a4 : Int} {a5 : Int} {r : Rw} (h : spec_deCopy k a1 a2 a3 a4 a5 = some r) : Ct prog 105 [.d (D.sl a1), .d (D.int .i64 a2), .agg [.d (D.sl a3)], .d (D.int .i64 a4), .d (D.int .i64 a5)] (⟨[], []⟩) (.os 8 r.length) (⟨[], [(3, false, r)]⟩) := spec_deCopy_ct' k _ _ _ _ _ _ h

def spec_deChop_p6 (o65 : Rw) : Option Rw :=
  some o65
set_option maxHeartbeats 4000000 in
set_option maxRecDepth 100000 in
theorem spec_deChop_p6_ct {o65 : Rw} {r : Rw} (h : spec_deChop_p6 o65 = some r) : X prog 0 (tlF f92 6) (mk 75 [(0, .os 1094000 o65.length)] [(1094000, .arr 3 false o65)]) (finK prog f92 0 (.os 8 r.length) (⟨[], [(3, false, r)]⟩)) := by
  rw [spec_deChop_p6] at h
  conv => whnf
  cases h
  exact Done.of [some 1094000] [] rfl rfl ⟨⟨rfl, rfl⟩, ⟨rfl, ⟨rfl, rfl, rows_same⟩, trivial⟩, ⟨rfl, rfl⟩, trivial⟩
def spec_deChop_l1 (k : Nat) (a1 : Rw) (a3 : Rw) (a5 : Int) (o44 : Int) (K2 : Rw → Option Rw) : Nat → Rw → Int → Option Rw
  | 0, _, _ => none
  | n + 1, v75, v76 => (if (0 : Int) < v76 then (if (v75.length : Int) ≤ (40 : Int) then ((spec_deCopy k v75 (a1.length : Int) a3 o44 a5).bind fun y88 => (spec_deChop_l1 k a1 a3 a5 o44 K2 n y88 (IntKind.i64.wrap (v76 - 1)))) else (K2 v75)) else (K2 v75))
set_option maxHeartbeats 4000000 in
set_option maxRecDepth 100000 in
theorem spec_deChop_l1_ct {k : Nat} {a1 : Rw} {a3 : Rw} {a5 : Int} {o44 : Int} {K2 : Rw → Option Rw} {r : Rw} : ∀ (n : Nat) (v75 : Rw) (v76 : Int), spec_deChop_l1 k a1 a3 a5 o44 K2 n v75 v76 = some r → LoopOk prog 0 (lp f92 1) (mk 75 [(0, .os 70400 v75.length), (4, .d (D.int .i64 a5)), (5, .d (D.int .i64 v76)), (8, .ptr 512 0), (13, .d (D.int .i64 (a1.length : Int))), (14, .d (D.int .i64 o44))] [(512, .box 31 [.d (D.sl a3)]), (70400, .arr 3 false v75)]) (LoopEnd prog f92 0 75 (.os 8 r.length) (⟨[], [(3, false, r)]⟩) (fun i ts os => (i = 2 ∧ ∃ v81 : Rw, K2 v81 = some r ∧ ts = [(0, .os 73401 v81.length)] ∧ os = [(73401, .arr 3 false v81)])))
  | 0, _, _, h => by
      rw [spec_deChop_l1] at h; cases h
  | n + 1, v75, v76, h => by
      rw [spec_deChop_l1] at h
      refine LoopOk.step ?_
      conv => whnf
      refine splD (fun g86 => ?_) (fun g86 => ?_)
      · replace h := iteP h g86
        conv => whnf
        refine splD (fun g87 => ?_) (fun g87 => ?_)
        · replace h := iteP h g87
          conv => whnf
          refine Pick.no ?_
          conv => whnf
          refine Take.all (rfl) ?_
          conv => whnf
          obtain ⟨y88, e89, h⟩ := bind_ex h
          refine CallOk.of (spec_deCopy_ct e89) ?_
          conv => whnf
          refine CutK.norm [0, 4, 5, 8, 13, 14] [512, 4672] ?_
          conv => whnf
          exact LoopOk.back (spec_deChop_l1_ct  n _ _ h) [some 512, some 4672] [] ⟨⟨rfl, rfl⟩, ⟨rfl, ⟨rfl, rfl, trivial⟩, ⟨rfl, rfl, rows_same⟩, trivial⟩, ⟨rfl, rfl⟩, rfl, rfl, ⟨rfl, rfl⟩, rfl, rfl, trivial⟩
        · replace h := iteN h g87
          conv => whnf
          exact ⟨_, _, [some 70400], [], ⟨rfl, _, h, rfl, rfl⟩, ⟨⟨rfl, rfl⟩, ⟨rfl, ⟨rfl, rfl, rows_same⟩, trivial⟩, ⟨rfl, rfl⟩, trivial⟩⟩
      · replace h := iteN h g86
        conv => whnf
        exact ⟨_, _, [some 70400], [], ⟨rfl, _, h, rfl, rfl⟩, ⟨⟨rfl, rfl⟩, ⟨rfl, ⟨rfl, rfl, rows_same⟩, trivial⟩, ⟨rfl, rfl⟩, trivial⟩⟩
def spec_deChop_p5 (k : Nat) (a1 : Rw) (a3 : Rw) (a4 : Int) (a5 : Int) (a6 : Int) (o43 : Rw) (o44 : Int) : Option Rw :=
  (if (0 : Int) < o44 then (row_i a3 o44 fun x67 => (if x67 = a4 then (spec_deChop_l1 k a1 a3 a5 o44 (fun (v81 : Rw) => (spec_deChop_p6 v81)) k o43 a6) else (spec_deChop_p6 o43))) else (spec_deChop_p6 o43))
set_option maxHeartbeats 4000000 in
set_option maxRecDepth 100000 in
theorem spec_deChop_p5_ct {k : Nat} {a1 : Rw} {a3 : Rw} {a4 : Int} {a5 : Int} {a6 : Int} {o43 : Rw} {o44 : Int} {r : Rw} (h : spec_deChop_p5 k a1 a3 a4 a5 a6 o43 o44 = some r) : X prog 0 (tlF f92 5) (mk 75 [(0, .os 1089000 o43.length), (3, .d (D.int .i64 a4)), (4, .d (D.int .i64 a5)), (5, .d (D.int .i64 a6)), (8, .ptr 512 0), (13, .d (D.int .i64 (a1.length : Int))), (14, .d (D.int .i64 o44))] [(512, .box 31 [.d (D.sl a3)]), (1089000, .arr 3 false o43)]) (finK prog f92 0 (.os 8 r.length) (⟨[], [(3, false, r)]⟩)) := by
  rw [spec_deChop_p5] at h
  conv => whnf
  refine splD (fun g66 => ?_) (fun g66 => ?_)
  · replace h := iteP h g66
    conv => whnf
    obtain ⟨g69, x67, e68, h⟩ := row_i_ex h
    refine Req.of g69 ?_
    refine Row.of _ e68 ?_
    conv => whnf
    refine splD (fun g70 => ?_) (fun g70 => ?_)
    · replace h := iteP h g70
      conv => whnf
      refine LoopOk.into (spec_deChop_l1_ct  _ _ _ h) [some 512, some 1089000] [] ⟨⟨rfl, rfl⟩, ⟨rfl, ⟨rfl, rfl, trivial⟩, ⟨rfl, rfl, rows_same⟩, trivial⟩, ⟨rfl, rfl⟩, rfl, rfl, ⟨rfl, rfl⟩, rfl, rfl, trivial⟩ ?_ (fun _ hs => hs)
      rintro i ts os ⟨rfl, v81, h, rfl, rfl⟩
      conv => whnf
      exact CutK.piece (spec_deChop_p6_ct  h) [some 73401] [] ⟨⟨rfl, rfl⟩, ⟨rfl, ⟨rfl, rfl, rows_same⟩, trivial⟩, ⟨rfl, rfl⟩, trivial⟩
    · replace h := iteN h g70
      conv => whnf
      exact CutK.piece (spec_deChop_p6_ct  h) [some 1089000] [] ⟨⟨rfl, rfl⟩, ⟨rfl, ⟨rfl, rfl, rows_same⟩, trivial⟩, ⟨rfl, rfl⟩, trivial⟩
  · replace h := iteN h g66
    conv => whnf
    exact CutK.piece (spec_deChop_p6_ct  h) [some 1089000] [] ⟨⟨rfl, rfl⟩, ⟨rfl, ⟨rfl, rfl, rows_same⟩, trivial⟩, ⟨rfl, rfl⟩, trivial⟩
def spec_deChop_l0 (rec_spec_deChop : Rw → Int → Rw → Int → Int → Int → Option Rw) (a1 : Rw) (a3 : Rw) (a4 : Int) (a5 : Int) (a6 : Int) (x90 : Int) (y93 : Rw) (K0 : Rw → Option Rw) : Rw → Nat → Rw → Option Rw
  | [], v104n, v103 => (K0 v103)
  | cs :: rest, v104n, v103 => (if 0 ≤ (v104n : Int) ∧ (v104n : Int) < (y93.length : Int) then (cell_i cs fun x123 => (if x123 = a5 then (spec_deChop_l0 rec_spec_deChop a1 a3 a4 a5 a6 x90 y93 K0 rest (v104n + 1) v103) else ((rec_spec_deChop v103 (a1.length : Int) a3 x123 a5 a6).bind fun y126 => (spec_deChop_l0 rec_spec_deChop a1 a3 a4 a5 a6 x90 y93 K0 rest (v104n + 1) y126)))) else none)
set_option maxHeartbeats 4000000 in
set_option maxRecDepth 100000 in
theorem spec_deChop_l0_ct {rec_spec_deChop : Rw → Int → Rw → Int → Int → Int → Option Rw} {a1 : Rw} {a3 : Rw} {a4 : Int} {a5 : Int} {a6 : Int} {x90 : Int} {y93 : Rw} {K0 : Rw → Option Rw} (hrec_spec_deChop : ∀ (a1 : Rw) (a2 : Int) (a3 : Rw) (a4 : Int) (a5 : Int) (a6 : Int) (r : Rw), rec_spec_deChop a1 a2 a3 a4 a5 a6 = some r → Ct prog 92 [.d (D.sl a1), .d (D.int .i64 a2), .agg [.d (D.sl a3)], .d (D.int .i64 a4), .d (D.int .i64 a5), .d (D.int .i64 a6)] (⟨[], []⟩) (.os 8 r.length) (⟨[], [(3, false, r)]⟩)) {r : Rw} (hx : y93.length ≤ cap) : ∀ (rest : Rw) (v104n : Nat) (v103 : Rw), y93.drop v104n = rest → spec_deChop_l0 rec_spec_deChop a1 a3 a4 a5 a6 x90 y93 K0 rest v104n v103 = some r → LoopOk prog 0 (lp f92 0) (mk 75 [(0, .os 64000 v103.length), (3, .d (D.int .i64 a4)), (4, .d (D.int .i64 a5)), (5, .d (D.int .i64 a6)), (8, .ptr 512 0), (13, .d (D.int .i64 (a1.length : Int))), (14, .d (D.int .i64 x90)), (31, .os 64001 y93.length), (32, .d (D.int .i64 (y93.length : Int))), (33, .d (D.int .i64 (v104n : Int)))] [(512, .box 31 [.d (D.sl a3)]), (64000, .arr 3 false v103), (64001, .arr 3 true y93)]) (LoopEnd prog f92 0 75 (.os 8 r.length) (⟨[], [(3, false, r)]⟩) (fun i ts os => (i = 0 ∧ ∃ v113 : Rw, K0 v113 = some r ∧ ts = [(0, .os 67002 v113.length), (3, .d (D.int .i64 a4)), (4, .d (D.int .i64 a5)), (5, .d (D.int .i64 a6)), (8, .ptr 512 0), (13, .d (D.int .i64 (a1.length : Int))), (14, .d (D.int .i64 x90))] ∧ os = [(512, .box 31 [.d (D.sl a3)]), (67002, .arr 3 false v113)])))
  | [], v104n, v103, hd, h => by
      rw [spec_deChop_l0] at h
      have hn := drop_nil hd
      refine LoopOk.step ?_
      conv => whnf
      refine splD (fun g => absurd g hn) (fun _ => ?_)
      conv => whnf
      exact ⟨_, _, [some 512, some 64000], [], ⟨rfl, _, h, rfl, rfl⟩, ⟨⟨rfl, rfl⟩, ⟨rfl, ⟨rfl, rfl, trivial⟩, ⟨rfl, rfl, rows_same⟩, trivial⟩, ⟨rfl, rfl⟩, rfl, rfl, rfl, ⟨rfl, rfl⟩, rfl, rfl, trivial⟩⟩
  | cs :: rest, v104n, v103, hd, h => by
      rw [spec_deChop_l0] at h
      obtain ⟨hrow, hd1, hlt⟩ := drop_cons hd
      refine LoopOk.step ?_
      conv => whnf
      refine splD (fun _ => ?_) (fun g => absurd hlt g)
      conv => whnf
      obtain ⟨g122, h⟩ := req_ex h
      refine Req.of g122 ?_
      conv => whnf
      obtain ⟨x123, e124, h⟩ := cell_i_ex h
      rw [e124] at hrow
      refine Row.of _ hrow ?_
      conv => whnf
      refine splN (fun g125 => ?_) (fun g125 => ?_)
      · replace h := iteN h g125
        conv => whnf
        refine Pick.no ?_
        conv => whnf
        refine Take.all (rfl) ?_
        conv => whnf
        obtain ⟨y126, e127, h⟩ := bind_ex h
        refine CallOk.of (hrec_spec_deChop _ _ _ _ _ _ _ e127) ?_
        conv => whnf
        refine CutK.norm [0, 3, 4, 5, 8, 13, 14, 31, 32, 33] [512, 2944, 64001] ?_
        conv => whnf
        exact LoopOk.back (spec_deChop_l0_ct hrec_spec_deChop hx rest (v104n + 1) _ hd1 h) [some 512, some 2944, some 64001] [] ⟨⟨rfl, rfl⟩, ⟨rfl, ⟨rfl, rfl, trivial⟩, ⟨rfl, rfl, rows_same⟩, ⟨rfl, rfl, rows_same⟩, trivial⟩, ⟨rfl, rfl⟩, rfl, rfl, rfl, ⟨rfl, rfl⟩, rfl, rfl, ⟨rfl, rfl⟩, rfl, i64eq (wrap_up hlt hx), trivial⟩
      · replace h := iteP h g125
        conv => whnf
        refine CutK.norm [0, 3, 4, 5, 8, 13, 14, 31, 32, 33] [512, 64000, 64001] ?_
        conv => whnf
        exact LoopOk.back (spec_deChop_l0_ct hrec_spec_deChop hx rest (v104n + 1) _ hd1 h) [some 512, some 64000, some 64001] [] ⟨⟨rfl, rfl⟩, ⟨rfl, ⟨rfl, rfl, trivial⟩, ⟨rfl, rfl, rows_same⟩, ⟨rfl, rfl, rows_same⟩, trivial⟩, ⟨rfl, rfl⟩, rfl, rfl, rfl, ⟨rfl, rfl⟩, rfl, rfl, ⟨rfl, rfl⟩, rfl, i64eq (wrap_up hlt hx), trivial⟩
def spec_deChop_p3 (k : Nat) (rec_spec_deChop : Rw → Int → Rw → Int → Int → Int → Option Rw) (a1 : Rw) (a3 : Rw) (a4 : Int) (a5 : Int) (a6 : Int) (o10 : Rw) : Option Rw :=
  (row_i a3 a5 fun x90 => ((spec_deChildren a3 a4).bind fun y93 => (if y93.length ≤ cap then (spec_deChop_l0 rec_spec_deChop a1 a3 a4 a5 a6 x90 y93 (fun (v113 : Rw) => (spec_deChop_p5 k a1 a3 a4 a5 a6 v113 x90)) y93 0 o10) else none)))
set_option maxHeartbeats 4000000 in
set_option maxRecDepth 100000 in
theorem spec_deChop_p3_ct {k : Nat} {rec_spec_deChop : Rw → Int → Rw → Int → Int → Int → Option Rw} (hrec_spec_deChop : ∀ (a1 : Rw) (a2 : Int) (a3 : Rw) (a4 : Int) (a5 : Int) (a6 : Int) (r : Rw), rec_spec_deChop a1 a2 a3 a4 a5 a6 = some r → Ct prog 92 [.d (D.sl a1), .d (D.int .i64 a2), .agg [.d (D.sl a3)], .d (D.int .i64 a4), .d (D.int .i64 a5), .d (D.int .i64 a6)] (⟨[], []⟩) (.os 8 r.length) (⟨[], [(3, false, r)]⟩)) {a1 : Rw} {a3 : Rw} {a4 : Int} {a5 : Int} {a6 : Int} {o10 : Rw} {r : Rw} (h : spec_deChop_p3 k rec_spec_deChop a1 a3 a4 a5 a6 o10 = some r) : X prog 0 (tlF f92 3) (mk 75 [(0, .os 1079000 o10.length), (3, .d (D.int .i64 a4)), (4, .d (D.int .i64 a5)), (5, .d (D.int .i64 a6)), (8, .ptr 512 0), (13, .d (D.int .i64 (a1.length : Int)))] [(512, .box 31 [.d (D.sl a3)]), (1079000, .arr 3 false o10)]) (finK prog f92 0 (.os 8 r.length) (⟨[], [(3, false, r)]⟩)) := by
  rw [spec_deChop_p3] at h
  conv => whnf
  obtain ⟨g92, x90, e91, h⟩ := row_i_ex h
  refine Req.of g92 ?_
  refine Row.of _ e91 ?_
  conv => whnf
  refine Pick.no ?_
  conv => whnf
  obtain ⟨y93, e94, h⟩ := bind_ex h
  refine CallOk.of (spec_deChildren_ct e94) ?_
  conv => whnf
  refine CutK.norm [0, 3, 4, 5, 8, 13, 14, 31, 32, 33] [512, 1984, 1079000] ?_
  conv => whnf
  obtain ⟨g128, h⟩ := req_ex h
  refine LoopOk.into (spec_deChop_l0_ct hrec_spec_deChop g128 _ _ _ rfl h) [some 512, some 1079000, some 1984] [] ⟨⟨rfl, rfl⟩, ⟨rfl, ⟨rfl, rfl, trivial⟩, ⟨rfl, rfl, rows_same⟩, ⟨rfl, rfl, rows_same⟩, trivial⟩, ⟨rfl, rfl⟩, rfl, rfl, rfl, ⟨rfl, rfl⟩, rfl, rfl, ⟨rfl, rfl⟩, rfl, rfl, trivial⟩ ?_ (fun _ hs => hs)
  rintro i ts os ⟨rfl, v113, h, rfl, rfl⟩
  conv => whnf
  exact CutK.piece (spec_deChop_p5_ct  h) [some 512, some 67002] [] ⟨⟨rfl, rfl⟩, ⟨rfl, ⟨rfl, rfl, trivial⟩, ⟨rfl, rfl, rows_same⟩, trivial⟩, ⟨rfl, rfl⟩, rfl, rfl, rfl, ⟨rfl, rfl⟩, rfl, rfl, trivial⟩
def spec_deChop_b (k : Nat) (rec_spec_deChop : Rw → Int → Rw → Int → Int → Int → Option Rw) (a1 : Rw) (a2 : Int) (a3 : Rw) (a4 : Int) (a5 : Int) (a6 : Int) : Option Rw :=
  ((spec_l1Own a1).bind fun y129 => (if y129.length + 1 ≤ cap then (spec_deChop_p3 k rec_spec_deChop a1 a3 a4 a5 a6 (y129 ++ ([[D.int .i64 a2]]))) else none))
set_option maxHeartbeats 4000000 in
set_option maxRecDepth 100000 in
theorem spec_deChop_b_ct {k : Nat} {rec_spec_deChop : Rw → Int → Rw → Int → Int → Int → Option Rw} (hrec_spec_deChop : ∀ (a1 : Rw) (a2 : Int) (a3 : Rw) (a4 : Int) (a5 : Int) (a6 : Int) (r : Rw), rec_spec_deChop a1 a2 a3 a4 a5 a6 = some r → Ct prog 92 [.d (D.sl a1), .d (D.int .i64 a2), .agg [.d (D.sl a3)], .d (D.int .i64 a4), .d (D.int .i64 a5), .d (D.int .i64 a6)] (⟨[], []⟩) (.os 8 r.length) (⟨[], [(3, false, r)]⟩)) {a1 : Rw} {a2 : Int} {a3 : Rw} {a4 : Int} {a5 : Int} {a6 : Int} {r : Rw} (h : spec_deChop_b k rec_spec_deChop a1 a2 a3 a4 a5 a6 = some r) : Ct prog 92 [.d (D.sl a1), .d (D.int .i64 a2), .agg [.d (D.sl a3)], .d (D.int .i64 a4), .d (D.int .i64 a5), .d (D.int .i64 a6)] (⟨[], []⟩) (.os 8 r.length) (⟨[], [(3, false, r)]⟩) := by
  rw [spec_deChop_b] at h
  refine Ct.of (c := _) mixed func92 ⟨rfl, rfl, rfl⟩ ?_ rfl
  conv => whnf
  refine Pick.no ?_
  conv => whnf
  obtain ⟨y129, e130, h⟩ := bind_ex h
  refine CallOk.of (spec_l1Own_ct e130) ?_
  conv => whnf
  refine Take.all (rfl) ?_
  conv => whnf
  refine Take.all (by first | rfl | exact List.length_append.symm | (simp; done) | omega | (dsimp only; omega)) ?_
  conv => whnf
  obtain ⟨g131, h⟩ := req_ex h
  refine Req.of (room (b := 8) (by decide) g131 (wide1 rfl wide0)) ?_
  conv => whnf
  exact CutK.piece (spec_deChop_p3_ct hrec_spec_deChop h) [some 512, some 1472] [] ⟨⟨rfl, rfl⟩, ⟨rfl, ⟨rfl, rfl, trivial⟩, ⟨rfl, rfl, rows_same⟩, trivial⟩, ⟨(by first | rfl | exact List.length_append.symm | (simp; done) | omega | (dsimp only; omega)), rfl⟩, rfl, rfl, rfl, ⟨rfl, rfl⟩, rfl, trivial⟩
def spec_deChop : Nat → Rw → Int → Rw → Int → Int → Int → Option Rw
  | 0, _, _, _, _, _, _ => none
  | k + 1, a1, a2, a3, a4, a5, a6 => spec_deChop_b k (spec_deChop k) a1 a2 a3 a4 a5 a6
theorem spec_deChop_ct' : ∀ (k : Nat) (a1 : Rw) (a2 : Int) (a3 : Rw) (a4 : Int) (a5 : Int) (a6 : Int) (r : Rw), spec_deChop k a1 a2 a3 a4 a5 a6 = some r → Ct prog 92 [.d (D.sl a1), .d (D.int .i64 a2), .agg [.d (D.sl a3)], .d (D.int .i64 a4), .d (D.int .i64 a5), .d (D.int .i64 a6)] (⟨[], []⟩) (.os 8 r.length) (⟨[], [(3, false, r)]⟩)
  | 0, _, _, _, _, _, _, _, h => by rw [spec_deChop] at h; cases h
  | k + 1, _, _, _, _, _, _, _, h => by rw [spec_deChop] at h; exact spec_deChop_b_ct (spec_deChop_ct' k) h
theorem spec_deChop_ct {k : Nat} {a1 : Rw} {a2 : Int} {a3 : Rw} {a4 : Int} {a5 : Int} {a6 : Int} {r : Rw} (h : spec_deChop k a1 a2 a3 a4 a5 a6 = some r) : Ct prog 92 [.d (D.sl a1), .d (D.int .i64 a2), .agg [.d (D.sl a3)], .d (D.int .i64 a4), .d (D.int .i64 a5), .d (D.int .i64 a6)] (⟨[], []⟩) (.os 8 r.length) (⟨[], [(3, false, r)]⟩) := spec_deChop_ct' k _ _ _ _ _ _ _ h

def spec_deChopped (k : Nat) (a1 : Rw) (a2 : Int) (a3 : Int) : Option (Rw × Bool) :=
  ((spec_deChop k ([] : Rw) (-1) a1 0 a2 a3).bind fun y4 => (if (40 : Int) < (y4.length : Int) then some (([] : Rw), false) else some (y4, true)))
set_option maxHeartbeats 4000000 in
set_option maxRecDepth 100000 in
theorem spec_deChopped_ct {k : Nat} {a1 : Rw} {a2 : Int} {a3 : Int} {r : Rw × Bool} (h : spec_deChopped k a1 a2 a3 = some r) : Ct prog 65 [.agg [.d (D.sl a1)], .d (D.int .i64 a2), .d (D.int .i64 a3)] (⟨[], []⟩) (.tup [.agg [.os 8 r.1.length], .d (D.bool r.2)]) (⟨[], [(3, false, r.1)]⟩) := by
  rw [spec_deChopped] at h
  refine Ct.of (c := _) mixed func65 ⟨rfl, rfl, rfl⟩ ?_ rfl
  conv => whnf
  refine Pick.no ?_
  conv => whnf
  obtain ⟨y4, e5, h⟩ := bind_ex h
  refine CallOk.of (spec_deChop_ct e5) ?_
  conv => whnf
  refine CutK.go ?_
  conv => whnf
  refine splD (fun g6 => ?_) (fun g6 => ?_)
  · replace h := iteP h g6
    conv => whnf
    cases h
    exact Done.of [none] [] rfl rfl ⟨⟨rfl, rfl⟩, ⟨rfl, rfl, trivial⟩, ⟨⟨⟨rfl, rfl⟩, trivial⟩, rfl, trivial⟩, trivial⟩
  · replace h := iteN h g6
    conv => whnf
    cases h
    exact Done.of [some 768] [] rfl rfl ⟨⟨rfl, rfl⟩, ⟨rfl, ⟨rfl, rfl, rows_same⟩, trivial⟩, ⟨⟨⟨rfl, rfl⟩, trivial⟩, rfl, trivial⟩, trivial⟩

def spec_l1Sign  (a1 : Int) : Option Int :=
  (if (0 : Int) < a1 then some 1 else (if a1 < (0 : Int) then some (-1) else some 0))
set_option maxHeartbeats 4000000 in
set_option maxRecDepth 100000 in
theorem spec_l1Sign_ct  {a1 : Int} {r : Int} (h : spec_l1Sign a1 = some r) : Ct prog 100 [.d (D.int .i64 a1)] (⟨[], []⟩) (.d (D.int .i64 r)) (⟨[], []⟩) := by
  rw [spec_l1Sign] at h
  refine Ct.of (c := _) mixed func100 ⟨rfl, rfl, rfl⟩ ?_ rfl
  conv => whnf
  refine splD (fun g2 => ?_) (fun g2 => ?_)
  · replace h := iteP h g2
    conv => whnf
    cases h
    exact Done.of [] [] rfl rfl ⟨⟨rfl, rfl⟩, ⟨rfl, trivial⟩, rfl, trivial⟩
  · replace h := iteN h g2
    conv => whnf
    refine splD (fun g3 => ?_) (fun g3 => ?_)
    · replace h := iteP h g3
      conv => whnf
      cases h
      exact Done.of [] [] rfl rfl ⟨⟨rfl, rfl⟩, ⟨rfl, trivial⟩, rfl, trivial⟩
    · replace h := iteN h g3
      conv => whnf
      cases h
      exact Done.of [] [] rfl rfl ⟨⟨rfl, rfl⟩, ⟨rfl, trivial⟩, rfl, trivial⟩

def spec_odCmp_p2 (a1 : Rw) (a2 : Rw) : Option Int :=
  (if (a1.length : Int) < (a2.length : Int) then some (-1) else some 0)
set_option maxHeartbeats 4000000 in
set_option maxRecDepth 100000 in
theorem spec_odCmp_p2_ct {a1 : Rw} {a2 : Rw} {r : Int} (h : spec_odCmp_p2 a1 a2 = some r) : X prog 0 (tlF f78 2) (mk 60 [(2, .ptr 128 0), (3, .ptr 192 0)] [(128, .box 28 [.d (D.sl a1)]), (192, .box 28 [.d (D.sl a2)])]) (finK prog f78 0 (.d (D.int .i64 r)) (⟨[], []⟩)) := by
  rw [spec_odCmp_p2] at h
  conv => whnf
  refine splD (fun g37 => ?_) (fun g37 => ?_)
  · replace h := iteP h g37
    conv => whnf
    cases h
    exact Done.of [] [] rfl rfl ⟨⟨rfl, rfl⟩, ⟨rfl, trivial⟩, rfl, trivial⟩
  · replace h := iteN h g37
    conv => whnf
    cases h
    exact Done.of [] [] rfl rfl ⟨⟨rfl, rfl⟩, ⟨rfl, trivial⟩, rfl, trivial⟩
def spec_odCmp_l0 (rec_spec_odCmp : Rw → Rw → Option Int) (a1 : Rw) (a2 : Rw) (K0 : Option Int) : Rw → Nat → Option Int
  | [], v54n => (K0)
  | cs :: rest, v54n => (cell_si cs fun x71 x72 => (if (v54n : Int) = (a2.length : Int) then some 1 else (row_si a2 (v54n : Int) fun x75 x76 => ((rec_spec_odCmp x71 x75).bind fun y79 => (if y79 = (0 : Int) then (if x72 = x76 then (spec_odCmp_l0 rec_spec_odCmp a1 a2 K0 rest (v54n + 1)) else ((spec_l1Sign (IntKind.i64.wrap (x72 - x76))).bind fun y83 => some y83)) else some y79)))))
set_option maxHeartbeats 4000000 in
set_option maxRecDepth 100000 in
theorem spec_odCmp_l0_ct {rec_spec_odCmp : Rw → Rw → Option Int} {a1 : Rw} {a2 : Rw} {K0 : Option Int} (hrec_spec_odCmp : ∀ (a1 : Rw) (a2 : Rw) (r : Int), rec_spec_odCmp a1 a2 = some r → Ct prog 78 [.agg [.d (D.sl a1)], .agg [.d (D.sl a2)]] (⟨[], []⟩) (.d (D.int .i64 r)) (⟨[], []⟩)) {r : Int} (hx : a1.length ≤ cap) : ∀ (rest : Rw) (v54n : Nat), a1.drop v54n = rest → spec_odCmp_l0 rec_spec_odCmp a1 a2 K0 rest v54n = some r → LoopOk prog 0 (lp f78 0) (mk 60 [(2, .ptr 128 0), (3, .ptr 192 0), (9, .d (D.sl a1)), (10, .d (D.int .i64 (a1.length : Int))), (11, .d (D.int .i64 (v54n : Int)))] [(128, .box 28 [.d (D.sl a1)]), (192, .box 28 [.d (D.sl a2)])]) (LoopEnd prog f78 0 60 (.d (D.int .i64 r)) (⟨[], []⟩) (fun i ts os => (i = 0 ∧ K0 = some r ∧ ts = [(2, .ptr 128 0), (3, .ptr 192 0)] ∧ os = [(128, .box 28 [.d (D.sl a1)]), (192, .box 28 [.d (D.sl a2)])])))
  | [], v54n, hd, h => by
      rw [spec_odCmp_l0] at h
      have hn := drop_nil hd
      refine LoopOk.step ?_
      conv => whnf
      refine splD (fun g => absurd g hn) (fun _ => ?_)
      conv => whnf
      exact ⟨_, _, [some 128, some 192], [], ⟨rfl, h, rfl, rfl⟩, ⟨⟨rfl, rfl⟩, ⟨rfl, ⟨rfl, rfl, trivial⟩, ⟨rfl, rfl, trivial⟩, trivial⟩, ⟨rfl, rfl⟩, ⟨rfl, rfl⟩, trivial⟩⟩
  | cs :: rest, v54n, hd, h => by
      rw [spec_odCmp_l0] at h
      obtain ⟨hrow, hd1, hlt⟩ := drop_cons hd
      refine LoopOk.step ?_
      conv => whnf
      refine splD (fun _ => ?_) (fun g => absurd hlt g)
      conv => whnf
      obtain ⟨x71, x72, e73, h⟩ := cell_si_ex h
      rw [e73] at hrow
      refine Req.of (Int.natCast_nonneg _) ?_
      refine Row.of _ hrow ?_
      conv => whnf
      refine splD (fun g74 => ?_) (fun g74 => ?_)
      · replace h := iteP h g74
        conv => whnf
        cases h
        exact Done.of [] [] rfl rfl ⟨⟨rfl, rfl⟩, ⟨rfl, trivial⟩, rfl, trivial⟩
      · replace h := iteN h g74
        conv => whnf
        obtain ⟨g78, x75, x76, e77, h⟩ := row_si_ex h
        refine Req.of g78 ?_
        refine Row.of _ e77 ?_
        conv => whnf
        refine Pick.no ?_
        conv => whnf
        obtain ⟨y79, e80, h⟩ := bind_ex h
        refine CallOk.of (hrec_spec_odCmp _ _ _ e80) ?_
        conv => whnf
        refine CutK.norm [2, 3, 5, 6, 7, 9, 10, 11] [128, 192, 384] ?_
        conv => whnf
        refine splN (fun g81 => ?_) (fun g81 => ?_)
        · replace h := iteN h g81
          conv => whnf
          cases h
          exact Done.of [] [] rfl rfl ⟨⟨rfl, rfl⟩, ⟨rfl, trivial⟩, rfl, trivial⟩
        · replace h := iteP h g81
          conv => whnf
          refine CutK.norm [2, 3, 5, 6, 9, 10, 11] [128, 192, 384] ?_
          conv => whnf
          refine Req.of g78 ?_
          refine Row.of _ e77 ?_
          conv => whnf
          refine splN (fun g82 => ?_) (fun g82 => ?_)
          · replace h := iteN h g82
            conv => whnf
            refine Req.of g78 ?_
            refine Row.of _ e77 ?_
            conv => whnf
            refine Pick.no ?_
            conv => whnf
            obtain ⟨y83, e84, h⟩ := bind_ex h
            refine CallOk.of (spec_l1Sign_ct e84) ?_
            conv => whnf
            refine CutK.norm [4] [] ?_
            conv => whnf
            cases h
            exact Done.of [] [] rfl rfl ⟨⟨rfl, rfl⟩, ⟨rfl, trivial⟩, rfl, trivial⟩
          · replace h := iteP h g82
            conv => whnf
            refine CutK.norm [2, 3, 9, 10, 11] [128, 192] ?_
            conv => whnf
            exact LoopOk.back (spec_odCmp_l0_ct hrec_spec_odCmp hx rest (v54n + 1)  hd1 h) [some 128, some 192] [] ⟨⟨rfl, rfl⟩, ⟨rfl, ⟨rfl, rfl, trivial⟩, ⟨rfl, rfl, trivial⟩, trivial⟩, ⟨rfl, rfl⟩, ⟨rfl, rfl⟩, rfl, rfl, i64eq (wrap_up hlt hx), trivial⟩
def spec_odCmp_b (rec_spec_odCmp : Rw → Rw → Option Int) (a1 : Rw) (a2 : Rw) : Option Int :=
  (if a1.length ≤ cap then (spec_odCmp_l0 rec_spec_odCmp a1 a2 (spec_odCmp_p2 a1 a2) a1 0) else none)
set_option maxHeartbeats 4000000 in
set_option maxRecDepth 100000 in
theorem spec_odCmp_b_ct {rec_spec_odCmp : Rw → Rw → Option Int} (hrec_spec_odCmp : ∀ (a1 : Rw) (a2 : Rw) (r : Int), rec_spec_odCmp a1 a2 = some r → Ct prog 78 [.agg [.d (D.sl a1)], .agg [.d (D.sl a2)]] (⟨[], []⟩) (.d (D.int .i64 r)) (⟨[], []⟩)) {a1 : Rw} {a2 : Rw} {r : Int} (h : spec_odCmp_b rec_spec_odCmp a1 a2 = some r) : Ct prog 78 [.agg [.d (D.sl a1)], .agg [.d (D.sl a2)]] (⟨[], []⟩) (.d (D.int .i64 r)) (⟨[], []⟩) := by
  rw [spec_odCmp_b] at h
  refine Ct.of (c := _) mixed func78 ⟨rfl, rfl, rfl⟩ ?_ rfl
  conv => whnf
  obtain ⟨g85, h⟩ := req_ex h
  refine LoopOk.into (spec_odCmp_l0_ct hrec_spec_odCmp g85 _ _  rfl h) [some 128, some 192] [] ⟨⟨rfl, rfl⟩, ⟨rfl, ⟨rfl, rfl, trivial⟩, ⟨rfl, rfl, trivial⟩, trivial⟩, ⟨rfl, rfl⟩, ⟨rfl, rfl⟩, rfl, rfl, rfl, trivial⟩ ?_ (fun _ hs => hs)
  rintro i ts os ⟨rfl, h, rfl, rfl⟩
  conv => whnf
  exact CutK.piece (spec_odCmp_p2_ct  h) [some 128, some 192] [] ⟨⟨rfl, rfl⟩, ⟨rfl, ⟨rfl, rfl, trivial⟩, ⟨rfl, rfl, trivial⟩, trivial⟩, ⟨rfl, rfl⟩, ⟨rfl, rfl⟩, trivial⟩
def spec_odCmp : Nat → Rw → Rw → Option Int
  | 0, _, _ => none
  | k + 1, a1, a2 => spec_odCmp_b (spec_odCmp k) a1 a2
theorem spec_odCmp_ct' : ∀ (k : Nat) (a1 : Rw) (a2 : Rw) (r : Int), spec_odCmp k a1 a2 = some r → Ct prog 78 [.agg [.d (D.sl a1)], .agg [.d (D.sl a2)]] (⟨[], []⟩) (.d (D.int .i64 r)) (⟨[], []⟩)
  | 0, _, _, _, h => by rw [spec_odCmp] at h; cases h
  | k + 1, _, _, _, h => by rw [spec_odCmp] at h; exact spec_odCmp_b_ct (spec_odCmp_ct' k) h
theorem spec_odCmp_ct {k : Nat} {a1 : Rw} {a2 : Rw} {r : Int} (h : spec_odCmp k a1 a2 = some r) : Ct prog 78 [.agg [.d (D.sl a1)], .agg [.d (D.sl a2)]] (⟨[], []⟩) (.d (D.int .i64 r)) (⟨[], []⟩) := spec_odCmp_ct' k _ _ _ h

def spec_odMeet_p4 (a2 : Rw) (a3 : Int) (o61 : Rw) (v62 : Bool) : Option Rw :=
  (cond v62 (some o61) (if o61.length + 1 ≤ cap then some (o61 ++ ([[D.sl a2, D.int .i64 a3]])) else none))
set_option maxHeartbeats 4000000 in
set_option maxRecDepth 100000 in
theorem spec_odMeet_p4_ct {a2 : Rw} {a3 : Int} {o61 : Rw} {v62 : Bool} {r : Rw} (h : spec_odMeet_p4 a2 a3 o61 v62 = some r) : X prog 0 (tlF f84 4) (mk 66 [(3, .ptr 192 0), (4, .ptr 256 0), (5, .ptr 320 0), (6, .d (D.bool v62))] [(192, .box 96 [.d (D.sl a2), .d (D.int .i64 a3)]), (256, .box 28 [.es]), (320, .box 28 [.os 1084000 o61.length]), (1084000, .arr 96 false o61)]) (finK prog f84 0 (.agg [.os 8 r.length]) (⟨[], [(96, false, r)]⟩)) := by
  rw [spec_odMeet_p4] at h
  cases v62
  · replace h := condF h
    conv => whnf
    refine Take.all (rfl) ?_
    conv => whnf
    refine Take.all (by first | rfl | exact List.length_append.symm | (simp; done) | omega | (dsimp only; omega)) ?_
    conv => whnf
    obtain ⟨g64, h⟩ := req_ex h
    refine Req.of (room (b := 32) (by decide) g64 (wide1 rfl wide0)) ?_
    conv => whnf
    cases h
    exact Done.of [some 4032] [] rfl rfl ⟨⟨rfl, rfl⟩, ⟨rfl, ⟨rfl, rfl, rows_same⟩, trivial⟩, ⟨⟨(by first | rfl | exact List.length_append.symm | (simp; done) | omega | (dsimp only; omega)), rfl⟩, trivial⟩, trivial⟩
  · replace h := condT h
    conv => whnf
    cases h
    exact Done.of [some 1084000] [] rfl rfl ⟨⟨rfl, rfl⟩, ⟨rfl, ⟨rfl, rfl, rows_same⟩, trivial⟩, ⟨⟨rfl, rfl⟩, trivial⟩, trivial⟩
def spec_odMeet_l0 (k : Nat) (a1 : Rw) (a2 : Rw) (a3 : Int) (K0 : Rw → Bool → Option Rw) : Rw → Bool → Rw → Option Rw
  | [], v74, v76 => (cond v74 (K0 v76 true) (K0 v76 false))
  | cs :: rest, v74, v76 => (cond v74 (cell_si cs fun x133 x134 => ((spec_odCmp k x133 a2).bind fun y136 => (if v76.length + 1 ≤ cap then (spec_odMeet_l0 k a1 a2 a3 K0 rest true (v76 ++ ([[D.sl x133, D.int .i64 x134]]))) else none))) (cell_si cs fun x122 x123 => ((spec_odCmp k x122 a2).bind fun y125 => (if y125 ≤ (0 : Int) then (if y125 = (0 : Int) then (if v76.length + 1 ≤ cap then (spec_odMeet_l0 k a1 a2 a3 K0 rest true (v76 ++ ([[D.sl a2, D.int .i64 (IntKind.i64.wrap (a3 + x123))]]))) else none) else (if v76.length + 1 ≤ cap then (if (v76 ++ ([[D.sl a2, D.int .i64 a3]])).length + 1 ≤ cap then (spec_odMeet_l0 k a1 a2 a3 K0 rest true ((v76 ++ ([[D.sl a2, D.int .i64 a3]])) ++ ([[D.sl x122, D.int .i64 x123]]))) else none) else none)) else (if v76.length + 1 ≤ cap then (spec_odMeet_l0 k a1 a2 a3 K0 rest false (v76 ++ ([[D.sl x122, D.int .i64 x123]]))) else none)))))
set_option maxHeartbeats 4000000 in
set_option maxRecDepth 100000 in
theorem spec_odMeet_l0_ct {k : Nat} {a1 : Rw} {a2 : Rw} {a3 : Int} {K0 : Rw → Bool → Option Rw} {r : Rw} (hx : a1.length ≤ cap) : ∀ (rest : Rw) (v75n : Nat) (v74 : Bool) (v76 : Rw), a1.drop v75n = rest → spec_odMeet_l0 k a1 a2 a3 K0 rest v74 v76 = some r → LoopOk prog 0 (lp f84 0) (mk 66 [(3, .ptr 192 0), (4, .ptr 256 0), (5, .ptr 320 0), (6, .d (D.bool v74)), (12, .d (D.sl a1)), (13, .d (D.int .i64 (a1.length : Int))), (14, .d (D.int .i64 (v75n : Int)))] [(192, .box 96 [.d (D.sl a2), .d (D.int .i64 a3)]), (256, .box 28 [.es]), (320, .box 28 [.os 64000 v76.length]), (64000, .arr 96 false v76)]) (LoopEnd prog f84 0 66 (.agg [.os 8 r.length]) (⟨[], [(96, false, r)]⟩) (fun i ts os => (i = 0 ∧ ∃ v91 : Rw, ∃ v100 : Bool, K0 v91 v100 = some r ∧ ts = [(3, .ptr 192 0), (4, .ptr 256 0), (5, .ptr 320 0), (6, .d (D.bool v100))] ∧ os = [(192, .box 96 [.d (D.sl a2), .d (D.int .i64 a3)]), (256, .box 28 [.es]), (320, .box 28 [.os 67001 v91.length]), (67001, .arr 96 false v91)])))
  | [], v75n, v74, v76, hd, h => by
      rw [spec_odMeet_l0] at h
      have hn := drop_nil hd
      cases v74
      · replace h := condF h
        refine LoopOk.step ?_
        conv => whnf
        refine splD (fun g => absurd g hn) (fun _ => ?_)
        conv => whnf
        exact ⟨_, _, [some 192, some 256, some 320, some 64000], [], ⟨rfl, _, _, h, rfl, rfl⟩, ⟨⟨rfl, rfl⟩, ⟨rfl, ⟨rfl, rfl, rfl, trivial⟩, ⟨rfl, trivial, trivial⟩, ⟨rfl, ⟨rfl, rfl⟩, trivial⟩, ⟨rfl, rfl, rows_same⟩, trivial⟩, ⟨rfl, rfl⟩, ⟨rfl, rfl⟩, ⟨rfl, rfl⟩, rfl, trivial⟩⟩
      · replace h := condT h
        refine LoopOk.step ?_
        conv => whnf
        refine splD (fun g => absurd g hn) (fun _ => ?_)
        conv => whnf
        exact ⟨_, _, [some 192, some 256, some 320, some 64000], [], ⟨rfl, _, _, h, rfl, rfl⟩, ⟨⟨rfl, rfl⟩, ⟨rfl, ⟨rfl, rfl, rfl, trivial⟩, ⟨rfl, trivial, trivial⟩, ⟨rfl, ⟨rfl, rfl⟩, trivial⟩, ⟨rfl, rfl, rows_same⟩, trivial⟩, ⟨rfl, rfl⟩, ⟨rfl, rfl⟩, ⟨rfl, rfl⟩, rfl, trivial⟩⟩
  | cs :: rest, v75n, v74, v76, hd, h => by
      rw [spec_odMeet_l0] at h
      obtain ⟨hrow, hd1, hlt⟩ := drop_cons hd
      cases v74
      · replace h := condF h
        refine LoopOk.step ?_
        conv => whnf
        refine splD (fun _ => ?_) (fun g => absurd hlt g)
        conv => whnf
        obtain ⟨x122, x123, e124, h⟩ := cell_si_ex h
        rw [e124] at hrow
        refine Req.of (Int.natCast_nonneg _) ?_
        refine Row.of _ hrow ?_
        conv => whnf
        refine Pick.no ?_
        conv => whnf
        obtain ⟨y125, e126, h⟩ := bind_ex h
        refine CallOk.of (spec_odCmp_ct e126) ?_
        conv => whnf
        refine CutK.norm [3, 4, 5, 6, 8, 9, 12, 13, 14] [192, 256, 320, 512, 64000] ?_
        conv => whnf
        refine splD (fun g127 => ?_) (fun g127 => ?_)
        · replace h := iteP h g127
          conv => whnf
          refine splD (fun g128 => ?_) (fun g128 => ?_)
          · replace h := iteP h g128
            conv => whnf
            refine Take.all (rfl) ?_
            conv => whnf
            refine Take.all (by first | rfl | exact List.length_append.symm | (simp; done) | omega | (dsimp only; omega)) ?_
            conv => whnf
            obtain ⟨g129, h⟩ := req_ex h
            refine Req.of (room (b := 32) (by decide) g129 (wide1 rfl wide0)) ?_
            conv => whnf
            refine CutK.norm [3, 4, 5, 6, 12, 13, 14] [192, 256, 320, 2688] ?_
            conv => whnf
            exact LoopOk.back (spec_odMeet_l0_ct hx rest (v75n + 1) _ _ hd1 h) [some 192, some 256, some 320, some 2688] [] ⟨⟨rfl, rfl⟩, ⟨rfl, ⟨rfl, rfl, rfl, trivial⟩, ⟨rfl, trivial, trivial⟩, ⟨rfl, ⟨(by first | rfl | exact List.length_append.symm | (simp; done) | omega | (dsimp only; omega)), rfl⟩, trivial⟩, ⟨rfl, rfl, rows_same⟩, trivial⟩, ⟨rfl, rfl⟩, ⟨rfl, rfl⟩, ⟨rfl, rfl⟩, rfl, rfl, rfl, i64eq (wrap_up hlt hx), trivial⟩
          · replace h := iteN h g128
            conv => whnf
            refine Take.all (rfl) ?_
            conv => whnf
            refine Take.all (by first | rfl | exact List.length_append.symm | (simp; done) | omega | (dsimp only; omega)) ?_
            conv => whnf
            obtain ⟨g130, h⟩ := req_ex h
            refine Req.of (room (b := 32) (by decide) g130 (wide1 rfl wide0)) ?_
            conv => whnf
            refine CutK.norm [3, 4, 5, 6, 8, 12, 13, 14] [192, 256, 320, 512, 3072] ?_
            conv => whnf
            refine Take.all (by first | rfl | exact List.length_append.symm | (simp; done) | omega | (dsimp only; omega)) ?_
            conv => whnf
            refine Take.all (by first | rfl | exact List.length_append.symm | (simp; done) | omega | (dsimp only; omega)) ?_
            conv => whnf
            obtain ⟨g131, h⟩ := req_ex h
            refine Req.of (room (b := 32) (by decide) g131 (wide1 rfl wide0)) ?_
            conv => whnf
            refine CutK.norm [3, 4, 5, 6, 12, 13, 14] [192, 256, 320, 3456] ?_
            conv => whnf
            exact LoopOk.back (spec_odMeet_l0_ct hx rest (v75n + 1) _ _ hd1 h) [some 192, some 256, some 320, some 3456] [] ⟨⟨rfl, rfl⟩, ⟨rfl, ⟨rfl, rfl, rfl, trivial⟩, ⟨rfl, trivial, trivial⟩, ⟨rfl, ⟨(by first | rfl | exact List.length_append.symm | (simp; done) | omega | (dsimp only; omega)), rfl⟩, trivial⟩, ⟨rfl, rfl, rows_same⟩, trivial⟩, ⟨rfl, rfl⟩, ⟨rfl, rfl⟩, ⟨rfl, rfl⟩, rfl, rfl, rfl, i64eq (wrap_up hlt hx), trivial⟩
        · replace h := iteN h g127
          conv => whnf
          refine CutK.norm [3, 4, 5, 6, 8, 12, 13, 14] [192, 256, 320, 512, 64000] ?_
          conv => whnf
          refine Take.all (rfl) ?_
          conv => whnf
          refine Take.all (by first | rfl | exact List.length_append.symm | (simp; done) | omega | (dsimp only; omega)) ?_
          conv => whnf
          obtain ⟨g132, h⟩ := req_ex h
          refine Req.of (room (b := 32) (by decide) g132 (wide1 rfl wide0)) ?_
          conv => whnf
          refine CutK.norm [3, 4, 5, 6, 12, 13, 14] [192, 256, 320, 3456] ?_
          conv => whnf
          exact LoopOk.back (spec_odMeet_l0_ct hx rest (v75n + 1) _ _ hd1 h) [some 192, some 256, some 320, some 3456] [] ⟨⟨rfl, rfl⟩, ⟨rfl, ⟨rfl, rfl, rfl, trivial⟩, ⟨rfl, trivial, trivial⟩, ⟨rfl, ⟨(by first | rfl | exact List.length_append.symm | (simp; done) | omega | (dsimp only; omega)), rfl⟩, trivial⟩, ⟨rfl, rfl, rows_same⟩, trivial⟩, ⟨rfl, rfl⟩, ⟨rfl, rfl⟩, ⟨rfl, rfl⟩, rfl, rfl, rfl, i64eq (wrap_up hlt hx), trivial⟩
      · replace h := condT h
        refine LoopOk.step ?_
        conv => whnf
        refine splD (fun _ => ?_) (fun g => absurd hlt g)
        conv => whnf
        obtain ⟨x133, x134, e135, h⟩ := cell_si_ex h
        rw [e135] at hrow
        refine Req.of (Int.natCast_nonneg _) ?_
        refine Row.of _ hrow ?_
        conv => whnf
        refine Pick.no ?_
        conv => whnf
        obtain ⟨y136, e137, h⟩ := bind_ex h
        refine CallOk.of (spec_odCmp_ct e137) ?_
        conv => whnf
        refine CutK.norm [3, 4, 5, 6, 8, 9, 12, 13, 14] [192, 256, 320, 512, 64000] ?_
        conv => whnf
        refine CutK.norm [3, 4, 5, 6, 8, 12, 13, 14] [192, 256, 320, 512, 64000] ?_
        conv => whnf
        refine Take.all (rfl) ?_
        conv => whnf
        refine Take.all (by first | rfl | exact List.length_append.symm | (simp; done) | omega | (dsimp only; omega)) ?_
        conv => whnf
        obtain ⟨g138, h⟩ := req_ex h
        refine Req.of (room (b := 32) (by decide) g138 (wide1 rfl wide0)) ?_
        conv => whnf
        refine CutK.norm [3, 4, 5, 6, 12, 13, 14] [192, 256, 320, 3456] ?_
        conv => whnf
        exact LoopOk.back (spec_odMeet_l0_ct hx rest (v75n + 1) _ _ hd1 h) [some 192, some 256, some 320, some 3456] [] ⟨⟨rfl, rfl⟩, ⟨rfl, ⟨rfl, rfl, rfl, trivial⟩, ⟨rfl, trivial, trivial⟩, ⟨rfl, ⟨(by first | rfl | exact List.length_append.symm | (simp; done) | omega | (dsimp only; omega)), rfl⟩, trivial⟩, ⟨rfl, rfl, rows_same⟩, trivial⟩, ⟨rfl, rfl⟩, ⟨rfl, rfl⟩, ⟨rfl, rfl⟩, rfl, rfl, rfl, i64eq (wrap_up hlt hx), trivial⟩
def spec_odMeet (k : Nat) (a1 : Rw) (a2 : Rw) (a3 : Int) : Option Rw :=
  (if a1.length ≤ cap then (spec_odMeet_l0 k a1 a2 a3 (fun (v91 : Rw) (v100 : Bool) => (cond v100 (spec_odMeet_p4 a2 a3 v91 true) (spec_odMeet_p4 a2 a3 v91 false))) a1 false ([] : Rw)) else none)
set_option maxHeartbeats 4000000 in
set_option maxRecDepth 100000 in
theorem spec_odMeet_ct {k : Nat} {a1 : Rw} {a2 : Rw} {a3 : Int} {r : Rw} (h : spec_odMeet k a1 a2 a3 = some r) : Ct prog 84 [.agg [.d (D.sl a1)], .agg [.d (D.sl a2), .d (D.int .i64 a3)]] (⟨[], []⟩) (.agg [.os 8 r.length]) (⟨[], [(96, false, r)]⟩) := by
  rw [spec_odMeet] at h
  refine Ct.of (c := _) mixed func84 ⟨rfl, rfl, rfl⟩ ?_ rfl
  conv => whnf
  obtain ⟨g139, h⟩ := req_ex h
  refine LoopOk.into (spec_odMeet_l0_ct  g139 _ _ _ _ rfl h) [some 192, some 256, some 320, none] [] ⟨⟨rfl, rfl⟩, ⟨rfl, ⟨rfl, rfl, rfl, trivial⟩, ⟨rfl, trivial, trivial⟩, ⟨rfl, ⟨rfl, rfl⟩, trivial⟩, rfl, trivial⟩, ⟨rfl, rfl⟩, ⟨rfl, rfl⟩, ⟨rfl, rfl⟩, rfl, rfl, rfl, rfl, trivial⟩ ?_ (fun _ hs => hs)
  rintro i ts os ⟨rfl, v91, v100, h, rfl, rfl⟩
  cases v100
  · replace h := condF h
    conv => whnf
    exact CutK.piece (spec_odMeet_p4_ct  h) [some 192, some 256, some 320, some 67001] [] ⟨⟨rfl, rfl⟩, ⟨rfl, ⟨rfl, rfl, rfl, trivial⟩, ⟨rfl, trivial, trivial⟩, ⟨rfl, ⟨rfl, rfl⟩, trivial⟩, ⟨rfl, rfl, rows_same⟩, trivial⟩, ⟨rfl, rfl⟩, ⟨rfl, rfl⟩, ⟨rfl, rfl⟩, rfl, trivial⟩
  · replace h := condT h
    conv => whnf
    exact CutK.piece (spec_odMeet_p4_ct  h) [some 192, some 256, some 320, some 67001] [] ⟨⟨rfl, rfl⟩, ⟨rfl, ⟨rfl, rfl, rfl, trivial⟩, ⟨rfl, trivial, trivial⟩, ⟨rfl, ⟨rfl, rfl⟩, trivial⟩, ⟨rfl, rfl, rows_same⟩, trivial⟩, ⟨rfl, rfl⟩, ⟨rfl, rfl⟩, ⟨rfl, rfl⟩, rfl, trivial⟩

def spec_deOrdinal_l0 (k : Nat) (rec_spec_deOrdinal : Rw → Int → Option Rw) (a1 : Rw) (y3 : Rw) (K0 : Rw → Option Rw) : Rw → Nat → Rw → Option Rw
  | [], v14n, v15 => (K0 v15)
  | cs :: rest, v14n, v15 => (if 0 ≤ (v14n : Int) ∧ (v14n : Int) < (y3.length : Int) then (cell_i cs fun x36 => ((rec_spec_deOrdinal a1 x36).bind fun y38 => ((spec_odMeet k v15 y38 1).bind fun y40 => (spec_deOrdinal_l0 k rec_spec_deOrdinal a1 y3 K0 rest (v14n + 1) y40)))) else none)
set_option maxHeartbeats 4000000 in
set_option maxRecDepth 100000 in
theorem spec_deOrdinal_l0_ct {k : Nat} {rec_spec_deOrdinal : Rw → Int → Option Rw} {a1 : Rw} {y3 : Rw} {K0 : Rw → Option Rw} (hrec_spec_deOrdinal : ∀ (a1 : Rw) (a2 : Int) (r : Rw), rec_spec_deOrdinal a1 a2 = some r → Ct prog 43 [.agg [.d (D.sl a1)], .d (D.int .i64 a2)] (⟨[], []⟩) (.agg [.os 8 r.length]) (⟨[], [(96, false, r)]⟩)) {r : Rw} (hx : y3.length ≤ cap) : ∀ (rest : Rw) (v14n : Nat) (v15 : Rw), y3.drop v14n = rest → spec_deOrdinal_l0 k rec_spec_deOrdinal a1 y3 K0 rest v14n v15 = some r → LoopOk prog 0 (lp f43 0) (mk 25 [(2, .ptr 128 0), (4, .ptr 256 0), (5, .ptr 320 0), (11, .os 64000 y3.length), (12, .d (D.int .i64 (y3.length : Int))), (13, .d (D.int .i64 (v14n : Int)))] [(128, .box 31 [.d (D.sl a1)]), (256, .box 28 [.es]), (320, .box 28 [.os 64001 v15.length]), (64000, .arr 3 true y3), (64001, .arr 96 false v15)]) (LoopEnd prog f43 0 25 (.agg [.os 8 r.length]) (⟨[], [(96, false, r)]⟩) (fun i ts os => (i = 0 ∧ ∃ v25 : Rw, K0 v25 = some r ∧ ts = [(4, .ptr 256 0), (5, .ptr 320 0)] ∧ os = [(256, .box 28 [.es]), (320, .box 28 [.os 67002 v25.length]), (67002, .arr 96 false v25)])))
  | [], v14n, v15, hd, h => by
      rw [spec_deOrdinal_l0] at h
      have hn := drop_nil hd
      refine LoopOk.step ?_
      conv => whnf
      refine splD (fun g => absurd g hn) (fun _ => ?_)
      conv => whnf
      exact ⟨_, _, [some 256, some 320, some 64001], [], ⟨rfl, _, h, rfl, rfl⟩, ⟨⟨rfl, rfl⟩, ⟨rfl, ⟨rfl, trivial, trivial⟩, ⟨rfl, ⟨rfl, rfl⟩, trivial⟩, ⟨rfl, rfl, rows_same⟩, trivial⟩, ⟨rfl, rfl⟩, ⟨rfl, rfl⟩, trivial⟩⟩
  | cs :: rest, v14n, v15, hd, h => by
      rw [spec_deOrdinal_l0] at h
      obtain ⟨hrow, hd1, hlt⟩ := drop_cons hd
      refine LoopOk.step ?_
      conv => whnf
      refine splD (fun _ => ?_) (fun g => absurd hlt g)
      conv => whnf
      obtain ⟨g35, h⟩ := req_ex h
      refine Req.of g35 ?_
      conv => whnf
      obtain ⟨x36, e37, h⟩ := cell_i_ex h
      rw [e37] at hrow
      refine Row.of _ hrow ?_
      conv => whnf
      refine Pick.no ?_
      conv => whnf
      obtain ⟨y38, e39, h⟩ := bind_ex h
      refine CallOk.of (hrec_spec_deOrdinal _ _ _ e39) ?_
      conv => whnf
      refine Pick.no ?_
      conv => whnf
      refine Take.all (rfl) ?_
      conv => whnf
      refine Take.all (rfl) ?_
      conv => whnf
      obtain ⟨y40, e41, h⟩ := bind_ex h
      refine CallOk.of (spec_odMeet_ct e41) ?_
      conv => whnf
      refine CutK.go ?_
      conv => whnf
      exact LoopOk.back (spec_deOrdinal_l0_ct hrec_spec_deOrdinal hx rest (v14n + 1) _ hd1 h) [some 128, some 256, some 320, some 64000, some 1408] [] ⟨⟨rfl, rfl⟩, ⟨rfl, ⟨rfl, rfl, trivial⟩, ⟨rfl, trivial, trivial⟩, ⟨rfl, ⟨rfl, rfl⟩, trivial⟩, ⟨rfl, rfl, rows_same⟩, ⟨rfl, rfl, rows_same⟩, trivial⟩, ⟨rfl, rfl⟩, ⟨rfl, rfl⟩, ⟨rfl, rfl⟩, ⟨rfl, rfl⟩, rfl, i64eq (wrap_up hlt hx), trivial⟩
def spec_deOrdinal_b (k : Nat) (rec_spec_deOrdinal : Rw → Int → Option Rw) (a1 : Rw) (a2 : Int) : Option Rw :=
  ((spec_deChildren a1 a2).bind fun y3 => (if y3.length ≤ cap then (spec_deOrdinal_l0 k rec_spec_deOrdinal a1 y3 (fun (v25 : Rw) => some v25) y3 0 ([] : Rw)) else none))
set_option maxHeartbeats 4000000 in
set_option maxRecDepth 100000 in
theorem spec_deOrdinal_b_ct {k : Nat} {rec_spec_deOrdinal : Rw → Int → Option Rw} (hrec_spec_deOrdinal : ∀ (a1 : Rw) (a2 : Int) (r : Rw), rec_spec_deOrdinal a1 a2 = some r → Ct prog 43 [.agg [.d (D.sl a1)], .d (D.int .i64 a2)] (⟨[], []⟩) (.agg [.os 8 r.length]) (⟨[], [(96, false, r)]⟩)) {a1 : Rw} {a2 : Int} {r : Rw} (h : spec_deOrdinal_b k rec_spec_deOrdinal a1 a2 = some r) : Ct prog 43 [.agg [.d (D.sl a1)], .d (D.int .i64 a2)] (⟨[], []⟩) (.agg [.os 8 r.length]) (⟨[], [(96, false, r)]⟩) := by
  rw [spec_deOrdinal_b] at h
  refine Ct.of (c := _) mixed func43 ⟨rfl, rfl, rfl⟩ ?_ rfl
  conv => whnf
  refine Pick.no ?_
  conv => whnf
  obtain ⟨y3, e4, h⟩ := bind_ex h
  refine CallOk.of (spec_deChildren_ct e4) ?_
  conv => whnf
  refine CutK.go ?_
  conv => whnf
  obtain ⟨g42, h⟩ := req_ex h
  refine LoopOk.into (spec_deOrdinal_l0_ct hrec_spec_deOrdinal g42 _ _ _ rfl h) [some 128, some 256, some 320, some 704, none] [] ⟨⟨rfl, rfl⟩, ⟨rfl, ⟨rfl, rfl, trivial⟩, ⟨rfl, trivial, trivial⟩, ⟨rfl, ⟨rfl, rfl⟩, trivial⟩, ⟨rfl, rfl, rows_same⟩, rfl, trivial⟩, ⟨rfl, rfl⟩, ⟨rfl, rfl⟩, ⟨rfl, rfl⟩, ⟨rfl, rfl⟩, rfl, rfl, trivial⟩ ?_ (fun _ hs => hs)
  rintro i ts os ⟨rfl, v25, h, rfl, rfl⟩
  conv => whnf
  refine CutK.go ?_
  conv => whnf
  cases h
  exact Done.of [some 67002] [] rfl rfl ⟨⟨rfl, rfl⟩, ⟨rfl, ⟨rfl, rfl, rows_same⟩, trivial⟩, ⟨⟨rfl, rfl⟩, trivial⟩, trivial⟩
def spec_deOrdinal : Nat → Rw → Int → Option Rw
  | 0, _, _ => none
  | k + 1, a1, a2 => spec_deOrdinal_b k (spec_deOrdinal k) a1 a2
theorem spec_deOrdinal_ct' : ∀ (k : Nat) (a1 : Rw) (a2 : Int) (r : Rw), spec_deOrdinal k a1 a2 = some r → Ct prog 43 [.agg [.d (D.sl a1)], .d (D.int .i64 a2)] (⟨[], []⟩) (.agg [.os 8 r.length]) (⟨[], [(96, false, r)]⟩)
  | 0, _, _, _, h => by rw [spec_deOrdinal] at h; cases h
  | k + 1, _, _, _, h => by rw [spec_deOrdinal] at h; exact spec_deOrdinal_b_ct (spec_deOrdinal_ct' k) h
theorem spec_deOrdinal_ct {k : Nat} {a1 : Rw} {a2 : Int} {r : Rw} (h : spec_deOrdinal k a1 a2 = some r) : Ct prog 43 [.agg [.d (D.sl a1)], .d (D.int .i64 a2)] (⟨[], []⟩) (.agg [.os 8 r.length]) (⟨[], [(96, false, r)]⟩) := spec_deOrdinal_ct' k _ _ _ h

def spec_odLeft_l0 (rec_spec_odLeft : Rw → Int → Int → Option Int) (a1 : Rw) (a2 : Int) (K0 : Int → Option Int) : Rw → Int → Option Int
  | [], v13 => (K0 v13)
  | cs :: rest, v13 => (cell_si cs fun x34 x35 => (if v13 < (0 : Int) then some (-1) else (if a2 = (0 : Int) then some (-1) else ((rec_spec_odLeft x34 (IntKind.i64.wrap (a2 - 1)) (IntKind.i64.wrap (v13 - 1))).bind fun y39 => (spec_odLeft_l0 rec_spec_odLeft a1 a2 K0 rest y39)))))
set_option maxHeartbeats 4000000 in
set_option maxRecDepth 100000 in
theorem spec_odLeft_l0_ct {rec_spec_odLeft : Rw → Int → Int → Option Int} {a1 : Rw} {a2 : Int} {K0 : Int → Option Int} (hrec_spec_odLeft : ∀ (a1 : Rw) (a2 : Int) (a3 : Int) (r : Int), rec_spec_odLeft a1 a2 a3 = some r → Ct prog 98 [.agg [.d (D.sl a1)], .d (D.int .i64 a2), .d (D.int .i64 a3)] (⟨[], []⟩) (.d (D.int .i64 r)) (⟨[], []⟩)) {r : Int} (hx : a1.length ≤ cap) : ∀ (rest : Rw) (v14n : Nat) (v13 : Int), a1.drop v14n = rest → spec_odLeft_l0 rec_spec_odLeft a1 a2 K0 rest v13 = some r → LoopOk prog 0 (lp f98 0) (mk 33 [(1, .d (D.int .i64 a2)), (2, .d (D.int .i64 v13)), (12, .d (D.sl a1)), (13, .d (D.int .i64 (a1.length : Int))), (14, .d (D.int .i64 (v14n : Int)))] []) (LoopEnd prog f98 0 33 (.d (D.int .i64 r)) (⟨[], []⟩) (fun i ts os => (i = 0 ∧ ∃ v24 : Int, K0 v24 = some r ∧ ts = [(2, .d (D.int .i64 v24))] ∧ os = [])))
  | [], v14n, v13, hd, h => by
      rw [spec_odLeft_l0] at h
      have hn := drop_nil hd
      refine LoopOk.step ?_
      conv => whnf
      refine splD (fun g => absurd g hn) (fun _ => ?_)
      conv => whnf
      exact ⟨_, _, [], [], ⟨rfl, _, h, rfl, rfl⟩, ⟨⟨rfl, rfl⟩, ⟨rfl, trivial⟩, rfl, trivial⟩⟩
  | cs :: rest, v14n, v13, hd, h => by
      rw [spec_odLeft_l0] at h
      obtain ⟨hrow, hd1, hlt⟩ := drop_cons hd
      refine LoopOk.step ?_
      conv => whnf
      refine splD (fun _ => ?_) (fun g => absurd hlt g)
      conv => whnf
      obtain ⟨x34, x35, e36, h⟩ := cell_si_ex h
      rw [e36] at hrow
      refine Req.of (Int.natCast_nonneg _) ?_
      refine Row.of _ hrow ?_
      conv => whnf
      refine splD (fun g37 => ?_) (fun g37 => ?_)
      · replace h := iteP h g37
        conv => whnf
        cases h
        exact Done.of [] [] rfl rfl ⟨⟨rfl, rfl⟩, ⟨rfl, trivial⟩, rfl, trivial⟩
      · replace h := iteN h g37
        conv => whnf
        refine splD (fun g38 => ?_) (fun g38 => ?_)
        · replace h := iteP h g38
          conv => whnf
          cases h
          exact Done.of [] [] rfl rfl ⟨⟨rfl, rfl⟩, ⟨rfl, trivial⟩, rfl, trivial⟩
        · replace h := iteN h g38
          conv => whnf
          refine Pick.no ?_
          conv => whnf
          obtain ⟨y39, e40, h⟩ := bind_ex h
          refine CallOk.of (hrec_spec_odLeft _ _ _ _ e40) ?_
          conv => whnf
          refine CutK.norm [1, 2, 12, 13, 14] [] ?_
          conv => whnf
          exact LoopOk.back (spec_odLeft_l0_ct hrec_spec_odLeft hx rest (v14n + 1) _ hd1 h) [] [] ⟨⟨rfl, rfl⟩, ⟨rfl, trivial⟩, rfl, rfl, rfl, rfl, i64eq (wrap_up hlt hx), trivial⟩
def spec_odLeft_b (rec_spec_odLeft : Rw → Int → Int → Option Int) (a1 : Rw) (a2 : Int) (a3 : Int) : Option Int :=
  (if a1.length ≤ cap then (spec_odLeft_l0 rec_spec_odLeft a1 a2 (fun (v24 : Int) => some v24) a1 (IntKind.i64.wrap (a3 - 1))) else none)
set_option maxHeartbeats 4000000 in
set_option maxRecDepth 100000 in
theorem spec_odLeft_b_ct {rec_spec_odLeft : Rw → Int → Int → Option Int} (hrec_spec_odLeft : ∀ (a1 : Rw) (a2 : Int) (a3 : Int) (r : Int), rec_spec_odLeft a1 a2 a3 = some r → Ct prog 98 [.agg [.d (D.sl a1)], .d (D.int .i64 a2), .d (D.int .i64 a3)] (⟨[], []⟩) (.d (D.int .i64 r)) (⟨[], []⟩)) {a1 : Rw} {a2 : Int} {a3 : Int} {r : Int} (h : spec_odLeft_b rec_spec_odLeft a1 a2 a3 = some r) : Ct prog 98 [.agg [.d (D.sl a1)], .d (D.int .i64 a2), .d (D.int .i64 a3)] (⟨[], []⟩) (.d (D.int .i64 r)) (⟨[], []⟩) := by
  rw [spec_odLeft_b] at h
  refine Ct.of (c := _) mixed func98 ⟨rfl, rfl, rfl⟩ ?_ rfl
  conv => whnf
  obtain ⟨g41, h⟩ := req_ex h
  refine LoopOk.into (spec_odLeft_l0_ct hrec_spec_odLeft g41 _ _ _ rfl h) [] [] ⟨⟨rfl, rfl⟩, ⟨rfl, trivial⟩, rfl, rfl, rfl, rfl, rfl, trivial⟩ ?_ (fun _ hs => hs)
  rintro i ts os ⟨rfl, v24, h, rfl, rfl⟩
  conv => whnf
  refine CutK.norm [2] [] ?_
  conv => whnf
  cases h
  exact Done.of [] [] rfl rfl ⟨⟨rfl, rfl⟩, ⟨rfl, trivial⟩, rfl, trivial⟩
def spec_odLeft : Nat → Rw → Int → Int → Option Int
  | 0, _, _, _ => none
  | k + 1, a1, a2, a3 => spec_odLeft_b (spec_odLeft k) a1 a2 a3
theorem spec_odLeft_ct' : ∀ (k : Nat) (a1 : Rw) (a2 : Int) (a3 : Int) (r : Int), spec_odLeft k a1 a2 a3 = some r → Ct prog 98 [.agg [.d (D.sl a1)], .d (D.int .i64 a2), .d (D.int .i64 a3)] (⟨[], []⟩) (.d (D.int .i64 r)) (⟨[], []⟩)
  | 0, _, _, _, _, h => by rw [spec_odLeft] at h; cases h
  | k + 1, _, _, _, _, h => by rw [spec_odLeft] at h; exact spec_odLeft_b_ct (spec_odLeft_ct' k) h
theorem spec_odLeft_ct {k : Nat} {a1 : Rw} {a2 : Int} {a3 : Int} {r : Int} (h : spec_odLeft k a1 a2 a3 = some r) : Ct prog 98 [.agg [.d (D.sl a1)], .d (D.int .i64 a2), .d (D.int .i64 a3)] (⟨[], []⟩) (.d (D.int .i64 r)) (⟨[], []⟩) := spec_odLeft_ct' k _ _ _ _ h

def spec_l1In  (a1 : Int) (a2 : Int) (a3 : Int) : Option Bool :=
  (if a2 ≤ a1 then (if a1 ≤ a3 then some true else some false) else some false)
set_option maxHeartbeats 4000000 in
set_option maxRecDepth 100000 in
theorem spec_l1In_ct  {a1 : Int} {a2 : Int} {a3 : Int} {r : Bool} (h : spec_l1In a1 a2 a3 = some r) : Ct prog 64 [.d (D.int .i64 a1), .d (D.int .i64 a2), .d (D.int .i64 a3)] (⟨[], []⟩) (.d (D.bool r)) (⟨[], []⟩) := by
  rw [spec_l1In] at h
  refine Ct.of (c := _) mixed func64 ⟨rfl, rfl, rfl⟩ ?_ rfl
  conv => whnf
  refine splD (fun g4 => ?_) (fun g4 => ?_)
  · replace h := iteP h g4
    conv => whnf
    refine splD (fun g5 => ?_) (fun g5 => ?_)
    · replace h := iteP h g5
      conv => whnf
      cases h
      exact Done.of [] [] rfl rfl ⟨⟨rfl, rfl⟩, ⟨rfl, trivial⟩, rfl, trivial⟩
    · replace h := iteN h g5
      conv => whnf
      cases h
      exact Done.of [] [] rfl rfl ⟨⟨rfl, rfl⟩, ⟨rfl, trivial⟩, rfl, trivial⟩
  · replace h := iteN h g4
    conv => whnf
    cases h
    exact Done.of [] [] rfl rfl ⟨⟨rfl, rfl⟩, ⟨rfl, trivial⟩, rfl, trivial⟩

def spec_odForm_p3  : Option Bool :=
  some true
set_option maxHeartbeats 4000000 in
set_option maxRecDepth 100000 in
theorem spec_odForm_p3_ct  {r : Bool} (h : spec_odForm_p3 = some r) : X prog 0 (tlF f99 3) (mk 47 [] []) (finK prog f99 0 (.d (D.bool r)) (⟨[], []⟩)) := by
  rw [spec_odForm_p3] at h
  conv => whnf
  cases h
  exact Done.of [] [] rfl rfl ⟨⟨rfl, rfl⟩, ⟨rfl, trivial⟩, rfl, trivial⟩
def spec_odForm_l0 (k : Nat) (rec_spec_odForm : Rw → Int → Option Bool) (a1 : Rw) (a2 : Int) (K0 : Option Bool) : Rw → Nat → Option Bool
  | [], v47n => (K0)
  | cs :: rest, v47n => (cell_si cs fun x67 x68 => ((spec_l1In x68 1 1000000).bind fun y70 => (if y70 = true then ((rec_spec_odForm x67 (IntKind.i64.wrap (a2 - 1))).bind fun y73 => (if y73 = true then (if (0 : Int) < (v47n : Int) then (row_si a1 (IntKind.i64.wrap ((v47n : Int) - 1)) fun x77 x78 => ((spec_odCmp k x77 x67).bind fun y81 => (if y81 ≤ (0 : Int) then some false else (spec_odForm_l0 k rec_spec_odForm a1 a2 K0 rest (v47n + 1))))) else (spec_odForm_l0 k rec_spec_odForm a1 a2 K0 rest (v47n + 1))) else some false)) else some false)))
set_option maxHeartbeats 4000000 in
set_option maxRecDepth 100000 in
theorem spec_odForm_l0_ct {k : Nat} {rec_spec_odForm : Rw → Int → Option Bool} {a1 : Rw} {a2 : Int} {K0 : Option Bool} (hrec_spec_odForm : ∀ (a1 : Rw) (a2 : Int) (r : Bool), rec_spec_odForm a1 a2 = some r → Ct prog 99 [.agg [.d (D.sl a1)], .d (D.int .i64 a2)] (⟨[], []⟩) (.d (D.bool r)) (⟨[], []⟩)) {r : Bool} (hx : a1.length ≤ cap) : ∀ (rest : Rw) (v47n : Nat), a1.drop v47n = rest → spec_odForm_l0 k rec_spec_odForm a1 a2 K0 rest v47n = some r → LoopOk prog 0 (lp f99 0) (mk 47 [(1, .d (D.int .i64 a2)), (2, .ptr 128 0), (10, .d (D.sl a1)), (11, .d (D.int .i64 (a1.length : Int))), (12, .d (D.int .i64 (v47n : Int)))] [(128, .box 28 [.d (D.sl a1)])]) (LoopEnd prog f99 0 47 (.d (D.bool r)) (⟨[], []⟩) (fun i ts os => (i = 0 ∧ K0 = some r ∧ ts = [] ∧ os = [])))
  | [], v47n, hd, h => by
      rw [spec_odForm_l0] at h
      have hn := drop_nil hd
      refine LoopOk.step ?_
      conv => whnf
      refine splD (fun g => absurd g hn) (fun _ => ?_)
      conv => whnf
      exact ⟨_, _, [], [], ⟨rfl, h, rfl, rfl⟩, ⟨⟨rfl, rfl⟩, ⟨rfl, trivial⟩, trivial⟩⟩
  | cs :: rest, v47n, hd, h => by
      rw [spec_odForm_l0] at h
      obtain ⟨hrow, hd1, hlt⟩ := drop_cons hd
      refine LoopOk.step ?_
      conv => whnf
      refine splD (fun _ => ?_) (fun g => absurd hlt g)
      conv => whnf
      obtain ⟨x67, x68, e69, h⟩ := cell_si_ex h
      rw [e69] at hrow
      refine Req.of (Int.natCast_nonneg _) ?_
      refine Row.of _ hrow ?_
      conv => whnf
      refine Pick.no ?_
      conv => whnf
      obtain ⟨y70, e71, h⟩ := bind_ex h
      refine CallOk.of (spec_l1In_ct e71) ?_
      conv => whnf
      refine spl (fun g72 => ?_) (fun g72 => ?_)
      · replace h := iteT h g72
        conv => whnf
        refine Pick.no ?_
        conv => whnf
        obtain ⟨y73, e74, h⟩ := bind_ex h
        refine CallOk.of (hrec_spec_odForm _ _ _ e74) ?_
        conv => whnf
        refine spl (fun g75 => ?_) (fun g75 => ?_)
        · replace h := iteT h g75
          conv => whnf
          refine splD (fun g76 => ?_) (fun g76 => ?_)
          · replace h := iteP h g76
            conv => whnf
            obtain ⟨g80, x77, x78, e79, h⟩ := row_si_ex h
            refine Req.of g80 ?_
            refine Row.of _ e79 ?_
            conv => whnf
            refine Pick.no ?_
            conv => whnf
            obtain ⟨y81, e82, h⟩ := bind_ex h
            refine CallOk.of (spec_odCmp_ct e82) ?_
            conv => whnf
            refine splD (fun g83 => ?_) (fun g83 => ?_)
            · replace h := iteP h g83
              conv => whnf
              refine CutK.norm [1, 2, 10, 11, 12, 45] [128] ?_
              conv => whnf
              cases h
              exact Done.of [] [] rfl rfl ⟨⟨rfl, rfl⟩, ⟨rfl, trivial⟩, rfl, trivial⟩
            · replace h := iteN h g83
              conv => whnf
              refine CutK.norm [1, 2, 10, 11, 12, 45] [128] ?_
              conv => whnf
              refine CutK.norm [1, 2, 10, 11, 12] [128] ?_
              conv => whnf
              exact LoopOk.back (spec_odForm_l0_ct hrec_spec_odForm hx rest (v47n + 1)  hd1 h) [some 128] [] ⟨⟨rfl, rfl⟩, ⟨rfl, ⟨rfl, rfl, trivial⟩, trivial⟩, rfl, ⟨rfl, rfl⟩, rfl, rfl, i64eq (wrap_up hlt hx), trivial⟩
          · replace h := iteN h g76
            conv => whnf
            refine CutK.norm [1, 2, 10, 11, 12, 45] [128] ?_
            conv => whnf
            refine CutK.norm [1, 2, 10, 11, 12] [128] ?_
            conv => whnf
            exact LoopOk.back (spec_odForm_l0_ct hrec_spec_odForm hx rest (v47n + 1)  hd1 h) [some 128] [] ⟨⟨rfl, rfl⟩, ⟨rfl, ⟨rfl, rfl, trivial⟩, trivial⟩, rfl, ⟨rfl, rfl⟩, rfl, rfl, i64eq (wrap_up hlt hx), trivial⟩
        · replace h := iteF h g75
          conv => whnf
          refine CutK.norm [1, 2, 10, 11, 12, 45] [128] ?_
          conv => whnf
          cases h
          exact Done.of [] [] rfl rfl ⟨⟨rfl, rfl⟩, ⟨rfl, trivial⟩, rfl, trivial⟩
      · replace h := iteF h g72
        conv => whnf
        refine CutK.norm [1, 2, 10, 11, 12, 45] [128] ?_
        conv => whnf
        cases h
        exact Done.of [] [] rfl rfl ⟨⟨rfl, rfl⟩, ⟨rfl, trivial⟩, rfl, trivial⟩
def spec_odForm_b (k : Nat) (rec_spec_odForm : Rw → Int → Option Bool) (a1 : Rw) (a2 : Int) : Option Bool :=
  (if a2 < (0 : Int) then some false else (if a1.length ≤ cap then (spec_odForm_l0 k rec_spec_odForm a1 a2 (spec_odForm_p3) a1 0) else none))
set_option maxHeartbeats 4000000 in
set_option maxRecDepth 100000 in
theorem spec_odForm_b_ct {k : Nat} {rec_spec_odForm : Rw → Int → Option Bool} (hrec_spec_odForm : ∀ (a1 : Rw) (a2 : Int) (r : Bool), rec_spec_odForm a1 a2 = some r → Ct prog 99 [.agg [.d (D.sl a1)], .d (D.int .i64 a2)] (⟨[], []⟩) (.d (D.bool r)) (⟨[], []⟩)) {a1 : Rw} {a2 : Int} {r : Bool} (h : spec_odForm_b k rec_spec_odForm a1 a2 = some r) : Ct prog 99 [.agg [.d (D.sl a1)], .d (D.int .i64 a2)] (⟨[], []⟩) (.d (D.bool r)) (⟨[], []⟩) := by
  rw [spec_odForm_b] at h
  refine Ct.of (c := _) mixed func99 ⟨rfl, rfl, rfl⟩ ?_ rfl
  conv => whnf
  refine splD (fun g35 => ?_) (fun g35 => ?_)
  · replace h := iteP h g35
    conv => whnf
    cases h
    exact Done.of [] [] rfl rfl ⟨⟨rfl, rfl⟩, ⟨rfl, trivial⟩, rfl, trivial⟩
  · replace h := iteN h g35
    conv => whnf
    obtain ⟨g84, h⟩ := req_ex h
    refine LoopOk.into (spec_odForm_l0_ct hrec_spec_odForm g84 _ _  rfl h) [some 128] [] ⟨⟨rfl, rfl⟩, ⟨rfl, ⟨rfl, rfl, trivial⟩, trivial⟩, rfl, ⟨rfl, rfl⟩, rfl, rfl, rfl, trivial⟩ ?_ (fun _ hs => hs)
    rintro i ts os ⟨rfl, h, rfl, rfl⟩
    conv => whnf
    exact CutK.piece (spec_odForm_p3_ct  h) [] [] ⟨⟨rfl, rfl⟩, ⟨rfl, trivial⟩, trivial⟩
def spec_odForm : Nat → Rw → Int → Option Bool
  | 0, _, _ => none
  | k + 1, a1, a2 => spec_odForm_b k (spec_odForm k) a1 a2
theorem spec_odForm_ct' : ∀ (k : Nat) (a1 : Rw) (a2 : Int) (r : Bool), spec_odForm k a1 a2 = some r → Ct prog 99 [.agg [.d (D.sl a1)], .d (D.int .i64 a2)] (⟨[], []⟩) (.d (D.bool r)) (⟨[], []⟩)
  | 0, _, _, _, h => by rw [spec_odForm] at h; cases h
  | k + 1, _, _, _, h => by rw [spec_odForm] at h; exact spec_odForm_b_ct (spec_odForm_ct' k) h
theorem spec_odForm_ct {k : Nat} {a1 : Rw} {a2 : Int} {r : Bool} (h : spec_odForm k a1 a2 = some r) : Ct prog 99 [.agg [.d (D.sl a1)], .d (D.int .i64 a2)] (⟨[], []⟩) (.d (D.bool r)) (⟨[], []⟩) := spec_odForm_ct' k _ _ _ h

def spec_odGood (k : Nat) (a1 : Rw) : Option Bool :=
  ((spec_odLeft k a1 6 60).bind fun y2 => (if (0 : Int) ≤ y2 then ((spec_odForm k a1 6).bind fun y5 => (if y5 = true then some true else some false)) else some false))
set_option maxHeartbeats 4000000 in
set_option maxRecDepth 100000 in
theorem spec_odGood_ct {k : Nat} {a1 : Rw} {r : Bool} (h : spec_odGood k a1 = some r) : Ct prog 77 [.agg [.d (D.sl a1)]] (⟨[], []⟩) (.d (D.bool r)) (⟨[], []⟩) := by
  rw [spec_odGood] at h
  refine Ct.of (c := _) mixed func77 ⟨rfl, rfl, rfl⟩ ?_ rfl
  conv => whnf
  refine Pick.no ?_
  conv => whnf
  obtain ⟨y2, e3, h⟩ := bind_ex h
  refine CallOk.of (spec_odLeft_ct e3) ?_
  conv => whnf
  refine splD (fun g4 => ?_) (fun g4 => ?_)
  · replace h := iteP h g4
    conv => whnf
    refine Pick.no ?_
    conv => whnf
    obtain ⟨y5, e6, h⟩ := bind_ex h
    refine CallOk.of (spec_odForm_ct e6) ?_
    conv => whnf
    refine spl (fun g7 => ?_) (fun g7 => ?_)
    · replace h := iteT h g7
      conv => whnf
      refine CutK.go ?_
      conv => whnf
      cases h
      exact Done.of [] [] rfl rfl ⟨⟨rfl, rfl⟩, ⟨rfl, trivial⟩, rfl, trivial⟩
    · replace h := iteF h g7
      conv => whnf
      refine CutK.go ?_
      conv => whnf
      cases h
      exact Done.of [] [] rfl rfl ⟨⟨rfl, rfl⟩, ⟨rfl, trivial⟩, rfl, trivial⟩
  · replace h := iteN h g4
    conv => whnf
    refine CutK.go ?_
    conv => whnf
    cases h
    exact Done.of [] [] rfl rfl ⟨⟨rfl, rfl⟩, ⟨rfl, trivial⟩, rfl, trivial⟩

def spec_deHydra_l1 (a1 : Rw) (v8n : Nat) (x34 : Int) (K2 : Int → Option Bool) : Nat → Int → Option Bool
  | 0, _ => none
  | n + 1, v41 => (if (0 : Int) ≤ v41 then (if v41 = x34 then (K2 v41) else (row_i a1 v41 fun x55 => (spec_deHydra_l1 a1 v8n x34 K2 n x55))) else (K2 v41))
set_option maxHeartbeats 4000000 in
set_option maxRecDepth 100000 in
theorem spec_deHydra_l1_ct {a1 : Rw} {v8n : Nat} {x34 : Int} {K2 : Int → Option Bool} {r : Bool} : ∀ (n : Nat) (v41 : Int), spec_deHydra_l1 a1 v8n x34 K2 n v41 = some r → LoopOk prog 0 (lp f41 1) (mk 43 [(1, .ptr 64 0), (3, .d (D.int .i64 (v8n : Int))), (4, .d (D.int .i64 x34)), (5, .d (D.int .i64 v41)), (7, .d (D.sl a1)), (8, .d (D.int .i64 (a1.length : Int))), (9, .d (D.int .i64 (v8n : Int)))] [(64, .box 31 [.d (D.sl a1)])]) (LoopEnd prog f41 0 43 (.d (D.bool r)) (⟨[], []⟩) (fun i ts os => (i = 2 ∧ ∃ v47 : Int, K2 v47 = some r ∧ ts = [(1, .ptr 64 0), (3, .d (D.int .i64 (v8n : Int))), (4, .d (D.int .i64 x34)), (5, .d (D.int .i64 v47)), (7, .d (D.sl a1)), (8, .d (D.int .i64 (a1.length : Int))), (9, .d (D.int .i64 (v8n : Int)))] ∧ os = [(64, .box 31 [.d (D.sl a1)])])))
  | 0, _, h => by
      rw [spec_deHydra_l1] at h; cases h
  | n + 1, v41, h => by
      rw [spec_deHydra_l1] at h
      refine LoopOk.step ?_
      conv => whnf
      refine splD (fun g53 => ?_) (fun g53 => ?_)
      · replace h := iteP h g53
        conv => whnf
        refine splN (fun g54 => ?_) (fun g54 => ?_)
        · replace h := iteN h g54
          conv => whnf
          obtain ⟨g57, x55, e56, h⟩ := row_i_ex h
          refine Req.of g57 ?_
          refine Row.of _ e56 ?_
          conv => whnf
          exact LoopOk.back (spec_deHydra_l1_ct  n _ h) [some 64] [] ⟨⟨rfl, rfl⟩, ⟨rfl, ⟨rfl, rfl, trivial⟩, trivial⟩, ⟨rfl, rfl⟩, rfl, rfl, rfl, rfl, rfl, rfl, trivial⟩
        · replace h := iteP h g54
          conv => whnf
          exact ⟨_, _, [some 64], [], ⟨rfl, _, h, rfl, rfl⟩, ⟨⟨rfl, rfl⟩, ⟨rfl, ⟨rfl, rfl, trivial⟩, trivial⟩, ⟨rfl, rfl⟩, rfl, rfl, rfl, rfl, rfl, rfl, trivial⟩⟩
      · replace h := iteN h g53
        conv => whnf
        exact ⟨_, _, [some 64], [], ⟨rfl, _, h, rfl, rfl⟩, ⟨⟨rfl, rfl⟩, ⟨rfl, ⟨rfl, rfl, trivial⟩, trivial⟩, ⟨rfl, rfl⟩, rfl, rfl, rfl, rfl, rfl, rfl, trivial⟩⟩
def spec_deHydra_l0 (k : Nat) (a1 : Rw) (K0 : Option Bool) : Rw → Nat → Option Bool
  | [], v8n => (K0)
  | cs :: rest, v8n => (cell_i cs fun x34 => (spec_deHydra_l1 a1 v8n x34 (fun (v47 : Int) => (if v47 = x34 then (if x34 < (0 : Int) then (if (v8n : Int) = (0 : Int) then (spec_deHydra_l0 k a1 K0 rest (v8n + 1)) else some false) else (if (v8n : Int) = (0 : Int) then some false else (spec_deHydra_l0 k a1 K0 rest (v8n + 1)))) else some false)) k (IntKind.i64.wrap ((v8n : Int) - 1))))
set_option maxHeartbeats 4000000 in
set_option maxRecDepth 100000 in
theorem spec_deHydra_l0_ct {k : Nat} {a1 : Rw} {K0 : Option Bool} {r : Bool} (hx : a1.length ≤ cap) : ∀ (rest : Rw) (v8n : Nat), a1.drop v8n = rest → spec_deHydra_l0 k a1 K0 rest v8n = some r → LoopOk prog 0 (lp f41 0) (mk 43 [(1, .ptr 64 0), (7, .d (D.sl a1)), (8, .d (D.int .i64 (a1.length : Int))), (9, .d (D.int .i64 (v8n : Int)))] [(64, .box 31 [.d (D.sl a1)])]) (LoopEnd prog f41 0 43 (.d (D.bool r)) (⟨[], []⟩) (fun i ts os => (i = 0 ∧ K0 = some r ∧ ts = [(1, .ptr 64 0)] ∧ os = [(64, .box 31 [.d (D.sl a1)])])))
  | [], v8n, hd, h => by
      rw [spec_deHydra_l0] at h
      have hn := drop_nil hd
      refine LoopOk.step ?_
      conv => whnf
      refine splD (fun g => absurd g hn) (fun _ => ?_)
      conv => whnf
      exact ⟨_, _, [some 64], [], ⟨rfl, h, rfl, rfl⟩, ⟨⟨rfl, rfl⟩, ⟨rfl, ⟨rfl, rfl, trivial⟩, trivial⟩, ⟨rfl, rfl⟩, trivial⟩⟩
  | cs :: rest, v8n, hd, h => by
      rw [spec_deHydra_l0] at h
      obtain ⟨hrow, hd1, hlt⟩ := drop_cons hd
      refine LoopOk.step ?_
      conv => whnf
      refine splD (fun _ => ?_) (fun g => absurd hlt g)
      conv => whnf
      obtain ⟨x34, e35, h⟩ := cell_i_ex h
      rw [e35] at hrow
      refine Req.of (Int.natCast_nonneg _) ?_
      refine Row.of _ hrow ?_
      conv => whnf
      refine LoopOk.into (spec_deHydra_l1_ct  _ _ h) [some 64] [] ⟨⟨rfl, rfl⟩, ⟨rfl, ⟨rfl, rfl, trivial⟩, trivial⟩, ⟨rfl, rfl⟩, rfl, rfl, rfl, rfl, rfl, rfl, trivial⟩ ?_ (fun _ hs => hs)
      rintro i ts os ⟨rfl, v47, h, rfl, rfl⟩
      conv => whnf
      refine CutK.norm [1, 3, 4, 5, 7, 8, 9] [64] ?_
      conv => whnf
      refine splN (fun g58 => ?_) (fun g58 => ?_)
      · replace h := iteN h g58
        conv => whnf
        cases h
        exact Done.of [] [] rfl rfl ⟨⟨rfl, rfl⟩, ⟨rfl, trivial⟩, rfl, trivial⟩
      · replace h := iteP h g58
        conv => whnf
        refine splD (fun g59 => ?_) (fun g59 => ?_)
        · replace h := iteP h g59
          conv => whnf
          refine splD (fun g60 => ?_) (fun g60 => ?_)
          · replace h := iteP h g60
            conv => whnf
            refine splF ?_
            conv => whnf
            refine CutK.norm [1, 7, 8, 9] [64] ?_
            conv => whnf
            exact LoopOk.back (spec_deHydra_l0_ct hx rest (v8n + 1)  hd1 h) [some 64] [] ⟨⟨rfl, rfl⟩, ⟨rfl, ⟨rfl, rfl, trivial⟩, trivial⟩, ⟨rfl, rfl⟩, rfl, rfl, i64eq (wrap_up hlt hx), trivial⟩
          · replace h := iteN h g60
            conv => whnf
            refine splT ?_
            conv => whnf
            cases h
            exact Done.of [] [] rfl rfl ⟨⟨rfl, rfl⟩, ⟨rfl, trivial⟩, rfl, trivial⟩
        · replace h := iteN h g59
          conv => whnf
          refine splD (fun g61 => ?_) (fun g61 => ?_)
          · replace h := iteP h g61
            conv => whnf
            refine splT ?_
            conv => whnf
            cases h
            exact Done.of [] [] rfl rfl ⟨⟨rfl, rfl⟩, ⟨rfl, trivial⟩, rfl, trivial⟩
          · replace h := iteN h g61
            conv => whnf
            refine splF ?_
            conv => whnf
            refine CutK.norm [1, 7, 8, 9] [64] ?_
            conv => whnf
            exact LoopOk.back (spec_deHydra_l0_ct hx rest (v8n + 1)  hd1 h) [some 64] [] ⟨⟨rfl, rfl⟩, ⟨rfl, ⟨rfl, rfl, trivial⟩, trivial⟩, ⟨rfl, rfl⟩, rfl, rfl, i64eq (wrap_up hlt hx), trivial⟩
def spec_deHydra (k : Nat) (a1 : Rw) : Option Bool :=
  (if a1.length ≤ cap then (spec_deHydra_l0 k a1 ((spec_l1In (a1.length : Int) 1 40).bind fun y63 => (if y63 = true then some true else some false)) a1 0) else none)
set_option maxHeartbeats 4000000 in
set_option maxRecDepth 100000 in
theorem spec_deHydra_ct {k : Nat} {a1 : Rw} {r : Bool} (h : spec_deHydra k a1 = some r) : Ct prog 41 [.agg [.d (D.sl a1)]] (⟨[], []⟩) (.d (D.bool r)) (⟨[], []⟩) := by
  rw [spec_deHydra] at h
  refine Ct.of (c := _) mixed func41 ⟨rfl, rfl, rfl⟩ ?_ rfl
  conv => whnf
  obtain ⟨g62, h⟩ := req_ex h
  refine LoopOk.into (spec_deHydra_l0_ct  g62 _ _  rfl h) [some 64] [] ⟨⟨rfl, rfl⟩, ⟨rfl, ⟨rfl, rfl, trivial⟩, trivial⟩, ⟨rfl, rfl⟩, rfl, rfl, rfl, trivial⟩ ?_ (fun _ hs => hs)
  rintro i ts os ⟨rfl, h, rfl, rfl⟩
  conv => whnf
  refine CutK.norm [1] [64] ?_
  conv => whnf
  refine Pick.no ?_
  conv => whnf
  obtain ⟨y63, e64, h⟩ := bind_ex h
  refine CallOk.of (spec_l1In_ct e64) ?_
  conv => whnf
  refine spl (fun g65 => ?_) (fun g65 => ?_)
  · replace h := iteT h g65
    conv => whnf
    refine CutK.norm [2] [] ?_
    conv => whnf
    cases h
    exact Done.of [] [] rfl rfl ⟨⟨rfl, rfl⟩, ⟨rfl, trivial⟩, rfl, trivial⟩
  · replace h := iteF h g65
    conv => whnf
    refine CutK.norm [2] [] ?_
    conv => whnf
    cases h
    exact Done.of [] [] rfl rfl ⟨⟨rfl, rfl⟩, ⟨rfl, trivial⟩, rfl, trivial⟩

def spec_BestHead_p5 (o68 : Int) : Option (Int × Bool) :=
  (if (0 : Int) < o68 then some (o68, true) else some (o68, false))
set_option maxHeartbeats 4000000 in
set_option maxRecDepth 100000 in
theorem spec_BestHead_p5_ct {o68 : Int} {r : Int × Bool} (h : spec_BestHead_p5 o68 = some r) : X prog 0 (tlF f31 5) (mk 59 [(6, .d (D.int .i64 o68))] []) (finK prog f31 0 (.tup [.d (D.int .i64 r.1), .d (D.bool r.2)]) (⟨[], []⟩)) := by
  rw [spec_BestHead_p5] at h
  conv => whnf
  refine splD (fun g70 => ?_) (fun g70 => ?_)
  · replace h := iteP h g70
    conv => whnf
    cases h
    exact Done.of [] [] rfl rfl ⟨⟨rfl, rfl⟩, ⟨rfl, trivial⟩, ⟨rfl, rfl, trivial⟩, trivial⟩
  · replace h := iteN h g70
    conv => whnf
    cases h
    exact Done.of [] [] rfl rfl ⟨⟨rfl, rfl⟩, ⟨rfl, trivial⟩, ⟨rfl, rfl, trivial⟩, trivial⟩
def spec_BestHead_l0 (k : Nat) (a1 : Rw) (a2 : Int) (y71 : Rw) (K0 : Int → Option (Int × Bool)) : Rw → Nat → Int → Rw → Option (Int × Bool)
  | [], v87n, v86, v88 => (K0 v86)
  | cs :: rest, v87n, v86, v88 => (if 0 ≤ (v87n : Int) ∧ (v87n : Int) < (y71.length : Int) then (cell_i cs fun x131 => ((spec_deChopped k a1 x131 a2).bind fun y133 => (if y133.2 = true then ((spec_deOrdinal k y133.1 0).bind fun y136 => ((spec_odGood k y136).bind fun y138 => (if y138 = true then (if v86 = (0 : Int) then (spec_BestHead_l0 k a1 a2 y71 K0 rest (v87n + 1) x131 y136) else ((spec_odCmp k y136 v88).bind fun y142 => (if y142 < (0 : Int) then (spec_BestHead_l0 k a1 a2 y71 K0 rest (v87n + 1) x131 y136) else (spec_BestHead_l0 k a1 a2 y71 K0 rest (v87n + 1) v86 v88)))) else some (0, false)))) else ((spec_deOrdinal k y133.1 0).bind fun y145 => some (0, false))))) else none)
set_option maxHeartbeats 4000000 in
set_option maxRecDepth 100000 in
theorem spec_BestHead_l0_ct {k : Nat} {a1 : Rw} {a2 : Int} {y71 : Rw} {K0 : Int → Option (Int × Bool)} {r : Int × Bool} (hx : y71.length ≤ cap) : ∀ (rest : Rw) (v87n : Nat) (v86 : Int) (v88 : Rw), y71.drop v87n = rest → spec_BestHead_l0 k a1 a2 y71 K0 rest v87n v86 v88 = some r → LoopOk prog 0 (lp f31 0) (mk 59 [(1, .d (D.int .i64 a2)), (2, .ptr 128 0), (6, .d (D.int .i64 v86)), (7, .ptr 448 0), (23, .os 64000 y71.length), (24, .d (D.int .i64 (y71.length : Int))), (25, .d (D.int .i64 (v87n : Int)))] [(128, .box 31 [.d (D.sl a1)]), (448, .box 28 [.os 64001 v88.length]), (64000, .arr 3 true y71), (64001, .arr 96 false v88)]) (LoopEnd prog f31 0 59 (.tup [.d (D.int .i64 r.1), .d (D.bool r.2)]) (⟨[], []⟩) (fun i ts os => (i = 0 ∧ ∃ v110 : Int, K0 v110 = some r ∧ ts = [(6, .d (D.int .i64 v110))] ∧ os = [])))
  | [], v87n, v86, v88, hd, h => by
      rw [spec_BestHead_l0] at h
      have hn := drop_nil hd
      refine LoopOk.step ?_
      conv => whnf
      refine splD (fun g => absurd g hn) (fun _ => ?_)
      conv => whnf
      exact ⟨_, _, [], [], ⟨rfl, _, h, rfl, rfl⟩, ⟨⟨rfl, rfl⟩, ⟨rfl, trivial⟩, rfl, trivial⟩⟩
  | cs :: rest, v87n, v86, v88, hd, h => by
      rw [spec_BestHead_l0] at h
      obtain ⟨hrow, hd1, hlt⟩ := drop_cons hd
      refine LoopOk.step ?_
      conv => whnf
      refine splD (fun _ => ?_) (fun g => absurd hlt g)
      conv => whnf
      obtain ⟨g130, h⟩ := req_ex h
      refine Req.of g130 ?_
      conv => whnf
      obtain ⟨x131, e132, h⟩ := cell_i_ex h
      rw [e132] at hrow
      refine Row.of _ hrow ?_
      conv => whnf
      refine Pick.no ?_
      conv => whnf
      obtain ⟨y133, e134, h⟩ := bind_ex h
      refine CallOk.of (spec_deChopped_ct e134) ?_
      conv => whnf
      refine spl (fun g135 => ?_) (fun g135 => ?_)
      · replace h := iteT h g135
        conv => whnf
        refine CutK.norm [1, 2, 6, 7, 9, 10, 11, 23, 24, 25] [128, 448, 640, 2112, 64000, 64001] ?_
        conv => whnf
        refine Pick.no ?_
        conv => whnf
        refine Take.all (rfl) ?_
        conv => whnf
        obtain ⟨y136, e137, h⟩ := bind_ex h
        refine CallOk.of (spec_deOrdinal_ct e137) ?_
        conv => whnf
        refine CutK.norm [1, 2, 6, 7, 9, 11, 12, 23, 24, 25] [128, 448, 768, 2368, 64000, 64001] ?_
        conv => whnf
        refine Pick.no ?_
        conv => whnf
        refine Take.all (rfl) ?_
        conv => whnf
        obtain ⟨y138, e139, h⟩ := bind_ex h
        refine CallOk.of (spec_odGood_ct e139) ?_
        conv => whnf
        refine spl (fun g140 => ?_) (fun g140 => ?_)
        · replace h := iteT h g140
          conv => whnf
          refine CutK.norm [1, 2, 6, 7, 9, 12, 23, 24, 25, 44] [128, 448, 768, 2368, 64000, 64001] ?_
          conv => whnf
          refine CutK.norm [1, 2, 6, 7, 9, 12, 23, 24, 25] [128, 448, 768, 2368, 64000, 64001] ?_
          conv => whnf
          refine splD (fun g141 => ?_) (fun g141 => ?_)
          · replace h := iteP h g141
            conv => whnf
            refine CutK.norm [1, 2, 6, 7, 9, 12, 23, 24, 25, 52] [128, 448, 768, 2368, 64000, 64001] ?_
            conv => whnf
            refine CutK.norm [1, 2, 6, 7, 23, 24, 25] [128, 448, 2368, 64000] ?_
            conv => whnf
            exact LoopOk.back (spec_BestHead_l0_ct hx rest (v87n + 1) _ _ hd1 h) [some 128, some 448, some 64000, some 2368] [] ⟨⟨rfl, rfl⟩, ⟨rfl, ⟨rfl, rfl, trivial⟩, ⟨rfl, ⟨rfl, rfl⟩, trivial⟩, ⟨rfl, rfl, rows_same⟩, ⟨rfl, rfl, rows_same⟩, trivial⟩, rfl, ⟨rfl, rfl⟩, rfl, ⟨rfl, rfl⟩, ⟨rfl, rfl⟩, rfl, i64eq (wrap_up hlt hx), trivial⟩
          · replace h := iteN h g141
            conv => whnf
            refine Pick.no ?_
            conv => whnf
            refine Take.all (rfl) ?_
            conv => whnf
            refine Take.all (rfl) ?_
            conv => whnf
            obtain ⟨y142, e143, h⟩ := bind_ex h
            refine CallOk.of (spec_odCmp_ct e143) ?_
            conv => whnf
            refine splD (fun g144 => ?_) (fun g144 => ?_)
            · replace h := iteP h g144
              conv => whnf
              refine CutK.norm [1, 2, 6, 7, 9, 12, 23, 24, 25, 52] [128, 448, 768, 2368, 64000, 64001] ?_
              conv => whnf
              refine CutK.norm [1, 2, 6, 7, 23, 24, 25] [128, 448, 2368, 64000] ?_
              conv => whnf
              exact LoopOk.back (spec_BestHead_l0_ct hx rest (v87n + 1) _ _ hd1 h) [some 128, some 448, some 64000, some 2368] [] ⟨⟨rfl, rfl⟩, ⟨rfl, ⟨rfl, rfl, trivial⟩, ⟨rfl, ⟨rfl, rfl⟩, trivial⟩, ⟨rfl, rfl, rows_same⟩, ⟨rfl, rfl, rows_same⟩, trivial⟩, rfl, ⟨rfl, rfl⟩, rfl, ⟨rfl, rfl⟩, ⟨rfl, rfl⟩, rfl, i64eq (wrap_up hlt hx), trivial⟩
            · replace h := iteN h g144
              conv => whnf
              refine CutK.norm [1, 2, 6, 7, 9, 12, 23, 24, 25, 52] [128, 448, 768, 2368, 64000, 64001] ?_
              conv => whnf
              refine CutK.norm [1, 2, 6, 7, 23, 24, 25] [128, 448, 64000, 64001] ?_
              conv => whnf
              exact LoopOk.back (spec_BestHead_l0_ct hx rest (v87n + 1) _ _ hd1 h) [some 128, some 448, some 64000, some 64001] [] ⟨⟨rfl, rfl⟩, ⟨rfl, ⟨rfl, rfl, trivial⟩, ⟨rfl, ⟨rfl, rfl⟩, trivial⟩, ⟨rfl, rfl, rows_same⟩, ⟨rfl, rfl, rows_same⟩, trivial⟩, rfl, ⟨rfl, rfl⟩, rfl, ⟨rfl, rfl⟩, ⟨rfl, rfl⟩, rfl, i64eq (wrap_up hlt hx), trivial⟩
        · replace h := iteF h g140
          conv => whnf
          refine CutK.norm [1, 2, 6, 7, 9, 12, 23, 24, 25, 44] [128, 448, 768, 2368, 64000, 64001] ?_
          conv => whnf
          cases h
          exact Done.of [] [] rfl rfl ⟨⟨rfl, rfl⟩, ⟨rfl, trivial⟩, ⟨rfl, rfl, trivial⟩, trivial⟩
      · replace h := iteF h g135
        conv => whnf
        refine CutK.norm [1, 2, 6, 7, 9, 10, 11, 23, 24, 25] [128, 448, 640, 2112, 64000, 64001] ?_
        conv => whnf
        refine Pick.no ?_
        conv => whnf
        refine Take.all (rfl) ?_
        conv => whnf
        obtain ⟨y145, e146, h⟩ := bind_ex h
        refine CallOk.of (spec_deOrdinal_ct e146) ?_
        conv => whnf
        refine CutK.norm [1, 2, 6, 7, 9, 11, 12, 23, 24, 25] [128, 448, 768, 2368, 64000, 64001] ?_
        conv => whnf
        refine CutK.norm [1, 2, 6, 7, 9, 12, 23, 24, 25, 44] [128, 448, 768, 2368, 64000, 64001] ?_
        conv => whnf
        cases h
        exact Done.of [] [] rfl rfl ⟨⟨rfl, rfl⟩, ⟨rfl, trivial⟩, ⟨rfl, rfl, trivial⟩, trivial⟩
def spec_BestHead_p2 (k : Nat) (a1 : Rw) (a2 : Int) : Option (Int × Bool) :=
  ((spec_deHeads k a1).bind fun y71 => (if y71.length ≤ cap then (spec_BestHead_l0 k a1 a2 y71 (fun (v110 : Int) => (spec_BestHead_p5 v110)) y71 0 0 ([] : Rw)) else none))
set_option maxHeartbeats 4000000 in
set_option maxRecDepth 100000 in
theorem spec_BestHead_p2_ct {k : Nat} {a1 : Rw} {a2 : Int} {r : Int × Bool} (h : spec_BestHead_p2 k a1 a2 = some r) : X prog 0 (tlF f31 2) (mk 59 [(1, .d (D.int .i64 a2)), (2, .ptr 128 0)] [(128, .box 31 [.d (D.sl a1)])]) (finK prog f31 0 (.tup [.d (D.int .i64 r.1), .d (D.bool r.2)]) (⟨[], []⟩)) := by
  rw [spec_BestHead_p2] at h
  conv => whnf
  refine Pick.no ?_
  conv => whnf
  obtain ⟨y71, e72, h⟩ := bind_ex h
  refine CallOk.of (spec_deHeads_ct e72) ?_
  conv => whnf
  refine CutK.norm [1, 2, 6, 7, 23, 24, 25] [128, 448, 1472] ?_
  conv => whnf
  obtain ⟨g147, h⟩ := req_ex h
  refine LoopOk.into (spec_BestHead_l0_ct  g147 _ _ _ _ rfl h) [some 128, some 448, some 1472, none] [] ⟨⟨rfl, rfl⟩, ⟨rfl, ⟨rfl, rfl, trivial⟩, ⟨rfl, ⟨rfl, rfl⟩, trivial⟩, ⟨rfl, rfl, rows_same⟩, rfl, trivial⟩, rfl, ⟨rfl, rfl⟩, rfl, ⟨rfl, rfl⟩, ⟨rfl, rfl⟩, rfl, rfl, trivial⟩ ?_ (fun _ hs => hs)
  rintro i ts os ⟨rfl, v110, h, rfl, rfl⟩
  conv => whnf
  exact CutK.piece (spec_BestHead_p5_ct  h) [] [] ⟨⟨rfl, rfl⟩, ⟨rfl, trivial⟩, rfl, trivial⟩
def spec_BestHead (k : Nat) (a1 : Rw) (a2 : Int) : Option (Int × Bool) :=
  ((spec_deHydra k a1).bind fun y148 => (if y148 = true then ((spec_l1In a2 0 99).bind fun y151 => (if y151 = true then (spec_BestHead_p2 k a1 a2) else some (0, false))) else some (0, false)))
set_option maxHeartbeats 4000000 in
set_option maxRecDepth 100000 in
theorem spec_BestHead_ct {k : Nat} {a1 : Rw} {a2 : Int} {r : Int × Bool} (h : spec_BestHead k a1 a2 = some r) : Ct prog 31 [.agg [.d (D.sl a1)], .d (D.int .i64 a2)] (⟨[], []⟩) (.tup [.d (D.int .i64 r.1), .d (D.bool r.2)]) (⟨[], []⟩) := by
  rw [spec_BestHead] at h
  refine Ct.of (c := _) mixed func31 ⟨rfl, rfl, rfl⟩ ?_ rfl
  conv => whnf
  refine Pick.no ?_
  conv => whnf
  obtain ⟨y148, e149, h⟩ := bind_ex h
  refine CallOk.of (spec_deHydra_ct e149) ?_
  conv => whnf
  refine spl (fun g150 => ?_) (fun g150 => ?_)
  · replace h := iteT h g150
    conv => whnf
    refine Pick.no ?_
    conv => whnf
    obtain ⟨y151, e152, h⟩ := bind_ex h
    refine CallOk.of (spec_l1In_ct e152) ?_
    conv => whnf
    refine spl (fun g153 => ?_) (fun g153 => ?_)
    · replace h := iteT h g153
      conv => whnf
      refine CutK.norm [1, 2, 20] [128] ?_
      conv => whnf
      exact CutK.piece (spec_BestHead_p2_ct  h) [some 128] [] ⟨⟨rfl, rfl⟩, ⟨rfl, ⟨rfl, rfl, trivial⟩, trivial⟩, rfl, ⟨rfl, rfl⟩, trivial⟩
    · replace h := iteF h g153
      conv => whnf
      refine CutK.norm [1, 2, 20] [128] ?_
      conv => whnf
      cases h
      exact Done.of [] [] rfl rfl ⟨⟨rfl, rfl⟩, ⟨rfl, trivial⟩, ⟨rfl, rfl, trivial⟩, trivial⟩
  · replace h := iteF h g150
    conv => whnf
    refine CutK.norm [1, 2, 20] [128] ?_
    conv => whnf
    cases h
    exact Done.of [] [] rfl rfl ⟨⟨rfl, rfl⟩, ⟨rfl, trivial⟩, ⟨rfl, rfl, trivial⟩, trivial⟩

def impl_BestHead_p4 (o56 : Int) : Option (Int × Bool) :=
  (if o56 < (0 : Int) then some (0, false) else some (o56, true))
set_option maxHeartbeats 4000000 in
set_option maxRecDepth 100000 in
theorem impl_BestHead_p4_ct {o56 : Int} {r : Int × Bool} (h : impl_BestHead_p4 o56 = some r) : X prog 0 (tlF f32 4) (mk 59 [(6, .d (D.int .i64 o56))] []) (finK prog f32 0 (.tup [.d (D.int .i64 r.1), .d (D.bool r.2)]) (⟨[], []⟩)) := by
  rw [impl_BestHead_p4] at h
  conv => whnf
  refine splD (fun g58 => ?_) (fun g58 => ?_)
  · replace h := iteP h g58
    conv => whnf
    cases h
    exact Done.of [] [] rfl rfl ⟨⟨rfl, rfl⟩, ⟨rfl, trivial⟩, ⟨rfl, rfl, trivial⟩, trivial⟩
  · replace h := iteN h g58
    conv => whnf
    cases h
    exact Done.of [] [] rfl rfl ⟨⟨rfl, rfl⟩, ⟨rfl, trivial⟩, ⟨rfl, rfl, trivial⟩, trivial⟩
def impl_BestHead_l0 (k : Nat) (a1 : Rw) (a2 : Int) (y59 : Rw) (K0 : Int → Option (Int × Bool)) : Rw → Nat → Int → Rw → Option (Int × Bool)
  | [], v73n, v72, v74 => (K0 v72)
  | cs :: rest, v73n, v72, v74 => (if 0 ≤ (v73n : Int) ∧ (v73n : Int) < (y59.length : Int) then (cell_i cs fun x107 => ((lib_chop a1 x107 a2).bind fun y109 => (if y109.2 = true then ((impl_HydraOrdinal k y109.1).bind fun y112 => (if y112.2 = true then (if v72 < (0 : Int) then (impl_BestHead_l0 k a1 a2 y59 K0 rest (v73n + 1) x107 y112.1) else ((impl_cmp k y112.1 v74).bind fun y116 => (if y116 < (0 : Int) then (impl_BestHead_l0 k a1 a2 y59 K0 rest (v73n + 1) x107 y112.1) else (impl_BestHead_l0 k a1 a2 y59 K0 rest (v73n + 1) v72 v74)))) else some (0, false))) else some (0, false)))) else none)
set_option maxHeartbeats 4000000 in
set_option maxRecDepth 100000 in
theorem impl_BestHead_l0_ct {k : Nat} {a1 : Rw} {a2 : Int} {y59 : Rw} {K0 : Int → Option (Int × Bool)} {r : Int × Bool} (hx : y59.length ≤ cap) : ∀ (rest : Rw) (v73n : Nat) (v72 : Int) (v74 : Rw), y59.drop v73n = rest → impl_BestHead_l0 k a1 a2 y59 K0 rest v73n v72 v74 = some r → LoopOk prog 0 (lp f32 0) (mk 59 [(1, .d (D.int .i64 a2)), (2, .ptr 128 0), (6, .d (D.int .i64 v72)), (7, .ptr 448 0), (23, .os 64000 y59.length), (24, .d (D.int .i64 (y59.length : Int))), (25, .d (D.int .i64 (v73n : Int)))] [(128, .box 31 [.d (D.sl a1)]), (448, .box 28 [.os 64001 v74.length]), (64000, .arr 3 true y59), (64001, .arr 96 true v74)]) (LoopEnd prog f32 0 59 (.tup [.d (D.int .i64 r.1), .d (D.bool r.2)]) (⟨[], []⟩) (fun i ts os => (i = 0 ∧ ∃ v90 : Int, K0 v90 = some r ∧ ts = [(6, .d (D.int .i64 v90))] ∧ os = [])))
  | [], v73n, v72, v74, hd, h => by
      rw [impl_BestHead_l0] at h
      have hn := drop_nil hd
      refine LoopOk.step ?_
      conv => whnf
      refine splD (fun g => absurd g hn) (fun _ => ?_)
      conv => whnf
      exact ⟨_, _, [], [], ⟨rfl, _, h, rfl, rfl⟩, ⟨⟨rfl, rfl⟩, ⟨rfl, trivial⟩, rfl, trivial⟩⟩
  | cs :: rest, v73n, v72, v74, hd, h => by
      rw [impl_BestHead_l0] at h
      obtain ⟨hrow, hd1, hlt⟩ := drop_cons hd
      refine LoopOk.step ?_
      conv => whnf
      refine splD (fun _ => ?_) (fun g => absurd hlt g)
      conv => whnf
      obtain ⟨g106, h⟩ := req_ex h
      refine Req.of g106 ?_
      conv => whnf
      obtain ⟨x107, e108, h⟩ := cell_i_ex h
      rw [e108] at hrow
      refine Row.of _ hrow ?_
      conv => whnf
      refine Pick.no ?_
      conv => whnf
      obtain ⟨y109, e110, h⟩ := bind_ex h
      refine CallOk.of (lib_chop_ct e110) ?_
      conv => whnf
      refine spl (fun g111 => ?_) (fun g111 => ?_)
      · replace h := iteT h g111
        conv => whnf
        refine CutK.norm [1, 2, 6, 7, 9, 10, 11, 23, 24, 25] [128, 448, 640, 64000, 64001] ?_
        conv => whnf
        refine Pick.no ?_
        conv => whnf
        obtain ⟨y112, e113, h⟩ := bind_ex h
        refine CallOk.of (impl_HydraOrdinal_ct e113) ?_
        conv => whnf
        refine spl (fun g114 => ?_) (fun g114 => ?_)
        · replace h := iteT h g114
          conv => whnf
          refine CutK.norm [1, 2, 6, 7, 9, 11, 12, 23, 24, 25] [128, 448, 768, 2560, 64000, 64001] ?_
          conv => whnf
          refine splD (fun g115 => ?_) (fun g115 => ?_)
          · replace h := iteP h g115
            conv => whnf
            refine CutK.norm [1, 2, 6, 7, 9, 12, 23, 24, 25, 52] [128, 448, 768, 2560, 64000, 64001] ?_
            conv => whnf
            refine CutK.norm [1, 2, 6, 7, 23, 24, 25] [128, 448, 2560, 64000] ?_
            conv => whnf
            exact LoopOk.back (impl_BestHead_l0_ct hx rest (v73n + 1) _ _ hd1 h) [some 128, some 448, some 64000, some 2560] [] ⟨⟨rfl, rfl⟩, ⟨rfl, ⟨rfl, rfl, trivial⟩, ⟨rfl, ⟨rfl, rfl⟩, trivial⟩, ⟨rfl, rfl, rows_same⟩, ⟨rfl, rfl, rows_same⟩, trivial⟩, rfl, ⟨rfl, rfl⟩, rfl, ⟨rfl, rfl⟩, ⟨rfl, rfl⟩, rfl, i64eq (wrap_up hlt hx), trivial⟩
          · replace h := iteN h g115
            conv => whnf
            refine Pick.no ?_
            conv => whnf
            refine Take.all (rfl) ?_
            conv => whnf
            refine Take.all (rfl) ?_
            conv => whnf
            obtain ⟨y116, e117, h⟩ := bind_ex h
            refine CallOk.of (impl_cmp_ct e117) ?_
            conv => whnf
            refine splD (fun g118 => ?_) (fun g118 => ?_)
            · replace h := iteP h g118
              conv => whnf
              refine CutK.norm [1, 2, 6, 7, 9, 12, 23, 24, 25, 52] [128, 448, 768, 2560, 64000, 64001] ?_
              conv => whnf
              refine CutK.norm [1, 2, 6, 7, 23, 24, 25] [128, 448, 2560, 64000] ?_
              conv => whnf
              exact LoopOk.back (impl_BestHead_l0_ct hx rest (v73n + 1) _ _ hd1 h) [some 128, some 448, some 64000, some 2560] [] ⟨⟨rfl, rfl⟩, ⟨rfl, ⟨rfl, rfl, trivial⟩, ⟨rfl, ⟨rfl, rfl⟩, trivial⟩, ⟨rfl, rfl, rows_same⟩, ⟨rfl, rfl, rows_same⟩, trivial⟩, rfl, ⟨rfl, rfl⟩, rfl, ⟨rfl, rfl⟩, ⟨rfl, rfl⟩, rfl, i64eq (wrap_up hlt hx), trivial⟩
            · replace h := iteN h g118
              conv => whnf
              refine CutK.norm [1, 2, 6, 7, 9, 12, 23, 24, 25, 52] [128, 448, 768, 2560, 64000, 64001] ?_
              conv => whnf
              refine CutK.norm [1, 2, 6, 7, 23, 24, 25] [128, 448, 64000, 64001] ?_
              conv => whnf
              exact LoopOk.back (impl_BestHead_l0_ct hx rest (v73n + 1) _ _ hd1 h) [some 128, some 448, some 64000, some 64001] [] ⟨⟨rfl, rfl⟩, ⟨rfl, ⟨rfl, rfl, trivial⟩, ⟨rfl, ⟨rfl, rfl⟩, trivial⟩, ⟨rfl, rfl, rows_same⟩, ⟨rfl, rfl, rows_same⟩, trivial⟩, rfl, ⟨rfl, rfl⟩, rfl, ⟨rfl, rfl⟩, ⟨rfl, rfl⟩, rfl, i64eq (wrap_up hlt hx), trivial⟩
        · replace h := iteF h g114
          conv => whnf
          refine CutK.norm [1, 2, 6, 7, 9, 11, 12, 23, 24, 25] [128, 448, 768, 2560, 64000, 64001] ?_
          conv => whnf
          cases h
          exact Done.of [] [] rfl rfl ⟨⟨rfl, rfl⟩, ⟨rfl, trivial⟩, ⟨rfl, rfl, trivial⟩, trivial⟩
      · replace h := iteF h g111
        conv => whnf
        refine CutK.norm [1, 2, 6, 7, 9, 10, 11, 23, 24, 25] [128, 448, 640, 64000, 64001] ?_
        conv => whnf
        cases h
        exact Done.of [] [] rfl rfl ⟨⟨rfl, rfl⟩, ⟨rfl, trivial⟩, ⟨rfl, rfl, trivial⟩, trivial⟩
def impl_BestHead_p2 (k : Nat) (a1 : Rw) (a2 : Int) : Option (Int × Bool) :=
  ((impl_heads k a1).bind fun y59 => (if y59.length ≤ cap then (impl_BestHead_l0 k a1 a2 y59 (fun (v90 : Int) => (impl_BestHead_p4 v90)) y59 0 (-1) ([] : Rw)) else none))
set_option maxHeartbeats 4000000 in
set_option maxRecDepth 100000 in
theorem impl_BestHead_p2_ct {k : Nat} {a1 : Rw} {a2 : Int} {r : Int × Bool} (h : impl_BestHead_p2 k a1 a2 = some r) : X prog 0 (tlF f32 2) (mk 59 [(1, .d (D.int .i64 a2)), (2, .ptr 128 0)] [(128, .box 31 [.d (D.sl a1)])]) (finK prog f32 0 (.tup [.d (D.int .i64 r.1), .d (D.bool r.2)]) (⟨[], []⟩)) := by
  rw [impl_BestHead_p2] at h
  conv => whnf
  refine Pick.no ?_
  conv => whnf
  obtain ⟨y59, e60, h⟩ := bind_ex h
  refine CallOk.of (impl_heads_ct e60) ?_
  conv => whnf
  refine CutK.norm [1, 2, 6, 7, 23, 24, 25] [128, 448, 1472] ?_
  conv => whnf
  obtain ⟨g119, h⟩ := req_ex h
  refine LoopOk.into (impl_BestHead_l0_ct  g119 _ _ _ _ rfl h) [some 128, some 448, some 1472, none] [] ⟨⟨rfl, rfl⟩, ⟨rfl, ⟨rfl, rfl, trivial⟩, ⟨rfl, ⟨rfl, rfl⟩, trivial⟩, ⟨rfl, rfl, rows_same⟩, rfl, trivial⟩, rfl, ⟨rfl, rfl⟩, rfl, ⟨rfl, rfl⟩, ⟨rfl, rfl⟩, rfl, rfl, trivial⟩ ?_ (fun _ hs => hs)
  rintro i ts os ⟨rfl, v90, h, rfl, rfl⟩
  conv => whnf
  exact CutK.piece (impl_BestHead_p4_ct  h) [] [] ⟨⟨rfl, rfl⟩, ⟨rfl, trivial⟩, rfl, trivial⟩
def impl_BestHead (k : Nat) (a1 : Rw) (a2 : Int) : Option (Int × Bool) :=
  ((impl_IsHydra k a1).bind fun y120 => (if y120 = true then ((impl_in a2 0 99).bind fun y123 => (if y123 = true then (impl_BestHead_p2 k a1 a2) else some (0, false))) else some (0, false)))
set_option maxHeartbeats 4000000 in
set_option maxRecDepth 100000 in
theorem impl_BestHead_ct {k : Nat} {a1 : Rw} {a2 : Int} {r : Int × Bool} (h : impl_BestHead k a1 a2 = some r) : Ct prog 32 [.agg [.d (D.sl a1)], .d (D.int .i64 a2)] (⟨[], []⟩) (.tup [.d (D.int .i64 r.1), .d (D.bool r.2)]) (⟨[], []⟩) := by
  rw [impl_BestHead] at h
  refine Ct.of (c := _) mixed func32 ⟨rfl, rfl, rfl⟩ ?_ rfl
  conv => whnf
  refine Pick.no ?_
  conv => whnf
  obtain ⟨y120, e121, h⟩ := bind_ex h
  refine CallOk.of (impl_IsHydra_ct e121) ?_
  conv => whnf
  refine spl (fun g122 => ?_) (fun g122 => ?_)
  · replace h := iteT h g122
    conv => whnf
    refine Pick.no ?_
    conv => whnf
    obtain ⟨y123, e124, h⟩ := bind_ex h
    refine CallOk.of (impl_in_ct e124) ?_
    conv => whnf
    refine spl (fun g125 => ?_) (fun g125 => ?_)
    · replace h := iteT h g125
      conv => whnf
      refine CutK.norm [1, 2, 20] [128] ?_
      conv => whnf
      exact CutK.piece (impl_BestHead_p2_ct  h) [some 128] [] ⟨⟨rfl, rfl⟩, ⟨rfl, ⟨rfl, rfl, trivial⟩, trivial⟩, rfl, ⟨rfl, rfl⟩, trivial⟩
    · replace h := iteF h g125
      conv => whnf
      refine CutK.norm [1, 2, 20] [128] ?_
      conv => whnf
      cases h
      exact Done.of [] [] rfl rfl ⟨⟨rfl, rfl⟩, ⟨rfl, trivial⟩, ⟨rfl, rfl, trivial⟩, trivial⟩
  · replace h := iteF h g122
    conv => whnf
    refine CutK.norm [1, 2, 20] [128] ?_
    conv => whnf
    cases h
    exact Done.of [] [] rfl rfl ⟨⟨rfl, rfl⟩, ⟨rfl, trivial⟩, ⟨rfl, rfl, trivial⟩, trivial⟩

def spec_l1Cur_next  (a1 : Rw) (a2 : Int) (a3 : Int) : Option (Int × Rw × Int × Int) :=
  (if a2 < (a1.length : Int) then (row_iu8 a1 a2 fun x5 => (if (IntKind.i64.wrap (a2 + 1)) ≤ (a1.length : Int) then some (IntKind.i64.wrap x5, a1, IntKind.i64.wrap (a2 + 1), IntKind.u64.wrap ((IntKind.u64.wrap ((IntKind.u64.wrap (a3 * 6364136223846793005)) + (IntKind.u64.wrap (IntKind.i64.wrap x5)))) + 1442695040888963407)) else some (IntKind.i64.wrap (IntKind.u64.wrap (BitVec.ofInt (IntKind.u64).bits ((IntKind.u64.wrap ((IntKind.u64.wrap ((IntKind.u64.wrap (a3 * 6364136223846793005)) + (IntKind.u64.wrap (IntKind.i64.wrap x5)))) + 1442695040888963407)).fdiv (2 ^ (min (40 : Int).toNat (IntKind.u64).bits))) &&& BitVec.ofInt (IntKind.u64).bits 255).toNat), a1, IntKind.i64.wrap (a2 + 1), IntKind.u64.wrap ((IntKind.u64.wrap ((IntKind.u64.wrap (a3 * 6364136223846793005)) + (IntKind.u64.wrap (IntKind.i64.wrap x5)))) + 1442695040888963407)))) else (if (IntKind.i64.wrap (a2 + 1)) ≤ (a1.length : Int) then some (0, a1, IntKind.i64.wrap (a2 + 1), IntKind.u64.wrap ((IntKind.u64.wrap ((IntKind.u64.wrap (a3 * 6364136223846793005)) + (IntKind.u64.wrap 0))) + 1442695040888963407)) else some (IntKind.i64.wrap (IntKind.u64.wrap (BitVec.ofInt (IntKind.u64).bits ((IntKind.u64.wrap ((IntKind.u64.wrap ((IntKind.u64.wrap (a3 * 6364136223846793005)) + (IntKind.u64.wrap 0))) + 1442695040888963407)).fdiv (2 ^ (min (40 : Int).toNat (IntKind.u64).bits))) &&& BitVec.ofInt (IntKind.u64).bits 255).toNat), a1, IntKind.i64.wrap (a2 + 1), IntKind.u64.wrap ((IntKind.u64.wrap ((IntKind.u64.wrap (a3 * 6364136223846793005)) + (IntKind.u64.wrap 0))) + 1442695040888963407))))
set_option maxHeartbeats 4000000 in
set_option maxRecDepth 100000 in
theorem spec_l1Cur_next_ct  {a1 : Rw} {a2 : Int} {a3 : Int} {r : Int × Rw × Int × Int} (h : spec_l1Cur_next a1 a2 a3 = some r) : Ct prog 89 [.ptr 0 0] (⟨[(82, [.d (D.sl a1), .d (D.int .i64 a2), .d (D.int .u64 a3)])], []⟩) (.d (D.int .i64 r.1)) (⟨[(82, [.d (D.sl r.2.1), .d (D.int .i64 r.2.2.1), .d (D.int .u64 r.2.2.2)])], []⟩) := by
  rw [spec_l1Cur_next] at h
  refine Ct.of (c := _) mixed func89 ⟨rfl, rfl, rfl⟩ ?_ rfl
  conv => whnf
  refine splD (fun g4 => ?_) (fun g4 => ?_)
  · replace h := iteP h g4
    conv => whnf
    obtain ⟨g7, x5, e6, h⟩ := row_iu8_ex h
    refine Req.of g7 ?_
    refine Row.of _ e6 ?_
    conv => whnf
    refine splD (fun g8 => ?_) (fun g8 => ?_)
    · replace h := iteP h g8
      conv => whnf
      cases h
      exact Done.of [some 0] [] rfl rfl ⟨⟨rfl, rfl⟩, ⟨rfl, ⟨rfl, rfl, rfl, rfl, trivial⟩, trivial⟩, rfl, trivial⟩
    · replace h := iteN h g8
      conv => whnf
      refine Req.of (by decide) ?_
      conv => whnf
      cases h
      exact Done.of [some 0] [] rfl rfl ⟨⟨rfl, rfl⟩, ⟨rfl, ⟨rfl, rfl, rfl, rfl, trivial⟩, trivial⟩, rfl, trivial⟩
  · replace h := iteN h g4
    conv => whnf
    refine splD (fun g9 => ?_) (fun g9 => ?_)
    · replace h := iteP h g9
      conv => whnf
      cases h
      exact Done.of [some 0] [] rfl rfl ⟨⟨rfl, rfl⟩, ⟨rfl, ⟨rfl, rfl, rfl, rfl, trivial⟩, trivial⟩, rfl, trivial⟩
    · replace h := iteN h g9
      conv => whnf
      refine Req.of (by decide) ?_
      conv => whnf
      cases h
      exact Done.of [some 0] [] rfl rfl ⟨⟨rfl, rfl⟩, ⟨rfl, ⟨rfl, rfl, rfl, rfl, trivial⟩, trivial⟩, rfl, trivial⟩

def spec_l1Cur_pick  (a1 : Rw) (a2 : Int) (a3 : Int) (a4 : Int) : Option (Int × Rw × Int × Int) :=
  (if a4 ≤ (1 : Int) then some (0, a1, a2, a3) else ((spec_l1Cur_next a1 a2 a3).bind fun y6 => (if (200 : Int) < a4 then ((spec_l1Cur_next y6.2.1 y6.2.2.1 y6.2.2.2).bind fun y9 => (if a4 ≠ 0 then some ((IntKind.i64.wrap ((IntKind.i64.wrap (y6.1 * 256)) + y9.1)).tmod a4, y9.2.1, y9.2.2.1, y9.2.2.2) else none)) else (if a4 ≠ 0 then some (y6.1.tmod a4, y6.2.1, y6.2.2.1, y6.2.2.2) else none))))
set_option maxHeartbeats 4000000 in
set_option maxRecDepth 100000 in
theorem spec_l1Cur_pick_ct  {a1 : Rw} {a2 : Int} {a3 : Int} {a4 : Int} {r : Int × Rw × Int × Int} (h : spec_l1Cur_pick a1 a2 a3 a4 = some r) : Ct prog 54 [.ptr 0 0, .d (D.int .i64 a4)] (⟨[(82, [.d (D.sl a1), .d (D.int .i64 a2), .d (D.int .u64 a3)])], []⟩) (.d (D.int .i64 r.1)) (⟨[(82, [.d (D.sl r.2.1), .d (D.int .i64 r.2.2.1), .d (D.int .u64 r.2.2.2)])], []⟩) := by
  rw [spec_l1Cur_pick] at h
  refine Ct.of (c := _) mixed func54 ⟨rfl, rfl, rfl⟩ ?_ rfl
  conv => whnf
  refine splD (fun g5 => ?_) (fun g5 => ?_)
  · replace h := iteP h g5
    conv => whnf
    cases h
    exact Done.of [some 0] [] rfl rfl ⟨⟨rfl, rfl⟩, ⟨rfl, ⟨rfl, rfl, rfl, rfl, trivial⟩, trivial⟩, rfl, trivial⟩
  · replace h := iteN h g5
    conv => whnf
    refine Pick.no ?_
    conv => whnf
    obtain ⟨y6, e7, h⟩ := bind_ex h
    refine CallOk.of (spec_l1Cur_next_ct e7) ?_
    conv => whnf
    refine CutK.go ?_
    conv => whnf
    refine splD (fun g8 => ?_) (fun g8 => ?_)
    · replace h := iteP h g8
      conv => whnf
      refine Pick.no ?_
      conv => whnf
      obtain ⟨y9, e10, h⟩ := bind_ex h
      refine CallOk.of (spec_l1Cur_next_ct e10) ?_
      conv => whnf
      refine CutK.go ?_
      conv => whnf
      obtain ⟨g11, h⟩ := req_ex h
      refine Req.of g11 ?_
      conv => whnf
      cases h
      exact Done.of [some 0] [] rfl rfl ⟨⟨rfl, rfl⟩, ⟨rfl, ⟨rfl, rfl, rfl, rfl, trivial⟩, trivial⟩, rfl, trivial⟩
    · replace h := iteN h g8
      conv => whnf
      refine CutK.go ?_
      conv => whnf
      obtain ⟨g12, h⟩ := req_ex h
      refine Req.of g12 ?_
      conv => whnf
      cases h
      exact Done.of [some 0] [] rfl rfl ⟨⟨rfl, rfl⟩, ⟨rfl, ⟨rfl, rfl, rfl, rfl, trivial⟩, trivial⟩, rfl, trivial⟩

def spec_l1Cur_one  (a1 : Rw) (a2 : Int) (a3 : Int) (a4 : Int) : Option (Bool × Rw × Int × Int) :=
  ((spec_l1Cur_pick a1 a2 a3 a4).bind fun y5 => (if y5.1 = (0 : Int) then some (true, y5.2.1, y5.2.2.1, y5.2.2.2) else some (false, y5.2.1, y5.2.2.1, y5.2.2.2)))
set_option maxHeartbeats 4000000 in
set_option maxRecDepth 100000 in
theorem spec_l1Cur_one_ct  {a1 : Rw} {a2 : Int} {a3 : Int} {a4 : Int} {r : Bool × Rw × Int × Int} (h : spec_l1Cur_one a1 a2 a3 a4 = some r) : Ct prog 56 [.ptr 0 0, .d (D.int .i64 a4)] (⟨[(82, [.d (D.sl a1), .d (D.int .i64 a2), .d (D.int .u64 a3)])], []⟩) (.d (D.bool r.1)) (⟨[(82, [.d (D.sl r.2.1), .d (D.int .i64 r.2.2.1), .d (D.int .u64 r.2.2.2)])], []⟩) := by
  rw [spec_l1Cur_one] at h
  refine Ct.of (c := _) mixed func56 ⟨rfl, rfl, rfl⟩ ?_ rfl
  conv => whnf
  refine Pick.no ?_
  conv => whnf
  obtain ⟨y5, e6, h⟩ := bind_ex h
  refine CallOk.of (spec_l1Cur_pick_ct e6) ?_
  conv => whnf
  refine splD (fun g7 => ?_) (fun g7 => ?_)
  · replace h := iteP h g7
    conv => whnf
    refine CutK.go ?_
    conv => whnf
    cases h
    exact Done.of [some 0] [] rfl rfl ⟨⟨rfl, rfl⟩, ⟨rfl, ⟨rfl, rfl, rfl, rfl, trivial⟩, trivial⟩, rfl, trivial⟩
  · replace h := iteN h g7
    conv => whnf
    refine CutK.go ?_
    conv => whnf
    cases h
    exact Done.of [some 0] [] rfl rfl ⟨⟨rfl, rfl⟩, ⟨rfl, ⟨rfl, rfl, rfl, rfl, trivial⟩, trivial⟩, rfl, trivial⟩

def spec_l1Cur_hydra_p6 (o99 : Rw) (o100 : Int) (o101 : Int) (o102 : Rw) : Option (Rw × Rw × Int × Int) :=
  some (o102, o99, o100, o101)
set_option maxHeartbeats 4000000 in
set_option maxRecDepth 100000 in
theorem spec_l1Cur_hydra_p6_ct {o99 : Rw} {o100 : Int} {o101 : Int} {o102 : Rw} {r : Rw × Rw × Int × Int} (h : spec_l1Cur_hydra_p6 o99 o100 o101 o102 = some r) : X prog 1 (tlF f53 6) (mk 64 [(2, .ptr 128 0), (3, .ptr 192 0)] [(0, .box 82 [.d (D.sl o99), .d (D.int .i64 o100), .d (D.int .u64 o101)]), (128, .box 31 [.es]), (192, .box 31 [.os 1094000 o102.length]), (1094000, .arr 3 true o102)]) (finK prog f53 1 (.agg [.os 8 r.1.length]) (⟨[(82, [.d (D.sl r.2.1), .d (D.int .i64 r.2.2.1), .d (D.int .u64 r.2.2.2)])], [(3, true, r.1)]⟩)) := by
  rw [spec_l1Cur_hydra_p6] at h
  conv => whnf
  cases h
  exact Done.of [some 0, some 1094000] [] rfl rfl ⟨⟨rfl, rfl⟩, ⟨rfl, ⟨rfl, rfl, rfl, rfl, trivial⟩, ⟨rfl, rfl, rows_same⟩, trivial⟩, ⟨⟨rfl, rfl⟩, trivial⟩, trivial⟩
def spec_l1Cur_hydra_p5 (o84 : Rw) (o85 : Int) (o86 : Int) (o87 : Rw) : Option (Rw × Rw × Int × Int) :=
  ((spec_l1Cur_pick o84 o85 o86 14).bind fun y104 => (if y104.1 = (0 : Int) then ((spec_l1Cur_pick y104.2.1 y104.2.2.1 y104.2.2.2 (o87.length : Int)).bind fun y107 => ((spec_l1Cur_pick y107.2.1 y107.2.2.1 y107.2.2.2 8).bind fun y109 => (if 0 ≤ y107.1 ∧ y107.1 < (o87.length : Int) then (row_i o87 y107.1 fun x112 => (spec_l1Cur_hydra_p6 y109.2.1 y109.2.2.1 y109.2.2.2 (o87.set ((y107.1 : Int).toNat) [D.int .i64 (IntKind.i64.wrap (y109.1 - 2))]))) else none))) else (if y104.1 = (1 : Int) then (spec_l1Cur_hydra_p6 y104.2.1 y104.2.2.1 y104.2.2.2 ([] : Rw)) else (spec_l1Cur_hydra_p6 y104.2.1 y104.2.2.1 y104.2.2.2 o87))))
set_option maxHeartbeats 4000000 in
set_option maxRecDepth 100000 in
theorem spec_l1Cur_hydra_p5_ct {o84 : Rw} {o85 : Int} {o86 : Int} {o87 : Rw} {r : Rw × Rw × Int × Int} (h : spec_l1Cur_hydra_p5 o84 o85 o86 o87 = some r) : X prog 1 (tlF f53 5) (mk 64 [(0, .ptr 0 0), (2, .ptr 128 0), (3, .ptr 192 0)] [(0, .box 82 [.d (D.sl o84), .d (D.int .i64 o85), .d (D.int .u64 o86)]), (128, .box 31 [.es]), (192, .box 31 [.os 1089000 o87.length]), (1089000, .arr 3 true o87)]) (finK prog f53 1 (.agg [.os 8 r.1.length]) (⟨[(82, [.d (D.sl r.2.1), .d (D.int .i64 r.2.2.1), .d (D.int .u64 r.2.2.2)])], [(3, true, r.1)]⟩)) := by
  rw [spec_l1Cur_hydra_p5] at h
  conv => whnf
  refine Pick.no ?_
  conv => whnf
  obtain ⟨y104, e105, h⟩ := bind_ex h
  refine CallOk.of (spec_l1Cur_pick_ct e105) ?_
  conv => whnf
  refine CutK.norm [0, 2, 3, 46] [0, 128, 192, 1089000] ?_
  conv => whnf
  refine splD (fun g106 => ?_) (fun g106 => ?_)
  · replace h := iteP h g106
    conv => whnf
    refine Pick.no ?_
    conv => whnf
    obtain ⟨y107, e108, h⟩ := bind_ex h
    refine CallOk.of (spec_l1Cur_pick_ct e108) ?_
    conv => whnf
    refine Pick.no ?_
    conv => whnf
    obtain ⟨y109, e110, h⟩ := bind_ex h
    refine CallOk.of (spec_l1Cur_pick_ct e110) ?_
    conv => whnf
    obtain ⟨g111, h⟩ := req_ex h
    refine Req.of g111 ?_
    conv => whnf
    obtain ⟨g114, x112, e113, h⟩ := row_i_ex h
    refine Row.of _ e113 ?_
    conv => whnf
    exact CutK.piece (spec_l1Cur_hydra_p6_ct  h) [some 0, some 128, some 192, some 1089000] [] ⟨⟨rfl, rfl⟩, ⟨rfl, ⟨rfl, rfl, rfl, rfl, trivial⟩, ⟨rfl, trivial, trivial⟩, ⟨rfl, ⟨(by first | rfl | exact List.length_append.symm | (simp; done) | omega | (dsimp only; omega)), rfl⟩, trivial⟩, ⟨rfl, rfl, rows_same⟩, trivial⟩, ⟨rfl, rfl⟩, ⟨rfl, rfl⟩, trivial⟩
  · replace h := iteN h g106
    conv => whnf
    refine splD (fun g115 => ?_) (fun g115 => ?_)
    · replace h := iteP h g115
      conv => whnf
      exact CutK.piece (spec_l1Cur_hydra_p6_ct  h) [some 0, some 128, some 192, none] [] ⟨⟨rfl, rfl⟩, ⟨rfl, ⟨rfl, rfl, rfl, rfl, trivial⟩, ⟨rfl, trivial, trivial⟩, ⟨rfl, ⟨rfl, rfl⟩, trivial⟩, rfl, trivial⟩, ⟨rfl, rfl⟩, ⟨rfl, rfl⟩, trivial⟩
    · replace h := iteN h g115
      conv => whnf
      exact CutK.piece (spec_l1Cur_hydra_p6_ct  h) [some 0, some 128, some 192, some 1089000] [] ⟨⟨rfl, rfl⟩, ⟨rfl, ⟨rfl, rfl, rfl, rfl, trivial⟩, ⟨rfl, trivial, trivial⟩, ⟨rfl, ⟨rfl, rfl⟩, trivial⟩, ⟨rfl, rfl, rows_same⟩, trivial⟩, ⟨rfl, rfl⟩, ⟨rfl, rfl⟩, trivial⟩
def spec_l1Cur_hydra_l1 (v122 : Int) (v126 : Rw) (y182 : Int × Rw × Int × Int) (K2 : Int → Option (Rw × Rw × Int × Int)) : Nat → Int → Int → Option (Rw × Rw × Int × Int)
  | 0, _, _ => none
  | n + 1, v190, v191 => (if (0 : Int) < v191 then (if (0 : Int) < v190 then (if 0 ≤ v190 ∧ v190 < (v126.length : Int) then (row_i v126 v190 fun x208 => (spec_l1Cur_hydra_l1 v122 v126 y182 K2 n x208 (IntKind.i64.wrap (v191 - 1)))) else none) else (K2 v190)) else (K2 v190))
set_option maxHeartbeats 4000000 in
set_option maxRecDepth 100000 in
theorem spec_l1Cur_hydra_l1_ct {v122 : Int} {v126 : Rw} {y182 : Int × Rw × Int × Int} {K2 : Int → Option (Rw × Rw × Int × Int)} {r : Rw × Rw × Int × Int} : ∀ (n : Nat) (v190 : Int) (v191 : Int), spec_l1Cur_hydra_l1 v122 v126 y182 K2 n v190 v191 = some r → LoopOk prog 1 (lp f53 1) (mk 64 [(0, .ptr 0 0), (2, .ptr 128 0), (3, .ptr 192 0), (4, .d (D.int .i64 v122)), (5, .d (D.int .i64 v190)), (6, .d (D.int .i64 v191))] [(0, .box 82 [.d (D.sl y182.2.1), .d (D.int .i64 y182.2.2.1), .d (D.int .u64 y182.2.2.2)]), (128, .box 31 [.es]), (192, .box 31 [.os 76800 v126.length]), (76800, .arr 3 true v126)]) (LoopEnd prog f53 1 64 (.agg [.os 8 r.1.length]) (⟨[(82, [.d (D.sl r.2.1), .d (D.int .i64 r.2.2.1), .d (D.int .u64 r.2.2.2)])], [(3, true, r.1)]⟩) (fun i ts os => (i = 2 ∧ ∃ v198 : Int, K2 v198 = some r ∧ ts = [(0, .ptr 0 0), (2, .ptr 128 0), (3, .ptr 192 0), (4, .d (D.int .i64 v122)), (5, .d (D.int .i64 v198))] ∧ os = [(0, .box 82 [.d (D.sl y182.2.1), .d (D.int .i64 y182.2.2.1), .d (D.int .u64 y182.2.2.2)]), (128, .box 31 [.es]), (192, .box 31 [.os 79801 v126.length]), (79801, .arr 3 true v126)])))
  | 0, _, _, h => by
      rw [spec_l1Cur_hydra_l1] at h; cases h
  | n + 1, v190, v191, h => by
      rw [spec_l1Cur_hydra_l1] at h
      refine LoopOk.step ?_
      conv => whnf
      refine splD (fun g205 => ?_) (fun g205 => ?_)
      · replace h := iteP h g205
        conv => whnf
        refine splD (fun g206 => ?_) (fun g206 => ?_)
        · replace h := iteP h g206
          conv => whnf
          obtain ⟨g207, h⟩ := req_ex h
          refine Req.of g207 ?_
          conv => whnf
          obtain ⟨g210, x208, e209, h⟩ := row_i_ex h
          refine Row.of _ e209 ?_
          conv => whnf
          exact LoopOk.back (spec_l1Cur_hydra_l1_ct  n _ _ h) [some 0, some 128, some 192, some 76800] [] ⟨⟨rfl, rfl⟩, ⟨rfl, ⟨rfl, rfl, rfl, rfl, trivial⟩, ⟨rfl, trivial, trivial⟩, ⟨rfl, ⟨rfl, rfl⟩, trivial⟩, ⟨rfl, rfl, rows_same⟩, trivial⟩, ⟨rfl, rfl⟩, ⟨rfl, rfl⟩, ⟨rfl, rfl⟩, rfl, rfl, rfl, trivial⟩
        · replace h := iteN h g206
          conv => whnf
          exact ⟨_, _, [some 0, some 128, some 192, some 76800], [], ⟨rfl, _, h, rfl, rfl⟩, ⟨⟨rfl, rfl⟩, ⟨rfl, ⟨rfl, rfl, rfl, rfl, trivial⟩, ⟨rfl, trivial, trivial⟩, ⟨rfl, ⟨rfl, rfl⟩, trivial⟩, ⟨rfl, rfl, rows_same⟩, trivial⟩, ⟨rfl, rfl⟩, ⟨rfl, rfl⟩, ⟨rfl, rfl⟩, rfl, rfl, trivial⟩⟩
      · replace h := iteN h g205
        conv => whnf
        exact ⟨_, _, [some 0, some 128, some 192, some 76800], [], ⟨rfl, _, h, rfl, rfl⟩, ⟨⟨rfl, rfl⟩, ⟨rfl, ⟨rfl, rfl, rfl, rfl, trivial⟩, ⟨rfl, trivial, trivial⟩, ⟨rfl, ⟨rfl, rfl⟩, trivial⟩, ⟨rfl, rfl, rows_same⟩, trivial⟩, ⟨rfl, rfl⟩, ⟨rfl, rfl⟩, ⟨rfl, rfl⟩, rfl, rfl, trivial⟩⟩
def spec_l1Cur_hydra_l0 (k : Nat) (K0 : Rw → Int → Int → Rw → Option (Rw × Rw × Int × Int)) : Nat → Int → Rw → Int → Int → Rw → Option (Rw × Rw × Int × Int)
  | 0, _, _, _, _, _ => none
  | n + 1, v122, v123, v124, v125, v126 => (if (0 : Int) < v122 then ((spec_l1Cur_pick v123 v124 v125 4).bind fun y182 => (spec_l1Cur_hydra_l1 v122 v126 y182 (fun (v198 : Int) => (if v126.length + 1 ≤ cap then (spec_l1Cur_hydra_l0 k K0 n (IntKind.i64.wrap (v122 - 1)) y182.2.1 y182.2.2.1 y182.2.2.2 (v126 ++ ([[D.int .i64 v198]]))) else none)) k (IntKind.i64.wrap ((v126.length : Int) - 1)) y182.1)) else (K0 v123 v124 v125 v126))
set_option maxHeartbeats 4000000 in
set_option maxRecDepth 100000 in
theorem spec_l1Cur_hydra_l0_ct {k : Nat} {K0 : Rw → Int → Int → Rw → Option (Rw × Rw × Int × Int)} {r : Rw × Rw × Int × Int} : ∀ (n : Nat) (v122 : Int) (v123 : Rw) (v124 : Int) (v125 : Int) (v126 : Rw), spec_l1Cur_hydra_l0 k K0 n v122 v123 v124 v125 v126 = some r → LoopOk prog 1 (lp f53 0) (mk 64 [(0, .ptr 0 0), (2, .ptr 128 0), (3, .ptr 192 0), (4, .d (D.int .i64 v122))] [(0, .box 82 [.d (D.sl v123), .d (D.int .i64 v124), .d (D.int .u64 v125)]), (128, .box 31 [.es]), (192, .box 31 [.os 64000 v126.length]), (64000, .arr 3 true v126)]) (LoopEnd prog f53 1 64 (.agg [.os 8 r.1.length]) (⟨[(82, [.d (D.sl r.2.1), .d (D.int .i64 r.2.2.1), .d (D.int .u64 r.2.2.2)])], [(3, true, r.1)]⟩) (fun i ts os => (i = 0 ∧ ∃ v152 : Rw, ∃ v153 : Int, ∃ v154 : Int, ∃ v155 : Rw, K0 v152 v153 v154 v155 = some r ∧ ts = [(0, .ptr 0 0), (2, .ptr 128 0), (3, .ptr 192 0)] ∧ os = [(0, .box 82 [.d (D.sl v152), .d (D.int .i64 v153), .d (D.int .u64 v154)]), (128, .box 31 [.es]), (192, .box 31 [.os 67001 v155.length]), (67001, .arr 3 true v155)])))
  | 0, _, _, _, _, _, h => by
      rw [spec_l1Cur_hydra_l0] at h; cases h
  | n + 1, v122, v123, v124, v125, v126, h => by
      rw [spec_l1Cur_hydra_l0] at h
      refine LoopOk.step ?_
      conv => whnf
      refine splD (fun g181 => ?_) (fun g181 => ?_)
      · replace h := iteP h g181
        conv => whnf
        refine Pick.no ?_
        conv => whnf
        obtain ⟨y182, e183, h⟩ := bind_ex h
        refine CallOk.of (spec_l1Cur_pick_ct e183) ?_
        conv => whnf
        refine CutK.norm [0, 2, 3, 4, 5, 6] [0, 128, 192, 64000] ?_
        conv => whnf
        refine LoopOk.into (spec_l1Cur_hydra_l1_ct  _ _ _ h) [some 0, some 128, some 192, some 64000] [] ⟨⟨rfl, rfl⟩, ⟨rfl, ⟨rfl, rfl, rfl, rfl, trivial⟩, ⟨rfl, trivial, trivial⟩, ⟨rfl, ⟨rfl, rfl⟩, trivial⟩, ⟨rfl, rfl, rows_same⟩, trivial⟩, ⟨rfl, rfl⟩, ⟨rfl, rfl⟩, ⟨rfl, rfl⟩, rfl, rfl, rfl, trivial⟩ ?_ (fun _ hs => hs)
        rintro i ts os ⟨rfl, v198, h, rfl, rfl⟩
        conv => whnf
        refine CutK.norm [0, 2, 3, 4, 5] [0, 128, 192, 79801] ?_
        conv => whnf
        refine Take.all (rfl) ?_
        conv => whnf
        refine Take.all (by first | rfl | exact List.length_append.symm | (simp; done) | omega | (dsimp only; omega)) ?_
        conv => whnf
        obtain ⟨g211, h⟩ := req_ex h
        refine Req.of (room (b := 8) (by decide) g211 (wide1 rfl wide0)) ?_
        conv => whnf
        refine CutK.norm [0, 2, 3, 4] [0, 128, 192, 2752] ?_
        conv => whnf
        exact LoopOk.back (spec_l1Cur_hydra_l0_ct  n _ _ _ _ _ h) [some 0, some 128, some 192, some 2752] [] ⟨⟨rfl, rfl⟩, ⟨rfl, ⟨rfl, rfl, rfl, rfl, trivial⟩, ⟨rfl, trivial, trivial⟩, ⟨rfl, ⟨(by first | rfl | exact List.length_append.symm | (simp; done) | omega | (dsimp only; omega)), rfl⟩, trivial⟩, ⟨rfl, rfl, rows_same⟩, trivial⟩, ⟨rfl, rfl⟩, ⟨rfl, rfl⟩, ⟨rfl, rfl⟩, rfl, trivial⟩
      · replace h := iteN h g181
        conv => whnf
        exact ⟨_, _, [some 0, some 128, some 192, some 64000], [], ⟨rfl, _, _, _, _, h, rfl, rfl⟩, ⟨⟨rfl, rfl⟩, ⟨rfl, ⟨rfl, rfl, rfl, rfl, trivial⟩, ⟨rfl, trivial, trivial⟩, ⟨rfl, ⟨rfl, rfl⟩, trivial⟩, ⟨rfl, rfl, rows_same⟩, trivial⟩, ⟨rfl, rfl⟩, ⟨rfl, rfl⟩, ⟨rfl, rfl⟩, trivial⟩⟩
def spec_l1Cur_hydra_p4 (k : Nat) (o15 : Int) (o16 : Rw) (o17 : Int) (o18 : Int) : Option (Rw × Rw × Int × Int) :=
  (spec_l1Cur_hydra_l0 k (fun (v152 : Rw) (v153 : Int) (v154 : Int) (v155 : Rw) => (spec_l1Cur_hydra_p5 v152 v153 v154 v155)) k o15 o16 o17 o18 ([[D.int .i64 (-1)]] : Rw))
set_option maxHeartbeats 4000000 in
set_option maxRecDepth 100000 in
theorem spec_l1Cur_hydra_p4_ct {k : Nat} {o15 : Int} {o16 : Rw} {o17 : Int} {o18 : Int} {r : Rw × Rw × Int × Int} (h : spec_l1Cur_hydra_p4 k o15 o16 o17 o18 = some r) : X prog 1 (tlF f53 4) (mk 64 [(0, .ptr 0 0), (2, .ptr 128 0), (3, .ptr 192 0), (4, .d (D.int .i64 o15))] [(0, .box 82 [.d (D.sl o16), .d (D.int .i64 o17), .d (D.int .u64 o18)]), (128, .box 31 [.es]), (192, .box 31 [.os 1084000 1]), (1084000, .arr 3 true ([[D.int .i64 (-1)]]))]) (finK prog f53 1 (.agg [.os 8 r.1.length]) (⟨[(82, [.d (D.sl r.2.1), .d (D.int .i64 r.2.2.1), .d (D.int .u64 r.2.2.2)])], [(3, true, r.1)]⟩)) := by
  rw [spec_l1Cur_hydra_p4] at h
  conv => whnf
  refine LoopOk.into (spec_l1Cur_hydra_l0_ct  _ _ _ _ _ _ h) [some 0, some 128, some 192, some 1084000] [] ⟨⟨rfl, rfl⟩, ⟨rfl, ⟨rfl, rfl, rfl, rfl, trivial⟩, ⟨rfl, trivial, trivial⟩, ⟨rfl, ⟨(by first | rfl | exact List.length_append.symm | (simp; done) | omega | (dsimp only; omega)), rfl⟩, trivial⟩, ⟨rfl, rfl, rows_same⟩, trivial⟩, ⟨rfl, rfl⟩, ⟨rfl, rfl⟩, ⟨rfl, rfl⟩, rfl, trivial⟩ ?_ (fun _ hs => hs)
  rintro i ts os ⟨rfl, v152, v153, v154, v155, h, rfl, rfl⟩
  conv => whnf
  exact CutK.piece (spec_l1Cur_hydra_p5_ct  h) [some 0, some 128, some 192, some 67001] [] ⟨⟨rfl, rfl⟩, ⟨rfl, ⟨rfl, rfl, rfl, rfl, trivial⟩, ⟨rfl, trivial, trivial⟩, ⟨rfl, ⟨rfl, rfl⟩, trivial⟩, ⟨rfl, rfl, rows_same⟩, trivial⟩, ⟨rfl, rfl⟩, ⟨rfl, rfl⟩, ⟨rfl, rfl⟩, trivial⟩
def spec_l1Cur_hydra_p3 (k : Nat) (o6 : Int) (o7 : Rw) (o8 : Int) (o9 : Int) : Option (Rw × Rw × Int × Int) :=
  ((spec_l1Cur_one o7 o8 o9 20).bind fun y212 => (if y212.1 = true then ((spec_l1Cur_pick y212.2.1 y212.2.2.1 y212.2.2.2 2).bind fun y215 => (spec_l1Cur_hydra_p4 k (IntKind.i64.wrap (40 - y215.1)) y215.2.1 y215.2.2.1 y215.2.2.2)) else (spec_l1Cur_hydra_p4 k o6 y212.2.1 y212.2.2.1 y212.2.2.2)))
set_option maxHeartbeats 4000000 in
set_option maxRecDepth 100000 in
theorem spec_l1Cur_hydra_p3_ct {k : Nat} {o6 : Int} {o7 : Rw} {o8 : Int} {o9 : Int} {r : Rw × Rw × Int × Int} (h : spec_l1Cur_hydra_p3 k o6 o7 o8 o9 = some r) : X prog 1 (tlF f53 3) (mk 64 [(0, .ptr 0 0), (2, .ptr 128 0), (3, .ptr 192 0), (4, .d (D.int .i64 o6))] [(0, .box 82 [.d (D.sl o7), .d (D.int .i64 o8), .d (D.int .u64 o9)]), (128, .box 31 [.es]), (192, .box 31 [.os 1079000 1]), (1079000, .arr 3 true ([[D.int .i64 (-1)]]))]) (finK prog f53 1 (.agg [.os 8 r.1.length]) (⟨[(82, [.d (D.sl r.2.1), .d (D.int .i64 r.2.2.1), .d (D.int .u64 r.2.2.2)])], [(3, true, r.1)]⟩)) := by
  rw [spec_l1Cur_hydra_p3] at h
  conv => whnf
  refine Pick.no ?_
  conv => whnf
  obtain ⟨y212, e213, h⟩ := bind_ex h
  refine CallOk.of (spec_l1Cur_one_ct e213) ?_
  conv => whnf
  refine spl (fun g214 => ?_) (fun g214 => ?_)
  · replace h := iteT h g214
    conv => whnf
    refine CutK.norm [0, 2, 3, 4, 12] [0, 128, 192, 1079000] ?_
    conv => whnf
    refine Pick.no ?_
    conv => whnf
    obtain ⟨y215, e216, h⟩ := bind_ex h
    refine CallOk.of (spec_l1Cur_pick_ct e216) ?_
    conv => whnf
    exact CutK.piece (spec_l1Cur_hydra_p4_ct  h) [some 0, some 128, some 192, some 1079000] [] ⟨⟨rfl, rfl⟩, ⟨rfl, ⟨rfl, rfl, rfl, rfl, trivial⟩, ⟨rfl, trivial, trivial⟩, ⟨rfl, ⟨(by first | rfl | exact List.length_append.symm | (simp; done) | omega | (dsimp only; omega)), rfl⟩, trivial⟩, ⟨rfl, rfl, rows_same⟩, trivial⟩, ⟨rfl, rfl⟩, ⟨rfl, rfl⟩, ⟨rfl, rfl⟩, rfl, trivial⟩
  · replace h := iteF h g214
    conv => whnf
    refine CutK.norm [0, 2, 3, 4, 12] [0, 128, 192, 1079000] ?_
    conv => whnf
    exact CutK.piece (spec_l1Cur_hydra_p4_ct  h) [some 0, some 128, some 192, some 1079000] [] ⟨⟨rfl, rfl⟩, ⟨rfl, ⟨rfl, rfl, rfl, rfl, trivial⟩, ⟨rfl, trivial, trivial⟩, ⟨rfl, ⟨(by first | rfl | exact List.length_append.symm | (simp; done) | omega | (dsimp only; omega)), rfl⟩, trivial⟩, ⟨rfl, rfl, rows_same⟩, trivial⟩, ⟨rfl, rfl⟩, ⟨rfl, rfl⟩, ⟨rfl, rfl⟩, rfl, trivial⟩
def spec_l1Cur_hydra (k : Nat) (a1 : Rw) (a2 : Int) (a3 : Int) : Option (Rw × Rw × Int × Int) :=
  ((spec_l1Cur_pick a1 a2 a3 9).bind fun y217 => (spec_l1Cur_hydra_p3 k y217.1 y217.2.1 y217.2.2.1 y217.2.2.2))
set_option maxHeartbeats 4000000 in
set_option maxRecDepth 100000 in
theorem spec_l1Cur_hydra_ct {k : Nat} {a1 : Rw} {a2 : Int} {a3 : Int} {r : Rw × Rw × Int × Int} (h : spec_l1Cur_hydra k a1 a2 a3 = some r) : Ct prog 53 [.ptr 0 0] (⟨[(82, [.d (D.sl a1), .d (D.int .i64 a2), .d (D.int .u64 a3)])], []⟩) (.agg [.os 8 r.1.length]) (⟨[(82, [.d (D.sl r.2.1), .d (D.int .i64 r.2.2.1), .d (D.int .u64 r.2.2.2)])], [(3, true, r.1)]⟩) := by
  rw [spec_l1Cur_hydra] at h
  refine Ct.of (c := _) mixed func53 ⟨rfl, rfl, rfl⟩ ?_ rfl
  conv => whnf
  refine Pick.no ?_
  conv => whnf
  obtain ⟨y217, e218, h⟩ := bind_ex h
  refine CallOk.of (spec_l1Cur_pick_ct e218) ?_
  conv => whnf
  exact CutK.piece (spec_l1Cur_hydra_p3_ct  h) [some 0, some 128, some 192, some 448] [] ⟨⟨rfl, rfl⟩, ⟨rfl, ⟨rfl, rfl, rfl, rfl, trivial⟩, ⟨rfl, trivial, trivial⟩, ⟨rfl, ⟨(by first | rfl | exact List.length_append.symm | (simp; done) | omega | (dsimp only; omega)), rfl⟩, trivial⟩, ⟨rfl, rfl, rows_same⟩, trivial⟩, ⟨rfl, rfl⟩, ⟨rfl, rfl⟩, ⟨rfl, rfl⟩, rfl, trivial⟩

def spec_l1Cur_among  (a1 : Rw) (a2 : Int) (a3 : Int) (a4 : Rw) : Option (Int × Rw × Int × Int) :=
  ((spec_l1Cur_pick a1 a2 a3 (a4.length : Int)).bind fun y5 => (row_i a4 y5.1 fun x7 => some (x7, y5.2.1, y5.2.2.1, y5.2.2.2)))
set_option maxHeartbeats 4000000 in
set_option maxRecDepth 100000 in
theorem spec_l1Cur_among_ct  {a1 : Rw} {a2 : Int} {a3 : Int} {a4 : Rw} {r : Int × Rw × Int × Int} (h : spec_l1Cur_among a1 a2 a3 a4 = some r) : Ct prog 57 [.ptr 0 0, .d (D.sl a4)] (⟨[(82, [.d (D.sl a1), .d (D.int .i64 a2), .d (D.int .u64 a3)])], []⟩) (.d (D.int .i64 r.1)) (⟨[(82, [.d (D.sl r.2.1), .d (D.int .i64 r.2.2.1), .d (D.int .u64 r.2.2.2)])], []⟩) := by
  rw [spec_l1Cur_among] at h
  refine Ct.of (c := _) mixed func57 ⟨rfl, rfl, rfl⟩ ?_ rfl
  conv => whnf
  refine Pick.no ?_
  conv => whnf
  obtain ⟨y5, e6, h⟩ := bind_ex h
  refine CallOk.of (spec_l1Cur_pick_ct e6) ?_
  conv => whnf
  obtain ⟨g9, x7, e8, h⟩ := row_i_ex h
  refine Req.of g9 ?_
  refine Row.of _ e8 ?_
  conv => whnf
  refine CutK.go ?_
  conv => whnf
  cases h
  exact Done.of [some 0] [] rfl rfl ⟨⟨rfl, rfl⟩, ⟨rfl, ⟨rfl, rfl, rfl, rfl, trivial⟩, trivial⟩, rfl, trivial⟩

def spec_l1Cur_grow9  (a1 : Rw) (a2 : Int) (a3 : Int) : Option (Int × Rw × Int × Int) :=
  ((spec_l1Cur_one a1 a2 a3 8).bind fun y4 => (if y4.1 = true then ((spec_l1Cur_among y4.2.1 y4.2.2.1 y4.2.2.2 ([[D.int .i64 (-1)], [D.int .i64 0], [D.int .i64 99], [D.int .i64 100]] : Rw)).bind fun y7 => some (y7.1, y7.2.1, y7.2.2.1, y7.2.2.2)) else ((spec_l1Cur_pick y4.2.1 y4.2.2.1 y4.2.2.2 5).bind fun y9 => some (y9.1, y9.2.1, y9.2.2.1, y9.2.2.2))))
set_option maxHeartbeats 4000000 in
set_option maxRecDepth 100000 in
theorem spec_l1Cur_grow9_ct  {a1 : Rw} {a2 : Int} {a3 : Int} {r : Int × Rw × Int × Int} (h : spec_l1Cur_grow9 a1 a2 a3 = some r) : Ct prog 58 [.ptr 0 0] (⟨[(82, [.d (D.sl a1), .d (D.int .i64 a2), .d (D.int .u64 a3)])], []⟩) (.d (D.int .i64 r.1)) (⟨[(82, [.d (D.sl r.2.1), .d (D.int .i64 r.2.2.1), .d (D.int .u64 r.2.2.2)])], []⟩) := by
  rw [spec_l1Cur_grow9] at h
  refine Ct.of (c := _) mixed func58 ⟨rfl, rfl, rfl⟩ ?_ rfl
  conv => whnf
  refine Pick.no ?_
  conv => whnf
  obtain ⟨y4, e5, h⟩ := bind_ex h
  refine CallOk.of (spec_l1Cur_one_ct e5) ?_
  conv => whnf
  refine spl (fun g6 => ?_) (fun g6 => ?_)
  · replace h := iteT h g6
    conv => whnf
    refine CutK.go ?_
    conv => whnf
    refine Pick.no ?_
    conv => whnf
    refine Take.all (by first | rfl | exact List.length_append.symm | (simp; done) | omega | (dsimp only; omega)) ?_
    conv => whnf
    obtain ⟨y7, e8, h⟩ := bind_ex h
    refine CallOk.of (spec_l1Cur_among_ct e8) ?_
    conv => whnf
    refine CutK.go ?_
    conv => whnf
    cases h
    exact Done.of [some 0] [] rfl rfl ⟨⟨rfl, rfl⟩, ⟨rfl, ⟨rfl, rfl, rfl, rfl, trivial⟩, trivial⟩, rfl, trivial⟩
  · replace h := iteF h g6
    conv => whnf
    refine CutK.go ?_
    conv => whnf
    refine CutK.go ?_
    conv => whnf
    refine Pick.no ?_
    conv => whnf
    obtain ⟨y9, e10, h⟩ := bind_ex h
    refine CallOk.of (spec_l1Cur_pick_ct e10) ?_
    conv => whnf
    refine CutK.go ?_
    conv => whnf
    cases h
    exact Done.of [some 0] [] rfl rfl ⟨⟨rfl, rfl⟩, ⟨rfl, ⟨rfl, rfl, rfl, rfl, trivial⟩, trivial⟩, rfl, trivial⟩

def spec_DrawBestHead (k : Nat) (a1 : Rw) : Option (Rw × Int) :=
  ((spec_l1Cur_hydra k a1 0 0).bind fun y2 => ((spec_l1Cur_grow9 y2.2.1 y2.2.2.1 y2.2.2.2).bind fun y4 => some (y2.1, y4.1)))
set_option maxHeartbeats 4000000 in
set_option maxRecDepth 100000 in
theorem spec_DrawBestHead_ct {k : Nat} {a1 : Rw} {r : Rw × Int} (h : spec_DrawBestHead k a1 = some r) : Ct prog 39 [.d (D.sl a1)] (⟨[], []⟩) (.tup [.agg [.os 8 r.1.length], .d (D.int .i64 r.2)]) (⟨[], [(3, true, r.1)]⟩) := by
  rw [spec_DrawBestHead] at h
  refine Ct.of (c := _) mixed func39 ⟨rfl, rfl, rfl⟩ ?_ rfl
  conv => whnf
  refine Pick.no ?_
  conv => whnf
  obtain ⟨y2, e3, h⟩ := bind_ex h
  refine CallOk.of (spec_l1Cur_hydra_ct e3) ?_
  conv => whnf
  refine Pick.no ?_
  conv => whnf
  obtain ⟨y4, e5, h⟩ := bind_ex h
  refine CallOk.of (spec_l1Cur_grow9_ct e5) ?_
  conv => whnf
  refine CutK.go ?_
  conv => whnf
  cases h
  exact Done.of [some 576] [] rfl rfl ⟨⟨rfl, rfl⟩, ⟨rfl, ⟨rfl, rfl, rows_same⟩, trivial⟩, ⟨⟨⟨rfl, rfl⟩, trivial⟩, rfl, trivial⟩, trivial⟩

def laws_big  (a1 : Rw) (a2 : Rw) : Option Bool :=
  (if (1048576 : Int) < (a1.length : Int) then some true else (if (IntKind.i64.wrap (1048576 - (a1.length : Int))) < (a2.length : Int) then some true else some false))
set_option maxHeartbeats 4000000 in
set_option maxRecDepth 100000 in
theorem laws_big_ct  {a1 : Rw} {a2 : Rw} {r : Bool} (h : laws_big a1 a2 = some r) : Ct prog 18 [.d (D.sl a1), .d (D.sl a2)] (⟨[], []⟩) (.d (D.bool r)) (⟨[], []⟩) := by
  rw [laws_big] at h
  refine Ct.of (c := _) mixed func18 ⟨rfl, rfl, rfl⟩ ?_ rfl
  conv => whnf
  refine splD (fun g3 => ?_) (fun g3 => ?_)
  · replace h := iteP h g3
    conv => whnf
    cases h
    exact Done.of [] [] rfl rfl ⟨⟨rfl, rfl⟩, ⟨rfl, trivial⟩, rfl, trivial⟩
  · replace h := iteN h g3
    conv => whnf
    refine splD (fun g4 => ?_) (fun g4 => ?_)
    · replace h := iteP h g4
      conv => whnf
      cases h
      exact Done.of [] [] rfl rfl ⟨⟨rfl, rfl⟩, ⟨rfl, trivial⟩, rfl, trivial⟩
    · replace h := iteN h g4
      conv => whnf
      cases h
      exact Done.of [] [] rfl rfl ⟨⟨rfl, rfl⟩, ⟨rfl, trivial⟩, rfl, trivial⟩
end
end Go.Proofs.Try
