/- Printed by program (axgen): pure functions, and that the Go functions compute them. -/
import Derived.Test.YtimnfdjaochggaaProg
import Derived.Test.YtimnfdjaochggaaAxC
import Derived.KernelRfl
import Derived.Test.YtimnfdjaochggaaSort
set_option linter.unusedVariables false
set_option linter.unusedSimpArgs false
namespace Go.Proofs.Try
open Go Go.AX
theorem mixed : prog.follows .mixedOrders = true := by kernel_rfl
def cell_i {α : Type} (cs : List D) (K : Int → Option α) : Option α := match cs with | [.int .i64 a0] => K a0 | _ => none
def row_i {α : Type} (es : Rw) (i : Int) (K : Int → Option α) : Option α := if 0 ≤ i then (match es[i.toNat]? with | some cs => cell_i cs K | none => none) else none
theorem cell_i_ex {α : Type} {cs : List D} {K : Int → Option α} {r : α} (h : cell_i cs K = some r) : ∃ a0, cs = [.int .i64 a0] ∧ K a0 = some r := by
  unfold cell_i at h
  split at h
  · exact ⟨_, rfl, h⟩
  · cases h
theorem row_i_ex {α : Type} {es : Rw} {i : Int} {K : Int → Option α} {r : α} (h : row_i es i K = some r) : 0 ≤ i ∧ ∃ a0, es[i.toNat]? = some [.int .i64 a0] ∧ K a0 = some r := by
  unfold row_i at h
  obtain ⟨g, h⟩ := req_ex h
  split at h
  · rename_i cs e
    obtain ⟨a0, rfl, h⟩ := cell_i_ex h
    exact ⟨g, a0, e, h⟩
  · cases h
def cell_ii {α : Type} (cs : List D) (K : Int → Int → Option α) : Option α := match cs with | [.int .i64 a0, .int .i64 a1] => K a0 a1 | _ => none
def row_ii {α : Type} (es : Rw) (i : Int) (K : Int → Int → Option α) : Option α := if 0 ≤ i then (match es[i.toNat]? with | some cs => cell_ii cs K | none => none) else none
theorem cell_ii_ex {α : Type} {cs : List D} {K : Int → Int → Option α} {r : α} (h : cell_ii cs K = some r) : ∃ a0 a1, cs = [.int .i64 a0, .int .i64 a1] ∧ K a0 a1 = some r := by
  unfold cell_ii at h
  split at h
  · exact ⟨_, _, rfl, h⟩
  · cases h
theorem row_ii_ex {α : Type} {es : Rw} {i : Int} {K : Int → Int → Option α} {r : α} (h : row_ii es i K = some r) : 0 ≤ i ∧ ∃ a0 a1, es[i.toNat]? = some [.int .i64 a0, .int .i64 a1] ∧ K a0 a1 = some r := by
  unfold row_ii at h
  obtain ⟨g, h⟩ := req_ex h
  split at h
  · rename_i cs e
    obtain ⟨a0, a1, rfl, h⟩ := cell_ii_ex h
    exact ⟨g, a0, a1, e, h⟩
  · cases h
noncomputable section
def laws_heldFractionS_l0 (a1 : Rw) (K0 : Int → Option Int) : Rw → Int → Option Int
  | [], v10 => (K0 v10)
  | cs :: rest, v10 => (cell_ii cs fun x27 x28 => (if x27 = v10 then (if x28 = (IntKind.i64.wrap (v10 + 1)) then (laws_heldFractionS_l0 a1 K0 rest (IntKind.i64.wrap ((IntKind.i64.wrap (v10 + 1)) + 1))) else some (-1)) else some (-1)))
set_option maxHeartbeats 4000000 in
set_option maxRecDepth 100000 in
theorem laws_heldFractionS_l0_ct {a1 : Rw} {K0 : Int → Option Int} {r : Int} (hx : a1.length ≤ cap) : ∀ (rest : Rw) (v11n : Nat) (v10 : Int), a1.drop v11n = rest → laws_heldFractionS_l0 a1 K0 rest v10 = some r → LoopOk prog 0 (lp f9 0) (mk 31 [(0, .d (D.sl a1)), (1, .d (D.int .i64 v10)), (5, .d (D.int .i64 (v11n : Int)))] []) (LoopEnd prog f9 0 31 (.d (D.int .i64 r)) (⟨[], []⟩) (fun i ts os => (i = 0 ∧ ∃ v19 : Int, K0 v19 = some r ∧ ts = [(1, .d (D.int .i64 v19))] ∧ os = [])))
  | [], v11n, v10, hd, h => by
      rw [laws_heldFractionS_l0] at h
      have hn := drop_nil hd
      refine LoopOk.step ?_
      conv => whnf
      refine splD (fun g => absurd g hn) (fun _ => ?_)
      conv => whnf
      exact ⟨_, _, [], [], ⟨rfl, _, h, rfl, rfl⟩, ⟨⟨rfl, rfl⟩, ⟨rfl, trivial⟩, rfl, trivial⟩⟩
  | cs :: rest, v11n, v10, hd, h => by
      rw [laws_heldFractionS_l0] at h
      obtain ⟨hrow, hd1, hlt⟩ := drop_cons hd
      refine LoopOk.step ?_
      conv => whnf
      refine splD (fun _ => ?_) (fun g => absurd hlt g)
      conv => whnf
      obtain ⟨x27, x28, e29, h⟩ := cell_ii_ex h
      rw [e29] at hrow
      refine Req.of (Int.natCast_nonneg _) ?_
      refine Row.of _ hrow ?_
      conv => whnf
      refine splN (fun g30 => ?_) (fun g30 => ?_)
      · replace h := iteN h g30
        conv => whnf
        cases h
        exact Done.of [] [] rfl rfl ⟨⟨rfl, rfl⟩, ⟨rfl, trivial⟩, rfl, trivial⟩
      · replace h := iteP h g30
        conv => whnf
        refine Req.of (Int.natCast_nonneg _) ?_
        refine Row.of _ hrow ?_
        conv => whnf
        refine splN (fun g31 => ?_) (fun g31 => ?_)
        · replace h := iteN h g31
          conv => whnf
          cases h
          exact Done.of [] [] rfl rfl ⟨⟨rfl, rfl⟩, ⟨rfl, trivial⟩, rfl, trivial⟩
        · replace h := iteP h g31
          conv => whnf
          exact LoopOk.back (laws_heldFractionS_l0_ct hx rest (v11n + 1) _ hd1 h) [] [] ⟨⟨rfl, rfl⟩, ⟨rfl, trivial⟩, rfl, rfl, i64eq (wrap_up hlt hx), trivial⟩
def laws_heldFractionS  (a1 : Rw) (a2 : Int) : Option Int :=
  (if a1.length ≤ cap then (laws_heldFractionS_l0 a1 (fun (v19 : Int) => some v19) a1 a2) else none)
set_option maxHeartbeats 4000000 in
set_option maxRecDepth 100000 in
theorem laws_heldFractionS_ct  {a1 : Rw} {a2 : Int} {r : Int} (h : laws_heldFractionS a1 a2 = some r) : Ct prog 9 [.d (D.sl a1), .d (D.int .i64 a2)] (⟨[], []⟩) (.d (D.int .i64 r)) (⟨[], []⟩) := by
  rw [laws_heldFractionS] at h
  refine Ct.of (c := _) mixed func9 ⟨rfl, rfl, rfl⟩ ?_ rfl
  conv => whnf
  obtain ⟨g32, h⟩ := req_ex h
  refine LoopOk.into (laws_heldFractionS_l0_ct  g32 _ _ _ rfl h) [] [] ⟨⟨rfl, rfl⟩, ⟨rfl, trivial⟩, rfl, rfl, rfl, trivial⟩ ?_ (fun _ hs => hs)
  rintro i ts os ⟨rfl, v19, h, rfl, rfl⟩
  conv => whnf
  refine CutK.norm [1] [] ?_
  conv => whnf
  cases h
  exact Done.of [] [] rfl rfl ⟨⟨rfl, rfl⟩, ⟨rfl, trivial⟩, rfl, trivial⟩

def laws_eqFraction  (a1 : Int) (a2 : Int) (a3 : Int) (a4 : Int) : Option Bool :=
  (if a1 = a3 then (if a2 = a4 then some true else some false) else some false)
set_option maxHeartbeats 4000000 in
set_option maxRecDepth 100000 in
theorem laws_eqFraction_ct  {a1 : Int} {a2 : Int} {a3 : Int} {a4 : Int} {r : Bool} (h : laws_eqFraction a1 a2 a3 a4 = some r) : Ct prog 21 [.agg [.d (D.int .i64 a1), .d (D.int .i64 a2)], .agg [.d (D.int .i64 a3), .d (D.int .i64 a4)]] (⟨[], []⟩) (.d (D.bool r)) (⟨[], []⟩) := by
  rw [laws_eqFraction] at h
  refine Ct.of (c := _) mixed func21 ⟨rfl, rfl, rfl⟩ ?_ rfl
  conv => whnf
  refine splN (fun g5 => ?_) (fun g5 => ?_)
  · replace h := iteN h g5
    conv => whnf
    cases h
    exact Done.of [] [] rfl rfl ⟨⟨rfl, rfl⟩, ⟨rfl, trivial⟩, rfl, trivial⟩
  · replace h := iteP h g5
    conv => whnf
    refine splN (fun g6 => ?_) (fun g6 => ?_)
    · replace h := iteN h g6
      conv => whnf
      cases h
      exact Done.of [] [] rfl rfl ⟨⟨rfl, rfl⟩, ⟨rfl, trivial⟩, rfl, trivial⟩
    · replace h := iteP h g6
      conv => whnf
      cases h
      exact Done.of [] [] rfl rfl ⟨⟨rfl, rfl⟩, ⟨rfl, trivial⟩, rfl, trivial⟩

def laws_eqFractionS_l0 (a1 : Rw) (a2 : Rw) (K0 : Option Bool) : Rw → Nat → Option Bool
  | [], v16n => (K0)
  | cs :: rest, v16n => (cell_ii cs fun x29 x30 => (row_ii a2 (v16n : Int) fun x32 x33 => ((laws_eqFraction x29 x30 x32 x33).bind fun y36 => (if y36 = true then (laws_eqFractionS_l0 a1 a2 K0 rest (v16n + 1)) else some false))))
set_option maxHeartbeats 4000000 in
set_option maxRecDepth 100000 in
theorem laws_eqFractionS_l0_ct {a1 : Rw} {a2 : Rw} {K0 : Option Bool} {r : Bool} (hx : a1.length ≤ cap) : ∀ (rest : Rw) (v16n : Nat), a1.drop v16n = rest → laws_eqFractionS_l0 a1 a2 K0 rest v16n = some r → LoopOk prog 0 (lp f7 0) (mk 27 [(0, .d (D.sl a1)), (1, .d (D.sl a2)), (5, .d (D.int .i64 (v16n : Int)))] []) (LoopEnd prog f7 0 27 (.d (D.bool r)) (⟨[], []⟩) (fun i ts os => (i = 0 ∧ K0 = some r ∧ ts = [] ∧ os = [])))
  | [], v16n, hd, h => by
      rw [laws_eqFractionS_l0] at h
      have hn := drop_nil hd
      refine LoopOk.step ?_
      conv => whnf
      refine splD (fun g => absurd g hn) (fun _ => ?_)
      conv => whnf
      exact ⟨_, _, [], [], ⟨rfl, h, rfl, rfl⟩, ⟨⟨rfl, rfl⟩, ⟨rfl, trivial⟩, trivial⟩⟩
  | cs :: rest, v16n, hd, h => by
      rw [laws_eqFractionS_l0] at h
      obtain ⟨hrow, hd1, hlt⟩ := drop_cons hd
      refine LoopOk.step ?_
      conv => whnf
      refine splD (fun _ => ?_) (fun g => absurd hlt g)
      conv => whnf
      obtain ⟨x29, x30, e31, h⟩ := cell_ii_ex h
      rw [e31] at hrow
      refine Req.of (Int.natCast_nonneg _) ?_
      refine Row.of _ hrow ?_
      conv => whnf
      obtain ⟨g35, x32, x33, e34, h⟩ := row_ii_ex h
      refine Req.of g35 ?_
      refine Row.of _ e34 ?_
      conv => whnf
      refine Pick.no ?_
      conv => whnf
      obtain ⟨y36, e37, h⟩ := bind_ex h
      refine CallOk.of (laws_eqFraction_ct e37) ?_
      conv => whnf
      refine spl (fun g38 => ?_) (fun g38 => ?_)
      · replace h := iteT h g38
        conv => whnf
        refine CutK.go ?_
        conv => whnf
        refine CutK.go ?_
        conv => whnf
        exact LoopOk.back (laws_eqFractionS_l0_ct hx rest (v16n + 1)  hd1 h) [] [] ⟨⟨rfl, rfl⟩, ⟨rfl, trivial⟩, rfl, rfl, i64eq (wrap_up hlt hx), trivial⟩
      · replace h := iteF h g38
        conv => whnf
        refine CutK.go ?_
        conv => whnf
        cases h
        exact Done.of [] [] rfl rfl ⟨⟨rfl, rfl⟩, ⟨rfl, trivial⟩, rfl, trivial⟩
def laws_eqFractionS  (a1 : Rw) (a2 : Rw) : Option Bool :=
  (if (a1.length : Int) = (a2.length : Int) then (if a1.length ≤ cap then (laws_eqFractionS_l0 a1 a2 (some true) a1 0) else none) else some false)
set_option maxHeartbeats 4000000 in
set_option maxRecDepth 100000 in
theorem laws_eqFractionS_ct  {a1 : Rw} {a2 : Rw} {r : Bool} (h : laws_eqFractionS a1 a2 = some r) : Ct prog 7 [.d (D.sl a1), .d (D.sl a2)] (⟨[], []⟩) (.d (D.bool r)) (⟨[], []⟩) := by
  rw [laws_eqFractionS] at h
  refine Ct.of (c := _) mixed func7 ⟨rfl, rfl, rfl⟩ ?_ rfl
  conv => whnf
  refine splN (fun g3 => ?_) (fun g3 => ?_)
  · replace h := iteN h g3
    conv => whnf
    cases h
    exact Done.of [] [] rfl rfl ⟨⟨rfl, rfl⟩, ⟨rfl, trivial⟩, rfl, trivial⟩
  · replace h := iteP h g3
    conv => whnf
    obtain ⟨g39, h⟩ := req_ex h
    refine LoopOk.into (laws_eqFractionS_l0_ct  g39 _ _  rfl h) [] [] ⟨⟨rfl, rfl⟩, ⟨rfl, trivial⟩, rfl, rfl, rfl, trivial⟩ ?_ (fun _ hs => hs)
    rintro i ts os ⟨rfl, h, rfl, rfl⟩
    conv => whnf
    refine CutK.go ?_
    conv => whnf
    cases h
    exact Done.of [] [] rfl rfl ⟨⟨rfl, rfl⟩, ⟨rfl, trivial⟩, rfl, trivial⟩

def impl_in  (a1 : Int) (a2 : Int) (a3 : Int) : Option Bool :=
  (if a2 ≤ a1 then (if a1 ≤ a3 then some true else some false) else some false)
set_option maxHeartbeats 4000000 in
set_option maxRecDepth 100000 in
theorem impl_in_ct  {a1 : Int} {a2 : Int} {a3 : Int} {r : Bool} (h : impl_in a1 a2 a3 = some r) : Ct prog 17 [.d (D.int .i64 a1), .d (D.int .i64 a2), .d (D.int .i64 a3)] (⟨[], []⟩) (.d (D.bool r)) (⟨[], []⟩) := by
  rw [impl_in] at h
  refine Ct.of (c := _) mixed func17 ⟨rfl, rfl, rfl⟩ ?_ rfl
  conv => whnf
  refine splD (fun g4 => ?_) (fun g4 => ?_)
  · replace h := iteP h g4
    conv => whnf
    refine splD (fun g5 => ?_) (fun g5 => ?_)
    · replace h := iteP h g5
      conv => whnf
      cases h
      exact Done.of [] [] rfl rfl ⟨⟨rfl, rfl⟩, ⟨rfl, trivial⟩, rfl, trivial⟩
    · replace h := iteN h g5
      conv => whnf
      cases h
      exact Done.of [] [] rfl rfl ⟨⟨rfl, rfl⟩, ⟨rfl, trivial⟩, rfl, trivial⟩
  · replace h := iteN h g4
    conv => whnf
    cases h
    exact Done.of [] [] rfl rfl ⟨⟨rfl, rfl⟩, ⟨rfl, trivial⟩, rfl, trivial⟩

def impl_ofWord_1  (a1 : Int) (a2 : Int) (a3 : ByteArray) : Option (Int × Int × ByteArray) :=
  (if a2 = (a3.size : Int) then some (0, a2, a3) else (byteD a3 (IntKind.i64.wrap ((IntKind.i64.wrap (a2 + 1)) - 1)) fun b5 => (if (b5.toNat : Int) = (43 : Int) then some (1, IntKind.i64.wrap (a2 + 1), a3) else some ((-1), IntKind.i64.wrap (a2 + 1), a3))))
set_option maxHeartbeats 4000000 in
set_option maxRecDepth 100000 in
theorem impl_ofWord_1_ct  {a1 : Int} {a2 : Int} {a3 : ByteArray} {r : Int × Int × ByteArray} (h : impl_ofWord_1 a1 a2 a3 = some r) : Ct prog 37 [.d (D.int .i64 a1), .ptr 0 0, .ptr 64 0] (⟨[(3, [.d (D.int .i64 a2)]), (9, [.d (D.str a3)])], []⟩) (.d (D.int .i64 r.1)) (⟨[(3, [.d (D.int .i64 r.2.1)]), (9, [.d (D.str r.2.2)])], []⟩) := by
  rw [impl_ofWord_1] at h
  refine Ct.of (c := _) mixed func37 ⟨rfl, rfl, rfl⟩ ?_ rfl
  conv => whnf
  refine splD (fun g4 => ?_) (fun g4 => ?_)
  · replace h := iteP h g4
    conv => whnf
    cases h
    exact Done.of [some 0, some 64] [] rfl rfl ⟨⟨rfl, rfl⟩, ⟨rfl, ⟨rfl, rfl, trivial⟩, ⟨rfl, rfl, trivial⟩, trivial⟩, rfl, trivial⟩
  · replace h := iteN h g4
    conv => whnf
    obtain ⟨g6, b5, e7, h⟩ := byteD_ex h
    refine Req.of g6 ?_
    refine Byte.of _ e7 ?_
    conv => whnf
    refine splD (fun g8 => ?_) (fun g8 => ?_)
    · replace h := iteP h g8
      conv => whnf
      cases h
      exact Done.of [some 0, some 64] [] rfl rfl ⟨⟨rfl, rfl⟩, ⟨rfl, ⟨rfl, rfl, trivial⟩, ⟨rfl, rfl, trivial⟩, trivial⟩, rfl, trivial⟩
    · replace h := iteN h g8
      conv => whnf
      cases h
      exact Done.of [some 0, some 64] [] rfl rfl ⟨⟨rfl, rfl⟩, ⟨rfl, ⟨rfl, rfl, trivial⟩, ⟨rfl, rfl, trivial⟩, trivial⟩, rfl, trivial⟩

def impl_between  (a1 : Int) (a2 : Int) (a3 : Rw) (a4 : Rw) : Option Int :=
  (if (0 : Int) < a2 then (if (a4.length : Int) = (0 : Int) then some (IntKind.i64.wrap (a1 + (IntKind.i64.wrap (a2 * 1048576)))) else (row_i a4 (IntKind.i64.wrap ((a4.length : Int) - 1)) fun x7 => some (IntKind.i64.wrap ((IntKind.i64.wrap (a1 + x7)).tdiv 2)))) else (if (a3.length : Int) = (0 : Int) then some (IntKind.i64.wrap (a1 + (IntKind.i64.wrap (a2 * 1048576)))) else (row_i a3 (IntKind.i64.wrap ((a3.length : Int) - 1)) fun x11 => some (IntKind.i64.wrap ((IntKind.i64.wrap (a1 + x11)).tdiv 2)))))
set_option maxHeartbeats 4000000 in
set_option maxRecDepth 100000 in
theorem impl_between_ct  {a1 : Int} {a2 : Int} {a3 : Rw} {a4 : Rw} {r : Int} (h : impl_between a1 a2 a3 a4 = some r) : Ct prog 55 [.d (D.int .i64 a1), .d (D.int .i64 a2), .d (D.sl a3), .d (D.sl a4)] (⟨[], []⟩) (.d (D.int .i64 r)) (⟨[], []⟩) := by
  rw [impl_between] at h
  refine Ct.of (c := _) mixed func55 ⟨rfl, rfl, rfl⟩ ?_ rfl
  conv => whnf
  refine splD (fun g5 => ?_) (fun g5 => ?_)
  · replace h := iteP h g5
    conv => whnf
    refine splD (fun g6 => ?_) (fun g6 => ?_)
    · replace h := iteP h g6
      conv => whnf
      cases h
      exact Done.of [] [] rfl rfl ⟨⟨rfl, rfl⟩, ⟨rfl, trivial⟩, rfl, trivial⟩
    · replace h := iteN h g6
      conv => whnf
      obtain ⟨g9, x7, e8, h⟩ := row_i_ex h
      refine Req.of g9 ?_
      refine Row.of _ e8 ?_
      conv => whnf
      refine Req.of (by decide) ?_
      conv => whnf
      cases h
      exact Done.of [] [] rfl rfl ⟨⟨rfl, rfl⟩, ⟨rfl, trivial⟩, rfl, trivial⟩
  · replace h := iteN h g5
    conv => whnf
    refine splD (fun g10 => ?_) (fun g10 => ?_)
    · replace h := iteP h g10
      conv => whnf
      cases h
      exact Done.of [] [] rfl rfl ⟨⟨rfl, rfl⟩, ⟨rfl, trivial⟩, rfl, trivial⟩
    · replace h := iteN h g10
      conv => whnf
      obtain ⟨g13, x11, e12, h⟩ := row_i_ex h
      refine Req.of g13 ?_
      refine Row.of _ e12 ?_
      conv => whnf
      refine Req.of (by decide) ?_
      conv => whnf
      cases h
      exact Done.of [] [] rfl rfl ⟨⟨rfl, rfl⟩, ⟨rfl, trivial⟩, rfl, trivial⟩

def impl_walk__ofWord_1_l0  : Nat → Rw → ByteArray → Rw → Int → Int → ByteArray → Rw → Option (Rw × ByteArray × Rw × Rw × Int × ByteArray)
  | 0, _, _, _, _, _, _, _ => none
  | n + 1, v11, v12, v13, v14, v15, v16, v20 => (if v11.length + 1 ≤ cap then ((impl_ofWord_1 v14 v15 v16).bind fun y36 => (if y36.1 = (0 : Int) then some (v11 ++ ([[D.int .i64 v14]]), v12, v13, v20, y36.2.1, y36.2.2) else (if (v12.size : Int) = (20 : Int) then some (v11 ++ ([[D.int .i64 v14]]), v12, v13, v20, y36.2.1, y36.2.2) else (if (0 : Int) < y36.1 then (if v12.size + (ByteArray.mk #[43]).size ≤ 9223372036854775807 then (if v13.length + 1 ≤ cap then ((impl_between v14 y36.1 (v13 ++ ([[D.int .i64 v14]])) v20).bind fun y43 => (impl_walk__ofWord_1_l0 n (v11 ++ ([[D.int .i64 v14]])) (v12 ++ (ByteArray.mk #[43])) (v13 ++ ([[D.int .i64 v14]])) y43 y36.2.1 y36.2.2 v20)) else none) else none) else (if v12.size + (ByteArray.mk #[45]).size ≤ 9223372036854775807 then (if v20.length + 1 ≤ cap then ((impl_between v14 y36.1 v13 (v20 ++ ([[D.int .i64 v14]]))).bind fun y47 => (impl_walk__ofWord_1_l0 n (v11 ++ ([[D.int .i64 v14]])) (v12 ++ (ByteArray.mk #[45])) v13 y47 y36.2.1 y36.2.2 (v20 ++ ([[D.int .i64 v14]])))) else none) else none))))) else none)
set_option maxHeartbeats 4000000 in
set_option maxRecDepth 100000 in
theorem impl_walk__ofWord_1_l0_ct  {r : Rw × ByteArray × Rw × Rw × Int × ByteArray} : ∀ (n : Nat) (v11 : Rw) (v12 : ByteArray) (v13 : Rw) (v14 : Int) (v15 : Int) (v16 : ByteArray) (v20 : Rw), impl_walk__ofWord_1_l0 n v11 v12 v13 v14 v15 v16 v20 = some r → LoopOk prog 2 (lp f36 0) (mk 45 [(0, .fn 37 [.ptr 0 0, .ptr 64 0]), (2, .os 64000 v11.length), (3, .d (D.str v12)), (4, .os 64001 v13.length), (5, .os 64002 v20.length), (6, .d (D.int .i64 v14))] [(0, .box 3 [.d (D.int .i64 v15)]), (64, .box 9 [.d (D.str v16)]), (64000, .arr 3 true v11), (64001, .arr 3 true v13), (64002, .arr 3 true v20)]) (LoopEnd prog f36 2 45 (.tup [.os 8 r.1.length, .d (D.str r.2.1), .os 9 r.2.2.1.length, .os 10 r.2.2.2.1.length]) (⟨[(3, [.d (D.int .i64 r.2.2.2.2.1)]), (9, [.d (D.str r.2.2.2.2.2)])], [(3, true, r.1), (3, true, r.2.2.1), (3, true, r.2.2.2.1)]⟩) (fun i ts os => False))
  | 0, _, _, _, _, _, _, _, h => by
      rw [impl_walk__ofWord_1_l0] at h; cases h
  | n + 1, v11, v12, v13, v14, v15, v16, v20, h => by
      rw [impl_walk__ofWord_1_l0] at h
      refine LoopOk.step ?_
      conv => whnf
      refine Take.all (rfl) ?_
      conv => whnf
      refine Take.all (by first | rfl | exact List.length_append.symm | (simp; done) | omega | (dsimp only; omega)) ?_
      conv => whnf
      obtain ⟨g35, h⟩ := req_ex h
      refine Req.of (room (b := 8) (by decide) g35 (wide1 rfl wide0)) ?_
      conv => whnf
      refine Pick.no ?_
      conv => whnf
      obtain ⟨y36, e37, h⟩ := bind_ex h
      refine CallOk.of (impl_ofWord_1_ct e37) ?_
      conv => whnf
      refine CutK.norm [0, 2, 3, 4, 5, 6, 7] [0, 64, 704, 64001, 64002] ?_
      conv => whnf
      refine splD (fun g38 => ?_) (fun g38 => ?_)
      · replace h := iteP h g38
        conv => whnf
        cases h
        exact Done.of [some 0, some 64, some 704, some 64001, some 64002] [] rfl rfl ⟨⟨rfl, rfl⟩, ⟨rfl, ⟨rfl, rfl, trivial⟩, ⟨rfl, rfl, trivial⟩, ⟨rfl, rfl, rows_same⟩, ⟨rfl, rfl, rows_same⟩, ⟨rfl, rfl, rows_same⟩, trivial⟩, ⟨⟨(by first | rfl | exact List.length_append.symm | (simp; done) | omega | (dsimp only; omega)), rfl⟩, rfl, ⟨rfl, rfl⟩, ⟨rfl, rfl⟩, trivial⟩, trivial⟩
      · replace h := iteN h g38
        conv => whnf
        refine splD (fun g39 => ?_) (fun g39 => ?_)
        · replace h := iteP h g39
          conv => whnf
          cases h
          exact Done.of [some 0, some 64, some 704, some 64001, some 64002] [] rfl rfl ⟨⟨rfl, rfl⟩, ⟨rfl, ⟨rfl, rfl, trivial⟩, ⟨rfl, rfl, trivial⟩, ⟨rfl, rfl, rows_same⟩, ⟨rfl, rfl, rows_same⟩, ⟨rfl, rfl, rows_same⟩, trivial⟩, ⟨⟨(by first | rfl | exact List.length_append.symm | (simp; done) | omega | (dsimp only; omega)), rfl⟩, rfl, ⟨rfl, rfl⟩, ⟨rfl, rfl⟩, trivial⟩, trivial⟩
        · replace h := iteN h g39
          conv => whnf
          refine splD (fun g40 => ?_) (fun g40 => ?_)
          · replace h := iteP h g40
            conv => whnf
            obtain ⟨g41, h⟩ := req_ex h
            refine Req.of g41 ?_
            conv => whnf
            refine Take.all (rfl) ?_
            conv => whnf
            refine Take.all (by first | rfl | exact List.length_append.symm | (simp; done) | omega | (dsimp only; omega)) ?_
            conv => whnf
            obtain ⟨g42, h⟩ := req_ex h
            refine Req.of (room (b := 8) (by decide) g42 (wide1 rfl wide0)) ?_
            conv => whnf
            refine Pick.no ?_
            conv => whnf
            refine Take.all (by first | rfl | exact List.length_append.symm | (simp; done) | omega | (dsimp only; omega)) ?_
            conv => whnf
            refine Take.all (rfl) ?_
            conv => whnf
            obtain ⟨y43, e44, h⟩ := bind_ex h
            refine CallOk.of (impl_between_ct e44) ?_
            conv => whnf
            exact LoopOk.back (impl_walk__ofWord_1_l0_ct  n _ _ _ _ _ _ _ h) [some 0, some 64, some 704, some 2112, some 64002] [] ⟨⟨rfl, rfl⟩, ⟨rfl, ⟨rfl, rfl, trivial⟩, ⟨rfl, rfl, trivial⟩, ⟨rfl, rfl, rows_same⟩, ⟨rfl, rfl, rows_same⟩, ⟨rfl, rfl, rows_same⟩, trivial⟩, ⟨rfl, ⟨rfl, rfl⟩, ⟨rfl, rfl⟩, trivial⟩, ⟨(by first | rfl | exact List.length_append.symm | (simp; done) | omega | (dsimp only; omega)), rfl⟩, rfl, ⟨(by first | rfl | exact List.length_append.symm | (simp; done) | omega | (dsimp only; omega)), rfl⟩, ⟨rfl, rfl⟩, rfl, trivial⟩
          · replace h := iteN h g40
            conv => whnf
            obtain ⟨g45, h⟩ := req_ex h
            refine Req.of g45 ?_
            conv => whnf
            refine Take.all (rfl) ?_
            conv => whnf
            refine Take.all (by first | rfl | exact List.length_append.symm | (simp; done) | omega | (dsimp only; omega)) ?_
            conv => whnf
            obtain ⟨g46, h⟩ := req_ex h
            refine Req.of (room (b := 8) (by decide) g46 (wide1 rfl wide0)) ?_
            conv => whnf
            refine Pick.no ?_
            conv => whnf
            refine Take.all (rfl) ?_
            conv => whnf
            refine Take.all (by first | rfl | exact List.length_append.symm | (simp; done) | omega | (dsimp only; omega)) ?_
            conv => whnf
            obtain ⟨y47, e48, h⟩ := bind_ex h
            refine CallOk.of (impl_between_ct e48) ?_
            conv => whnf
            exact LoopOk.back (impl_walk__ofWord_1_l0_ct  n _ _ _ _ _ _ _ h) [some 0, some 64, some 704, some 64001, some 2496] [] ⟨⟨rfl, rfl⟩, ⟨rfl, ⟨rfl, rfl, trivial⟩, ⟨rfl, rfl, trivial⟩, ⟨rfl, rfl, rows_same⟩, ⟨rfl, rfl, rows_same⟩, ⟨rfl, rfl, rows_same⟩, trivial⟩, ⟨rfl, ⟨rfl, rfl⟩, ⟨rfl, rfl⟩, trivial⟩, ⟨(by first | rfl | exact List.length_append.symm | (simp; done) | omega | (dsimp only; omega)), rfl⟩, rfl, ⟨rfl, rfl⟩, ⟨(by first | rfl | exact List.length_append.symm | (simp; done) | omega | (dsimp only; omega)), rfl⟩, rfl, trivial⟩
def impl_walk__ofWord_1 (k : Nat) (a1 : Int) (a2 : ByteArray) : Option (Rw × ByteArray × Rw × Rw × Int × ByteArray) :=
  (impl_walk__ofWord_1_l0 k ([] : Rw) (ByteArray.mk #[]) ([] : Rw) 0 a1 a2 ([] : Rw))
set_option maxHeartbeats 4000000 in
set_option maxRecDepth 100000 in
theorem impl_walk__ofWord_1_ct {k : Nat} {a1 : Int} {a2 : ByteArray} {r : Rw × ByteArray × Rw × Rw × Int × ByteArray} (h : impl_walk__ofWord_1 k a1 a2 = some r) : Ct prog 36 [.fn 37 [.ptr 0 0, .ptr 64 0]] (⟨[(3, [.d (D.int .i64 a1)]), (9, [.d (D.str a2)])], []⟩) (.tup [.os 8 r.1.length, .d (D.str r.2.1), .os 9 r.2.2.1.length, .os 10 r.2.2.2.1.length]) (⟨[(3, [.d (D.int .i64 r.2.2.2.2.1)]), (9, [.d (D.str r.2.2.2.2.2)])], [(3, true, r.1), (3, true, r.2.2.1), (3, true, r.2.2.2.1)]⟩) := by
  rw [impl_walk__ofWord_1] at h
  refine Ct.of (c := _) mixed func36 ⟨rfl, rfl, rfl⟩ ?_ rfl
  conv => whnf
  refine LoopOk.into (impl_walk__ofWord_1_l0_ct  _ _ _ _ _ _ _ _ h) [some 0, some 64, none, none, none] [] ⟨⟨rfl, rfl⟩, ⟨rfl, ⟨rfl, rfl, trivial⟩, ⟨rfl, rfl, trivial⟩, rfl, rfl, rfl, trivial⟩, ⟨rfl, ⟨rfl, rfl⟩, ⟨rfl, rfl⟩, trivial⟩, ⟨rfl, rfl⟩, rfl, ⟨rfl, rfl⟩, ⟨rfl, rfl⟩, rfl, trivial⟩ ?_ (fun _ hs => hs)
  exact fun _ _ _ he => he.elim

def impl_ofWord (k : Nat) (a1 : ByteArray) : Option Rw :=
  ((impl_walk__ofWord_1 k 0 a1).bind fun y2 => some y2.1)
set_option maxHeartbeats 4000000 in
set_option maxRecDepth 100000 in
theorem impl_ofWord_ct {k : Nat} {a1 : ByteArray} {r : Rw} (h : impl_ofWord k a1 = some r) : Ct prog 26 [.d (D.str a1)] (⟨[], []⟩) (.os 8 r.length) (⟨[], [(3, true, r)]⟩) := by
  rw [impl_ofWord] at h
  refine Ct.of (c := _) mixed func26 ⟨rfl, rfl, rfl⟩ ?_ rfl
  conv => whnf
  refine Pick.no ?_
  conv => whnf
  obtain ⟨y2, e3, h⟩ := bind_ex h
  refine CallOk.of (impl_walk__ofWord_1_ct e3) ?_
  conv => whnf
  refine CutK.go ?_
  conv => whnf
  cases h
  exact Done.of [some 640] [] rfl rfl ⟨⟨rfl, rfl⟩, ⟨rfl, ⟨rfl, rfl, rows_same⟩, trivial⟩, ⟨rfl, rfl⟩, trivial⟩

def impl_size  (a1 : Int) : Option Int :=
  some (if a1 < (IntKind.i64.wrap (0 - a1)) then IntKind.i64.wrap (0 - a1) else a1)
set_option maxHeartbeats 4000000 in
set_option maxRecDepth 100000 in
theorem impl_size_ct  {a1 : Int} {r : Int} (h : impl_size a1 = some r) : Ct prog 51 [.d (D.int .i64 a1)] (⟨[], []⟩) (.d (D.int .i64 r)) (⟨[], []⟩) := by
  rw [impl_size] at h
  refine Ct.of (c := _) mixed func51 ⟨rfl, rfl, rfl⟩ ?_ rfl
  conv => whnf
  cases h
  exact Done.of [] [] rfl rfl ⟨⟨rfl, rfl⟩, ⟨rfl, trivial⟩, rfl, trivial⟩

def impl_gcd_l0 (K0 : Int → Option Int) : Nat → Int → Int → Option Int
  | 0, _, _ => none
  | n + 1, v5, v6 => (if v6 = (0 : Int) then (K0 v5) else (if v6 ≠ 0 then (impl_gcd_l0 K0 n v6 (v5.tmod v6)) else none))
set_option maxHeartbeats 4000000 in
set_option maxRecDepth 100000 in
theorem impl_gcd_l0_ct {K0 : Int → Option Int} {r : Int} : ∀ (n : Nat) (v5 : Int) (v6 : Int), impl_gcd_l0 K0 n v5 v6 = some r → LoopOk prog 0 (lp f33 0) (mk 13 [(0, .d (D.int .i64 v5)), (1, .d (D.int .i64 v6))] []) (LoopEnd prog f33 0 13 (.d (D.int .i64 r)) (⟨[], []⟩) (fun i ts os => (i = 0 ∧ ∃ v9 : Int, K0 v9 = some r ∧ ts = [(0, .d (D.int .i64 v9))] ∧ os = [])))
  | 0, _, _, h => by
      rw [impl_gcd_l0] at h; cases h
  | n + 1, v5, v6, h => by
      rw [impl_gcd_l0] at h
      refine LoopOk.step ?_
      conv => whnf
      refine splN (fun g12 => ?_) (fun g12 => ?_)
      · replace h := iteN h g12
        conv => whnf
        obtain ⟨g13, h⟩ := req_ex h
        refine Req.of g13 ?_
        conv => whnf
        exact LoopOk.back (impl_gcd_l0_ct  n _ _ h) [] [] ⟨⟨rfl, rfl⟩, ⟨rfl, trivial⟩, rfl, rfl, trivial⟩
      · replace h := iteP h g12
        conv => whnf
        exact ⟨_, _, [], [], ⟨rfl, _, h, rfl, rfl⟩, ⟨⟨rfl, rfl⟩, ⟨rfl, trivial⟩, rfl, trivial⟩⟩
def impl_gcd (k : Nat) (a1 : Int) (a2 : Int) : Option Int :=
  (impl_gcd_l0 (fun (v9 : Int) => ((impl_size v9).bind fun y14 => some y14)) k a1 a2)
set_option maxHeartbeats 4000000 in
set_option maxRecDepth 100000 in
theorem impl_gcd_ct {k : Nat} {a1 : Int} {a2 : Int} {r : Int} (h : impl_gcd k a1 a2 = some r) : Ct prog 33 [.d (D.int .i64 a1), .d (D.int .i64 a2)] (⟨[], []⟩) (.d (D.int .i64 r)) (⟨[], []⟩) := by
  rw [impl_gcd] at h
  refine Ct.of (c := _) mixed func33 ⟨rfl, rfl, rfl⟩ ?_ rfl
  conv => whnf
  refine LoopOk.into (impl_gcd_l0_ct  _ _ _ h) [] [] ⟨⟨rfl, rfl⟩, ⟨rfl, trivial⟩, rfl, rfl, trivial⟩ ?_ (fun _ hs => hs)
  rintro i ts os ⟨rfl, v9, h, rfl, rfl⟩
  conv => whnf
  refine CutK.go ?_
  conv => whnf
  refine Pick.no ?_
  conv => whnf
  obtain ⟨y14, e15, h⟩ := bind_ex h
  refine CallOk.of (impl_size_ct e15) ?_
  conv => whnf
  refine CutK.go ?_
  conv => whnf
  cases h
  exact Done.of [] [] rfl rfl ⟨⟨rfl, rfl⟩, ⟨rfl, trivial⟩, rfl, trivial⟩

def impl_IsFraction (k : Nat) (a1 : Int) (a2 : Int) : Option Bool :=
  ((impl_in a2 1 1000000).bind fun y3 => (if y3 = true then ((impl_in a1 (-1000000) 1000000).bind fun y6 => (if y6 = true then ((impl_gcd k a1 a2).bind fun y9 => (if y9 = (1 : Int) then some true else some false)) else some false)) else some false))
set_option maxHeartbeats 4000000 in
set_option maxRecDepth 100000 in
theorem impl_IsFraction_ct {k : Nat} {a1 : Int} {a2 : Int} {r : Bool} (h : impl_IsFraction k a1 a2 = some r) : Ct prog 24 [.agg [.d (D.int .i64 a1), .d (D.int .i64 a2)]] (⟨[], []⟩) (.d (D.bool r)) (⟨[], []⟩) := by
  rw [impl_IsFraction] at h
  refine Ct.of (c := _) mixed func24 ⟨rfl, rfl, rfl⟩ ?_ rfl
  conv => whnf
  refine Pick.no ?_
  conv => whnf
  obtain ⟨y3, e4, h⟩ := bind_ex h
  refine CallOk.of (impl_in_ct e4) ?_
  conv => whnf
  refine spl (fun g5 => ?_) (fun g5 => ?_)
  · replace h := iteT h g5
    conv => whnf
    refine Pick.no ?_
    conv => whnf
    obtain ⟨y6, e7, h⟩ := bind_ex h
    refine CallOk.of (impl_in_ct e7) ?_
    conv => whnf
    refine spl (fun g8 => ?_) (fun g8 => ?_)
    · replace h := iteT h g8
      conv => whnf
      refine Pick.no ?_
      conv => whnf
      obtain ⟨y9, e10, h⟩ := bind_ex h
      refine CallOk.of (impl_gcd_ct e10) ?_
      conv => whnf
      refine splD (fun g11 => ?_) (fun g11 => ?_)
      · replace h := iteP h g11
        conv => whnf
        refine CutK.go ?_
        conv => whnf
        cases h
        exact Done.of [] [] rfl rfl ⟨⟨rfl, rfl⟩, ⟨rfl, trivial⟩, rfl, trivial⟩
      · replace h := iteN h g11
        conv => whnf
        refine CutK.go ?_
        conv => whnf
        cases h
        exact Done.of [] [] rfl rfl ⟨⟨rfl, rfl⟩, ⟨rfl, trivial⟩, rfl, trivial⟩
    · replace h := iteF h g8
      conv => whnf
      refine CutK.go ?_
      conv => whnf
      cases h
      exact Done.of [] [] rfl rfl ⟨⟨rfl, rfl⟩, ⟨rfl, trivial⟩, rfl, trivial⟩
  · replace h := iteF h g5
    conv => whnf
    refine CutK.go ?_
    conv => whnf
    cases h
    exact Done.of [] [] rfl rfl ⟨⟨rfl, rfl⟩, ⟨rfl, trivial⟩, rfl, trivial⟩

def impl_made (k : Nat) (a1 : Int) (a2 : Int) : Option (Int × Int × Bool) :=
  (if a2 = (0 : Int) then some (0, 0, false) else ((impl_gcd k a1 a2).bind fun y4 => (if a2 < (0 : Int) then (if (IntKind.i64.wrap (0 - y4)) ≠ 0 then ((impl_IsFraction k (IntKind.i64.wrap (a1.tdiv (IntKind.i64.wrap (0 - y4)))) (IntKind.i64.wrap (a2.tdiv (IntKind.i64.wrap (0 - y4))))).bind fun y8 => (if y8 = true then some (IntKind.i64.wrap (a1.tdiv (IntKind.i64.wrap (0 - y4))), IntKind.i64.wrap (a2.tdiv (IntKind.i64.wrap (0 - y4))), true) else some (0, 0, false))) else none) else (if y4 ≠ 0 then ((impl_IsFraction k (IntKind.i64.wrap (a1.tdiv y4)) (IntKind.i64.wrap (a2.tdiv y4))).bind fun y12 => (if y12 = true then some (IntKind.i64.wrap (a1.tdiv y4), IntKind.i64.wrap (a2.tdiv y4), true) else some (0, 0, false))) else none))))
set_option maxHeartbeats 4000000 in
set_option maxRecDepth 100000 in
theorem impl_made_ct {k : Nat} {a1 : Int} {a2 : Int} {r : Int × Int × Bool} (h : impl_made k a1 a2 = some r) : Ct prog 38 [.d (D.int .i64 a1), .d (D.int .i64 a2)] (⟨[], []⟩) (.tup [.agg [.d (D.int .i64 r.1), .d (D.int .i64 r.2.1)], .d (D.bool r.2.2)]) (⟨[], []⟩) := by
  rw [impl_made] at h
  refine Ct.of (c := _) mixed func38 ⟨rfl, rfl, rfl⟩ ?_ rfl
  conv => whnf
  refine splD (fun g3 => ?_) (fun g3 => ?_)
  · replace h := iteP h g3
    conv => whnf
    cases h
    exact Done.of [] [] rfl rfl ⟨⟨rfl, rfl⟩, ⟨rfl, trivial⟩, ⟨⟨rfl, rfl, trivial⟩, rfl, trivial⟩, trivial⟩
  · replace h := iteN h g3
    conv => whnf
    refine Pick.no ?_
    conv => whnf
    obtain ⟨y4, e5, h⟩ := bind_ex h
    refine CallOk.of (impl_gcd_ct e5) ?_
    conv => whnf
    refine CutK.go ?_
    conv => whnf
    refine splD (fun g6 => ?_) (fun g6 => ?_)
    · replace h := iteP h g6
      conv => whnf
      obtain ⟨g7, h⟩ := req_ex h
      refine Req.of g7 ?_
      conv => whnf
      refine Req.of g7 ?_
      conv => whnf
      refine Pick.no ?_
      conv => whnf
      obtain ⟨y8, e9, h⟩ := bind_ex h
      refine CallOk.of (impl_IsFraction_ct e9) ?_
      conv => whnf
      refine spl (fun g10 => ?_) (fun g10 => ?_)
      · replace h := iteT h g10
        conv => whnf
        refine CutK.go ?_
        conv => whnf
        refine CutK.go ?_
        conv => whnf
        cases h
        exact Done.of [] [] rfl rfl ⟨⟨rfl, rfl⟩, ⟨rfl, trivial⟩, ⟨⟨rfl, rfl, trivial⟩, rfl, trivial⟩, trivial⟩
      · replace h := iteF h g10
        conv => whnf
        refine CutK.go ?_
        conv => whnf
        cases h
        exact Done.of [] [] rfl rfl ⟨⟨rfl, rfl⟩, ⟨rfl, trivial⟩, ⟨⟨rfl, rfl, trivial⟩, rfl, trivial⟩, trivial⟩
    · replace h := iteN h g6
      conv => whnf
      obtain ⟨g11, h⟩ := req_ex h
      refine Req.of g11 ?_
      conv => whnf
      refine Req.of g11 ?_
      conv => whnf
      refine Pick.no ?_
      conv => whnf
      obtain ⟨y12, e13, h⟩ := bind_ex h
      refine CallOk.of (impl_IsFraction_ct e13) ?_
      conv => whnf
      refine spl (fun g14 => ?_) (fun g14 => ?_)
      · replace h := iteT h g14
        conv => whnf
        refine CutK.go ?_
        conv => whnf
        refine CutK.go ?_
        conv => whnf
        cases h
        exact Done.of [] [] rfl rfl ⟨⟨rfl, rfl⟩, ⟨rfl, trivial⟩, ⟨⟨rfl, rfl, trivial⟩, rfl, trivial⟩, trivial⟩
      · replace h := iteF h g14
        conv => whnf
        refine CutK.go ?_
        conv => whnf
        cases h
        exact Done.of [] [] rfl rfl ⟨⟨rfl, rfl⟩, ⟨rfl, trivial⟩, ⟨⟨rfl, rfl, trivial⟩, rfl, trivial⟩, trivial⟩

def impl_fromUnits (k : Nat) (a1 : Int) : Option (Int × Int) :=
  ((impl_made k a1 1048576).bind fun y2 => (if y2.2.2 = true then some (y2.1, y2.2.1) else some (y2.1, y2.2.1)))
set_option maxHeartbeats 4000000 in
set_option maxRecDepth 100000 in
theorem impl_fromUnits_ct {k : Nat} {a1 : Int} {r : Int × Int} (h : impl_fromUnits k a1 = some r) : Ct prog 27 [.d (D.int .i64 a1)] (⟨[], []⟩) (.agg [.d (D.int .i64 r.1), .d (D.int .i64 r.2)]) (⟨[], []⟩) := by
  rw [impl_fromUnits] at h
  refine Ct.of (c := _) mixed func27 ⟨rfl, rfl, rfl⟩ ?_ rfl
  conv => whnf
  refine Pick.no ?_
  conv => whnf
  obtain ⟨y2, e3, h⟩ := bind_ex h
  refine CallOk.of (impl_made_ct e3) ?_
  conv => whnf
  refine spl (fun g4 => ?_) (fun g4 => ?_)
  · replace h := iteT h g4
    conv => whnf
    refine CutK.go ?_
    conv => whnf
    cases h
    exact Done.of [] [] rfl rfl ⟨⟨rfl, rfl⟩, ⟨rfl, trivial⟩, ⟨rfl, rfl, trivial⟩, trivial⟩
  · replace h := iteF h g4
    conv => whnf
    refine CutK.go ?_
    conv => whnf
    cases h
    exact Done.of [] [] rfl rfl ⟨⟨rfl, rfl⟩, ⟨rfl, trivial⟩, ⟨rfl, rfl, trivial⟩, trivial⟩

def impl_fromWord (k : Nat) (a1 : ByteArray) : Option (Int × Int) :=
  ((impl_ofWord k a1).bind fun y2 => (if 0 ≤ (IntKind.i64.wrap ((y2.length : Int) - 1)) ∧ (IntKind.i64.wrap ((y2.length : Int) - 1)) < (y2.length : Int) then (row_i y2 (IntKind.i64.wrap ((y2.length : Int) - 1)) fun x5 => ((impl_fromUnits k x5).bind fun y8 => some (y8.1, y8.2))) else none))
set_option maxHeartbeats 4000000 in
set_option maxRecDepth 100000 in
theorem impl_fromWord_ct {k : Nat} {a1 : ByteArray} {r : Int × Int} (h : impl_fromWord k a1 = some r) : Ct prog 18 [.d (D.str a1)] (⟨[], []⟩) (.agg [.d (D.int .i64 r.1), .d (D.int .i64 r.2)]) (⟨[], []⟩) := by
  rw [impl_fromWord] at h
  refine Ct.of (c := _) mixed func18 ⟨rfl, rfl, rfl⟩ ?_ rfl
  conv => whnf
  refine Pick.no ?_
  conv => whnf
  obtain ⟨y2, e3, h⟩ := bind_ex h
  refine CallOk.of (impl_ofWord_ct e3) ?_
  conv => whnf
  refine CutK.go ?_
  conv => whnf
  obtain ⟨g4, h⟩ := req_ex h
  refine Req.of g4 ?_
  conv => whnf
  obtain ⟨g7, x5, e6, h⟩ := row_i_ex h
  refine Row.of _ e6 ?_
  conv => whnf
  refine Pick.no ?_
  conv => whnf
  obtain ⟨y8, e9, h⟩ := bind_ex h
  refine CallOk.of (impl_fromUnits_ct e9) ?_
  conv => whnf
  refine CutK.go ?_
  conv => whnf
  cases h
  exact Done.of [] [] rfl rfl ⟨⟨rfl, rfl⟩, ⟨rfl, trivial⟩, ⟨rfl, rfl, trivial⟩, trivial⟩

def impl_BornOn_l1 (a1 : Int) (v30 : Rw) (v31 : Int) (K2 : Rw → Option (Rw × Bool)) : Nat → Rw → Int → Option (Rw × Bool)
  | 0, _, _ => none
  | n + 1, v88, v89 => (if v89 < a1 then (if 0 ≤ v89 then (byteD (ByteArray.mk #[43, 45]) (IntKind.i64.wrap (BitVec.ofInt (IntKind.i64).bits (v31.fdiv (2 ^ (min (v89 : Int).toNat (IntKind.i64).bits))) &&& BitVec.ofInt (IntKind.i64).bits 1).toNat) fun b105 => (if v88.length + 1 ≤ cap then (impl_BornOn_l1 a1 v30 v31 K2 n (v88 ++ ([[D.int .u8 (b105.toNat : Int)]])) (IntKind.i64.wrap (v89 + 1))) else none)) else none) else (K2 v88))
set_option maxHeartbeats 4000000 in
set_option maxRecDepth 100000 in
theorem impl_BornOn_l1_ct {a1 : Int} {v30 : Rw} {v31 : Int} {K2 : Rw → Option (Rw × Bool)} {r : Rw × Bool} : ∀ (n : Nat) (v88 : Rw) (v89 : Int), impl_BornOn_l1 a1 v30 v31 K2 n v88 v89 = some r → LoopOk prog 0 (lp f6 1) (mk 41 [(0, .d (D.int .i64 a1)), (4, .os 76800 v30.length), (5, .d (D.int .i64 v31)), (6, .os 76801 v88.length), (13, .d (D.int .i64 (IntKind.i64.wrap (1 * 2 ^ (min (a1 : Int).toNat (IntKind.i64).bits))))), (14, .d (D.int .i64 v31)), (18, .d (D.int .i64 a1)), (19, .d (D.int .i64 v89))] [(76800, .arr 32 true v30), (76801, .arr 5 true v88)]) (LoopEnd prog f6 0 41 (.tup [.os 8 r.1.length, .d (D.bool r.2)]) (⟨[], [(32, true, r.1)]⟩) (fun i ts os => (i = 2 ∧ ∃ v96 : Rw, K2 v96 = some r ∧ ts = [(0, .d (D.int .i64 a1)), (4, .os 79802 v30.length), (6, .os 79803 v96.length), (13, .d (D.int .i64 (IntKind.i64.wrap (1 * 2 ^ (min (a1 : Int).toNat (IntKind.i64).bits))))), (14, .d (D.int .i64 v31))] ∧ os = [(79802, .arr 32 true v30), (79803, .arr 5 true v96)])))
  | 0, _, _, h => by
      rw [impl_BornOn_l1] at h; cases h
  | n + 1, v88, v89, h => by
      rw [impl_BornOn_l1] at h
      refine LoopOk.step ?_
      conv => whnf
      refine splD (fun g103 => ?_) (fun g103 => ?_)
      · replace h := iteP h g103
        conv => whnf
        obtain ⟨g104, h⟩ := req_ex h
        refine Req.of g104 ?_
        conv => whnf
        obtain ⟨g106, b105, e107, h⟩ := byteD_ex h
        refine Req.of g106 ?_
        refine Byte.of _ e107 ?_
        conv => whnf
        refine Take.all (rfl) ?_
        conv => whnf
        refine Take.all (by first | rfl | exact List.length_append.symm | (simp; done) | omega | (dsimp only; omega)) ?_
        conv => whnf
        obtain ⟨g108, h⟩ := req_ex h
        refine Req.of (room (b := 1) (by decide) g108 (wide1 rfl wide0)) ?_
        conv => whnf
        exact LoopOk.back (impl_BornOn_l1_ct  n _ _ h) [some 76800, some 1856] [] ⟨⟨rfl, rfl⟩, ⟨rfl, ⟨rfl, rfl, rows_same⟩, ⟨rfl, rfl, rows_same⟩, trivial⟩, rfl, ⟨rfl, rfl⟩, rfl, ⟨(by first | rfl | exact List.length_append.symm | (simp; done) | omega | (dsimp only; omega)), rfl⟩, rfl, rfl, rfl, rfl, trivial⟩
      · replace h := iteN h g103
        conv => whnf
        exact ⟨_, _, [some 76800, some 76801], [], ⟨rfl, _, h, rfl, rfl⟩, ⟨⟨rfl, rfl⟩, ⟨rfl, ⟨rfl, rfl, rows_same⟩, ⟨rfl, rfl, rows_same⟩, trivial⟩, rfl, ⟨rfl, rfl⟩, ⟨rfl, rfl⟩, rfl, rfl, trivial⟩⟩
def impl_BornOn_l0 (k : Nat) (a1 : Int) (K0 : Rw → Option (Rw × Bool)) : Nat → Rw → Int → Option (Rw × Bool)
  | 0, _, _ => none
  | n + 1, v30, v31 => (if v31 < (IntKind.i64.wrap (1 * 2 ^ (min (a1 : Int).toNat (IntKind.i64).bits))) then (impl_BornOn_l1 a1 v30 v31 (fun (v96 : Rw) => ((strD v96).bind fun y109 => ((impl_fromWord k y109).bind fun y111 => (if v30.length + 1 ≤ cap then (impl_BornOn_l0 k a1 K0 n (v30 ++ ([[D.int .i64 y111.1, D.int .i64 y111.2]])) (IntKind.i64.wrap (v31 + 1))) else none)))) k ([] : Rw) 0) else (K0 v30))
set_option maxHeartbeats 4000000 in
set_option maxRecDepth 100000 in
theorem impl_BornOn_l0_ct {k : Nat} {a1 : Int} {K0 : Rw → Option (Rw × Bool)} {r : Rw × Bool} : ∀ (n : Nat) (v30 : Rw) (v31 : Int), impl_BornOn_l0 k a1 K0 n v30 v31 = some r → LoopOk prog 0 (lp f6 0) (mk 41 [(0, .d (D.int .i64 a1)), (4, .os 64000 v30.length), (13, .d (D.int .i64 (IntKind.i64.wrap (1 * 2 ^ (min (a1 : Int).toNat (IntKind.i64).bits))))), (14, .d (D.int .i64 v31))] [(64000, .arr 32 true v30)]) (LoopEnd prog f6 0 41 (.tup [.os 8 r.1.length, .d (D.bool r.2)]) (⟨[], [(32, true, r.1)]⟩) (fun i ts os => (i = 0 ∧ ∃ v57 : Rw, K0 v57 = some r ∧ ts = [(4, .os 67001 v57.length)] ∧ os = [(67001, .arr 32 true v57)])))
  | 0, _, _, h => by
      rw [impl_BornOn_l0] at h; cases h
  | n + 1, v30, v31, h => by
      rw [impl_BornOn_l0] at h
      refine LoopOk.step ?_
      conv => whnf
      refine splD (fun g83 => ?_) (fun g83 => ?_)
      · replace h := iteP h g83
        conv => whnf
        refine LoopOk.into (impl_BornOn_l1_ct  _ _ _ h) [some 64000, some 1088] [] ⟨⟨rfl, rfl⟩, ⟨rfl, ⟨rfl, rfl, rows_same⟩, ⟨rfl, rfl, rows_same⟩, trivial⟩, rfl, ⟨rfl, rfl⟩, rfl, ⟨(by first | rfl | exact List.length_append.symm | (simp; done) | omega | (dsimp only; omega)), rfl⟩, rfl, rfl, rfl, rfl, trivial⟩ ?_ (fun _ hs => hs)
        rintro i ts os ⟨rfl, v96, h, rfl, rfl⟩
        conv => whnf
        refine CutK.norm [0, 4, 6, 13, 14] [79802, 79803] ?_
        conv => whnf
        obtain ⟨y109, e110, h⟩ := bind_ex h
        refine StrOk.of e110 rfl ?_
        conv => whnf
        refine Pick.no ?_
        conv => whnf
        obtain ⟨y111, e112, h⟩ := bind_ex h
        refine CallOk.of (impl_fromWord_ct e112) ?_
        conv => whnf
        refine Take.all (rfl) ?_
        conv => whnf
        refine Take.all (by first | rfl | exact List.length_append.symm | (simp; done) | omega | (dsimp only; omega)) ?_
        conv => whnf
        obtain ⟨g113, h⟩ := req_ex h
        refine Req.of (room (b := 16) (by decide) g113 (wide1 rfl wide0)) ?_
        conv => whnf
        refine CutK.norm [0, 4, 13, 14] [2304] ?_
        conv => whnf
        exact LoopOk.back (impl_BornOn_l0_ct  n _ _ h) [some 2304] [] ⟨⟨rfl, rfl⟩, ⟨rfl, ⟨rfl, rfl, rows_same⟩, trivial⟩, rfl, ⟨(by first | rfl | exact List.length_append.symm | (simp; done) | omega | (dsimp only; omega)), rfl⟩, rfl, rfl, trivial⟩
      · replace h := iteN h g83
        conv => whnf
        exact ⟨_, _, [some 64000], [], ⟨rfl, _, h, rfl, rfl⟩, ⟨⟨rfl, rfl⟩, ⟨rfl, ⟨rfl, rfl, rows_same⟩, trivial⟩, ⟨rfl, rfl⟩, trivial⟩⟩
def impl_BornOn (k : Nat) (a1 : Int) : Option (Rw × Bool) :=
  ((impl_in a1 0 8).bind fun y2 => (if y2 = true then (if 0 ≤ a1 then (impl_BornOn_l0 k a1 (fun (v57 : Rw) => ((lib_SortF v57).bind fun y114 => (if y114.length = v57.length then some (y114, true) else none))) k ([] : Rw) 0) else none) else some (([] : Rw), false)))
set_option maxHeartbeats 4000000 in
set_option maxRecDepth 100000 in
theorem impl_BornOn_ct {k : Nat} {a1 : Int} {r : Rw × Bool} (h : impl_BornOn k a1 = some r) : Ct prog 6 [.d (D.int .i64 a1)] (⟨[], []⟩) (.tup [.os 8 r.1.length, .d (D.bool r.2)]) (⟨[], [(32, true, r.1)]⟩) := by
  rw [impl_BornOn] at h
  refine Ct.of (c := _) mixed func6 ⟨rfl, rfl, rfl⟩ ?_ rfl
  conv => whnf
  refine Pick.no ?_
  conv => whnf
  obtain ⟨y2, e3, h⟩ := bind_ex h
  refine CallOk.of (impl_in_ct e3) ?_
  conv => whnf
  refine spl (fun g4 => ?_) (fun g4 => ?_)
  · replace h := iteT h g4
    conv => whnf
    refine CutK.norm [0, 10] [] ?_
    conv => whnf
    refine CutK.norm [0] [] ?_
    conv => whnf
    obtain ⟨g5, h⟩ := req_ex h
    refine Req.of g5 ?_
    conv => whnf
    refine LoopOk.into (impl_BornOn_l0_ct  _ _ _ h) [some 704] [] ⟨⟨rfl, rfl⟩, ⟨rfl, ⟨rfl, rfl, rows_same⟩, trivial⟩, rfl, ⟨(by first | rfl | exact List.length_append.symm | (simp; done) | omega | (dsimp only; omega)), rfl⟩, rfl, rfl, trivial⟩ ?_ (fun _ hs => hs)
    rintro i ts os ⟨rfl, v57, h, rfl, rfl⟩
    conv => whnf
    refine CutK.norm [4] [67001] ?_
    conv => whnf
    refine Choice.new ?_
    conv => whnf
    refine Req.of (rfl) ?_
    conv => whnf
    obtain ⟨y114, e115, h⟩ := bind_ex h
    refine SortOk.of (lib_SortF_ct e115) ?_
    conv => whnf
    obtain ⟨g116, h⟩ := req_ex h
    refine CutK.norm [4] [67001] ?_
    conv => whnf
    cases h
    exact Done.of [some 67001] [] rfl rfl ⟨⟨rfl, rfl⟩, ⟨rfl, ⟨rfl, rfl, rows_same⟩, trivial⟩, ⟨⟨(by first | rfl | exact List.length_append.symm | (simp; done) | omega | (dsimp only; omega)), rfl⟩, rfl, trivial⟩, trivial⟩
  · replace h := iteF h g4
    conv => whnf
    refine CutK.norm [0, 10] [] ?_
    conv => whnf
    cases h
    exact Done.of [none] [] rfl rfl ⟨⟨rfl, rfl⟩, ⟨rfl, rfl, trivial⟩, ⟨⟨rfl, rfl⟩, rfl, trivial⟩, trivial⟩

def laws_markFractionS_3_l0 (a1 : Int) (K0 : Option Int) : Nat → Option Int
  | 0 => none
  | n + 1 => (K0)
set_option maxHeartbeats 4000000 in
set_option maxRecDepth 100000 in
theorem laws_markFractionS_3_l0_ct {a1 : Int} {K0 : Option Int} {r : Int} : ∀ (n : Nat), laws_markFractionS_3_l0 a1 K0 n = some r → LoopOk prog 0 (lp f8 0) (mk 27 [(0, .d (.sl [])), (1, .d (D.int .i64 a1)), (5, .d (D.int .i64 0))] []) (LoopEnd prog f8 0 27 (.d (D.int .i64 r)) (⟨[], []⟩) (fun i ts os => (i = 0 ∧ K0 = some r ∧ ts = [(1, .d (D.int .i64 a1))] ∧ os = [])))
  | 0, h => by
      rw [laws_markFractionS_3_l0] at h; cases h
  | n + 1, h => by
      rw [laws_markFractionS_3_l0] at h
      refine LoopOk.step ?_
      conv => whnf
      refine splD (fun g => absurd g (by decide)) (fun _ => ?_)
      conv => whnf
      exact ⟨_, _, [], [], ⟨rfl, h, rfl, rfl⟩, ⟨⟨rfl, rfl⟩, ⟨rfl, trivial⟩, rfl, trivial⟩⟩
def laws_markFractionS_3 (k : Nat) (a1 : Int) : Option Int :=
  (laws_markFractionS_3_l0 a1 (some a1) k)
set_option maxHeartbeats 4000000 in
set_option maxRecDepth 100000 in
theorem laws_markFractionS_3_ct {k : Nat} {a1 : Int} {r : Int} (h : laws_markFractionS_3 k a1 = some r) : Ct prog 8 [.d (.sl []), .d (D.int .i64 a1)] (⟨[], []⟩) (.d (D.int .i64 r)) (⟨[], []⟩) := by
  rw [laws_markFractionS_3] at h
  refine Ct.of (c := _) mixed func8 ⟨rfl, rfl, rfl⟩ ?_ rfl
  conv => whnf
  refine LoopOk.into (laws_markFractionS_3_l0_ct  _  h) [] [] ⟨⟨rfl, rfl⟩, ⟨rfl, trivial⟩, rfl, rfl, rfl, trivial⟩ ?_ (fun _ hs => hs)
  rintro i ts os ⟨rfl, h, rfl, rfl⟩
  conv => whnf
  refine CutK.go ?_
  conv => whnf
  cases h
  exact Done.of [] [] rfl rfl ⟨⟨rfl, rfl⟩, ⟨rfl, trivial⟩, rfl, trivial⟩

def laws_markFractionS_2_l0 (K0 : Int → Rw → Option (Int × Rw)) : Nat → Rw → Int → Int → Option (Int × Rw)
  | 0, _, _, _ => none
  | n + 1, v13, v14, v15 => (if v15 < (v13.length : Int) then (if 0 ≤ v15 ∧ v15 < (v13.length : Int) then (row_ii v13 v15 fun x40 x41 => (row_ii (v13.set ((v15 : Int).toNat) [D.int .i64 v14, D.int .i64 x41]) v15 fun x44 x45 => (laws_markFractionS_2_l0 K0 n ((v13.set ((v15 : Int).toNat) [D.int .i64 v14, D.int .i64 x41]).set ((v15 : Int).toNat) [D.int .i64 x44, D.int .i64 (IntKind.i64.wrap (v14 + 1))]) (IntKind.i64.wrap ((IntKind.i64.wrap (v14 + 1)) + 1)) (IntKind.i64.wrap (v15 + 1))))) else none) else (K0 v14 v13))
set_option maxHeartbeats 4000000 in
set_option maxRecDepth 100000 in
theorem laws_markFractionS_2_l0_ct {K0 : Int → Rw → Option (Int × Rw)} {T : TypeId} {r : Int × Rw} : ∀ (n : Nat) (v13 : Rw) (v14 : Int) (v15 : Int), laws_markFractionS_2_l0 K0 n v13 v14 v15 = some r → LoopOk prog 1 (lp f8 0) (mk 27 [(0, .os 0 v13.length), (1, .d (D.int .i64 v14)), (5, .d (D.int .i64 v15))] [(0, .arr T true v13)]) (LoopEndM 1 27 (fun i ts os => (i = 0 ∧ ∃ v26 : Int, ∃ v27 : Rw, K0 v26 v27 = some r ∧ ts = [(1, .d (D.int .i64 v26))] ∧ os = [(0, .arr T true v27)])))
  | 0, _, _, _, h => by
      rw [laws_markFractionS_2_l0] at h; cases h
  | n + 1, v13, v14, v15, h => by
      rw [laws_markFractionS_2_l0] at h
      refine LoopOk.step ?_
      conv => whnf
      refine splD (fun g38 => ?_) (fun g38 => ?_)
      · replace h := iteP h g38
        conv => whnf
        obtain ⟨g39, h⟩ := req_ex h
        refine Req.of g39 ?_
        conv => whnf
        obtain ⟨g43, x40, x41, e42, h⟩ := row_ii_ex h
        refine Row.of _ e42 ?_
        conv => whnf
        refine Req.of g39 ?_
        conv => whnf
        obtain ⟨g47, x44, x45, e46, h⟩ := row_ii_ex h
        refine Row.of _ e46 ?_
        conv => whnf
        exact LoopOk.back (laws_markFractionS_2_l0_ct  n _ _ _ h) [some 0] [] ⟨⟨rfl, rfl⟩, ⟨rfl, ⟨rfl, rfl, rows_same⟩, trivial⟩, ⟨(by first | rfl | exact List.length_append.symm | (simp; done) | omega | (dsimp only; omega)), rfl⟩, rfl, rfl, trivial⟩
      · replace h := iteN h g38
        conv => whnf
        exact ⟨_, _, [some 0], [], ⟨rfl, _, _, h, rfl, rfl⟩, ⟨⟨rfl, rfl⟩, ⟨rfl, ⟨rfl, rfl, rows_same⟩, trivial⟩, rfl, trivial⟩⟩
def laws_markFractionS_2 (k : Nat) (a1 : Rw) (a2 : Int) : Option (Int × Rw) :=
  (if a1.isEmpty = true then ((laws_markFractionS_3 k a2).bind fun y => some (y, ([] : Rw))) else (laws_markFractionS_2_l0 (fun (v26 : Int) (v27 : Rw) => (if v27.length = a1.length then some (v26, v27) else none)) k a1 a2 0))
set_option maxHeartbeats 4000000 in
set_option maxRecDepth 100000 in
theorem laws_markFractionS_2_ct {k : Nat} {a1 : Rw} {a2 : Int} {r : Int × Rw} (h : laws_markFractionS_2 k a1 a2 = some r) : CtM prog 8 false [.int .i64 a2] a1 (.int .i64 r.1) r.2 := by
  rw [laws_markFractionS_2] at h
  refine CtM.of (c := _) mixed func8 ⟨rfl, rfl, rfl⟩ rfl (fun hne T => ?_) (fun h0 => ?_)
  · replace h := iteF h (by cases a1 with | nil => exact absurd rfl hne | cons _ _ => rfl)
    conv => whnf
    refine LoopOk.intoM (laws_markFractionS_2_l0_ct  _ _ _ _ h) [some 0] [] ⟨⟨rfl, rfl⟩, ⟨rfl, ⟨rfl, rfl, rows_same⟩, trivial⟩, ⟨rfl, rfl⟩, rfl, rfl, trivial⟩ ?_
    rintro i ts os ⟨rfl, v26, v27, h, rfl, rfl⟩
    conv => whnf
    refine CutK.go ?_
    conv => whnf
    obtain ⟨g48, h⟩ := req_ex h
    cases h
    exact DoneM.of [some 0] [] rfl g48 ⟨⟨rfl, rfl⟩, ⟨rfl, ⟨rfl, rfl, rows_same⟩, trivial⟩, rfl, trivial⟩
  · subst h0
    replace h := iteT h rfl
    obtain ⟨y, e, h⟩ := bind_ex h
    cases h
    exact ⟨rfl, laws_markFractionS_3_ct e⟩

def spec_l1In  (a1 : Int) (a2 : Int) (a3 : Int) : Option Bool :=
  (if a2 ≤ a1 then (if a1 ≤ a3 then some true else some false) else some false)
set_option maxHeartbeats 4000000 in
set_option maxRecDepth 100000 in
theorem spec_l1In_ct  {a1 : Int} {a2 : Int} {a3 : Int} {r : Bool} (h : spec_l1In a1 a2 a3 = some r) : Ct prog 15 [.d (D.int .i64 a1), .d (D.int .i64 a2), .d (D.int .i64 a3)] (⟨[], []⟩) (.d (D.bool r)) (⟨[], []⟩) := by
  rw [spec_l1In] at h
  refine Ct.of (c := _) mixed func15 ⟨rfl, rfl, rfl⟩ ?_ rfl
  conv => whnf
  refine splD (fun g4 => ?_) (fun g4 => ?_)
  · replace h := iteP h g4
    conv => whnf
    refine splD (fun g5 => ?_) (fun g5 => ?_)
    · replace h := iteP h g5
      conv => whnf
      cases h
      exact Done.of [] [] rfl rfl ⟨⟨rfl, rfl⟩, ⟨rfl, trivial⟩, rfl, trivial⟩
    · replace h := iteN h g5
      conv => whnf
      cases h
      exact Done.of [] [] rfl rfl ⟨⟨rfl, rfl⟩, ⟨rfl, trivial⟩, rfl, trivial⟩
  · replace h := iteN h g4
    conv => whnf
    cases h
    exact Done.of [] [] rfl rfl ⟨⟨rfl, rfl⟩, ⟨rfl, trivial⟩, rfl, trivial⟩

def spec_shInt  (a1 : Int) : Option (Int × Int) :=
  some (a1, 1)
set_option maxHeartbeats 4000000 in
set_option maxRecDepth 100000 in
theorem spec_shInt_ct  {a1 : Int} {r : Int × Int} (h : spec_shInt a1 = some r) : Ct prog 52 [.d (D.int .i64 a1)] (⟨[], []⟩) (.agg [.d (D.int .i64 r.1), .d (D.int .i64 r.2)]) (⟨[], []⟩) := by
  rw [spec_shInt] at h
  refine Ct.of (c := _) mixed func52 ⟨rfl, rfl, rfl⟩ ?_ rfl
  conv => whnf
  cases h
  exact Done.of [] [] rfl rfl ⟨⟨rfl, rfl⟩, ⟨rfl, trivial⟩, ⟨rfl, rfl, trivial⟩, trivial⟩

def spec_shStart   : Option (Int × Int × Int × Int × Int × Int × Bool × Bool) :=
  ((spec_shInt 0).bind fun y1 => some (y1.1, y1.2, 0, 0, 0, 0, false, false))
set_option maxHeartbeats 4000000 in
set_option maxRecDepth 100000 in
theorem spec_shStart_ct   {r : Int × Int × Int × Int × Int × Int × Bool × Bool} (h : spec_shStart = some r) : Ct prog 34 [] (⟨[], []⟩) (.agg [.d (D.int .i64 r.1), .d (D.int .i64 r.2.1), .d (D.int .i64 r.2.2.1), .d (D.int .i64 r.2.2.2.1), .d (D.int .i64 r.2.2.2.2.1), .d (D.int .i64 r.2.2.2.2.2.1), .d (D.bool r.2.2.2.2.2.2.1), .d (D.bool r.2.2.2.2.2.2.2)]) (⟨[], []⟩) := by
  rw [spec_shStart] at h
  refine Ct.of (c := _) mixed func34 ⟨rfl, rfl, rfl⟩ ?_ rfl
  conv => whnf
  refine Pick.no ?_
  conv => whnf
  obtain ⟨y1, e2, h⟩ := bind_ex h
  refine CallOk.of (spec_shInt_ct e2) ?_
  conv => whnf
  refine CutK.go ?_
  conv => whnf
  cases h
  exact Done.of [] [] rfl rfl ⟨⟨rfl, rfl⟩, ⟨rfl, trivial⟩, ⟨rfl, rfl, rfl, rfl, rfl, rfl, rfl, rfl, trivial⟩, trivial⟩

def spec_l1Most  (a1 : Int) (a2 : Int) : Option Int :=
  (if a2 < a1 then some a1 else some a2)
set_option maxHeartbeats 4000000 in
set_option maxRecDepth 100000 in
theorem spec_l1Most_ct  {a1 : Int} {a2 : Int} {r : Int} (h : spec_l1Most a1 a2 = some r) : Ct prog 65 [.d (D.int .i64 a1), .d (D.int .i64 a2)] (⟨[], []⟩) (.d (D.int .i64 r)) (⟨[], []⟩) := by
  rw [spec_l1Most] at h
  refine Ct.of (c := _) mixed func65 ⟨rfl, rfl, rfl⟩ ?_ rfl
  conv => whnf
  refine splD (fun g3 => ?_) (fun g3 => ?_)
  · replace h := iteP h g3
    conv => whnf
    cases h
    exact Done.of [] [] rfl rfl ⟨⟨rfl, rfl⟩, ⟨rfl, trivial⟩, rfl, trivial⟩
  · replace h := iteN h g3
    conv => whnf
    cases h
    exact Done.of [] [] rfl rfl ⟨⟨rfl, rfl⟩, ⟨rfl, trivial⟩, rfl, trivial⟩

def spec_l1Abs  (a1 : Int) : Option Int :=
  ((spec_l1Most a1 (IntKind.i64.wrap (0 - a1))).bind fun y2 => some y2)
set_option maxHeartbeats 4000000 in
set_option maxRecDepth 100000 in
theorem spec_l1Abs_ct  {a1 : Int} {r : Int} (h : spec_l1Abs a1 = some r) : Ct prog 64 [.d (D.int .i64 a1)] (⟨[], []⟩) (.d (D.int .i64 r)) (⟨[], []⟩) := by
  rw [spec_l1Abs] at h
  refine Ct.of (c := _) mixed func64 ⟨rfl, rfl, rfl⟩ ?_ rfl
  conv => whnf
  refine Pick.no ?_
  conv => whnf
  obtain ⟨y2, e3, h⟩ := bind_ex h
  refine CallOk.of (spec_l1Most_ct e3) ?_
  conv => whnf
  refine CutK.go ?_
  conv => whnf
  cases h
  exact Done.of [] [] rfl rfl ⟨⟨rfl, rfl⟩, ⟨rfl, trivial⟩, rfl, trivial⟩

def spec_shGcd_l0 (K0 : Int → Option Int) : Nat → Int → Int → Option Int
  | 0, _, _ => none
  | n + 1, v5, v6 => (if v6 = (0 : Int) then (K0 v5) else (if v6 ≠ 0 then (spec_shGcd_l0 K0 n v6 (v5.tmod v6)) else none))
set_option maxHeartbeats 4000000 in
set_option maxRecDepth 100000 in
theorem spec_shGcd_l0_ct {K0 : Int → Option Int} {r : Int} : ∀ (n : Nat) (v5 : Int) (v6 : Int), spec_shGcd_l0 K0 n v5 v6 = some r → LoopOk prog 0 (lp f63 0) (mk 13 [(0, .d (D.int .i64 v5)), (1, .d (D.int .i64 v6))] []) (LoopEnd prog f63 0 13 (.d (D.int .i64 r)) (⟨[], []⟩) (fun i ts os => (i = 0 ∧ ∃ v9 : Int, K0 v9 = some r ∧ ts = [(0, .d (D.int .i64 v9))] ∧ os = [])))
  | 0, _, _, h => by
      rw [spec_shGcd_l0] at h; cases h
  | n + 1, v5, v6, h => by
      rw [spec_shGcd_l0] at h
      refine LoopOk.step ?_
      conv => whnf
      refine splN (fun g12 => ?_) (fun g12 => ?_)
      · replace h := iteN h g12
        conv => whnf
        obtain ⟨g13, h⟩ := req_ex h
        refine Req.of g13 ?_
        conv => whnf
        exact LoopOk.back (spec_shGcd_l0_ct  n _ _ h) [] [] ⟨⟨rfl, rfl⟩, ⟨rfl, trivial⟩, rfl, rfl, trivial⟩
      · replace h := iteP h g12
        conv => whnf
        exact ⟨_, _, [], [], ⟨rfl, _, h, rfl, rfl⟩, ⟨⟨rfl, rfl⟩, ⟨rfl, trivial⟩, rfl, trivial⟩⟩
def spec_shGcd (k : Nat) (a1 : Int) (a2 : Int) : Option Int :=
  (spec_shGcd_l0 (fun (v9 : Int) => ((spec_l1Abs v9).bind fun y14 => some y14)) k a1 a2)
set_option maxHeartbeats 4000000 in
set_option maxRecDepth 100000 in
theorem spec_shGcd_ct {k : Nat} {a1 : Int} {a2 : Int} {r : Int} (h : spec_shGcd k a1 a2 = some r) : Ct prog 63 [.d (D.int .i64 a1), .d (D.int .i64 a2)] (⟨[], []⟩) (.d (D.int .i64 r)) (⟨[], []⟩) := by
  rw [spec_shGcd] at h
  refine Ct.of (c := _) mixed func63 ⟨rfl, rfl, rfl⟩ ?_ rfl
  conv => whnf
  refine LoopOk.into (spec_shGcd_l0_ct  _ _ _ h) [] [] ⟨⟨rfl, rfl⟩, ⟨rfl, trivial⟩, rfl, rfl, trivial⟩ ?_ (fun _ hs => hs)
  rintro i ts os ⟨rfl, v9, h, rfl, rfl⟩
  conv => whnf
  refine CutK.go ?_
  conv => whnf
  refine Pick.no ?_
  conv => whnf
  obtain ⟨y14, e15, h⟩ := bind_ex h
  refine CallOk.of (spec_l1Abs_ct e15) ?_
  conv => whnf
  refine CutK.go ?_
  conv => whnf
  cases h
  exact Done.of [] [] rfl rfl ⟨⟨rfl, rfl⟩, ⟨rfl, trivial⟩, rfl, trivial⟩

def spec_shMake (k : Nat) (a1 : Int) (a2 : Int) : Option (Int × Int) :=
  ((spec_shGcd k a1 a2).bind fun y3 => (if a2 < (0 : Int) then (if (IntKind.i64.wrap (0 - y3)) ≠ 0 then some (IntKind.i64.wrap (a1.tdiv (IntKind.i64.wrap (0 - y3))), IntKind.i64.wrap (a2.tdiv (IntKind.i64.wrap (0 - y3)))) else none) else (if y3 ≠ 0 then some (IntKind.i64.wrap (a1.tdiv y3), IntKind.i64.wrap (a2.tdiv y3)) else none)))
set_option maxHeartbeats 4000000 in
set_option maxRecDepth 100000 in
theorem spec_shMake_ct {k : Nat} {a1 : Int} {a2 : Int} {r : Int × Int} (h : spec_shMake k a1 a2 = some r) : Ct prog 61 [.d (D.int .i64 a1), .d (D.int .i64 a2)] (⟨[], []⟩) (.agg [.d (D.int .i64 r.1), .d (D.int .i64 r.2)]) (⟨[], []⟩) := by
  rw [spec_shMake] at h
  refine Ct.of (c := _) mixed func61 ⟨rfl, rfl, rfl⟩ ?_ rfl
  conv => whnf
  refine Pick.no ?_
  conv => whnf
  obtain ⟨y3, e4, h⟩ := bind_ex h
  refine CallOk.of (spec_shGcd_ct e4) ?_
  conv => whnf
  refine CutK.go ?_
  conv => whnf
  refine splD (fun g5 => ?_) (fun g5 => ?_)
  · replace h := iteP h g5
    conv => whnf
    obtain ⟨g6, h⟩ := req_ex h
    refine Req.of g6 ?_
    conv => whnf
    refine Req.of g6 ?_
    conv => whnf
    cases h
    exact Done.of [] [] rfl rfl ⟨⟨rfl, rfl⟩, ⟨rfl, trivial⟩, ⟨rfl, rfl, trivial⟩, trivial⟩
  · replace h := iteN h g5
    conv => whnf
    obtain ⟨g7, h⟩ := req_ex h
    refine Req.of g7 ?_
    conv => whnf
    refine Req.of g7 ?_
    conv => whnf
    cases h
    exact Done.of [] [] rfl rfl ⟨⟨rfl, rfl⟩, ⟨rfl, trivial⟩, ⟨rfl, rfl, trivial⟩, trivial⟩

def spec_shAdd (k : Nat) (a1 : Int) (a2 : Int) (a3 : Int) (a4 : Int) : Option (Int × Int) :=
  ((spec_shMake k (IntKind.i64.wrap ((IntKind.i64.wrap (a1 * a4)) + (IntKind.i64.wrap (a3 * a2)))) (IntKind.i64.wrap (a2 * a4))).bind fun y5 => some (y5.1, y5.2))
set_option maxHeartbeats 4000000 in
set_option maxRecDepth 100000 in
theorem spec_shAdd_ct {k : Nat} {a1 : Int} {a2 : Int} {a3 : Int} {a4 : Int} {r : Int × Int} (h : spec_shAdd k a1 a2 a3 a4 = some r) : Ct prog 54 [.agg [.d (D.int .i64 a1), .d (D.int .i64 a2)], .agg [.d (D.int .i64 a3), .d (D.int .i64 a4)]] (⟨[], []⟩) (.agg [.d (D.int .i64 r.1), .d (D.int .i64 r.2)]) (⟨[], []⟩) := by
  rw [spec_shAdd] at h
  refine Ct.of (c := _) mixed func54 ⟨rfl, rfl, rfl⟩ ?_ rfl
  conv => whnf
  refine Pick.no ?_
  conv => whnf
  obtain ⟨y5, e6, h⟩ := bind_ex h
  refine CallOk.of (spec_shMake_ct e6) ?_
  conv => whnf
  refine CutK.go ?_
  conv => whnf
  cases h
  exact Done.of [] [] rfl rfl ⟨⟨rfl, rfl⟩, ⟨rfl, trivial⟩, ⟨rfl, rfl, trivial⟩, trivial⟩

def spec_shMul (k : Nat) (a1 : Int) (a2 : Int) (a3 : Int) (a4 : Int) : Option (Int × Int) :=
  ((spec_shMake k (IntKind.i64.wrap (a1 * a3)) (IntKind.i64.wrap (a2 * a4))).bind fun y5 => some (y5.1, y5.2))
set_option maxHeartbeats 4000000 in
set_option maxRecDepth 100000 in
theorem spec_shMul_ct {k : Nat} {a1 : Int} {a2 : Int} {a3 : Int} {a4 : Int} {r : Int × Int} (h : spec_shMul k a1 a2 a3 a4 = some r) : Ct prog 53 [.agg [.d (D.int .i64 a1), .d (D.int .i64 a2)], .agg [.d (D.int .i64 a3), .d (D.int .i64 a4)]] (⟨[], []⟩) (.agg [.d (D.int .i64 r.1), .d (D.int .i64 r.2)]) (⟨[], []⟩) := by
  rw [spec_shMul] at h
  refine Ct.of (c := _) mixed func53 ⟨rfl, rfl, rfl⟩ ?_ rfl
  conv => whnf
  refine Pick.no ?_
  conv => whnf
  obtain ⟨y5, e6, h⟩ := bind_ex h
  refine CallOk.of (spec_shMake_ct e6) ?_
  conv => whnf
  refine CutK.go ?_
  conv => whnf
  cases h
  exact Done.of [] [] rfl rfl ⟨⟨rfl, rfl⟩, ⟨rfl, trivial⟩, ⟨rfl, rfl, trivial⟩, trivial⟩

def spec_shWalk_step (k : Nat) (a1 : Int) (a2 : Int) (a3 : Int) (a4 : Int) (a5 : Int) (a6 : Int) (a7 : Bool) (a8 : Bool) (a9 : Bool) : Option (Int × Int × Int × Int × Int × Int × Bool × Bool) :=
  (cond a7 (cond a8 (cond a9 ((spec_shAdd k a1 a2 a5 a6).bind fun y38 => ((spec_shMul k y38.1 y38.2 1 2).bind fun y40 => some (y40.1, y40.2, a1, a2, a5, a6, true, true))) ((spec_shAdd k a3 a4 a1 a2).bind fun y34 => ((spec_shMul k y34.1 y34.2 1 2).bind fun y36 => some (y36.1, y36.2, a3, a4, a1, a2, true, true)))) (cond a9 ((spec_shInt 1).bind fun y30 => ((spec_shAdd k a1 a2 y30.1 y30.2).bind fun y32 => some (y32.1, y32.2, a1, a2, a5, a6, true, false))) ((spec_shAdd k a3 a4 a1 a2).bind fun y26 => ((spec_shMul k y26.1 y26.2 1 2).bind fun y28 => some (y28.1, y28.2, a3, a4, a1, a2, true, true))))) (cond a8 (cond a9 ((spec_shAdd k a1 a2 a5 a6).bind fun y22 => ((spec_shMul k y22.1 y22.2 1 2).bind fun y24 => some (y24.1, y24.2, a1, a2, a5, a6, true, true))) ((spec_shInt (-1)).bind fun y18 => ((spec_shAdd k a1 a2 y18.1 y18.2).bind fun y20 => some (y20.1, y20.2, a3, a4, a1, a2, false, true)))) (cond a9 ((spec_shInt 1).bind fun y14 => ((spec_shAdd k a1 a2 y14.1 y14.2).bind fun y16 => some (y16.1, y16.2, a1, a2, a5, a6, true, false))) ((spec_shInt (-1)).bind fun y10 => ((spec_shAdd k a1 a2 y10.1 y10.2).bind fun y12 => some (y12.1, y12.2, a3, a4, a1, a2, false, true))))))
set_option maxHeartbeats 4000000 in
set_option maxRecDepth 100000 in
theorem spec_shWalk_step_ct {k : Nat} {a1 : Int} {a2 : Int} {a3 : Int} {a4 : Int} {a5 : Int} {a6 : Int} {a7 : Bool} {a8 : Bool} {a9 : Bool} {r : Int × Int × Int × Int × Int × Int × Bool × Bool} (h : spec_shWalk_step k a1 a2 a3 a4 a5 a6 a7 a8 a9 = some r) : Ct prog 35 [.agg [.d (D.int .i64 a1), .d (D.int .i64 a2), .d (D.int .i64 a3), .d (D.int .i64 a4), .d (D.int .i64 a5), .d (D.int .i64 a6), .d (D.bool a7), .d (D.bool a8)], .d (D.bool a9)] (⟨[], []⟩) (.agg [.d (D.int .i64 r.1), .d (D.int .i64 r.2.1), .d (D.int .i64 r.2.2.1), .d (D.int .i64 r.2.2.2.1), .d (D.int .i64 r.2.2.2.2.1), .d (D.int .i64 r.2.2.2.2.2.1), .d (D.bool r.2.2.2.2.2.2.1), .d (D.bool r.2.2.2.2.2.2.2)]) (⟨[], []⟩) := by
  rw [spec_shWalk_step] at h
  refine Ct.of (c := _) mixed func35 ⟨rfl, rfl, rfl⟩ ?_ rfl
  cases a7
  · replace h := condF h
    cases a8
    · replace h := condF h
      cases a9
      · replace h := condF h
        conv => whnf
        refine splF ?_
        conv => whnf
        refine Pick.no ?_
        conv => whnf
        obtain ⟨y10, e11, h⟩ := bind_ex h
        refine CallOk.of (spec_shInt_ct e11) ?_
        conv => whnf
        refine Pick.no ?_
        conv => whnf
        obtain ⟨y12, e13, h⟩ := bind_ex h
        refine CallOk.of (spec_shAdd_ct e13) ?_
        conv => whnf
        refine CutK.norm [2, 4] [128, 256] ?_
        conv => whnf
        refine splF ?_
        conv => whnf
        refine splT ?_
        conv => whnf
        cases h
        exact Done.of [] [] rfl rfl ⟨⟨rfl, rfl⟩, ⟨rfl, trivial⟩, ⟨rfl, rfl, rfl, rfl, rfl, rfl, rfl, rfl, trivial⟩, trivial⟩
      · replace h := condT h
        conv => whnf
        refine splT ?_
        conv => whnf
        refine splF ?_
        conv => whnf
        refine Pick.no ?_
        conv => whnf
        obtain ⟨y14, e15, h⟩ := bind_ex h
        refine CallOk.of (spec_shInt_ct e15) ?_
        conv => whnf
        refine Pick.no ?_
        conv => whnf
        obtain ⟨y16, e17, h⟩ := bind_ex h
        refine CallOk.of (spec_shAdd_ct e17) ?_
        conv => whnf
        refine CutK.norm [2, 4] [128, 256] ?_
        conv => whnf
        refine splT ?_
        conv => whnf
        refine splF ?_
        conv => whnf
        cases h
        exact Done.of [] [] rfl rfl ⟨⟨rfl, rfl⟩, ⟨rfl, trivial⟩, ⟨rfl, rfl, rfl, rfl, rfl, rfl, rfl, rfl, trivial⟩, trivial⟩
    · replace h := condT h
      cases a9
      · replace h := condF h
        conv => whnf
        refine splF ?_
        conv => whnf
        refine Pick.no ?_
        conv => whnf
        obtain ⟨y18, e19, h⟩ := bind_ex h
        refine CallOk.of (spec_shInt_ct e19) ?_
        conv => whnf
        refine Pick.no ?_
        conv => whnf
        obtain ⟨y20, e21, h⟩ := bind_ex h
        refine CallOk.of (spec_shAdd_ct e21) ?_
        conv => whnf
        refine CutK.norm [2, 4] [128, 256] ?_
        conv => whnf
        refine splF ?_
        conv => whnf
        refine splT ?_
        conv => whnf
        cases h
        exact Done.of [] [] rfl rfl ⟨⟨rfl, rfl⟩, ⟨rfl, trivial⟩, ⟨rfl, rfl, rfl, rfl, rfl, rfl, rfl, rfl, trivial⟩, trivial⟩
      · replace h := condT h
        conv => whnf
        refine splT ?_
        conv => whnf
        refine splT ?_
        conv => whnf
        refine Pick.no ?_
        conv => whnf
        obtain ⟨y22, e23, h⟩ := bind_ex h
        refine CallOk.of (spec_shAdd_ct e23) ?_
        conv => whnf
        refine Pick.no ?_
        conv => whnf
        obtain ⟨y24, e25, h⟩ := bind_ex h
        refine CallOk.of (spec_shMul_ct e25) ?_
        conv => whnf
        refine CutK.norm [2, 4] [128, 256] ?_
        conv => whnf
        refine splT ?_
        conv => whnf
        refine splT ?_
        conv => whnf
        cases h
        exact Done.of [] [] rfl rfl ⟨⟨rfl, rfl⟩, ⟨rfl, trivial⟩, ⟨rfl, rfl, rfl, rfl, rfl, rfl, rfl, rfl, trivial⟩, trivial⟩
  · replace h := condT h
    cases a8
    · replace h := condF h
      cases a9
      · replace h := condF h
        conv => whnf
        refine splT ?_
        conv => whnf
        refine splT ?_
        conv => whnf
        refine Pick.no ?_
        conv => whnf
        obtain ⟨y26, e27, h⟩ := bind_ex h
        refine CallOk.of (spec_shAdd_ct e27) ?_
        conv => whnf
        refine Pick.no ?_
        conv => whnf
        obtain ⟨y28, e29, h⟩ := bind_ex h
        refine CallOk.of (spec_shMul_ct e29) ?_
        conv => whnf
        refine CutK.norm [2, 4] [128, 256] ?_
        conv => whnf
        refine splT ?_
        conv => whnf
        refine splT ?_
        conv => whnf
        cases h
        exact Done.of [] [] rfl rfl ⟨⟨rfl, rfl⟩, ⟨rfl, trivial⟩, ⟨rfl, rfl, rfl, rfl, rfl, rfl, rfl, rfl, trivial⟩, trivial⟩
      · replace h := condT h
        conv => whnf
        refine splT ?_
        conv => whnf
        refine splF ?_
        conv => whnf
        refine Pick.no ?_
        conv => whnf
        obtain ⟨y30, e31, h⟩ := bind_ex h
        refine CallOk.of (spec_shInt_ct e31) ?_
        conv => whnf
        refine Pick.no ?_
        conv => whnf
        obtain ⟨y32, e33, h⟩ := bind_ex h
        refine CallOk.of (spec_shAdd_ct e33) ?_
        conv => whnf
        refine CutK.norm [2, 4] [128, 256] ?_
        conv => whnf
        refine splT ?_
        conv => whnf
        refine splF ?_
        conv => whnf
        cases h
        exact Done.of [] [] rfl rfl ⟨⟨rfl, rfl⟩, ⟨rfl, trivial⟩, ⟨rfl, rfl, rfl, rfl, rfl, rfl, rfl, rfl, trivial⟩, trivial⟩
    · replace h := condT h
      cases a9
      · replace h := condF h
        conv => whnf
        refine splT ?_
        conv => whnf
        refine splT ?_
        conv => whnf
        refine Pick.no ?_
        conv => whnf
        obtain ⟨y34, e35, h⟩ := bind_ex h
        refine CallOk.of (spec_shAdd_ct e35) ?_
        conv => whnf
        refine Pick.no ?_
        conv => whnf
        obtain ⟨y36, e37, h⟩ := bind_ex h
        refine CallOk.of (spec_shMul_ct e37) ?_
        conv => whnf
        refine CutK.norm [2, 4] [128, 256] ?_
        conv => whnf
        refine splT ?_
        conv => whnf
        refine splT ?_
        conv => whnf
        cases h
        exact Done.of [] [] rfl rfl ⟨⟨rfl, rfl⟩, ⟨rfl, trivial⟩, ⟨rfl, rfl, rfl, rfl, rfl, rfl, rfl, rfl, trivial⟩, trivial⟩
      · replace h := condT h
        conv => whnf
        refine splT ?_
        conv => whnf
        refine splT ?_
        conv => whnf
        refine Pick.no ?_
        conv => whnf
        obtain ⟨y38, e39, h⟩ := bind_ex h
        refine CallOk.of (spec_shAdd_ct e39) ?_
        conv => whnf
        refine Pick.no ?_
        conv => whnf
        obtain ⟨y40, e41, h⟩ := bind_ex h
        refine CallOk.of (spec_shMul_ct e41) ?_
        conv => whnf
        refine CutK.norm [2, 4] [128, 256] ?_
        conv => whnf
        refine splT ?_
        conv => whnf
        refine splT ?_
        conv => whnf
        cases h
        exact Done.of [] [] rfl rfl ⟨⟨rfl, rfl⟩, ⟨rfl, trivial⟩, ⟨rfl, rfl, rfl, rfl, rfl, rfl, rfl, rfl, trivial⟩, trivial⟩

def spec_shValue_l0 (k : Nat) (a1 : ByteArray) (K0 : Int → Int → Int → Int → Int → Int → Bool → Bool → Option (Int × Int)) : Nat → Int → Int → Int → Int → Int → Int → Int → Bool → Bool → Option (Int × Int)
  | 0, _, _, _, _, _, _, _, _, _ => none
  | n + 1, v15, v16, v17, v18, v19, v20, v21, v22, v24 => (cond v22 (cond v24 (if v15 < (a1.size : Int) then (byteD a1 v15 fun b204 => (if (b204.toNat : Int) = (43 : Int) then ((spec_shWalk_step k v16 v17 v18 v19 v20 v21 true true true).bind fun y208 => (if y208.2.2.2.2.2.2.1 = true then (if y208.2.2.2.2.2.2.2 = true then (spec_shValue_l0 k a1 K0 n (IntKind.i64.wrap (v15 + 1)) y208.1 y208.2.1 y208.2.2.1 y208.2.2.2.1 y208.2.2.2.2.1 y208.2.2.2.2.2.1 true true) else (spec_shValue_l0 k a1 K0 n (IntKind.i64.wrap (v15 + 1)) y208.1 y208.2.1 y208.2.2.1 y208.2.2.2.1 y208.2.2.2.2.1 y208.2.2.2.2.2.1 false true)) else (if y208.2.2.2.2.2.2.2 = true then (spec_shValue_l0 k a1 K0 n (IntKind.i64.wrap (v15 + 1)) y208.1 y208.2.1 y208.2.2.1 y208.2.2.2.1 y208.2.2.2.2.1 y208.2.2.2.2.2.1 true false) else (spec_shValue_l0 k a1 K0 n (IntKind.i64.wrap (v15 + 1)) y208.1 y208.2.1 y208.2.2.1 y208.2.2.2.1 y208.2.2.2.2.1 y208.2.2.2.2.2.1 false false)))) else ((spec_shWalk_step k v16 v17 v18 v19 v20 v21 true true false).bind fun y213 => (if y213.2.2.2.2.2.2.1 = true then (if y213.2.2.2.2.2.2.2 = true then (spec_shValue_l0 k a1 K0 n (IntKind.i64.wrap (v15 + 1)) y213.1 y213.2.1 y213.2.2.1 y213.2.2.2.1 y213.2.2.2.2.1 y213.2.2.2.2.2.1 true true) else (spec_shValue_l0 k a1 K0 n (IntKind.i64.wrap (v15 + 1)) y213.1 y213.2.1 y213.2.2.1 y213.2.2.2.1 y213.2.2.2.2.1 y213.2.2.2.2.2.1 false true)) else (if y213.2.2.2.2.2.2.2 = true then (spec_shValue_l0 k a1 K0 n (IntKind.i64.wrap (v15 + 1)) y213.1 y213.2.1 y213.2.2.1 y213.2.2.2.1 y213.2.2.2.2.1 y213.2.2.2.2.2.1 true false) else (spec_shValue_l0 k a1 K0 n (IntKind.i64.wrap (v15 + 1)) y213.1 y213.2.1 y213.2.2.1 y213.2.2.2.1 y213.2.2.2.2.1 y213.2.2.2.2.2.1 false false)))))) else (K0 v16 v17 v18 v19 v20 v21 true true)) (if v15 < (a1.size : Int) then (byteD a1 v15 fun b189 => (if (b189.toNat : Int) = (43 : Int) then ((spec_shWalk_step k v16 v17 v18 v19 v20 v21 false true true).bind fun y193 => (if y193.2.2.2.2.2.2.1 = true then (if y193.2.2.2.2.2.2.2 = true then (spec_shValue_l0 k a1 K0 n (IntKind.i64.wrap (v15 + 1)) y193.1 y193.2.1 y193.2.2.1 y193.2.2.2.1 y193.2.2.2.2.1 y193.2.2.2.2.2.1 true true) else (spec_shValue_l0 k a1 K0 n (IntKind.i64.wrap (v15 + 1)) y193.1 y193.2.1 y193.2.2.1 y193.2.2.2.1 y193.2.2.2.2.1 y193.2.2.2.2.2.1 false true)) else (if y193.2.2.2.2.2.2.2 = true then (spec_shValue_l0 k a1 K0 n (IntKind.i64.wrap (v15 + 1)) y193.1 y193.2.1 y193.2.2.1 y193.2.2.2.1 y193.2.2.2.2.1 y193.2.2.2.2.2.1 true false) else (spec_shValue_l0 k a1 K0 n (IntKind.i64.wrap (v15 + 1)) y193.1 y193.2.1 y193.2.2.1 y193.2.2.2.1 y193.2.2.2.2.1 y193.2.2.2.2.2.1 false false)))) else ((spec_shWalk_step k v16 v17 v18 v19 v20 v21 false true false).bind fun y198 => (if y198.2.2.2.2.2.2.1 = true then (if y198.2.2.2.2.2.2.2 = true then (spec_shValue_l0 k a1 K0 n (IntKind.i64.wrap (v15 + 1)) y198.1 y198.2.1 y198.2.2.1 y198.2.2.2.1 y198.2.2.2.2.1 y198.2.2.2.2.2.1 true true) else (spec_shValue_l0 k a1 K0 n (IntKind.i64.wrap (v15 + 1)) y198.1 y198.2.1 y198.2.2.1 y198.2.2.2.1 y198.2.2.2.2.1 y198.2.2.2.2.2.1 false true)) else (if y198.2.2.2.2.2.2.2 = true then (spec_shValue_l0 k a1 K0 n (IntKind.i64.wrap (v15 + 1)) y198.1 y198.2.1 y198.2.2.1 y198.2.2.2.1 y198.2.2.2.2.1 y198.2.2.2.2.2.1 true false) else (spec_shValue_l0 k a1 K0 n (IntKind.i64.wrap (v15 + 1)) y198.1 y198.2.1 y198.2.2.1 y198.2.2.2.1 y198.2.2.2.2.1 y198.2.2.2.2.2.1 false false)))))) else (K0 v16 v17 v18 v19 v20 v21 false true))) (cond v24 (if v15 < (a1.size : Int) then (byteD a1 v15 fun b174 => (if (b174.toNat : Int) = (43 : Int) then ((spec_shWalk_step k v16 v17 v18 v19 v20 v21 true false true).bind fun y178 => (if y178.2.2.2.2.2.2.1 = true then (if y178.2.2.2.2.2.2.2 = true then (spec_shValue_l0 k a1 K0 n (IntKind.i64.wrap (v15 + 1)) y178.1 y178.2.1 y178.2.2.1 y178.2.2.2.1 y178.2.2.2.2.1 y178.2.2.2.2.2.1 true true) else (spec_shValue_l0 k a1 K0 n (IntKind.i64.wrap (v15 + 1)) y178.1 y178.2.1 y178.2.2.1 y178.2.2.2.1 y178.2.2.2.2.1 y178.2.2.2.2.2.1 false true)) else (if y178.2.2.2.2.2.2.2 = true then (spec_shValue_l0 k a1 K0 n (IntKind.i64.wrap (v15 + 1)) y178.1 y178.2.1 y178.2.2.1 y178.2.2.2.1 y178.2.2.2.2.1 y178.2.2.2.2.2.1 true false) else (spec_shValue_l0 k a1 K0 n (IntKind.i64.wrap (v15 + 1)) y178.1 y178.2.1 y178.2.2.1 y178.2.2.2.1 y178.2.2.2.2.1 y178.2.2.2.2.2.1 false false)))) else ((spec_shWalk_step k v16 v17 v18 v19 v20 v21 true false false).bind fun y183 => (if y183.2.2.2.2.2.2.1 = true then (if y183.2.2.2.2.2.2.2 = true then (spec_shValue_l0 k a1 K0 n (IntKind.i64.wrap (v15 + 1)) y183.1 y183.2.1 y183.2.2.1 y183.2.2.2.1 y183.2.2.2.2.1 y183.2.2.2.2.2.1 true true) else (spec_shValue_l0 k a1 K0 n (IntKind.i64.wrap (v15 + 1)) y183.1 y183.2.1 y183.2.2.1 y183.2.2.2.1 y183.2.2.2.2.1 y183.2.2.2.2.2.1 false true)) else (if y183.2.2.2.2.2.2.2 = true then (spec_shValue_l0 k a1 K0 n (IntKind.i64.wrap (v15 + 1)) y183.1 y183.2.1 y183.2.2.1 y183.2.2.2.1 y183.2.2.2.2.1 y183.2.2.2.2.2.1 true false) else (spec_shValue_l0 k a1 K0 n (IntKind.i64.wrap (v15 + 1)) y183.1 y183.2.1 y183.2.2.1 y183.2.2.2.1 y183.2.2.2.2.1 y183.2.2.2.2.2.1 false false)))))) else (K0 v16 v17 v18 v19 v20 v21 true false)) (if v15 < (a1.size : Int) then (byteD a1 v15 fun b159 => (if (b159.toNat : Int) = (43 : Int) then ((spec_shWalk_step k v16 v17 v18 v19 v20 v21 false false true).bind fun y163 => (if y163.2.2.2.2.2.2.1 = true then (if y163.2.2.2.2.2.2.2 = true then (spec_shValue_l0 k a1 K0 n (IntKind.i64.wrap (v15 + 1)) y163.1 y163.2.1 y163.2.2.1 y163.2.2.2.1 y163.2.2.2.2.1 y163.2.2.2.2.2.1 true true) else (spec_shValue_l0 k a1 K0 n (IntKind.i64.wrap (v15 + 1)) y163.1 y163.2.1 y163.2.2.1 y163.2.2.2.1 y163.2.2.2.2.1 y163.2.2.2.2.2.1 false true)) else (if y163.2.2.2.2.2.2.2 = true then (spec_shValue_l0 k a1 K0 n (IntKind.i64.wrap (v15 + 1)) y163.1 y163.2.1 y163.2.2.1 y163.2.2.2.1 y163.2.2.2.2.1 y163.2.2.2.2.2.1 true false) else (spec_shValue_l0 k a1 K0 n (IntKind.i64.wrap (v15 + 1)) y163.1 y163.2.1 y163.2.2.1 y163.2.2.2.1 y163.2.2.2.2.1 y163.2.2.2.2.2.1 false false)))) else ((spec_shWalk_step k v16 v17 v18 v19 v20 v21 false false false).bind fun y168 => (if y168.2.2.2.2.2.2.1 = true then (if y168.2.2.2.2.2.2.2 = true then (spec_shValue_l0 k a1 K0 n (IntKind.i64.wrap (v15 + 1)) y168.1 y168.2.1 y168.2.2.1 y168.2.2.2.1 y168.2.2.2.2.1 y168.2.2.2.2.2.1 true true) else (spec_shValue_l0 k a1 K0 n (IntKind.i64.wrap (v15 + 1)) y168.1 y168.2.1 y168.2.2.1 y168.2.2.2.1 y168.2.2.2.2.1 y168.2.2.2.2.2.1 false true)) else (if y168.2.2.2.2.2.2.2 = true then (spec_shValue_l0 k a1 K0 n (IntKind.i64.wrap (v15 + 1)) y168.1 y168.2.1 y168.2.2.1 y168.2.2.2.1 y168.2.2.2.2.1 y168.2.2.2.2.2.1 true false) else (spec_shValue_l0 k a1 K0 n (IntKind.i64.wrap (v15 + 1)) y168.1 y168.2.1 y168.2.2.1 y168.2.2.2.1 y168.2.2.2.2.1 y168.2.2.2.2.2.1 false false)))))) else (K0 v16 v17 v18 v19 v20 v21 false false))))
set_option maxHeartbeats 4000000 in
set_option maxRecDepth 100000 in
theorem spec_shValue_l0_ct {k : Nat} {a1 : ByteArray} {K0 : Int → Int → Int → Int → Int → Int → Bool → Bool → Option (Int × Int)} {r : Int × Int} : ∀ (n : Nat) (v15 : Int) (v16 : Int) (v17 : Int) (v18 : Int) (v19 : Int) (v20 : Int) (v21 : Int) (v22 : Bool) (v24 : Bool), spec_shValue_l0 k a1 K0 n v15 v16 v17 v18 v19 v20 v21 v22 v24 = some r → LoopOk prog 0 (lp f25 0) (mk 20 [(0, .d (D.str a1)), (2, .ptr 128 0), (3, .ptr 192 0), (4, .d (D.int .i64 v15))] [(128, .box 32 [.d (D.int .i64 0), .d (D.int .i64 0)]), (192, .box 61 [.d (D.int .i64 v16), .d (D.int .i64 v17), .d (D.int .i64 v18), .d (D.int .i64 v19), .d (D.int .i64 v20), .d (D.int .i64 v21), .d (D.bool v24), .d (D.bool v22)])]) (LoopEnd prog f25 0 20 (.agg [.d (D.int .i64 r.1), .d (D.int .i64 r.2)]) (⟨[], []⟩) (fun i ts os => (i = 0 ∧ ∃ v45 : Int, ∃ v46 : Int, ∃ v47 : Int, ∃ v48 : Int, ∃ v49 : Int, ∃ v50 : Int, ∃ v51 : Bool, ∃ v52 : Bool, K0 v45 v46 v47 v48 v49 v50 v51 v52 = some r ∧ ts = [(2, .ptr 128 0), (3, .ptr 192 0)] ∧ os = [(128, .box 32 [.d (D.int .i64 0), .d (D.int .i64 0)]), (192, .box 61 [.d (D.int .i64 v45), .d (D.int .i64 v46), .d (D.int .i64 v47), .d (D.int .i64 v48), .d (D.int .i64 v49), .d (D.int .i64 v50), .d (D.bool v51), .d (D.bool v52)])])))
  | 0, _, _, _, _, _, _, _, _, _, h => by
      rw [spec_shValue_l0] at h; cases h
  | n + 1, v15, v16, v17, v18, v19, v20, v21, v22, v24, h => by
      rw [spec_shValue_l0] at h
      cases v22
      · replace h := condF h
        cases v24
        · replace h := condF h
          refine LoopOk.step ?_
          conv => whnf
          refine splD (fun g158 => ?_) (fun g158 => ?_)
          · replace h := iteP h g158
            conv => whnf
            refine splF ?_
            conv => whnf
            refine splF ?_
            conv => whnf
            obtain ⟨g160, b159, e161, h⟩ := byteD_ex h
            refine Req.of g160 ?_
            refine Byte.of _ e161 ?_
            conv => whnf
            refine splD (fun g162 => ?_) (fun g162 => ?_)
            · replace h := iteP h g162
              conv => whnf
              refine Pick.no ?_
              conv => whnf
              obtain ⟨y163, e164, h⟩ := bind_ex h
              refine CallOk.of (spec_shWalk_step_ct e164) ?_
              conv => whnf
              refine spl (fun g165 => ?_) (fun g165 => ?_)
              · replace h := iteT h g165
                conv => whnf
                refine spl (fun g166 => ?_) (fun g166 => ?_)
                · replace h := iteT h g166
                  conv => whnf
                  refine CutK.go ?_
                  conv => whnf
                  exact LoopOk.back (spec_shValue_l0_ct  n _ _ _ _ _ _ _ _ _ h) [some 128, some 192] [] ⟨⟨rfl, rfl⟩, ⟨rfl, ⟨rfl, rfl, rfl, trivial⟩, ⟨rfl, rfl, rfl, rfl, rfl, rfl, rfl, rfl, rfl, trivial⟩, trivial⟩, rfl, ⟨rfl, rfl⟩, ⟨rfl, rfl⟩, rfl, trivial⟩
                · replace h := iteF h g166
                  conv => whnf
                  refine CutK.go ?_
                  conv => whnf
                  exact LoopOk.back (spec_shValue_l0_ct  n _ _ _ _ _ _ _ _ _ h) [some 128, some 192] [] ⟨⟨rfl, rfl⟩, ⟨rfl, ⟨rfl, rfl, rfl, trivial⟩, ⟨rfl, rfl, rfl, rfl, rfl, rfl, rfl, rfl, rfl, trivial⟩, trivial⟩, rfl, ⟨rfl, rfl⟩, ⟨rfl, rfl⟩, rfl, trivial⟩
              · replace h := iteF h g165
                conv => whnf
                refine spl (fun g167 => ?_) (fun g167 => ?_)
                · replace h := iteT h g167
                  conv => whnf
                  refine CutK.go ?_
                  conv => whnf
                  exact LoopOk.back (spec_shValue_l0_ct  n _ _ _ _ _ _ _ _ _ h) [some 128, some 192] [] ⟨⟨rfl, rfl⟩, ⟨rfl, ⟨rfl, rfl, rfl, trivial⟩, ⟨rfl, rfl, rfl, rfl, rfl, rfl, rfl, rfl, rfl, trivial⟩, trivial⟩, rfl, ⟨rfl, rfl⟩, ⟨rfl, rfl⟩, rfl, trivial⟩
                · replace h := iteF h g167
                  conv => whnf
                  refine CutK.go ?_
                  conv => whnf
                  exact LoopOk.back (spec_shValue_l0_ct  n _ _ _ _ _ _ _ _ _ h) [some 128, some 192] [] ⟨⟨rfl, rfl⟩, ⟨rfl, ⟨rfl, rfl, rfl, trivial⟩, ⟨rfl, rfl, rfl, rfl, rfl, rfl, rfl, rfl, rfl, trivial⟩, trivial⟩, rfl, ⟨rfl, rfl⟩, ⟨rfl, rfl⟩, rfl, trivial⟩
            · replace h := iteN h g162
              conv => whnf
              refine Pick.no ?_
              conv => whnf
              obtain ⟨y168, e169, h⟩ := bind_ex h
              refine CallOk.of (spec_shWalk_step_ct e169) ?_
              conv => whnf
              refine spl (fun g170 => ?_) (fun g170 => ?_)
              · replace h := iteT h g170
                conv => whnf
                refine spl (fun g171 => ?_) (fun g171 => ?_)
                · replace h := iteT h g171
                  conv => whnf
                  refine CutK.go ?_
                  conv => whnf
                  exact LoopOk.back (spec_shValue_l0_ct  n _ _ _ _ _ _ _ _ _ h) [some 128, some 192] [] ⟨⟨rfl, rfl⟩, ⟨rfl, ⟨rfl, rfl, rfl, trivial⟩, ⟨rfl, rfl, rfl, rfl, rfl, rfl, rfl, rfl, rfl, trivial⟩, trivial⟩, rfl, ⟨rfl, rfl⟩, ⟨rfl, rfl⟩, rfl, trivial⟩
                · replace h := iteF h g171
                  conv => whnf
                  refine CutK.go ?_
                  conv => whnf
                  exact LoopOk.back (spec_shValue_l0_ct  n _ _ _ _ _ _ _ _ _ h) [some 128, some 192] [] ⟨⟨rfl, rfl⟩, ⟨rfl, ⟨rfl, rfl, rfl, trivial⟩, ⟨rfl, rfl, rfl, rfl, rfl, rfl, rfl, rfl, rfl, trivial⟩, trivial⟩, rfl, ⟨rfl, rfl⟩, ⟨rfl, rfl⟩, rfl, trivial⟩
              · replace h := iteF h g170
                conv => whnf
                refine spl (fun g172 => ?_) (fun g172 => ?_)
                · replace h := iteT h g172
                  conv => whnf
                  refine CutK.go ?_
                  conv => whnf
                  exact LoopOk.back (spec_shValue_l0_ct  n _ _ _ _ _ _ _ _ _ h) [some 128, some 192] [] ⟨⟨rfl, rfl⟩, ⟨rfl, ⟨rfl, rfl, rfl, trivial⟩, ⟨rfl, rfl, rfl, rfl, rfl, rfl, rfl, rfl, rfl, trivial⟩, trivial⟩, rfl, ⟨rfl, rfl⟩, ⟨rfl, rfl⟩, rfl, trivial⟩
                · replace h := iteF h g172
                  conv => whnf
                  refine CutK.go ?_
                  conv => whnf
                  exact LoopOk.back (spec_shValue_l0_ct  n _ _ _ _ _ _ _ _ _ h) [some 128, some 192] [] ⟨⟨rfl, rfl⟩, ⟨rfl, ⟨rfl, rfl, rfl, trivial⟩, ⟨rfl, rfl, rfl, rfl, rfl, rfl, rfl, rfl, rfl, trivial⟩, trivial⟩, rfl, ⟨rfl, rfl⟩, ⟨rfl, rfl⟩, rfl, trivial⟩
          · replace h := iteN h g158
            conv => whnf
            exact ⟨_, _, [some 128, some 192], [], ⟨rfl, _, _, _, _, _, _, _, _, h, rfl, rfl⟩, ⟨⟨rfl, rfl⟩, ⟨rfl, ⟨rfl, rfl, rfl, trivial⟩, ⟨rfl, rfl, rfl, rfl, rfl, rfl, rfl, rfl, rfl, trivial⟩, trivial⟩, ⟨rfl, rfl⟩, ⟨rfl, rfl⟩, trivial⟩⟩
        · replace h := condT h
          refine LoopOk.step ?_
          conv => whnf
          refine splD (fun g173 => ?_) (fun g173 => ?_)
          · replace h := iteP h g173
            conv => whnf
            refine splT ?_
            conv => whnf
            refine splF ?_
            conv => whnf
            obtain ⟨g175, b174, e176, h⟩ := byteD_ex h
            refine Req.of g175 ?_
            refine Byte.of _ e176 ?_
            conv => whnf
            refine splD (fun g177 => ?_) (fun g177 => ?_)
            · replace h := iteP h g177
              conv => whnf
              refine Pick.no ?_
              conv => whnf
              obtain ⟨y178, e179, h⟩ := bind_ex h
              refine CallOk.of (spec_shWalk_step_ct e179) ?_
              conv => whnf
              refine spl (fun g180 => ?_) (fun g180 => ?_)
              · replace h := iteT h g180
                conv => whnf
                refine spl (fun g181 => ?_) (fun g181 => ?_)
                · replace h := iteT h g181
                  conv => whnf
                  refine CutK.go ?_
                  conv => whnf
                  exact LoopOk.back (spec_shValue_l0_ct  n _ _ _ _ _ _ _ _ _ h) [some 128, some 192] [] ⟨⟨rfl, rfl⟩, ⟨rfl, ⟨rfl, rfl, rfl, trivial⟩, ⟨rfl, rfl, rfl, rfl, rfl, rfl, rfl, rfl, rfl, trivial⟩, trivial⟩, rfl, ⟨rfl, rfl⟩, ⟨rfl, rfl⟩, rfl, trivial⟩
                · replace h := iteF h g181
                  conv => whnf
                  refine CutK.go ?_
                  conv => whnf
                  exact LoopOk.back (spec_shValue_l0_ct  n _ _ _ _ _ _ _ _ _ h) [some 128, some 192] [] ⟨⟨rfl, rfl⟩, ⟨rfl, ⟨rfl, rfl, rfl, trivial⟩, ⟨rfl, rfl, rfl, rfl, rfl, rfl, rfl, rfl, rfl, trivial⟩, trivial⟩, rfl, ⟨rfl, rfl⟩, ⟨rfl, rfl⟩, rfl, trivial⟩
              · replace h := iteF h g180
                conv => whnf
                refine spl (fun g182 => ?_) (fun g182 => ?_)
                · replace h := iteT h g182
                  conv => whnf
                  refine CutK.go ?_
                  conv => whnf
                  exact LoopOk.back (spec_shValue_l0_ct  n _ _ _ _ _ _ _ _ _ h) [some 128, some 192] [] ⟨⟨rfl, rfl⟩, ⟨rfl, ⟨rfl, rfl, rfl, trivial⟩, ⟨rfl, rfl, rfl, rfl, rfl, rfl, rfl, rfl, rfl, trivial⟩, trivial⟩, rfl, ⟨rfl, rfl⟩, ⟨rfl, rfl⟩, rfl, trivial⟩
                · replace h := iteF h g182
                  conv => whnf
                  refine CutK.go ?_
                  conv => whnf
                  exact LoopOk.back (spec_shValue_l0_ct  n _ _ _ _ _ _ _ _ _ h) [some 128, some 192] [] ⟨⟨rfl, rfl⟩, ⟨rfl, ⟨rfl, rfl, rfl, trivial⟩, ⟨rfl, rfl, rfl, rfl, rfl, rfl, rfl, rfl, rfl, trivial⟩, trivial⟩, rfl, ⟨rfl, rfl⟩, ⟨rfl, rfl⟩, rfl, trivial⟩
            · replace h := iteN h g177
              conv => whnf
              refine Pick.no ?_
              conv => whnf
              obtain ⟨y183, e184, h⟩ := bind_ex h
              refine CallOk.of (spec_shWalk_step_ct e184) ?_
              conv => whnf
              refine spl (fun g185 => ?_) (fun g185 => ?_)
              · replace h := iteT h g185
                conv => whnf
                refine spl (fun g186 => ?_) (fun g186 => ?_)
                · replace h := iteT h g186
                  conv => whnf
                  refine CutK.go ?_
                  conv => whnf
                  exact LoopOk.back (spec_shValue_l0_ct  n _ _ _ _ _ _ _ _ _ h) [some 128, some 192] [] ⟨⟨rfl, rfl⟩, ⟨rfl, ⟨rfl, rfl, rfl, trivial⟩, ⟨rfl, rfl, rfl, rfl, rfl, rfl, rfl, rfl, rfl, trivial⟩, trivial⟩, rfl, ⟨rfl, rfl⟩, ⟨rfl, rfl⟩, rfl, trivial⟩
                · replace h := iteF h g186
                  conv => whnf
                  refine CutK.go ?_
                  conv => whnf
                  exact LoopOk.back (spec_shValue_l0_ct  n _ _ _ _ _ _ _ _ _ h) [some 128, some 192] [] ⟨⟨rfl, rfl⟩, ⟨rfl, ⟨rfl, rfl, rfl, trivial⟩, ⟨rfl, rfl, rfl, rfl, rfl, rfl, rfl, rfl, rfl, trivial⟩, trivial⟩, rfl, ⟨rfl, rfl⟩, ⟨rfl, rfl⟩, rfl, trivial⟩
              · replace h := iteF h g185
                conv => whnf
                refine spl (fun g187 => ?_) (fun g187 => ?_)
                · replace h := iteT h g187
                  conv => whnf
                  refine CutK.go ?_
                  conv => whnf
                  exact LoopOk.back (spec_shValue_l0_ct  n _ _ _ _ _ _ _ _ _ h) [some 128, some 192] [] ⟨⟨rfl, rfl⟩, ⟨rfl, ⟨rfl, rfl, rfl, trivial⟩, ⟨rfl, rfl, rfl, rfl, rfl, rfl, rfl, rfl, rfl, trivial⟩, trivial⟩, rfl, ⟨rfl, rfl⟩, ⟨rfl, rfl⟩, rfl, trivial⟩
                · replace h := iteF h g187
                  conv => whnf
                  refine CutK.go ?_
                  conv => whnf
                  exact LoopOk.back (spec_shValue_l0_ct  n _ _ _ _ _ _ _ _ _ h) [some 128, some 192] [] ⟨⟨rfl, rfl⟩, ⟨rfl, ⟨rfl, rfl, rfl, trivial⟩, ⟨rfl, rfl, rfl, rfl, rfl, rfl, rfl, rfl, rfl, trivial⟩, trivial⟩, rfl, ⟨rfl, rfl⟩, ⟨rfl, rfl⟩, rfl, trivial⟩
          · replace h := iteN h g173
            conv => whnf
            exact ⟨_, _, [some 128, some 192], [], ⟨rfl, _, _, _, _, _, _, _, _, h, rfl, rfl⟩, ⟨⟨rfl, rfl⟩, ⟨rfl, ⟨rfl, rfl, rfl, trivial⟩, ⟨rfl, rfl, rfl, rfl, rfl, rfl, rfl, rfl, rfl, trivial⟩, trivial⟩, ⟨rfl, rfl⟩, ⟨rfl, rfl⟩, trivial⟩⟩
      · replace h := condT h
        cases v24
        · replace h := condF h
          refine LoopOk.step ?_
          conv => whnf
          refine splD (fun g188 => ?_) (fun g188 => ?_)
          · replace h := iteP h g188
            conv => whnf
            refine splF ?_
            conv => whnf
            refine splT ?_
            conv => whnf
            obtain ⟨g190, b189, e191, h⟩ := byteD_ex h
            refine Req.of g190 ?_
            refine Byte.of _ e191 ?_
            conv => whnf
            refine splD (fun g192 => ?_) (fun g192 => ?_)
            · replace h := iteP h g192
              conv => whnf
              refine Pick.no ?_
              conv => whnf
              obtain ⟨y193, e194, h⟩ := bind_ex h
              refine CallOk.of (spec_shWalk_step_ct e194) ?_
              conv => whnf
              refine spl (fun g195 => ?_) (fun g195 => ?_)
              · replace h := iteT h g195
                conv => whnf
                refine spl (fun g196 => ?_) (fun g196 => ?_)
                · replace h := iteT h g196
                  conv => whnf
                  refine CutK.go ?_
                  conv => whnf
                  exact LoopOk.back (spec_shValue_l0_ct  n _ _ _ _ _ _ _ _ _ h) [some 128, some 192] [] ⟨⟨rfl, rfl⟩, ⟨rfl, ⟨rfl, rfl, rfl, trivial⟩, ⟨rfl, rfl, rfl, rfl, rfl, rfl, rfl, rfl, rfl, trivial⟩, trivial⟩, rfl, ⟨rfl, rfl⟩, ⟨rfl, rfl⟩, rfl, trivial⟩
                · replace h := iteF h g196
                  conv => whnf
                  refine CutK.go ?_
                  conv => whnf
                  exact LoopOk.back (spec_shValue_l0_ct  n _ _ _ _ _ _ _ _ _ h) [some 128, some 192] [] ⟨⟨rfl, rfl⟩, ⟨rfl, ⟨rfl, rfl, rfl, trivial⟩, ⟨rfl, rfl, rfl, rfl, rfl, rfl, rfl, rfl, rfl, trivial⟩, trivial⟩, rfl, ⟨rfl, rfl⟩, ⟨rfl, rfl⟩, rfl, trivial⟩
              · replace h := iteF h g195
                conv => whnf
                refine spl (fun g197 => ?_) (fun g197 => ?_)
                · replace h := iteT h g197
                  conv => whnf
                  refine CutK.go ?_
                  conv => whnf
                  exact LoopOk.back (spec_shValue_l0_ct  n _ _ _ _ _ _ _ _ _ h) [some 128, some 192] [] ⟨⟨rfl, rfl⟩, ⟨rfl, ⟨rfl, rfl, rfl, trivial⟩, ⟨rfl, rfl, rfl, rfl, rfl, rfl, rfl, rfl, rfl, trivial⟩, trivial⟩, rfl, ⟨rfl, rfl⟩, ⟨rfl, rfl⟩, rfl, trivial⟩
                · replace h := iteF h g197
                  conv => whnf
                  refine CutK.go ?_
                  conv => whnf
                  exact LoopOk.back (spec_shValue_l0_ct  n _ _ _ _ _ _ _ _ _ h) [some 128, some 192] [] ⟨⟨rfl, rfl⟩, ⟨rfl, ⟨rfl, rfl, rfl, trivial⟩, ⟨rfl, rfl, rfl, rfl, rfl, rfl, rfl, rfl, rfl, trivial⟩, trivial⟩, rfl, ⟨rfl, rfl⟩, ⟨rfl, rfl⟩, rfl, trivial⟩
            · replace h := iteN h g192
              conv => whnf
              refine Pick.no ?_
              conv => whnf
              obtain ⟨y198, e199, h⟩ := bind_ex h
              refine CallOk.of (spec_shWalk_step_ct e199) ?_
              conv => whnf
              refine spl (fun g200 => ?_) (fun g200 => ?_)
              · replace h := iteT h g200
                conv => whnf
                refine spl (fun g201 => ?_) (fun g201 => ?_)
                · replace h := iteT h g201
                  conv => whnf
                  refine CutK.go ?_
                  conv => whnf
                  exact LoopOk.back (spec_shValue_l0_ct  n _ _ _ _ _ _ _ _ _ h) [some 128, some 192] [] ⟨⟨rfl, rfl⟩, ⟨rfl, ⟨rfl, rfl, rfl, trivial⟩, ⟨rfl, rfl, rfl, rfl, rfl, rfl, rfl, rfl, rfl, trivial⟩, trivial⟩, rfl, ⟨rfl, rfl⟩, ⟨rfl, rfl⟩, rfl, trivial⟩
                · replace h := iteF h g201
                  conv => whnf
                  refine CutK.go ?_
                  conv => whnf
                  exact LoopOk.back (spec_shValue_l0_ct  n _ _ _ _ _ _ _ _ _ h) [some 128, some 192] [] ⟨⟨rfl, rfl⟩, ⟨rfl, ⟨rfl, rfl, rfl, trivial⟩, ⟨rfl, rfl, rfl, rfl, rfl, rfl, rfl, rfl, rfl, trivial⟩, trivial⟩, rfl, ⟨rfl, rfl⟩, ⟨rfl, rfl⟩, rfl, trivial⟩
              · replace h := iteF h g200
                conv => whnf
                refine spl (fun g202 => ?_) (fun g202 => ?_)
                · replace h := iteT h g202
                  conv => whnf
                  refine CutK.go ?_
                  conv => whnf
                  exact LoopOk.back (spec_shValue_l0_ct  n _ _ _ _ _ _ _ _ _ h) [some 128, some 192] [] ⟨⟨rfl, rfl⟩, ⟨rfl, ⟨rfl, rfl, rfl, trivial⟩, ⟨rfl, rfl, rfl, rfl, rfl, rfl, rfl, rfl, rfl, trivial⟩, trivial⟩, rfl, ⟨rfl, rfl⟩, ⟨rfl, rfl⟩, rfl, trivial⟩
                · replace h := iteF h g202
                  conv => whnf
                  refine CutK.go ?_
                  conv => whnf
                  exact LoopOk.back (spec_shValue_l0_ct  n _ _ _ _ _ _ _ _ _ h) [some 128, some 192] [] ⟨⟨rfl, rfl⟩, ⟨rfl, ⟨rfl, rfl, rfl, trivial⟩, ⟨rfl, rfl, rfl, rfl, rfl, rfl, rfl, rfl, rfl, trivial⟩, trivial⟩, rfl, ⟨rfl, rfl⟩, ⟨rfl, rfl⟩, rfl, trivial⟩
          · replace h := iteN h g188
            conv => whnf
            exact ⟨_, _, [some 128, some 192], [], ⟨rfl, _, _, _, _, _, _, _, _, h, rfl, rfl⟩, ⟨⟨rfl, rfl⟩, ⟨rfl, ⟨rfl, rfl, rfl, trivial⟩, ⟨rfl, rfl, rfl, rfl, rfl, rfl, rfl, rfl, rfl, trivial⟩, trivial⟩, ⟨rfl, rfl⟩, ⟨rfl, rfl⟩, trivial⟩⟩
        · replace h := condT h
          refine LoopOk.step ?_
          conv => whnf
          refine splD (fun g203 => ?_) (fun g203 => ?_)
          · replace h := iteP h g203
            conv => whnf
            refine splT ?_
            conv => whnf
            refine splT ?_
            conv => whnf
            obtain ⟨g205, b204, e206, h⟩ := byteD_ex h
            refine Req.of g205 ?_
            refine Byte.of _ e206 ?_
            conv => whnf
            refine splD (fun g207 => ?_) (fun g207 => ?_)
            · replace h := iteP h g207
              conv => whnf
              refine Pick.no ?_
              conv => whnf
              obtain ⟨y208, e209, h⟩ := bind_ex h
              refine CallOk.of (spec_shWalk_step_ct e209) ?_
              conv => whnf
              refine spl (fun g210 => ?_) (fun g210 => ?_)
              · replace h := iteT h g210
                conv => whnf
                refine spl (fun g211 => ?_) (fun g211 => ?_)
                · replace h := iteT h g211
                  conv => whnf
                  refine CutK.go ?_
                  conv => whnf
                  exact LoopOk.back (spec_shValue_l0_ct  n _ _ _ _ _ _ _ _ _ h) [some 128, some 192] [] ⟨⟨rfl, rfl⟩, ⟨rfl, ⟨rfl, rfl, rfl, trivial⟩, ⟨rfl, rfl, rfl, rfl, rfl, rfl, rfl, rfl, rfl, trivial⟩, trivial⟩, rfl, ⟨rfl, rfl⟩, ⟨rfl, rfl⟩, rfl, trivial⟩
                · replace h := iteF h g211
                  conv => whnf
                  refine CutK.go ?_
                  conv => whnf
                  exact LoopOk.back (spec_shValue_l0_ct  n _ _ _ _ _ _ _ _ _ h) [some 128, some 192] [] ⟨⟨rfl, rfl⟩, ⟨rfl, ⟨rfl, rfl, rfl, trivial⟩, ⟨rfl, rfl, rfl, rfl, rfl, rfl, rfl, rfl, rfl, trivial⟩, trivial⟩, rfl, ⟨rfl, rfl⟩, ⟨rfl, rfl⟩, rfl, trivial⟩
              · replace h := iteF h g210
                conv => whnf
                refine spl (fun g212 => ?_) (fun g212 => ?_)
                · replace h := iteT h g212
                  conv => whnf
                  refine CutK.go ?_
                  conv => whnf
                  exact LoopOk.back (spec_shValue_l0_ct  n _ _ _ _ _ _ _ _ _ h) [some 128, some 192] [] ⟨⟨rfl, rfl⟩, ⟨rfl, ⟨rfl, rfl, rfl, trivial⟩, ⟨rfl, rfl, rfl, rfl, rfl, rfl, rfl, rfl, rfl, trivial⟩, trivial⟩, rfl, ⟨rfl, rfl⟩, ⟨rfl, rfl⟩, rfl, trivial⟩
                · replace h := iteF h g212
                  conv => whnf
                  refine CutK.go ?_
                  conv => whnf
                  exact LoopOk.back (spec_shValue_l0_ct  n _ _ _ _ _ _ _ _ _ h) [some 128, some 192] [] ⟨⟨rfl, rfl⟩, ⟨rfl, ⟨rfl, rfl, rfl, trivial⟩, ⟨rfl, rfl, rfl, rfl, rfl, rfl, rfl, rfl, rfl, trivial⟩, trivial⟩, rfl, ⟨rfl, rfl⟩, ⟨rfl, rfl⟩, rfl, trivial⟩
            · replace h := iteN h g207
              conv => whnf
              refine Pick.no ?_
              conv => whnf
              obtain ⟨y213, e214, h⟩ := bind_ex h
              refine CallOk.of (spec_shWalk_step_ct e214) ?_
              conv => whnf
              refine spl (fun g215 => ?_) (fun g215 => ?_)
              · replace h := iteT h g215
                conv => whnf
                refine spl (fun g216 => ?_) (fun g216 => ?_)
                · replace h := iteT h g216
                  conv => whnf
                  refine CutK.go ?_
                  conv => whnf
                  exact LoopOk.back (spec_shValue_l0_ct  n _ _ _ _ _ _ _ _ _ h) [some 128, some 192] [] ⟨⟨rfl, rfl⟩, ⟨rfl, ⟨rfl, rfl, rfl, trivial⟩, ⟨rfl, rfl, rfl, rfl, rfl, rfl, rfl, rfl, rfl, trivial⟩, trivial⟩, rfl, ⟨rfl, rfl⟩, ⟨rfl, rfl⟩, rfl, trivial⟩
                · replace h := iteF h g216
                  conv => whnf
                  refine CutK.go ?_
                  conv => whnf
                  exact LoopOk.back (spec_shValue_l0_ct  n _ _ _ _ _ _ _ _ _ h) [some 128, some 192] [] ⟨⟨rfl, rfl⟩, ⟨rfl, ⟨rfl, rfl, rfl, trivial⟩, ⟨rfl, rfl, rfl, rfl, rfl, rfl, rfl, rfl, rfl, trivial⟩, trivial⟩, rfl, ⟨rfl, rfl⟩, ⟨rfl, rfl⟩, rfl, trivial⟩
              · replace h := iteF h g215
                conv => whnf
                refine spl (fun g217 => ?_) (fun g217 => ?_)
                · replace h := iteT h g217
                  conv => whnf
                  refine CutK.go ?_
                  conv => whnf
                  exact LoopOk.back (spec_shValue_l0_ct  n _ _ _ _ _ _ _ _ _ h) [some 128, some 192] [] ⟨⟨rfl, rfl⟩, ⟨rfl, ⟨rfl, rfl, rfl, trivial⟩, ⟨rfl, rfl, rfl, rfl, rfl, rfl, rfl, rfl, rfl, trivial⟩, trivial⟩, rfl, ⟨rfl, rfl⟩, ⟨rfl, rfl⟩, rfl, trivial⟩
                · replace h := iteF h g217
                  conv => whnf
                  refine CutK.go ?_
                  conv => whnf
                  exact LoopOk.back (spec_shValue_l0_ct  n _ _ _ _ _ _ _ _ _ h) [some 128, some 192] [] ⟨⟨rfl, rfl⟩, ⟨rfl, ⟨rfl, rfl, rfl, trivial⟩, ⟨rfl, rfl, rfl, rfl, rfl, rfl, rfl, rfl, rfl, trivial⟩, trivial⟩, rfl, ⟨rfl, rfl⟩, ⟨rfl, rfl⟩, rfl, trivial⟩
          · replace h := iteN h g203
            conv => whnf
            exact ⟨_, _, [some 128, some 192], [], ⟨rfl, _, _, _, _, _, _, _, _, h, rfl, rfl⟩, ⟨⟨rfl, rfl⟩, ⟨rfl, ⟨rfl, rfl, rfl, trivial⟩, ⟨rfl, rfl, rfl, rfl, rfl, rfl, rfl, rfl, rfl, trivial⟩, trivial⟩, ⟨rfl, rfl⟩, ⟨rfl, rfl⟩, trivial⟩⟩
def spec_shValue_l0_2 (k : Nat) (a1 : ByteArray) (K0 : Int → Int → Int → Int → Int → Int → Bool → Bool → Option (Int × Int)) : Nat → Int → Int → Int → Int → Int → Int → Int → Bool → Bool → Option (Int × Int)
  | 0, _, _, _, _, _, _, _, _, _ => none
  | n + 1, v227, v228, v229, v230, v231, v232, v233, v234, v236 => (cond v234 (cond v236 (if v227 < (a1.size : Int) then (byteD a1 v227 fun b416 => (if (b416.toNat : Int) = (43 : Int) then ((spec_shWalk_step k v228 v229 v230 v231 v232 v233 true true true).bind fun y420 => (if y420.2.2.2.2.2.2.1 = true then (if y420.2.2.2.2.2.2.2 = true then (spec_shValue_l0_2 k a1 K0 n (IntKind.i64.wrap (v227 + 1)) y420.1 y420.2.1 y420.2.2.1 y420.2.2.2.1 y420.2.2.2.2.1 y420.2.2.2.2.2.1 true true) else (spec_shValue_l0_2 k a1 K0 n (IntKind.i64.wrap (v227 + 1)) y420.1 y420.2.1 y420.2.2.1 y420.2.2.2.1 y420.2.2.2.2.1 y420.2.2.2.2.2.1 false true)) else (if y420.2.2.2.2.2.2.2 = true then (spec_shValue_l0_2 k a1 K0 n (IntKind.i64.wrap (v227 + 1)) y420.1 y420.2.1 y420.2.2.1 y420.2.2.2.1 y420.2.2.2.2.1 y420.2.2.2.2.2.1 true false) else (spec_shValue_l0_2 k a1 K0 n (IntKind.i64.wrap (v227 + 1)) y420.1 y420.2.1 y420.2.2.1 y420.2.2.2.1 y420.2.2.2.2.1 y420.2.2.2.2.2.1 false false)))) else ((spec_shWalk_step k v228 v229 v230 v231 v232 v233 true true false).bind fun y425 => (if y425.2.2.2.2.2.2.1 = true then (if y425.2.2.2.2.2.2.2 = true then (spec_shValue_l0_2 k a1 K0 n (IntKind.i64.wrap (v227 + 1)) y425.1 y425.2.1 y425.2.2.1 y425.2.2.2.1 y425.2.2.2.2.1 y425.2.2.2.2.2.1 true true) else (spec_shValue_l0_2 k a1 K0 n (IntKind.i64.wrap (v227 + 1)) y425.1 y425.2.1 y425.2.2.1 y425.2.2.2.1 y425.2.2.2.2.1 y425.2.2.2.2.2.1 false true)) else (if y425.2.2.2.2.2.2.2 = true then (spec_shValue_l0_2 k a1 K0 n (IntKind.i64.wrap (v227 + 1)) y425.1 y425.2.1 y425.2.2.1 y425.2.2.2.1 y425.2.2.2.2.1 y425.2.2.2.2.2.1 true false) else (spec_shValue_l0_2 k a1 K0 n (IntKind.i64.wrap (v227 + 1)) y425.1 y425.2.1 y425.2.2.1 y425.2.2.2.1 y425.2.2.2.2.1 y425.2.2.2.2.2.1 false false)))))) else (K0 v228 v229 v230 v231 v232 v233 true true)) (if v227 < (a1.size : Int) then (byteD a1 v227 fun b401 => (if (b401.toNat : Int) = (43 : Int) then ((spec_shWalk_step k v228 v229 v230 v231 v232 v233 false true true).bind fun y405 => (if y405.2.2.2.2.2.2.1 = true then (if y405.2.2.2.2.2.2.2 = true then (spec_shValue_l0_2 k a1 K0 n (IntKind.i64.wrap (v227 + 1)) y405.1 y405.2.1 y405.2.2.1 y405.2.2.2.1 y405.2.2.2.2.1 y405.2.2.2.2.2.1 true true) else (spec_shValue_l0_2 k a1 K0 n (IntKind.i64.wrap (v227 + 1)) y405.1 y405.2.1 y405.2.2.1 y405.2.2.2.1 y405.2.2.2.2.1 y405.2.2.2.2.2.1 false true)) else (if y405.2.2.2.2.2.2.2 = true then (spec_shValue_l0_2 k a1 K0 n (IntKind.i64.wrap (v227 + 1)) y405.1 y405.2.1 y405.2.2.1 y405.2.2.2.1 y405.2.2.2.2.1 y405.2.2.2.2.2.1 true false) else (spec_shValue_l0_2 k a1 K0 n (IntKind.i64.wrap (v227 + 1)) y405.1 y405.2.1 y405.2.2.1 y405.2.2.2.1 y405.2.2.2.2.1 y405.2.2.2.2.2.1 false false)))) else ((spec_shWalk_step k v228 v229 v230 v231 v232 v233 false true false).bind fun y410 => (if y410.2.2.2.2.2.2.1 = true then (if y410.2.2.2.2.2.2.2 = true then (spec_shValue_l0_2 k a1 K0 n (IntKind.i64.wrap (v227 + 1)) y410.1 y410.2.1 y410.2.2.1 y410.2.2.2.1 y410.2.2.2.2.1 y410.2.2.2.2.2.1 true true) else (spec_shValue_l0_2 k a1 K0 n (IntKind.i64.wrap (v227 + 1)) y410.1 y410.2.1 y410.2.2.1 y410.2.2.2.1 y410.2.2.2.2.1 y410.2.2.2.2.2.1 false true)) else (if y410.2.2.2.2.2.2.2 = true then (spec_shValue_l0_2 k a1 K0 n (IntKind.i64.wrap (v227 + 1)) y410.1 y410.2.1 y410.2.2.1 y410.2.2.2.1 y410.2.2.2.2.1 y410.2.2.2.2.2.1 true false) else (spec_shValue_l0_2 k a1 K0 n (IntKind.i64.wrap (v227 + 1)) y410.1 y410.2.1 y410.2.2.1 y410.2.2.2.1 y410.2.2.2.2.1 y410.2.2.2.2.2.1 false false)))))) else (K0 v228 v229 v230 v231 v232 v233 false true))) (cond v236 (if v227 < (a1.size : Int) then (byteD a1 v227 fun b386 => (if (b386.toNat : Int) = (43 : Int) then ((spec_shWalk_step k v228 v229 v230 v231 v232 v233 true false true).bind fun y390 => (if y390.2.2.2.2.2.2.1 = true then (if y390.2.2.2.2.2.2.2 = true then (spec_shValue_l0_2 k a1 K0 n (IntKind.i64.wrap (v227 + 1)) y390.1 y390.2.1 y390.2.2.1 y390.2.2.2.1 y390.2.2.2.2.1 y390.2.2.2.2.2.1 true true) else (spec_shValue_l0_2 k a1 K0 n (IntKind.i64.wrap (v227 + 1)) y390.1 y390.2.1 y390.2.2.1 y390.2.2.2.1 y390.2.2.2.2.1 y390.2.2.2.2.2.1 false true)) else (if y390.2.2.2.2.2.2.2 = true then (spec_shValue_l0_2 k a1 K0 n (IntKind.i64.wrap (v227 + 1)) y390.1 y390.2.1 y390.2.2.1 y390.2.2.2.1 y390.2.2.2.2.1 y390.2.2.2.2.2.1 true false) else (spec_shValue_l0_2 k a1 K0 n (IntKind.i64.wrap (v227 + 1)) y390.1 y390.2.1 y390.2.2.1 y390.2.2.2.1 y390.2.2.2.2.1 y390.2.2.2.2.2.1 false false)))) else ((spec_shWalk_step k v228 v229 v230 v231 v232 v233 true false false).bind fun y395 => (if y395.2.2.2.2.2.2.1 = true then (if y395.2.2.2.2.2.2.2 = true then (spec_shValue_l0_2 k a1 K0 n (IntKind.i64.wrap (v227 + 1)) y395.1 y395.2.1 y395.2.2.1 y395.2.2.2.1 y395.2.2.2.2.1 y395.2.2.2.2.2.1 true true) else (spec_shValue_l0_2 k a1 K0 n (IntKind.i64.wrap (v227 + 1)) y395.1 y395.2.1 y395.2.2.1 y395.2.2.2.1 y395.2.2.2.2.1 y395.2.2.2.2.2.1 false true)) else (if y395.2.2.2.2.2.2.2 = true then (spec_shValue_l0_2 k a1 K0 n (IntKind.i64.wrap (v227 + 1)) y395.1 y395.2.1 y395.2.2.1 y395.2.2.2.1 y395.2.2.2.2.1 y395.2.2.2.2.2.1 true false) else (spec_shValue_l0_2 k a1 K0 n (IntKind.i64.wrap (v227 + 1)) y395.1 y395.2.1 y395.2.2.1 y395.2.2.2.1 y395.2.2.2.2.1 y395.2.2.2.2.2.1 false false)))))) else (K0 v228 v229 v230 v231 v232 v233 true false)) (if v227 < (a1.size : Int) then (byteD a1 v227 fun b371 => (if (b371.toNat : Int) = (43 : Int) then ((spec_shWalk_step k v228 v229 v230 v231 v232 v233 false false true).bind fun y375 => (if y375.2.2.2.2.2.2.1 = true then (if y375.2.2.2.2.2.2.2 = true then (spec_shValue_l0_2 k a1 K0 n (IntKind.i64.wrap (v227 + 1)) y375.1 y375.2.1 y375.2.2.1 y375.2.2.2.1 y375.2.2.2.2.1 y375.2.2.2.2.2.1 true true) else (spec_shValue_l0_2 k a1 K0 n (IntKind.i64.wrap (v227 + 1)) y375.1 y375.2.1 y375.2.2.1 y375.2.2.2.1 y375.2.2.2.2.1 y375.2.2.2.2.2.1 false true)) else (if y375.2.2.2.2.2.2.2 = true then (spec_shValue_l0_2 k a1 K0 n (IntKind.i64.wrap (v227 + 1)) y375.1 y375.2.1 y375.2.2.1 y375.2.2.2.1 y375.2.2.2.2.1 y375.2.2.2.2.2.1 true false) else (spec_shValue_l0_2 k a1 K0 n (IntKind.i64.wrap (v227 + 1)) y375.1 y375.2.1 y375.2.2.1 y375.2.2.2.1 y375.2.2.2.2.1 y375.2.2.2.2.2.1 false false)))) else ((spec_shWalk_step k v228 v229 v230 v231 v232 v233 false false false).bind fun y380 => (if y380.2.2.2.2.2.2.1 = true then (if y380.2.2.2.2.2.2.2 = true then (spec_shValue_l0_2 k a1 K0 n (IntKind.i64.wrap (v227 + 1)) y380.1 y380.2.1 y380.2.2.1 y380.2.2.2.1 y380.2.2.2.2.1 y380.2.2.2.2.2.1 true true) else (spec_shValue_l0_2 k a1 K0 n (IntKind.i64.wrap (v227 + 1)) y380.1 y380.2.1 y380.2.2.1 y380.2.2.2.1 y380.2.2.2.2.1 y380.2.2.2.2.2.1 false true)) else (if y380.2.2.2.2.2.2.2 = true then (spec_shValue_l0_2 k a1 K0 n (IntKind.i64.wrap (v227 + 1)) y380.1 y380.2.1 y380.2.2.1 y380.2.2.2.1 y380.2.2.2.2.1 y380.2.2.2.2.2.1 true false) else (spec_shValue_l0_2 k a1 K0 n (IntKind.i64.wrap (v227 + 1)) y380.1 y380.2.1 y380.2.2.1 y380.2.2.2.1 y380.2.2.2.2.1 y380.2.2.2.2.2.1 false false)))))) else (K0 v228 v229 v230 v231 v232 v233 false false))))
set_option maxHeartbeats 4000000 in
set_option maxRecDepth 100000 in
theorem spec_shValue_l0_2_ct {k : Nat} {a1 : ByteArray} {K0 : Int → Int → Int → Int → Int → Int → Bool → Bool → Option (Int × Int)} {r : Int × Int} : ∀ (n : Nat) (v227 : Int) (v228 : Int) (v229 : Int) (v230 : Int) (v231 : Int) (v232 : Int) (v233 : Int) (v234 : Bool) (v236 : Bool), spec_shValue_l0_2 k a1 K0 n v227 v228 v229 v230 v231 v232 v233 v234 v236 = some r → LoopOk prog 0 (lp f25 0) (mk 20 [(0, .d (D.str a1)), (2, .ptr 128 0), (3, .ptr 192 0), (4, .d (D.int .i64 v227))] [(128, .box 32 [.d (D.int .i64 0), .d (D.int .i64 0)]), (192, .box 61 [.d (D.int .i64 v228), .d (D.int .i64 v229), .d (D.int .i64 v230), .d (D.int .i64 v231), .d (D.int .i64 v232), .d (D.int .i64 v233), .d (D.bool v236), .d (D.bool v234)])]) (LoopEnd prog f25 0 20 (.agg [.d (D.int .i64 r.1), .d (D.int .i64 r.2)]) (⟨[], []⟩) (fun i ts os => (i = 0 ∧ ∃ v257 : Int, ∃ v258 : Int, ∃ v259 : Int, ∃ v260 : Int, ∃ v261 : Int, ∃ v262 : Int, ∃ v263 : Bool, ∃ v294 : Bool, K0 v257 v258 v259 v260 v261 v262 v263 v294 = some r ∧ ts = [(2, .ptr 128 0), (3, .ptr 192 0)] ∧ os = [(128, .box 32 [.d (D.int .i64 0), .d (D.int .i64 0)]), (192, .box 61 [.d (D.int .i64 v257), .d (D.int .i64 v258), .d (D.int .i64 v259), .d (D.int .i64 v260), .d (D.int .i64 v261), .d (D.int .i64 v262), .d (D.bool v263), .d (D.bool v294)])])))
  | 0, _, _, _, _, _, _, _, _, _, h => by
      rw [spec_shValue_l0_2] at h; cases h
  | n + 1, v227, v228, v229, v230, v231, v232, v233, v234, v236, h => by
      rw [spec_shValue_l0_2] at h
      cases v234
      · replace h := condF h
        cases v236
        · replace h := condF h
          refine LoopOk.step ?_
          conv => whnf
          refine splD (fun g370 => ?_) (fun g370 => ?_)
          · replace h := iteP h g370
            conv => whnf
            refine splF ?_
            conv => whnf
            refine splF ?_
            conv => whnf
            obtain ⟨g372, b371, e373, h⟩ := byteD_ex h
            refine Req.of g372 ?_
            refine Byte.of _ e373 ?_
            conv => whnf
            refine splD (fun g374 => ?_) (fun g374 => ?_)
            · replace h := iteP h g374
              conv => whnf
              refine Pick.no ?_
              conv => whnf
              obtain ⟨y375, e376, h⟩ := bind_ex h
              refine CallOk.of (spec_shWalk_step_ct e376) ?_
              conv => whnf
              refine spl (fun g377 => ?_) (fun g377 => ?_)
              · replace h := iteT h g377
                conv => whnf
                refine spl (fun g378 => ?_) (fun g378 => ?_)
                · replace h := iteT h g378
                  conv => whnf
                  refine CutK.go ?_
                  conv => whnf
                  exact LoopOk.back (spec_shValue_l0_2_ct  n _ _ _ _ _ _ _ _ _ h) [some 128, some 192] [] ⟨⟨rfl, rfl⟩, ⟨rfl, ⟨rfl, rfl, rfl, trivial⟩, ⟨rfl, rfl, rfl, rfl, rfl, rfl, rfl, rfl, rfl, trivial⟩, trivial⟩, rfl, ⟨rfl, rfl⟩, ⟨rfl, rfl⟩, rfl, trivial⟩
                · replace h := iteF h g378
                  conv => whnf
                  refine CutK.go ?_
                  conv => whnf
                  exact LoopOk.back (spec_shValue_l0_2_ct  n _ _ _ _ _ _ _ _ _ h) [some 128, some 192] [] ⟨⟨rfl, rfl⟩, ⟨rfl, ⟨rfl, rfl, rfl, trivial⟩, ⟨rfl, rfl, rfl, rfl, rfl, rfl, rfl, rfl, rfl, trivial⟩, trivial⟩, rfl, ⟨rfl, rfl⟩, ⟨rfl, rfl⟩, rfl, trivial⟩
              · replace h := iteF h g377
                conv => whnf
                refine spl (fun g379 => ?_) (fun g379 => ?_)
                · replace h := iteT h g379
                  conv => whnf
                  refine CutK.go ?_
                  conv => whnf
                  exact LoopOk.back (spec_shValue_l0_2_ct  n _ _ _ _ _ _ _ _ _ h) [some 128, some 192] [] ⟨⟨rfl, rfl⟩, ⟨rfl, ⟨rfl, rfl, rfl, trivial⟩, ⟨rfl, rfl, rfl, rfl, rfl, rfl, rfl, rfl, rfl, trivial⟩, trivial⟩, rfl, ⟨rfl, rfl⟩, ⟨rfl, rfl⟩, rfl, trivial⟩
                · replace h := iteF h g379
                  conv => whnf
                  refine CutK.go ?_
                  conv => whnf
                  exact LoopOk.back (spec_shValue_l0_2_ct  n _ _ _ _ _ _ _ _ _ h) [some 128, some 192] [] ⟨⟨rfl, rfl⟩, ⟨rfl, ⟨rfl, rfl, rfl, trivial⟩, ⟨rfl, rfl, rfl, rfl, rfl, rfl, rfl, rfl, rfl, trivial⟩, trivial⟩, rfl, ⟨rfl, rfl⟩, ⟨rfl, rfl⟩, rfl, trivial⟩
            · replace h := iteN h g374
              conv => whnf
              refine Pick.no ?_
              conv => whnf
              obtain ⟨y380, e381, h⟩ := bind_ex h
              refine CallOk.of (spec_shWalk_step_ct e381) ?_
              conv => whnf
              refine spl (fun g382 => ?_) (fun g382 => ?_)
              · replace h := iteT h g382
                conv => whnf
                refine spl (fun g383 => ?_) (fun g383 => ?_)
                · replace h := iteT h g383
                  conv => whnf
                  refine CutK.go ?_
                  conv => whnf
                  exact LoopOk.back (spec_shValue_l0_2_ct  n _ _ _ _ _ _ _ _ _ h) [some 128, some 192] [] ⟨⟨rfl, rfl⟩, ⟨rfl, ⟨rfl, rfl, rfl, trivial⟩, ⟨rfl, rfl, rfl, rfl, rfl, rfl, rfl, rfl, rfl, trivial⟩, trivial⟩, rfl, ⟨rfl, rfl⟩, ⟨rfl, rfl⟩, rfl, trivial⟩
                · replace h := iteF h g383
                  conv => whnf
                  refine CutK.go ?_
                  conv => whnf
                  exact LoopOk.back (spec_shValue_l0_2_ct  n _ _ _ _ _ _ _ _ _ h) [some 128, some 192] [] ⟨⟨rfl, rfl⟩, ⟨rfl, ⟨rfl, rfl, rfl, trivial⟩, ⟨rfl, rfl, rfl, rfl, rfl, rfl, rfl, rfl, rfl, trivial⟩, trivial⟩, rfl, ⟨rfl, rfl⟩, ⟨rfl, rfl⟩, rfl, trivial⟩
              · replace h := iteF h g382
                conv => whnf
                refine spl (fun g384 => ?_) (fun g384 => ?_)
                · replace h := iteT h g384
                  conv => whnf
                  refine CutK.go ?_
                  conv => whnf
                  exact LoopOk.back (spec_shValue_l0_2_ct  n _ _ _ _ _ _ _ _ _ h) [some 128, some 192] [] ⟨⟨rfl, rfl⟩, ⟨rfl, ⟨rfl, rfl, rfl, trivial⟩, ⟨rfl, rfl, rfl, rfl, rfl, rfl, rfl, rfl, rfl, trivial⟩, trivial⟩, rfl, ⟨rfl, rfl⟩, ⟨rfl, rfl⟩, rfl, trivial⟩
                · replace h := iteF h g384
                  conv => whnf
                  refine CutK.go ?_
                  conv => whnf
                  exact LoopOk.back (spec_shValue_l0_2_ct  n _ _ _ _ _ _ _ _ _ h) [some 128, some 192] [] ⟨⟨rfl, rfl⟩, ⟨rfl, ⟨rfl, rfl, rfl, trivial⟩, ⟨rfl, rfl, rfl, rfl, rfl, rfl, rfl, rfl, rfl, trivial⟩, trivial⟩, rfl, ⟨rfl, rfl⟩, ⟨rfl, rfl⟩, rfl, trivial⟩
          · replace h := iteN h g370
            conv => whnf
            exact ⟨_, _, [some 128, some 192], [], ⟨rfl, _, _, _, _, _, _, _, _, h, rfl, rfl⟩, ⟨⟨rfl, rfl⟩, ⟨rfl, ⟨rfl, rfl, rfl, trivial⟩, ⟨rfl, rfl, rfl, rfl, rfl, rfl, rfl, rfl, rfl, trivial⟩, trivial⟩, ⟨rfl, rfl⟩, ⟨rfl, rfl⟩, trivial⟩⟩
        · replace h := condT h
          refine LoopOk.step ?_
          conv => whnf
          refine splD (fun g385 => ?_) (fun g385 => ?_)
          · replace h := iteP h g385
            conv => whnf
            refine splT ?_
            conv => whnf
            refine splF ?_
            conv => whnf
            obtain ⟨g387, b386, e388, h⟩ := byteD_ex h
            refine Req.of g387 ?_
            refine Byte.of _ e388 ?_
            conv => whnf
            refine splD (fun g389 => ?_) (fun g389 => ?_)
            · replace h := iteP h g389
              conv => whnf
              refine Pick.no ?_
              conv => whnf
              obtain ⟨y390, e391, h⟩ := bind_ex h
              refine CallOk.of (spec_shWalk_step_ct e391) ?_
              conv => whnf
              refine spl (fun g392 => ?_) (fun g392 => ?_)
              · replace h := iteT h g392
                conv => whnf
                refine spl (fun g393 => ?_) (fun g393 => ?_)
                · replace h := iteT h g393
                  conv => whnf
                  refine CutK.go ?_
                  conv => whnf
                  exact LoopOk.back (spec_shValue_l0_2_ct  n _ _ _ _ _ _ _ _ _ h) [some 128, some 192] [] ⟨⟨rfl, rfl⟩, ⟨rfl, ⟨rfl, rfl, rfl, trivial⟩, ⟨rfl, rfl, rfl, rfl, rfl, rfl, rfl, rfl, rfl, trivial⟩, trivial⟩, rfl, ⟨rfl, rfl⟩, ⟨rfl, rfl⟩, rfl, trivial⟩
                · replace h := iteF h g393
                  conv => whnf
                  refine CutK.go ?_
                  conv => whnf
                  exact LoopOk.back (spec_shValue_l0_2_ct  n _ _ _ _ _ _ _ _ _ h) [some 128, some 192] [] ⟨⟨rfl, rfl⟩, ⟨rfl, ⟨rfl, rfl, rfl, trivial⟩, ⟨rfl, rfl, rfl, rfl, rfl, rfl, rfl, rfl, rfl, trivial⟩, trivial⟩, rfl, ⟨rfl, rfl⟩, ⟨rfl, rfl⟩, rfl, trivial⟩
              · replace h := iteF h g392
                conv => whnf
                refine spl (fun g394 => ?_) (fun g394 => ?_)
                · replace h := iteT h g394
                  conv => whnf
                  refine CutK.go ?_
                  conv => whnf
                  exact LoopOk.back (spec_shValue_l0_2_ct  n _ _ _ _ _ _ _ _ _ h) [some 128, some 192] [] ⟨⟨rfl, rfl⟩, ⟨rfl, ⟨rfl, rfl, rfl, trivial⟩, ⟨rfl, rfl, rfl, rfl, rfl, rfl, rfl, rfl, rfl, trivial⟩, trivial⟩, rfl, ⟨rfl, rfl⟩, ⟨rfl, rfl⟩, rfl, trivial⟩
                · replace h := iteF h g394
                  conv => whnf
                  refine CutK.go ?_
                  conv => whnf
                  exact LoopOk.back (spec_shValue_l0_2_ct  n _ _ _ _ _ _ _ _ _ h) [some 128, some 192] [] ⟨⟨rfl, rfl⟩, ⟨rfl, ⟨rfl, rfl, rfl, trivial⟩, ⟨rfl, rfl, rfl, rfl, rfl, rfl, rfl, rfl, rfl, trivial⟩, trivial⟩, rfl, ⟨rfl, rfl⟩, ⟨rfl, rfl⟩, rfl, trivial⟩
            · replace h := iteN h g389
              conv => whnf
              refine Pick.no ?_
              conv => whnf
              obtain ⟨y395, e396, h⟩ := bind_ex h
              refine CallOk.of (spec_shWalk_step_ct e396) ?_
              conv => whnf
              refine spl (fun g397 => ?_) (fun g397 => ?_)
              · replace h := iteT h g397
                conv => whnf
                refine spl (fun g398 => ?_) (fun g398 => ?_)
                · replace h := iteT h g398
                  conv => whnf
                  refine CutK.go ?_
                  conv => whnf
                  exact LoopOk.back (spec_shValue_l0_2_ct  n _ _ _ _ _ _ _ _ _ h) [some 128, some 192] [] ⟨⟨rfl, rfl⟩, ⟨rfl, ⟨rfl, rfl, rfl, trivial⟩, ⟨rfl, rfl, rfl, rfl, rfl, rfl, rfl, rfl, rfl, trivial⟩, trivial⟩, rfl, ⟨rfl, rfl⟩, ⟨rfl, rfl⟩, rfl, trivial⟩
                · replace h := iteF h g398
                  conv => whnf
                  refine CutK.go ?_
                  conv => whnf
                  exact LoopOk.back (spec_shValue_l0_2_ct  n _ _ _ _ _ _ _ _ _ h) [some 128, some 192] [] ⟨⟨rfl, rfl⟩, ⟨rfl, ⟨rfl, rfl, rfl, trivial⟩, ⟨rfl, rfl, rfl, rfl, rfl, rfl, rfl, rfl, rfl, trivial⟩, trivial⟩, rfl, ⟨rfl, rfl⟩, ⟨rfl, rfl⟩, rfl, trivial⟩
              · replace h := iteF h g397
                conv => whnf
                refine spl (fun g399 => ?_) (fun g399 => ?_)
                · replace h := iteT h g399
                  conv => whnf
                  refine CutK.go ?_
                  conv => whnf
                  exact LoopOk.back (spec_shValue_l0_2_ct  n _ _ _ _ _ _ _ _ _ h) [some 128, some 192] [] ⟨⟨rfl, rfl⟩, ⟨rfl, ⟨rfl, rfl, rfl, trivial⟩, ⟨rfl, rfl, rfl, rfl, rfl, rfl, rfl, rfl, rfl, trivial⟩, trivial⟩, rfl, ⟨rfl, rfl⟩, ⟨rfl, rfl⟩, rfl, trivial⟩
                · replace h := iteF h g399
                  conv => whnf
                  refine CutK.go ?_
                  conv => whnf
                  exact LoopOk.back (spec_shValue_l0_2_ct  n _ _ _ _ _ _ _ _ _ h) [some 128, some 192] [] ⟨⟨rfl, rfl⟩, ⟨rfl, ⟨rfl, rfl, rfl, trivial⟩, ⟨rfl, rfl, rfl, rfl, rfl, rfl, rfl, rfl, rfl, trivial⟩, trivial⟩, rfl, ⟨rfl, rfl⟩, ⟨rfl, rfl⟩, rfl, trivial⟩
          · replace h := iteN h g385
            conv => whnf
            exact ⟨_, _, [some 128, some 192], [], ⟨rfl, _, _, _, _, _, _, _, _, h, rfl, rfl⟩, ⟨⟨rfl, rfl⟩, ⟨rfl, ⟨rfl, rfl, rfl, trivial⟩, ⟨rfl, rfl, rfl, rfl, rfl, rfl, rfl, rfl, rfl, trivial⟩, trivial⟩, ⟨rfl, rfl⟩, ⟨rfl, rfl⟩, trivial⟩⟩
      · replace h := condT h
        cases v236
        · replace h := condF h
          refine LoopOk.step ?_
          conv => whnf
          refine splD (fun g400 => ?_) (fun g400 => ?_)
          · replace h := iteP h g400
            conv => whnf
            refine splF ?_
            conv => whnf
            refine splT ?_
            conv => whnf
            obtain ⟨g402, b401, e403, h⟩ := byteD_ex h
            refine Req.of g402 ?_
            refine Byte.of _ e403 ?_
            conv => whnf
            refine splD (fun g404 => ?_) (fun g404 => ?_)
            · replace h := iteP h g404
              conv => whnf
              refine Pick.no ?_
              conv => whnf
              obtain ⟨y405, e406, h⟩ := bind_ex h
              refine CallOk.of (spec_shWalk_step_ct e406) ?_
              conv => whnf
              refine spl (fun g407 => ?_) (fun g407 => ?_)
              · replace h := iteT h g407
                conv => whnf
                refine spl (fun g408 => ?_) (fun g408 => ?_)
                · replace h := iteT h g408
                  conv => whnf
                  refine CutK.go ?_
                  conv => whnf
                  exact LoopOk.back (spec_shValue_l0_2_ct  n _ _ _ _ _ _ _ _ _ h) [some 128, some 192] [] ⟨⟨rfl, rfl⟩, ⟨rfl, ⟨rfl, rfl, rfl, trivial⟩, ⟨rfl, rfl, rfl, rfl, rfl, rfl, rfl, rfl, rfl, trivial⟩, trivial⟩, rfl, ⟨rfl, rfl⟩, ⟨rfl, rfl⟩, rfl, trivial⟩
                · replace h := iteF h g408
                  conv => whnf
                  refine CutK.go ?_
                  conv => whnf
                  exact LoopOk.back (spec_shValue_l0_2_ct  n _ _ _ _ _ _ _ _ _ h) [some 128, some 192] [] ⟨⟨rfl, rfl⟩, ⟨rfl, ⟨rfl, rfl, rfl, trivial⟩, ⟨rfl, rfl, rfl, rfl, rfl, rfl, rfl, rfl, rfl, trivial⟩, trivial⟩, rfl, ⟨rfl, rfl⟩, ⟨rfl, rfl⟩, rfl, trivial⟩
              · replace h := iteF h g407
                conv => whnf
                refine spl (fun g409 => ?_) (fun g409 => ?_)
                · replace h := iteT h g409
                  conv => whnf
                  refine CutK.go ?_
                  conv => whnf
                  exact LoopOk.back (spec_shValue_l0_2_ct  n _ _ _ _ _ _ _ _ _ h) [some 128, some 192] [] ⟨⟨rfl, rfl⟩, ⟨rfl, ⟨rfl, rfl, rfl, trivial⟩, ⟨rfl, rfl, rfl, rfl, rfl, rfl, rfl, rfl, rfl, trivial⟩, trivial⟩, rfl, ⟨rfl, rfl⟩, ⟨rfl, rfl⟩, rfl, trivial⟩
                · replace h := iteF h g409
                  conv => whnf
                  refine CutK.go ?_
                  conv => whnf
                  exact LoopOk.back (spec_shValue_l0_2_ct  n _ _ _ _ _ _ _ _ _ h) [some 128, some 192] [] ⟨⟨rfl, rfl⟩, ⟨rfl, ⟨rfl, rfl, rfl, trivial⟩, ⟨rfl, rfl, rfl, rfl, rfl, rfl, rfl, rfl, rfl, trivial⟩, trivial⟩, rfl, ⟨rfl, rfl⟩, ⟨rfl, rfl⟩, rfl, trivial⟩
            · replace h := iteN h g404
              conv => whnf
              refine Pick.no ?_
              conv => whnf
              obtain ⟨y410, e411, h⟩ := bind_ex h
              refine CallOk.of (spec_shWalk_step_ct e411) ?_
              conv => whnf
              refine spl (fun g412 => ?_) (fun g412 => ?_)
              · replace h := iteT h g412
                conv => whnf
                refine spl (fun g413 => ?_) (fun g413 => ?_)
                · replace h := iteT h g413
                  conv => whnf
                  refine CutK.go ?_
                  conv => whnf
                  exact LoopOk.back (spec_shValue_l0_2_ct  n _ _ _ _ _ _ _ _ _ h) [some 128, some 192] [] ⟨⟨rfl, rfl⟩, ⟨rfl, ⟨rfl, rfl, rfl, trivial⟩, ⟨rfl, rfl, rfl, rfl, rfl, rfl, rfl, rfl, rfl, trivial⟩, trivial⟩, rfl, ⟨rfl, rfl⟩, ⟨rfl, rfl⟩, rfl, trivial⟩
                · replace h := iteF h g413
                  conv => whnf
                  refine CutK.go ?_
                  conv => whnf
                  exact LoopOk.back (spec_shValue_l0_2_ct  n _ _ _ _ _ _ _ _ _ h) [some 128, some 192] [] ⟨⟨rfl, rfl⟩, ⟨rfl, ⟨rfl, rfl, rfl, trivial⟩, ⟨rfl, rfl, rfl, rfl, rfl, rfl, rfl, rfl, rfl, trivial⟩, trivial⟩, rfl, ⟨rfl, rfl⟩, ⟨rfl, rfl⟩, rfl, trivial⟩
              · replace h := iteF h g412
                conv => whnf
                refine spl (fun g414 => ?_) (fun g414 => ?_)
                · replace h := iteT h g414
                  conv => whnf
                  refine CutK.go ?_
                  conv => whnf
                  exact LoopOk.back (spec_shValue_l0_2_ct  n _ _ _ _ _ _ _ _ _ h) [some 128, some 192] [] ⟨⟨rfl, rfl⟩, ⟨rfl, ⟨rfl, rfl, rfl, trivial⟩, ⟨rfl, rfl, rfl, rfl, rfl, rfl, rfl, rfl, rfl, trivial⟩, trivial⟩, rfl, ⟨rfl, rfl⟩, ⟨rfl, rfl⟩, rfl, trivial⟩
                · replace h := iteF h g414
                  conv => whnf
                  refine CutK.go ?_
                  conv => whnf
                  exact LoopOk.back (spec_shValue_l0_2_ct  n _ _ _ _ _ _ _ _ _ h) [some 128, some 192] [] ⟨⟨rfl, rfl⟩, ⟨rfl, ⟨rfl, rfl, rfl, trivial⟩, ⟨rfl, rfl, rfl, rfl, rfl, rfl, rfl, rfl, rfl, trivial⟩, trivial⟩, rfl, ⟨rfl, rfl⟩, ⟨rfl, rfl⟩, rfl, trivial⟩
          · replace h := iteN h g400
            conv => whnf
            exact ⟨_, _, [some 128, some 192], [], ⟨rfl, _, _, _, _, _, _, _, _, h, rfl, rfl⟩, ⟨⟨rfl, rfl⟩, ⟨rfl, ⟨rfl, rfl, rfl, trivial⟩, ⟨rfl, rfl, rfl, rfl, rfl, rfl, rfl, rfl, rfl, trivial⟩, trivial⟩, ⟨rfl, rfl⟩, ⟨rfl, rfl⟩, trivial⟩⟩
        · replace h := condT h
          refine LoopOk.step ?_
          conv => whnf
          refine splD (fun g415 => ?_) (fun g415 => ?_)
          · replace h := iteP h g415
            conv => whnf
            refine splT ?_
            conv => whnf
            refine splT ?_
            conv => whnf
            obtain ⟨g417, b416, e418, h⟩ := byteD_ex h
            refine Req.of g417 ?_
            refine Byte.of _ e418 ?_
            conv => whnf
            refine splD (fun g419 => ?_) (fun g419 => ?_)
            · replace h := iteP h g419
              conv => whnf
              refine Pick.no ?_
              conv => whnf
              obtain ⟨y420, e421, h⟩ := bind_ex h
              refine CallOk.of (spec_shWalk_step_ct e421) ?_
              conv => whnf
              refine spl (fun g422 => ?_) (fun g422 => ?_)
              · replace h := iteT h g422
                conv => whnf
                refine spl (fun g423 => ?_) (fun g423 => ?_)
                · replace h := iteT h g423
                  conv => whnf
                  refine CutK.go ?_
                  conv => whnf
                  exact LoopOk.back (spec_shValue_l0_2_ct  n _ _ _ _ _ _ _ _ _ h) [some 128, some 192] [] ⟨⟨rfl, rfl⟩, ⟨rfl, ⟨rfl, rfl, rfl, trivial⟩, ⟨rfl, rfl, rfl, rfl, rfl, rfl, rfl, rfl, rfl, trivial⟩, trivial⟩, rfl, ⟨rfl, rfl⟩, ⟨rfl, rfl⟩, rfl, trivial⟩
                · replace h := iteF h g423
                  conv => whnf
                  refine CutK.go ?_
                  conv => whnf
                  exact LoopOk.back (spec_shValue_l0_2_ct  n _ _ _ _ _ _ _ _ _ h) [some 128, some 192] [] ⟨⟨rfl, rfl⟩, ⟨rfl, ⟨rfl, rfl, rfl, trivial⟩, ⟨rfl, rfl, rfl, rfl, rfl, rfl, rfl, rfl, rfl, trivial⟩, trivial⟩, rfl, ⟨rfl, rfl⟩, ⟨rfl, rfl⟩, rfl, trivial⟩
              · replace h := iteF h g422
                conv => whnf
                refine spl (fun g424 => ?_) (fun g424 => ?_)
                · replace h := iteT h g424
                  conv => whnf
                  refine CutK.go ?_
                  conv => whnf
                  exact LoopOk.back (spec_shValue_l0_2_ct  n _ _ _ _ _ _ _ _ _ h) [some 128, some 192] [] ⟨⟨rfl, rfl⟩, ⟨rfl, ⟨rfl, rfl, rfl, trivial⟩, ⟨rfl, rfl, rfl, rfl, rfl, rfl, rfl, rfl, rfl, trivial⟩, trivial⟩, rfl, ⟨rfl, rfl⟩, ⟨rfl, rfl⟩, rfl, trivial⟩
                · replace h := iteF h g424
                  conv => whnf
                  refine CutK.go ?_
                  conv => whnf
                  exact LoopOk.back (spec_shValue_l0_2_ct  n _ _ _ _ _ _ _ _ _ h) [some 128, some 192] [] ⟨⟨rfl, rfl⟩, ⟨rfl, ⟨rfl, rfl, rfl, trivial⟩, ⟨rfl, rfl, rfl, rfl, rfl, rfl, rfl, rfl, rfl, trivial⟩, trivial⟩, rfl, ⟨rfl, rfl⟩, ⟨rfl, rfl⟩, rfl, trivial⟩
            · replace h := iteN h g419
              conv => whnf
              refine Pick.no ?_
              conv => whnf
              obtain ⟨y425, e426, h⟩ := bind_ex h
              refine CallOk.of (spec_shWalk_step_ct e426) ?_
              conv => whnf
              refine spl (fun g427 => ?_) (fun g427 => ?_)
              · replace h := iteT h g427
                conv => whnf
                refine spl (fun g428 => ?_) (fun g428 => ?_)
                · replace h := iteT h g428
                  conv => whnf
                  refine CutK.go ?_
                  conv => whnf
                  exact LoopOk.back (spec_shValue_l0_2_ct  n _ _ _ _ _ _ _ _ _ h) [some 128, some 192] [] ⟨⟨rfl, rfl⟩, ⟨rfl, ⟨rfl, rfl, rfl, trivial⟩, ⟨rfl, rfl, rfl, rfl, rfl, rfl, rfl, rfl, rfl, trivial⟩, trivial⟩, rfl, ⟨rfl, rfl⟩, ⟨rfl, rfl⟩, rfl, trivial⟩
                · replace h := iteF h g428
                  conv => whnf
                  refine CutK.go ?_
                  conv => whnf
                  exact LoopOk.back (spec_shValue_l0_2_ct  n _ _ _ _ _ _ _ _ _ h) [some 128, some 192] [] ⟨⟨rfl, rfl⟩, ⟨rfl, ⟨rfl, rfl, rfl, trivial⟩, ⟨rfl, rfl, rfl, rfl, rfl, rfl, rfl, rfl, rfl, trivial⟩, trivial⟩, rfl, ⟨rfl, rfl⟩, ⟨rfl, rfl⟩, rfl, trivial⟩
              · replace h := iteF h g427
                conv => whnf
                refine spl (fun g429 => ?_) (fun g429 => ?_)
                · replace h := iteT h g429
                  conv => whnf
                  refine CutK.go ?_
                  conv => whnf
                  exact LoopOk.back (spec_shValue_l0_2_ct  n _ _ _ _ _ _ _ _ _ h) [some 128, some 192] [] ⟨⟨rfl, rfl⟩, ⟨rfl, ⟨rfl, rfl, rfl, trivial⟩, ⟨rfl, rfl, rfl, rfl, rfl, rfl, rfl, rfl, rfl, trivial⟩, trivial⟩, rfl, ⟨rfl, rfl⟩, ⟨rfl, rfl⟩, rfl, trivial⟩
                · replace h := iteF h g429
                  conv => whnf
                  refine CutK.go ?_
                  conv => whnf
                  exact LoopOk.back (spec_shValue_l0_2_ct  n _ _ _ _ _ _ _ _ _ h) [some 128, some 192] [] ⟨⟨rfl, rfl⟩, ⟨rfl, ⟨rfl, rfl, rfl, trivial⟩, ⟨rfl, rfl, rfl, rfl, rfl, rfl, rfl, rfl, rfl, trivial⟩, trivial⟩, rfl, ⟨rfl, rfl⟩, ⟨rfl, rfl⟩, rfl, trivial⟩
          · replace h := iteN h g415
            conv => whnf
            exact ⟨_, _, [some 128, some 192], [], ⟨rfl, _, _, _, _, _, _, _, _, h, rfl, rfl⟩, ⟨⟨rfl, rfl⟩, ⟨rfl, ⟨rfl, rfl, rfl, trivial⟩, ⟨rfl, rfl, rfl, rfl, rfl, rfl, rfl, rfl, rfl, trivial⟩, trivial⟩, ⟨rfl, rfl⟩, ⟨rfl, rfl⟩, trivial⟩⟩
def spec_shValue_l0_3 (k : Nat) (a1 : ByteArray) (K0 : Int → Int → Int → Int → Int → Int → Bool → Bool → Option (Int × Int)) : Nat → Int → Int → Int → Int → Int → Int → Int → Bool → Bool → Option (Int × Int)
  | 0, _, _, _, _, _, _, _, _, _ => none
  | n + 1, v440, v441, v442, v443, v444, v445, v446, v447, v448 => (cond v447 (cond v448 (if v440 < (a1.size : Int) then (byteD a1 v440 fun b629 => (if (b629.toNat : Int) = (43 : Int) then ((spec_shWalk_step k v441 v442 v443 v444 v445 v446 true true true).bind fun y633 => (if y633.2.2.2.2.2.2.1 = true then (if y633.2.2.2.2.2.2.2 = true then (spec_shValue_l0_3 k a1 K0 n (IntKind.i64.wrap (v440 + 1)) y633.1 y633.2.1 y633.2.2.1 y633.2.2.2.1 y633.2.2.2.2.1 y633.2.2.2.2.2.1 true true) else (spec_shValue_l0_3 k a1 K0 n (IntKind.i64.wrap (v440 + 1)) y633.1 y633.2.1 y633.2.2.1 y633.2.2.2.1 y633.2.2.2.2.1 y633.2.2.2.2.2.1 true false)) else (if y633.2.2.2.2.2.2.2 = true then (spec_shValue_l0_3 k a1 K0 n (IntKind.i64.wrap (v440 + 1)) y633.1 y633.2.1 y633.2.2.1 y633.2.2.2.1 y633.2.2.2.2.1 y633.2.2.2.2.2.1 false true) else (spec_shValue_l0_3 k a1 K0 n (IntKind.i64.wrap (v440 + 1)) y633.1 y633.2.1 y633.2.2.1 y633.2.2.2.1 y633.2.2.2.2.1 y633.2.2.2.2.2.1 false false)))) else ((spec_shWalk_step k v441 v442 v443 v444 v445 v446 true true false).bind fun y638 => (if y638.2.2.2.2.2.2.1 = true then (if y638.2.2.2.2.2.2.2 = true then (spec_shValue_l0_3 k a1 K0 n (IntKind.i64.wrap (v440 + 1)) y638.1 y638.2.1 y638.2.2.1 y638.2.2.2.1 y638.2.2.2.2.1 y638.2.2.2.2.2.1 true true) else (spec_shValue_l0_3 k a1 K0 n (IntKind.i64.wrap (v440 + 1)) y638.1 y638.2.1 y638.2.2.1 y638.2.2.2.1 y638.2.2.2.2.1 y638.2.2.2.2.2.1 true false)) else (if y638.2.2.2.2.2.2.2 = true then (spec_shValue_l0_3 k a1 K0 n (IntKind.i64.wrap (v440 + 1)) y638.1 y638.2.1 y638.2.2.1 y638.2.2.2.1 y638.2.2.2.2.1 y638.2.2.2.2.2.1 false true) else (spec_shValue_l0_3 k a1 K0 n (IntKind.i64.wrap (v440 + 1)) y638.1 y638.2.1 y638.2.2.1 y638.2.2.2.1 y638.2.2.2.2.1 y638.2.2.2.2.2.1 false false)))))) else (K0 v441 v442 v443 v444 v445 v446 true true)) (if v440 < (a1.size : Int) then (byteD a1 v440 fun b614 => (if (b614.toNat : Int) = (43 : Int) then ((spec_shWalk_step k v441 v442 v443 v444 v445 v446 true false true).bind fun y618 => (if y618.2.2.2.2.2.2.1 = true then (if y618.2.2.2.2.2.2.2 = true then (spec_shValue_l0_3 k a1 K0 n (IntKind.i64.wrap (v440 + 1)) y618.1 y618.2.1 y618.2.2.1 y618.2.2.2.1 y618.2.2.2.2.1 y618.2.2.2.2.2.1 true true) else (spec_shValue_l0_3 k a1 K0 n (IntKind.i64.wrap (v440 + 1)) y618.1 y618.2.1 y618.2.2.1 y618.2.2.2.1 y618.2.2.2.2.1 y618.2.2.2.2.2.1 true false)) else (if y618.2.2.2.2.2.2.2 = true then (spec_shValue_l0_3 k a1 K0 n (IntKind.i64.wrap (v440 + 1)) y618.1 y618.2.1 y618.2.2.1 y618.2.2.2.1 y618.2.2.2.2.1 y618.2.2.2.2.2.1 false true) else (spec_shValue_l0_3 k a1 K0 n (IntKind.i64.wrap (v440 + 1)) y618.1 y618.2.1 y618.2.2.1 y618.2.2.2.1 y618.2.2.2.2.1 y618.2.2.2.2.2.1 false false)))) else ((spec_shWalk_step k v441 v442 v443 v444 v445 v446 true false false).bind fun y623 => (if y623.2.2.2.2.2.2.1 = true then (if y623.2.2.2.2.2.2.2 = true then (spec_shValue_l0_3 k a1 K0 n (IntKind.i64.wrap (v440 + 1)) y623.1 y623.2.1 y623.2.2.1 y623.2.2.2.1 y623.2.2.2.2.1 y623.2.2.2.2.2.1 true true) else (spec_shValue_l0_3 k a1 K0 n (IntKind.i64.wrap (v440 + 1)) y623.1 y623.2.1 y623.2.2.1 y623.2.2.2.1 y623.2.2.2.2.1 y623.2.2.2.2.2.1 true false)) else (if y623.2.2.2.2.2.2.2 = true then (spec_shValue_l0_3 k a1 K0 n (IntKind.i64.wrap (v440 + 1)) y623.1 y623.2.1 y623.2.2.1 y623.2.2.2.1 y623.2.2.2.2.1 y623.2.2.2.2.2.1 false true) else (spec_shValue_l0_3 k a1 K0 n (IntKind.i64.wrap (v440 + 1)) y623.1 y623.2.1 y623.2.2.1 y623.2.2.2.1 y623.2.2.2.2.1 y623.2.2.2.2.2.1 false false)))))) else (K0 v441 v442 v443 v444 v445 v446 false true))) (cond v448 (if v440 < (a1.size : Int) then (byteD a1 v440 fun b599 => (if (b599.toNat : Int) = (43 : Int) then ((spec_shWalk_step k v441 v442 v443 v444 v445 v446 false true true).bind fun y603 => (if y603.2.2.2.2.2.2.1 = true then (if y603.2.2.2.2.2.2.2 = true then (spec_shValue_l0_3 k a1 K0 n (IntKind.i64.wrap (v440 + 1)) y603.1 y603.2.1 y603.2.2.1 y603.2.2.2.1 y603.2.2.2.2.1 y603.2.2.2.2.2.1 true true) else (spec_shValue_l0_3 k a1 K0 n (IntKind.i64.wrap (v440 + 1)) y603.1 y603.2.1 y603.2.2.1 y603.2.2.2.1 y603.2.2.2.2.1 y603.2.2.2.2.2.1 true false)) else (if y603.2.2.2.2.2.2.2 = true then (spec_shValue_l0_3 k a1 K0 n (IntKind.i64.wrap (v440 + 1)) y603.1 y603.2.1 y603.2.2.1 y603.2.2.2.1 y603.2.2.2.2.1 y603.2.2.2.2.2.1 false true) else (spec_shValue_l0_3 k a1 K0 n (IntKind.i64.wrap (v440 + 1)) y603.1 y603.2.1 y603.2.2.1 y603.2.2.2.1 y603.2.2.2.2.1 y603.2.2.2.2.2.1 false false)))) else ((spec_shWalk_step k v441 v442 v443 v444 v445 v446 false true false).bind fun y608 => (if y608.2.2.2.2.2.2.1 = true then (if y608.2.2.2.2.2.2.2 = true then (spec_shValue_l0_3 k a1 K0 n (IntKind.i64.wrap (v440 + 1)) y608.1 y608.2.1 y608.2.2.1 y608.2.2.2.1 y608.2.2.2.2.1 y608.2.2.2.2.2.1 true true) else (spec_shValue_l0_3 k a1 K0 n (IntKind.i64.wrap (v440 + 1)) y608.1 y608.2.1 y608.2.2.1 y608.2.2.2.1 y608.2.2.2.2.1 y608.2.2.2.2.2.1 true false)) else (if y608.2.2.2.2.2.2.2 = true then (spec_shValue_l0_3 k a1 K0 n (IntKind.i64.wrap (v440 + 1)) y608.1 y608.2.1 y608.2.2.1 y608.2.2.2.1 y608.2.2.2.2.1 y608.2.2.2.2.2.1 false true) else (spec_shValue_l0_3 k a1 K0 n (IntKind.i64.wrap (v440 + 1)) y608.1 y608.2.1 y608.2.2.1 y608.2.2.2.1 y608.2.2.2.2.1 y608.2.2.2.2.2.1 false false)))))) else (K0 v441 v442 v443 v444 v445 v446 true false)) (if v440 < (a1.size : Int) then (byteD a1 v440 fun b584 => (if (b584.toNat : Int) = (43 : Int) then ((spec_shWalk_step k v441 v442 v443 v444 v445 v446 false false true).bind fun y588 => (if y588.2.2.2.2.2.2.1 = true then (if y588.2.2.2.2.2.2.2 = true then (spec_shValue_l0_3 k a1 K0 n (IntKind.i64.wrap (v440 + 1)) y588.1 y588.2.1 y588.2.2.1 y588.2.2.2.1 y588.2.2.2.2.1 y588.2.2.2.2.2.1 true true) else (spec_shValue_l0_3 k a1 K0 n (IntKind.i64.wrap (v440 + 1)) y588.1 y588.2.1 y588.2.2.1 y588.2.2.2.1 y588.2.2.2.2.1 y588.2.2.2.2.2.1 true false)) else (if y588.2.2.2.2.2.2.2 = true then (spec_shValue_l0_3 k a1 K0 n (IntKind.i64.wrap (v440 + 1)) y588.1 y588.2.1 y588.2.2.1 y588.2.2.2.1 y588.2.2.2.2.1 y588.2.2.2.2.2.1 false true) else (spec_shValue_l0_3 k a1 K0 n (IntKind.i64.wrap (v440 + 1)) y588.1 y588.2.1 y588.2.2.1 y588.2.2.2.1 y588.2.2.2.2.1 y588.2.2.2.2.2.1 false false)))) else ((spec_shWalk_step k v441 v442 v443 v444 v445 v446 false false false).bind fun y593 => (if y593.2.2.2.2.2.2.1 = true then (if y593.2.2.2.2.2.2.2 = true then (spec_shValue_l0_3 k a1 K0 n (IntKind.i64.wrap (v440 + 1)) y593.1 y593.2.1 y593.2.2.1 y593.2.2.2.1 y593.2.2.2.2.1 y593.2.2.2.2.2.1 true true) else (spec_shValue_l0_3 k a1 K0 n (IntKind.i64.wrap (v440 + 1)) y593.1 y593.2.1 y593.2.2.1 y593.2.2.2.1 y593.2.2.2.2.1 y593.2.2.2.2.2.1 true false)) else (if y593.2.2.2.2.2.2.2 = true then (spec_shValue_l0_3 k a1 K0 n (IntKind.i64.wrap (v440 + 1)) y593.1 y593.2.1 y593.2.2.1 y593.2.2.2.1 y593.2.2.2.2.1 y593.2.2.2.2.2.1 false true) else (spec_shValue_l0_3 k a1 K0 n (IntKind.i64.wrap (v440 + 1)) y593.1 y593.2.1 y593.2.2.1 y593.2.2.2.1 y593.2.2.2.2.1 y593.2.2.2.2.2.1 false false)))))) else (K0 v441 v442 v443 v444 v445 v446 false false))))
set_option maxHeartbeats 4000000 in
set_option maxRecDepth 100000 in
theorem spec_shValue_l0_3_ct {k : Nat} {a1 : ByteArray} {K0 : Int → Int → Int → Int → Int → Int → Bool → Bool → Option (Int × Int)} {r : Int × Int} : ∀ (n : Nat) (v440 : Int) (v441 : Int) (v442 : Int) (v443 : Int) (v444 : Int) (v445 : Int) (v446 : Int) (v447 : Bool) (v448 : Bool), spec_shValue_l0_3 k a1 K0 n v440 v441 v442 v443 v444 v445 v446 v447 v448 = some r → LoopOk prog 0 (lp f25 0) (mk 20 [(0, .d (D.str a1)), (2, .ptr 128 0), (3, .ptr 192 0), (4, .d (D.int .i64 v440))] [(128, .box 32 [.d (D.int .i64 0), .d (D.int .i64 0)]), (192, .box 61 [.d (D.int .i64 v441), .d (D.int .i64 v442), .d (D.int .i64 v443), .d (D.int .i64 v444), .d (D.int .i64 v445), .d (D.int .i64 v446), .d (D.bool v447), .d (D.bool v448)])]) (LoopEnd prog f25 0 20 (.agg [.d (D.int .i64 r.1), .d (D.int .i64 r.2)]) (⟨[], []⟩) (fun i ts os => (i = 0 ∧ ∃ v470 : Int, ∃ v471 : Int, ∃ v472 : Int, ∃ v473 : Int, ∃ v474 : Int, ∃ v475 : Int, ∃ v476 : Bool, ∃ v507 : Bool, K0 v470 v471 v472 v473 v474 v475 v476 v507 = some r ∧ ts = [(2, .ptr 128 0), (3, .ptr 192 0)] ∧ os = [(128, .box 32 [.d (D.int .i64 0), .d (D.int .i64 0)]), (192, .box 61 [.d (D.int .i64 v470), .d (D.int .i64 v471), .d (D.int .i64 v472), .d (D.int .i64 v473), .d (D.int .i64 v474), .d (D.int .i64 v475), .d (D.bool v507), .d (D.bool v476)])])))
  | 0, _, _, _, _, _, _, _, _, _, h => by
      rw [spec_shValue_l0_3] at h; cases h
  | n + 1, v440, v441, v442, v443, v444, v445, v446, v447, v448, h => by
      rw [spec_shValue_l0_3] at h
      cases v447
      · replace h := condF h
        cases v448
        · replace h := condF h
          refine LoopOk.step ?_
          conv => whnf
          refine splD (fun g583 => ?_) (fun g583 => ?_)
          · replace h := iteP h g583
            conv => whnf
            refine splF ?_
            conv => whnf
            refine splF ?_
            conv => whnf
            obtain ⟨g585, b584, e586, h⟩ := byteD_ex h
            refine Req.of g585 ?_
            refine Byte.of _ e586 ?_
            conv => whnf
            refine splD (fun g587 => ?_) (fun g587 => ?_)
            · replace h := iteP h g587
              conv => whnf
              refine Pick.no ?_
              conv => whnf
              obtain ⟨y588, e589, h⟩ := bind_ex h
              refine CallOk.of (spec_shWalk_step_ct e589) ?_
              conv => whnf
              refine spl (fun g590 => ?_) (fun g590 => ?_)
              · replace h := iteT h g590
                conv => whnf
                refine spl (fun g591 => ?_) (fun g591 => ?_)
                · replace h := iteT h g591
                  conv => whnf
                  refine CutK.go ?_
                  conv => whnf
                  exact LoopOk.back (spec_shValue_l0_3_ct  n _ _ _ _ _ _ _ _ _ h) [some 128, some 192] [] ⟨⟨rfl, rfl⟩, ⟨rfl, ⟨rfl, rfl, rfl, trivial⟩, ⟨rfl, rfl, rfl, rfl, rfl, rfl, rfl, rfl, rfl, trivial⟩, trivial⟩, rfl, ⟨rfl, rfl⟩, ⟨rfl, rfl⟩, rfl, trivial⟩
                · replace h := iteF h g591
                  conv => whnf
                  refine CutK.go ?_
                  conv => whnf
                  exact LoopOk.back (spec_shValue_l0_3_ct  n _ _ _ _ _ _ _ _ _ h) [some 128, some 192] [] ⟨⟨rfl, rfl⟩, ⟨rfl, ⟨rfl, rfl, rfl, trivial⟩, ⟨rfl, rfl, rfl, rfl, rfl, rfl, rfl, rfl, rfl, trivial⟩, trivial⟩, rfl, ⟨rfl, rfl⟩, ⟨rfl, rfl⟩, rfl, trivial⟩
              · replace h := iteF h g590
                conv => whnf
                refine spl (fun g592 => ?_) (fun g592 => ?_)
                · replace h := iteT h g592
                  conv => whnf
                  refine CutK.go ?_
                  conv => whnf
                  exact LoopOk.back (spec_shValue_l0_3_ct  n _ _ _ _ _ _ _ _ _ h) [some 128, some 192] [] ⟨⟨rfl, rfl⟩, ⟨rfl, ⟨rfl, rfl, rfl, trivial⟩, ⟨rfl, rfl, rfl, rfl, rfl, rfl, rfl, rfl, rfl, trivial⟩, trivial⟩, rfl, ⟨rfl, rfl⟩, ⟨rfl, rfl⟩, rfl, trivial⟩
                · replace h := iteF h g592
                  conv => whnf
                  refine CutK.go ?_
                  conv => whnf
                  exact LoopOk.back (spec_shValue_l0_3_ct  n _ _ _ _ _ _ _ _ _ h) [some 128, some 192] [] ⟨⟨rfl, rfl⟩, ⟨rfl, ⟨rfl, rfl, rfl, trivial⟩, ⟨rfl, rfl, rfl, rfl, rfl, rfl, rfl, rfl, rfl, trivial⟩, trivial⟩, rfl, ⟨rfl, rfl⟩, ⟨rfl, rfl⟩, rfl, trivial⟩
            · replace h := iteN h g587
              conv => whnf
              refine Pick.no ?_
              conv => whnf
              obtain ⟨y593, e594, h⟩ := bind_ex h
              refine CallOk.of (spec_shWalk_step_ct e594) ?_
              conv => whnf
              refine spl (fun g595 => ?_) (fun g595 => ?_)
              · replace h := iteT h g595
                conv => whnf
                refine spl (fun g596 => ?_) (fun g596 => ?_)
                · replace h := iteT h g596
                  conv => whnf
                  refine CutK.go ?_
                  conv => whnf
                  exact LoopOk.back (spec_shValue_l0_3_ct  n _ _ _ _ _ _ _ _ _ h) [some 128, some 192] [] ⟨⟨rfl, rfl⟩, ⟨rfl, ⟨rfl, rfl, rfl, trivial⟩, ⟨rfl, rfl, rfl, rfl, rfl, rfl, rfl, rfl, rfl, trivial⟩, trivial⟩, rfl, ⟨rfl, rfl⟩, ⟨rfl, rfl⟩, rfl, trivial⟩
                · replace h := iteF h g596
                  conv => whnf
                  refine CutK.go ?_
                  conv => whnf
                  exact LoopOk.back (spec_shValue_l0_3_ct  n _ _ _ _ _ _ _ _ _ h) [some 128, some 192] [] ⟨⟨rfl, rfl⟩, ⟨rfl, ⟨rfl, rfl, rfl, trivial⟩, ⟨rfl, rfl, rfl, rfl, rfl, rfl, rfl, rfl, rfl, trivial⟩, trivial⟩, rfl, ⟨rfl, rfl⟩, ⟨rfl, rfl⟩, rfl, trivial⟩
              · replace h := iteF h g595
                conv => whnf
                refine spl (fun g597 => ?_) (fun g597 => ?_)
                · replace h := iteT h g597
                  conv => whnf
                  refine CutK.go ?_
                  conv => whnf
                  exact LoopOk.back (spec_shValue_l0_3_ct  n _ _ _ _ _ _ _ _ _ h) [some 128, some 192] [] ⟨⟨rfl, rfl⟩, ⟨rfl, ⟨rfl, rfl, rfl, trivial⟩, ⟨rfl, rfl, rfl, rfl, rfl, rfl, rfl, rfl, rfl, trivial⟩, trivial⟩, rfl, ⟨rfl, rfl⟩, ⟨rfl, rfl⟩, rfl, trivial⟩
                · replace h := iteF h g597
                  conv => whnf
                  refine CutK.go ?_
                  conv => whnf
                  exact LoopOk.back (spec_shValue_l0_3_ct  n _ _ _ _ _ _ _ _ _ h) [some 128, some 192] [] ⟨⟨rfl, rfl⟩, ⟨rfl, ⟨rfl, rfl, rfl, trivial⟩, ⟨rfl, rfl, rfl, rfl, rfl, rfl, rfl, rfl, rfl, trivial⟩, trivial⟩, rfl, ⟨rfl, rfl⟩, ⟨rfl, rfl⟩, rfl, trivial⟩
          · replace h := iteN h g583
            conv => whnf
            exact ⟨_, _, [some 128, some 192], [], ⟨rfl, _, _, _, _, _, _, _, _, h, rfl, rfl⟩, ⟨⟨rfl, rfl⟩, ⟨rfl, ⟨rfl, rfl, rfl, trivial⟩, ⟨rfl, rfl, rfl, rfl, rfl, rfl, rfl, rfl, rfl, trivial⟩, trivial⟩, ⟨rfl, rfl⟩, ⟨rfl, rfl⟩, trivial⟩⟩
        · replace h := condT h
          refine LoopOk.step ?_
          conv => whnf
          refine splD (fun g598 => ?_) (fun g598 => ?_)
          · replace h := iteP h g598
            conv => whnf
            refine splF ?_
            conv => whnf
            refine splT ?_
            conv => whnf
            obtain ⟨g600, b599, e601, h⟩ := byteD_ex h
            refine Req.of g600 ?_
            refine Byte.of _ e601 ?_
            conv => whnf
            refine splD (fun g602 => ?_) (fun g602 => ?_)
            · replace h := iteP h g602
              conv => whnf
              refine Pick.no ?_
              conv => whnf
              obtain ⟨y603, e604, h⟩ := bind_ex h
              refine CallOk.of (spec_shWalk_step_ct e604) ?_
              conv => whnf
              refine spl (fun g605 => ?_) (fun g605 => ?_)
              · replace h := iteT h g605
                conv => whnf
                refine spl (fun g606 => ?_) (fun g606 => ?_)
                · replace h := iteT h g606
                  conv => whnf
                  refine CutK.go ?_
                  conv => whnf
                  exact LoopOk.back (spec_shValue_l0_3_ct  n _ _ _ _ _ _ _ _ _ h) [some 128, some 192] [] ⟨⟨rfl, rfl⟩, ⟨rfl, ⟨rfl, rfl, rfl, trivial⟩, ⟨rfl, rfl, rfl, rfl, rfl, rfl, rfl, rfl, rfl, trivial⟩, trivial⟩, rfl, ⟨rfl, rfl⟩, ⟨rfl, rfl⟩, rfl, trivial⟩
                · replace h := iteF h g606
                  conv => whnf
                  refine CutK.go ?_
                  conv => whnf
                  exact LoopOk.back (spec_shValue_l0_3_ct  n _ _ _ _ _ _ _ _ _ h) [some 128, some 192] [] ⟨⟨rfl, rfl⟩, ⟨rfl, ⟨rfl, rfl, rfl, trivial⟩, ⟨rfl, rfl, rfl, rfl, rfl, rfl, rfl, rfl, rfl, trivial⟩, trivial⟩, rfl, ⟨rfl, rfl⟩, ⟨rfl, rfl⟩, rfl, trivial⟩
              · replace h := iteF h g605
                conv => whnf
                refine spl (fun g607 => ?_) (fun g607 => ?_)
                · replace h := iteT h g607
                  conv => whnf
                  refine CutK.go ?_
                  conv => whnf
                  exact LoopOk.back (spec_shValue_l0_3_ct  n _ _ _ _ _ _ _ _ _ h) [some 128, some 192] [] ⟨⟨rfl, rfl⟩, ⟨rfl, ⟨rfl, rfl, rfl, trivial⟩, ⟨rfl, rfl, rfl, rfl, rfl, rfl, rfl, rfl, rfl, trivial⟩, trivial⟩, rfl, ⟨rfl, rfl⟩, ⟨rfl, rfl⟩, rfl, trivial⟩
                · replace h := iteF h g607
                  conv => whnf
                  refine CutK.go ?_
                  conv => whnf
                  exact LoopOk.back (spec_shValue_l0_3_ct  n _ _ _ _ _ _ _ _ _ h) [some 128, some 192] [] ⟨⟨rfl, rfl⟩, ⟨rfl, ⟨rfl, rfl, rfl, trivial⟩, ⟨rfl, rfl, rfl, rfl, rfl, rfl, rfl, rfl, rfl, trivial⟩, trivial⟩, rfl, ⟨rfl, rfl⟩, ⟨rfl, rfl⟩, rfl, trivial⟩
            · replace h := iteN h g602
              conv => whnf
              refine Pick.no ?_
              conv => whnf
              obtain ⟨y608, e609, h⟩ := bind_ex h
              refine CallOk.of (spec_shWalk_step_ct e609) ?_
              conv => whnf
              refine spl (fun g610 => ?_) (fun g610 => ?_)
              · replace h := iteT h g610
                conv => whnf
                refine spl (fun g611 => ?_) (fun g611 => ?_)
                · replace h := iteT h g611
                  conv => whnf
                  refine CutK.go ?_
                  conv => whnf
                  exact LoopOk.back (spec_shValue_l0_3_ct  n _ _ _ _ _ _ _ _ _ h) [some 128, some 192] [] ⟨⟨rfl, rfl⟩, ⟨rfl, ⟨rfl, rfl, rfl, trivial⟩, ⟨rfl, rfl, rfl, rfl, rfl, rfl, rfl, rfl, rfl, trivial⟩, trivial⟩, rfl, ⟨rfl, rfl⟩, ⟨rfl, rfl⟩, rfl, trivial⟩
                · replace h := iteF h g611
                  conv => whnf
                  refine CutK.go ?_
                  conv => whnf
                  exact LoopOk.back (spec_shValue_l0_3_ct  n _ _ _ _ _ _ _ _ _ h) [some 128, some 192] [] ⟨⟨rfl, rfl⟩, ⟨rfl, ⟨rfl, rfl, rfl, trivial⟩, ⟨rfl, rfl, rfl, rfl, rfl, rfl, rfl, rfl, rfl, trivial⟩, trivial⟩, rfl, ⟨rfl, rfl⟩, ⟨rfl, rfl⟩, rfl, trivial⟩
              · replace h := iteF h g610
                conv => whnf
                refine spl (fun g612 => ?_) (fun g612 => ?_)
                · replace h := iteT h g612
                  conv => whnf
                  refine CutK.go ?_
                  conv => whnf
                  exact LoopOk.back (spec_shValue_l0_3_ct  n _ _ _ _ _ _ _ _ _ h) [some 128, some 192] [] ⟨⟨rfl, rfl⟩, ⟨rfl, ⟨rfl, rfl, rfl, trivial⟩, ⟨rfl, rfl, rfl, rfl, rfl, rfl, rfl, rfl, rfl, trivial⟩, trivial⟩, rfl, ⟨rfl, rfl⟩, ⟨rfl, rfl⟩, rfl, trivial⟩
                · replace h := iteF h g612
                  conv => whnf
                  refine CutK.go ?_
                  conv => whnf
                  exact LoopOk.back (spec_shValue_l0_3_ct  n _ _ _ _ _ _ _ _ _ h) [some 128, some 192] [] ⟨⟨rfl, rfl⟩, ⟨rfl, ⟨rfl, rfl, rfl, trivial⟩, ⟨rfl, rfl, rfl, rfl, rfl, rfl, rfl, rfl, rfl, trivial⟩, trivial⟩, rfl, ⟨rfl, rfl⟩, ⟨rfl, rfl⟩, rfl, trivial⟩
          · replace h := iteN h g598
            conv => whnf
            exact ⟨_, _, [some 128, some 192], [], ⟨rfl, _, _, _, _, _, _, _, _, h, rfl, rfl⟩, ⟨⟨rfl, rfl⟩, ⟨rfl, ⟨rfl, rfl, rfl, trivial⟩, ⟨rfl, rfl, rfl, rfl, rfl, rfl, rfl, rfl, rfl, trivial⟩, trivial⟩, ⟨rfl, rfl⟩, ⟨rfl, rfl⟩, trivial⟩⟩
      · replace h := condT h
        cases v448
        · replace h := condF h
          refine LoopOk.step ?_
          conv => whnf
          refine splD (fun g613 => ?_) (fun g613 => ?_)
          · replace h := iteP h g613
            conv => whnf
            refine splT ?_
            conv => whnf
            refine splF ?_
            conv => whnf
            obtain ⟨g615, b614, e616, h⟩ := byteD_ex h
            refine Req.of g615 ?_
            refine Byte.of _ e616 ?_
            conv => whnf
            refine splD (fun g617 => ?_) (fun g617 => ?_)
            · replace h := iteP h g617
              conv => whnf
              refine Pick.no ?_
              conv => whnf
              obtain ⟨y618, e619, h⟩ := bind_ex h
              refine CallOk.of (spec_shWalk_step_ct e619) ?_
              conv => whnf
              refine spl (fun g620 => ?_) (fun g620 => ?_)
              · replace h := iteT h g620
                conv => whnf
                refine spl (fun g621 => ?_) (fun g621 => ?_)
                · replace h := iteT h g621
                  conv => whnf
                  refine CutK.go ?_
                  conv => whnf
                  exact LoopOk.back (spec_shValue_l0_3_ct  n _ _ _ _ _ _ _ _ _ h) [some 128, some 192] [] ⟨⟨rfl, rfl⟩, ⟨rfl, ⟨rfl, rfl, rfl, trivial⟩, ⟨rfl, rfl, rfl, rfl, rfl, rfl, rfl, rfl, rfl, trivial⟩, trivial⟩, rfl, ⟨rfl, rfl⟩, ⟨rfl, rfl⟩, rfl, trivial⟩
                · replace h := iteF h g621
                  conv => whnf
                  refine CutK.go ?_
                  conv => whnf
                  exact LoopOk.back (spec_shValue_l0_3_ct  n _ _ _ _ _ _ _ _ _ h) [some 128, some 192] [] ⟨⟨rfl, rfl⟩, ⟨rfl, ⟨rfl, rfl, rfl, trivial⟩, ⟨rfl, rfl, rfl, rfl, rfl, rfl, rfl, rfl, rfl, trivial⟩, trivial⟩, rfl, ⟨rfl, rfl⟩, ⟨rfl, rfl⟩, rfl, trivial⟩
              · replace h := iteF h g620
                conv => whnf
                refine spl (fun g622 => ?_) (fun g622 => ?_)
                · replace h := iteT h g622
                  conv => whnf
                  refine CutK.go ?_
                  conv => whnf
                  exact LoopOk.back (spec_shValue_l0_3_ct  n _ _ _ _ _ _ _ _ _ h) [some 128, some 192] [] ⟨⟨rfl, rfl⟩, ⟨rfl, ⟨rfl, rfl, rfl, trivial⟩, ⟨rfl, rfl, rfl, rfl, rfl, rfl, rfl, rfl, rfl, trivial⟩, trivial⟩, rfl, ⟨rfl, rfl⟩, ⟨rfl, rfl⟩, rfl, trivial⟩
                · replace h := iteF h g622
                  conv => whnf
                  refine CutK.go ?_
                  conv => whnf
                  exact LoopOk.back (spec_shValue_l0_3_ct  n _ _ _ _ _ _ _ _ _ h) [some 128, some 192] [] ⟨⟨rfl, rfl⟩, ⟨rfl, ⟨rfl, rfl, rfl, trivial⟩, ⟨rfl, rfl, rfl, rfl, rfl, rfl, rfl, rfl, rfl, trivial⟩, trivial⟩, rfl, ⟨rfl, rfl⟩, ⟨rfl, rfl⟩, rfl, trivial⟩
            · replace h := iteN h g617
              conv => whnf
              refine Pick.no ?_
              conv => whnf
              obtain ⟨y623, e624, h⟩ := bind_ex h
              refine CallOk.of (spec_shWalk_step_ct e624) ?_
              conv => whnf
              refine spl (fun g625 => ?_) (fun g625 => ?_)
              · replace h := iteT h g625
                conv => whnf
                refine spl (fun g626 => ?_) (fun g626 => ?_)
                · replace h := iteT h g626
                  conv => whnf
                  refine CutK.go ?_
                  conv => whnf
                  exact LoopOk.back (spec_shValue_l0_3_ct  n _ _ _ _ _ _ _ _ _ h) [some 128, some 192] [] ⟨⟨rfl, rfl⟩, ⟨rfl, ⟨rfl, rfl, rfl, trivial⟩, ⟨rfl, rfl, rfl, rfl, rfl, rfl, rfl, rfl, rfl, trivial⟩, trivial⟩, rfl, ⟨rfl, rfl⟩, ⟨rfl, rfl⟩, rfl, trivial⟩
                · replace h := iteF h g626
                  conv => whnf
                  refine CutK.go ?_
                  conv => whnf
                  exact LoopOk.back (spec_shValue_l0_3_ct  n _ _ _ _ _ _ _ _ _ h) [some 128, some 192] [] ⟨⟨rfl, rfl⟩, ⟨rfl, ⟨rfl, rfl, rfl, trivial⟩, ⟨rfl, rfl, rfl, rfl, rfl, rfl, rfl, rfl, rfl, trivial⟩, trivial⟩, rfl, ⟨rfl, rfl⟩, ⟨rfl, rfl⟩, rfl, trivial⟩
              · replace h := iteF h g625
                conv => whnf
                refine spl (fun g627 => ?_) (fun g627 => ?_)
                · replace h := iteT h g627
                  conv => whnf
                  refine CutK.go ?_
                  conv => whnf
                  exact LoopOk.back (spec_shValue_l0_3_ct  n _ _ _ _ _ _ _ _ _ h) [some 128, some 192] [] ⟨⟨rfl, rfl⟩, ⟨rfl, ⟨rfl, rfl, rfl, trivial⟩, ⟨rfl, rfl, rfl, rfl, rfl, rfl, rfl, rfl, rfl, trivial⟩, trivial⟩, rfl, ⟨rfl, rfl⟩, ⟨rfl, rfl⟩, rfl, trivial⟩
                · replace h := iteF h g627
                  conv => whnf
                  refine CutK.go ?_
                  conv => whnf
                  exact LoopOk.back (spec_shValue_l0_3_ct  n _ _ _ _ _ _ _ _ _ h) [some 128, some 192] [] ⟨⟨rfl, rfl⟩, ⟨rfl, ⟨rfl, rfl, rfl, trivial⟩, ⟨rfl, rfl, rfl, rfl, rfl, rfl, rfl, rfl, rfl, trivial⟩, trivial⟩, rfl, ⟨rfl, rfl⟩, ⟨rfl, rfl⟩, rfl, trivial⟩
          · replace h := iteN h g613
            conv => whnf
            exact ⟨_, _, [some 128, some 192], [], ⟨rfl, _, _, _, _, _, _, _, _, h, rfl, rfl⟩, ⟨⟨rfl, rfl⟩, ⟨rfl, ⟨rfl, rfl, rfl, trivial⟩, ⟨rfl, rfl, rfl, rfl, rfl, rfl, rfl, rfl, rfl, trivial⟩, trivial⟩, ⟨rfl, rfl⟩, ⟨rfl, rfl⟩, trivial⟩⟩
        · replace h := condT h
          refine LoopOk.step ?_
          conv => whnf
          refine splD (fun g628 => ?_) (fun g628 => ?_)
          · replace h := iteP h g628
            conv => whnf
            refine splT ?_
            conv => whnf
            refine splT ?_
            conv => whnf
            obtain ⟨g630, b629, e631, h⟩ := byteD_ex h
            refine Req.of g630 ?_
            refine Byte.of _ e631 ?_
            conv => whnf
            refine splD (fun g632 => ?_) (fun g632 => ?_)
            · replace h := iteP h g632
              conv => whnf
              refine Pick.no ?_
              conv => whnf
              obtain ⟨y633, e634, h⟩ := bind_ex h
              refine CallOk.of (spec_shWalk_step_ct e634) ?_
              conv => whnf
              refine spl (fun g635 => ?_) (fun g635 => ?_)
              · replace h := iteT h g635
                conv => whnf
                refine spl (fun g636 => ?_) (fun g636 => ?_)
                · replace h := iteT h g636
                  conv => whnf
                  refine CutK.go ?_
                  conv => whnf
                  exact LoopOk.back (spec_shValue_l0_3_ct  n _ _ _ _ _ _ _ _ _ h) [some 128, some 192] [] ⟨⟨rfl, rfl⟩, ⟨rfl, ⟨rfl, rfl, rfl, trivial⟩, ⟨rfl, rfl, rfl, rfl, rfl, rfl, rfl, rfl, rfl, trivial⟩, trivial⟩, rfl, ⟨rfl, rfl⟩, ⟨rfl, rfl⟩, rfl, trivial⟩
                · replace h := iteF h g636
                  conv => whnf
                  refine CutK.go ?_
                  conv => whnf
                  exact LoopOk.back (spec_shValue_l0_3_ct  n _ _ _ _ _ _ _ _ _ h) [some 128, some 192] [] ⟨⟨rfl, rfl⟩, ⟨rfl, ⟨rfl, rfl, rfl, trivial⟩, ⟨rfl, rfl, rfl, rfl, rfl, rfl, rfl, rfl, rfl, trivial⟩, trivial⟩, rfl, ⟨rfl, rfl⟩, ⟨rfl, rfl⟩, rfl, trivial⟩
              · replace h := iteF h g635
                conv => whnf
                refine spl (fun g637 => ?_) (fun g637 => ?_)
                · replace h := iteT h g637
                  conv => whnf
                  refine CutK.go ?_
                  conv => whnf
                  exact LoopOk.back (spec_shValue_l0_3_ct  n _ _ _ _ _ _ _ _ _ h) [some 128, some 192] [] ⟨⟨rfl, rfl⟩, ⟨rfl, ⟨rfl, rfl, rfl, trivial⟩, ⟨rfl, rfl, rfl, rfl, rfl, rfl, rfl, rfl, rfl, trivial⟩, trivial⟩, rfl, ⟨rfl, rfl⟩, ⟨rfl, rfl⟩, rfl, trivial⟩
                · replace h := iteF h g637
                  conv => whnf
                  refine CutK.go ?_
                  conv => whnf
                  exact LoopOk.back (spec_shValue_l0_3_ct  n _ _ _ _ _ _ _ _ _ h) [some 128, some 192] [] ⟨⟨rfl, rfl⟩, ⟨rfl, ⟨rfl, rfl, rfl, trivial⟩, ⟨rfl, rfl, rfl, rfl, rfl, rfl, rfl, rfl, rfl, trivial⟩, trivial⟩, rfl, ⟨rfl, rfl⟩, ⟨rfl, rfl⟩, rfl, trivial⟩
            · replace h := iteN h g632
              conv => whnf
              refine Pick.no ?_
              conv => whnf
              obtain ⟨y638, e639, h⟩ := bind_ex h
              refine CallOk.of (spec_shWalk_step_ct e639) ?_
              conv => whnf
              refine spl (fun g640 => ?_) (fun g640 => ?_)
              · replace h := iteT h g640
                conv => whnf
                refine spl (fun g641 => ?_) (fun g641 => ?_)
                · replace h := iteT h g641
                  conv => whnf
                  refine CutK.go ?_
                  conv => whnf
                  exact LoopOk.back (spec_shValue_l0_3_ct  n _ _ _ _ _ _ _ _ _ h) [some 128, some 192] [] ⟨⟨rfl, rfl⟩, ⟨rfl, ⟨rfl, rfl, rfl, trivial⟩, ⟨rfl, rfl, rfl, rfl, rfl, rfl, rfl, rfl, rfl, trivial⟩, trivial⟩, rfl, ⟨rfl, rfl⟩, ⟨rfl, rfl⟩, rfl, trivial⟩
                · replace h := iteF h g641
                  conv => whnf
                  refine CutK.go ?_
                  conv => whnf
                  exact LoopOk.back (spec_shValue_l0_3_ct  n _ _ _ _ _ _ _ _ _ h) [some 128, some 192] [] ⟨⟨rfl, rfl⟩, ⟨rfl, ⟨rfl, rfl, rfl, trivial⟩, ⟨rfl, rfl, rfl, rfl, rfl, rfl, rfl, rfl, rfl, trivial⟩, trivial⟩, rfl, ⟨rfl, rfl⟩, ⟨rfl, rfl⟩, rfl, trivial⟩
              · replace h := iteF h g640
                conv => whnf
                refine spl (fun g642 => ?_) (fun g642 => ?_)
                · replace h := iteT h g642
                  conv => whnf
                  refine CutK.go ?_
                  conv => whnf
                  exact LoopOk.back (spec_shValue_l0_3_ct  n _ _ _ _ _ _ _ _ _ h) [some 128, some 192] [] ⟨⟨rfl, rfl⟩, ⟨rfl, ⟨rfl, rfl, rfl, trivial⟩, ⟨rfl, rfl, rfl, rfl, rfl, rfl, rfl, rfl, rfl, trivial⟩, trivial⟩, rfl, ⟨rfl, rfl⟩, ⟨rfl, rfl⟩, rfl, trivial⟩
                · replace h := iteF h g642
                  conv => whnf
                  refine CutK.go ?_
                  conv => whnf
                  exact LoopOk.back (spec_shValue_l0_3_ct  n _ _ _ _ _ _ _ _ _ h) [some 128, some 192] [] ⟨⟨rfl, rfl⟩, ⟨rfl, ⟨rfl, rfl, rfl, trivial⟩, ⟨rfl, rfl, rfl, rfl, rfl, rfl, rfl, rfl, rfl, trivial⟩, trivial⟩, rfl, ⟨rfl, rfl⟩, ⟨rfl, rfl⟩, rfl, trivial⟩
          · replace h := iteN h g628
            conv => whnf
            exact ⟨_, _, [some 128, some 192], [], ⟨rfl, _, _, _, _, _, _, _, _, h, rfl, rfl⟩, ⟨⟨rfl, rfl⟩, ⟨rfl, ⟨rfl, rfl, rfl, trivial⟩, ⟨rfl, rfl, rfl, rfl, rfl, rfl, rfl, rfl, rfl, trivial⟩, trivial⟩, ⟨rfl, rfl⟩, ⟨rfl, rfl⟩, trivial⟩⟩
def spec_shValue_l0_4 (k : Nat) (a1 : ByteArray) (K0 : Int → Int → Int → Int → Int → Int → Bool → Bool → Option (Int × Int)) : Nat → Int → Int → Int → Int → Int → Int → Int → Bool → Bool → Option (Int × Int)
  | 0, _, _, _, _, _, _, _, _, _ => none
  | n + 1, v652, v653, v654, v655, v656, v657, v658, v659, v660 => (cond v659 (cond v660 (if v652 < (a1.size : Int) then (byteD a1 v652 fun b841 => (if (b841.toNat : Int) = (43 : Int) then ((spec_shWalk_step k v653 v654 v655 v656 v657 v658 true true true).bind fun y845 => (if y845.2.2.2.2.2.2.1 = true then (if y845.2.2.2.2.2.2.2 = true then (spec_shValue_l0_4 k a1 K0 n (IntKind.i64.wrap (v652 + 1)) y845.1 y845.2.1 y845.2.2.1 y845.2.2.2.1 y845.2.2.2.2.1 y845.2.2.2.2.2.1 true true) else (spec_shValue_l0_4 k a1 K0 n (IntKind.i64.wrap (v652 + 1)) y845.1 y845.2.1 y845.2.2.1 y845.2.2.2.1 y845.2.2.2.2.1 y845.2.2.2.2.2.1 true false)) else (if y845.2.2.2.2.2.2.2 = true then (spec_shValue_l0_4 k a1 K0 n (IntKind.i64.wrap (v652 + 1)) y845.1 y845.2.1 y845.2.2.1 y845.2.2.2.1 y845.2.2.2.2.1 y845.2.2.2.2.2.1 false true) else (spec_shValue_l0_4 k a1 K0 n (IntKind.i64.wrap (v652 + 1)) y845.1 y845.2.1 y845.2.2.1 y845.2.2.2.1 y845.2.2.2.2.1 y845.2.2.2.2.2.1 false false)))) else ((spec_shWalk_step k v653 v654 v655 v656 v657 v658 true true false).bind fun y850 => (if y850.2.2.2.2.2.2.1 = true then (if y850.2.2.2.2.2.2.2 = true then (spec_shValue_l0_4 k a1 K0 n (IntKind.i64.wrap (v652 + 1)) y850.1 y850.2.1 y850.2.2.1 y850.2.2.2.1 y850.2.2.2.2.1 y850.2.2.2.2.2.1 true true) else (spec_shValue_l0_4 k a1 K0 n (IntKind.i64.wrap (v652 + 1)) y850.1 y850.2.1 y850.2.2.1 y850.2.2.2.1 y850.2.2.2.2.1 y850.2.2.2.2.2.1 true false)) else (if y850.2.2.2.2.2.2.2 = true then (spec_shValue_l0_4 k a1 K0 n (IntKind.i64.wrap (v652 + 1)) y850.1 y850.2.1 y850.2.2.1 y850.2.2.2.1 y850.2.2.2.2.1 y850.2.2.2.2.2.1 false true) else (spec_shValue_l0_4 k a1 K0 n (IntKind.i64.wrap (v652 + 1)) y850.1 y850.2.1 y850.2.2.1 y850.2.2.2.1 y850.2.2.2.2.1 y850.2.2.2.2.2.1 false false)))))) else (K0 v653 v654 v655 v656 v657 v658 true true)) (if v652 < (a1.size : Int) then (byteD a1 v652 fun b826 => (if (b826.toNat : Int) = (43 : Int) then ((spec_shWalk_step k v653 v654 v655 v656 v657 v658 true false true).bind fun y830 => (if y830.2.2.2.2.2.2.1 = true then (if y830.2.2.2.2.2.2.2 = true then (spec_shValue_l0_4 k a1 K0 n (IntKind.i64.wrap (v652 + 1)) y830.1 y830.2.1 y830.2.2.1 y830.2.2.2.1 y830.2.2.2.2.1 y830.2.2.2.2.2.1 true true) else (spec_shValue_l0_4 k a1 K0 n (IntKind.i64.wrap (v652 + 1)) y830.1 y830.2.1 y830.2.2.1 y830.2.2.2.1 y830.2.2.2.2.1 y830.2.2.2.2.2.1 true false)) else (if y830.2.2.2.2.2.2.2 = true then (spec_shValue_l0_4 k a1 K0 n (IntKind.i64.wrap (v652 + 1)) y830.1 y830.2.1 y830.2.2.1 y830.2.2.2.1 y830.2.2.2.2.1 y830.2.2.2.2.2.1 false true) else (spec_shValue_l0_4 k a1 K0 n (IntKind.i64.wrap (v652 + 1)) y830.1 y830.2.1 y830.2.2.1 y830.2.2.2.1 y830.2.2.2.2.1 y830.2.2.2.2.2.1 false false)))) else ((spec_shWalk_step k v653 v654 v655 v656 v657 v658 true false false).bind fun y835 => (if y835.2.2.2.2.2.2.1 = true then (if y835.2.2.2.2.2.2.2 = true then (spec_shValue_l0_4 k a1 K0 n (IntKind.i64.wrap (v652 + 1)) y835.1 y835.2.1 y835.2.2.1 y835.2.2.2.1 y835.2.2.2.2.1 y835.2.2.2.2.2.1 true true) else (spec_shValue_l0_4 k a1 K0 n (IntKind.i64.wrap (v652 + 1)) y835.1 y835.2.1 y835.2.2.1 y835.2.2.2.1 y835.2.2.2.2.1 y835.2.2.2.2.2.1 true false)) else (if y835.2.2.2.2.2.2.2 = true then (spec_shValue_l0_4 k a1 K0 n (IntKind.i64.wrap (v652 + 1)) y835.1 y835.2.1 y835.2.2.1 y835.2.2.2.1 y835.2.2.2.2.1 y835.2.2.2.2.2.1 false true) else (spec_shValue_l0_4 k a1 K0 n (IntKind.i64.wrap (v652 + 1)) y835.1 y835.2.1 y835.2.2.1 y835.2.2.2.1 y835.2.2.2.2.1 y835.2.2.2.2.2.1 false false)))))) else (K0 v653 v654 v655 v656 v657 v658 false true))) (cond v660 (if v652 < (a1.size : Int) then (byteD a1 v652 fun b811 => (if (b811.toNat : Int) = (43 : Int) then ((spec_shWalk_step k v653 v654 v655 v656 v657 v658 false true true).bind fun y815 => (if y815.2.2.2.2.2.2.1 = true then (if y815.2.2.2.2.2.2.2 = true then (spec_shValue_l0_4 k a1 K0 n (IntKind.i64.wrap (v652 + 1)) y815.1 y815.2.1 y815.2.2.1 y815.2.2.2.1 y815.2.2.2.2.1 y815.2.2.2.2.2.1 true true) else (spec_shValue_l0_4 k a1 K0 n (IntKind.i64.wrap (v652 + 1)) y815.1 y815.2.1 y815.2.2.1 y815.2.2.2.1 y815.2.2.2.2.1 y815.2.2.2.2.2.1 true false)) else (if y815.2.2.2.2.2.2.2 = true then (spec_shValue_l0_4 k a1 K0 n (IntKind.i64.wrap (v652 + 1)) y815.1 y815.2.1 y815.2.2.1 y815.2.2.2.1 y815.2.2.2.2.1 y815.2.2.2.2.2.1 false true) else (spec_shValue_l0_4 k a1 K0 n (IntKind.i64.wrap (v652 + 1)) y815.1 y815.2.1 y815.2.2.1 y815.2.2.2.1 y815.2.2.2.2.1 y815.2.2.2.2.2.1 false false)))) else ((spec_shWalk_step k v653 v654 v655 v656 v657 v658 false true false).bind fun y820 => (if y820.2.2.2.2.2.2.1 = true then (if y820.2.2.2.2.2.2.2 = true then (spec_shValue_l0_4 k a1 K0 n (IntKind.i64.wrap (v652 + 1)) y820.1 y820.2.1 y820.2.2.1 y820.2.2.2.1 y820.2.2.2.2.1 y820.2.2.2.2.2.1 true true) else (spec_shValue_l0_4 k a1 K0 n (IntKind.i64.wrap (v652 + 1)) y820.1 y820.2.1 y820.2.2.1 y820.2.2.2.1 y820.2.2.2.2.1 y820.2.2.2.2.2.1 true false)) else (if y820.2.2.2.2.2.2.2 = true then (spec_shValue_l0_4 k a1 K0 n (IntKind.i64.wrap (v652 + 1)) y820.1 y820.2.1 y820.2.2.1 y820.2.2.2.1 y820.2.2.2.2.1 y820.2.2.2.2.2.1 false true) else (spec_shValue_l0_4 k a1 K0 n (IntKind.i64.wrap (v652 + 1)) y820.1 y820.2.1 y820.2.2.1 y820.2.2.2.1 y820.2.2.2.2.1 y820.2.2.2.2.2.1 false false)))))) else (K0 v653 v654 v655 v656 v657 v658 true false)) (if v652 < (a1.size : Int) then (byteD a1 v652 fun b796 => (if (b796.toNat : Int) = (43 : Int) then ((spec_shWalk_step k v653 v654 v655 v656 v657 v658 false false true).bind fun y800 => (if y800.2.2.2.2.2.2.1 = true then (if y800.2.2.2.2.2.2.2 = true then (spec_shValue_l0_4 k a1 K0 n (IntKind.i64.wrap (v652 + 1)) y800.1 y800.2.1 y800.2.2.1 y800.2.2.2.1 y800.2.2.2.2.1 y800.2.2.2.2.2.1 true true) else (spec_shValue_l0_4 k a1 K0 n (IntKind.i64.wrap (v652 + 1)) y800.1 y800.2.1 y800.2.2.1 y800.2.2.2.1 y800.2.2.2.2.1 y800.2.2.2.2.2.1 true false)) else (if y800.2.2.2.2.2.2.2 = true then (spec_shValue_l0_4 k a1 K0 n (IntKind.i64.wrap (v652 + 1)) y800.1 y800.2.1 y800.2.2.1 y800.2.2.2.1 y800.2.2.2.2.1 y800.2.2.2.2.2.1 false true) else (spec_shValue_l0_4 k a1 K0 n (IntKind.i64.wrap (v652 + 1)) y800.1 y800.2.1 y800.2.2.1 y800.2.2.2.1 y800.2.2.2.2.1 y800.2.2.2.2.2.1 false false)))) else ((spec_shWalk_step k v653 v654 v655 v656 v657 v658 false false false).bind fun y805 => (if y805.2.2.2.2.2.2.1 = true then (if y805.2.2.2.2.2.2.2 = true then (spec_shValue_l0_4 k a1 K0 n (IntKind.i64.wrap (v652 + 1)) y805.1 y805.2.1 y805.2.2.1 y805.2.2.2.1 y805.2.2.2.2.1 y805.2.2.2.2.2.1 true true) else (spec_shValue_l0_4 k a1 K0 n (IntKind.i64.wrap (v652 + 1)) y805.1 y805.2.1 y805.2.2.1 y805.2.2.2.1 y805.2.2.2.2.1 y805.2.2.2.2.2.1 true false)) else (if y805.2.2.2.2.2.2.2 = true then (spec_shValue_l0_4 k a1 K0 n (IntKind.i64.wrap (v652 + 1)) y805.1 y805.2.1 y805.2.2.1 y805.2.2.2.1 y805.2.2.2.2.1 y805.2.2.2.2.2.1 false true) else (spec_shValue_l0_4 k a1 K0 n (IntKind.i64.wrap (v652 + 1)) y805.1 y805.2.1 y805.2.2.1 y805.2.2.2.1 y805.2.2.2.2.1 y805.2.2.2.2.2.1 false false)))))) else (K0 v653 v654 v655 v656 v657 v658 false false))))
set_option maxHeartbeats 4000000 in
set_option maxRecDepth 100000 in
theorem spec_shValue_l0_4_ct {k : Nat} {a1 : ByteArray} {K0 : Int → Int → Int → Int → Int → Int → Bool → Bool → Option (Int × Int)} {r : Int × Int} : ∀ (n : Nat) (v652 : Int) (v653 : Int) (v654 : Int) (v655 : Int) (v656 : Int) (v657 : Int) (v658 : Int) (v659 : Bool) (v660 : Bool), spec_shValue_l0_4 k a1 K0 n v652 v653 v654 v655 v656 v657 v658 v659 v660 = some r → LoopOk prog 0 (lp f25 0) (mk 20 [(0, .d (D.str a1)), (2, .ptr 128 0), (3, .ptr 192 0), (4, .d (D.int .i64 v652))] [(128, .box 32 [.d (D.int .i64 0), .d (D.int .i64 0)]), (192, .box 61 [.d (D.int .i64 v653), .d (D.int .i64 v654), .d (D.int .i64 v655), .d (D.int .i64 v656), .d (D.int .i64 v657), .d (D.int .i64 v658), .d (D.bool v659), .d (D.bool v660)])]) (LoopEnd prog f25 0 20 (.agg [.d (D.int .i64 r.1), .d (D.int .i64 r.2)]) (⟨[], []⟩) (fun i ts os => (i = 0 ∧ ∃ v682 : Int, ∃ v683 : Int, ∃ v684 : Int, ∃ v685 : Int, ∃ v686 : Int, ∃ v687 : Int, ∃ v703 : Bool, ∃ v719 : Bool, K0 v682 v683 v684 v685 v686 v687 v703 v719 = some r ∧ ts = [(2, .ptr 128 0), (3, .ptr 192 0)] ∧ os = [(128, .box 32 [.d (D.int .i64 0), .d (D.int .i64 0)]), (192, .box 61 [.d (D.int .i64 v682), .d (D.int .i64 v683), .d (D.int .i64 v684), .d (D.int .i64 v685), .d (D.int .i64 v686), .d (D.int .i64 v687), .d (D.bool v719), .d (D.bool v703)])])))
  | 0, _, _, _, _, _, _, _, _, _, h => by
      rw [spec_shValue_l0_4] at h; cases h
  | n + 1, v652, v653, v654, v655, v656, v657, v658, v659, v660, h => by
      rw [spec_shValue_l0_4] at h
      cases v659
      · replace h := condF h
        cases v660
        · replace h := condF h
          refine LoopOk.step ?_
          conv => whnf
          refine splD (fun g795 => ?_) (fun g795 => ?_)
          · replace h := iteP h g795
            conv => whnf
            refine splF ?_
            conv => whnf
            refine splF ?_
            conv => whnf
            obtain ⟨g797, b796, e798, h⟩ := byteD_ex h
            refine Req.of g797 ?_
            refine Byte.of _ e798 ?_
            conv => whnf
            refine splD (fun g799 => ?_) (fun g799 => ?_)
            · replace h := iteP h g799
              conv => whnf
              refine Pick.no ?_
              conv => whnf
              obtain ⟨y800, e801, h⟩ := bind_ex h
              refine CallOk.of (spec_shWalk_step_ct e801) ?_
              conv => whnf
              refine spl (fun g802 => ?_) (fun g802 => ?_)
              · replace h := iteT h g802
                conv => whnf
                refine spl (fun g803 => ?_) (fun g803 => ?_)
                · replace h := iteT h g803
                  conv => whnf
                  refine CutK.go ?_
                  conv => whnf
                  exact LoopOk.back (spec_shValue_l0_4_ct  n _ _ _ _ _ _ _ _ _ h) [some 128, some 192] [] ⟨⟨rfl, rfl⟩, ⟨rfl, ⟨rfl, rfl, rfl, trivial⟩, ⟨rfl, rfl, rfl, rfl, rfl, rfl, rfl, rfl, rfl, trivial⟩, trivial⟩, rfl, ⟨rfl, rfl⟩, ⟨rfl, rfl⟩, rfl, trivial⟩
                · replace h := iteF h g803
                  conv => whnf
                  refine CutK.go ?_
                  conv => whnf
                  exact LoopOk.back (spec_shValue_l0_4_ct  n _ _ _ _ _ _ _ _ _ h) [some 128, some 192] [] ⟨⟨rfl, rfl⟩, ⟨rfl, ⟨rfl, rfl, rfl, trivial⟩, ⟨rfl, rfl, rfl, rfl, rfl, rfl, rfl, rfl, rfl, trivial⟩, trivial⟩, rfl, ⟨rfl, rfl⟩, ⟨rfl, rfl⟩, rfl, trivial⟩
              · replace h := iteF h g802
                conv => whnf
                refine spl (fun g804 => ?_) (fun g804 => ?_)
                · replace h := iteT h g804
                  conv => whnf
                  refine CutK.go ?_
                  conv => whnf
                  exact LoopOk.back (spec_shValue_l0_4_ct  n _ _ _ _ _ _ _ _ _ h) [some 128, some 192] [] ⟨⟨rfl, rfl⟩, ⟨rfl, ⟨rfl, rfl, rfl, trivial⟩, ⟨rfl, rfl, rfl, rfl, rfl, rfl, rfl, rfl, rfl, trivial⟩, trivial⟩, rfl, ⟨rfl, rfl⟩, ⟨rfl, rfl⟩, rfl, trivial⟩
                · replace h := iteF h g804
                  conv => whnf
                  refine CutK.go ?_
                  conv => whnf
                  exact LoopOk.back (spec_shValue_l0_4_ct  n _ _ _ _ _ _ _ _ _ h) [some 128, some 192] [] ⟨⟨rfl, rfl⟩, ⟨rfl, ⟨rfl, rfl, rfl, trivial⟩, ⟨rfl, rfl, rfl, rfl, rfl, rfl, rfl, rfl, rfl, trivial⟩, trivial⟩, rfl, ⟨rfl, rfl⟩, ⟨rfl, rfl⟩, rfl, trivial⟩
            · replace h := iteN h g799
              conv => whnf
              refine Pick.no ?_
              conv => whnf
              obtain ⟨y805, e806, h⟩ := bind_ex h
              refine CallOk.of (spec_shWalk_step_ct e806) ?_
              conv => whnf
              refine spl (fun g807 => ?_) (fun g807 => ?_)
              · replace h := iteT h g807
                conv => whnf
                refine spl (fun g808 => ?_) (fun g808 => ?_)
                · replace h := iteT h g808
                  conv => whnf
                  refine CutK.go ?_
                  conv => whnf
                  exact LoopOk.back (spec_shValue_l0_4_ct  n _ _ _ _ _ _ _ _ _ h) [some 128, some 192] [] ⟨⟨rfl, rfl⟩, ⟨rfl, ⟨rfl, rfl, rfl, trivial⟩, ⟨rfl, rfl, rfl, rfl, rfl, rfl, rfl, rfl, rfl, trivial⟩, trivial⟩, rfl, ⟨rfl, rfl⟩, ⟨rfl, rfl⟩, rfl, trivial⟩
                · replace h := iteF h g808
                  conv => whnf
                  refine CutK.go ?_
                  conv => whnf
                  exact LoopOk.back (spec_shValue_l0_4_ct  n _ _ _ _ _ _ _ _ _ h) [some 128, some 192] [] ⟨⟨rfl, rfl⟩, ⟨rfl, ⟨rfl, rfl, rfl, trivial⟩, ⟨rfl, rfl, rfl, rfl, rfl, rfl, rfl, rfl, rfl, trivial⟩, trivial⟩, rfl, ⟨rfl, rfl⟩, ⟨rfl, rfl⟩, rfl, trivial⟩
              · replace h := iteF h g807
                conv => whnf
                refine spl (fun g809 => ?_) (fun g809 => ?_)
                · replace h := iteT h g809
                  conv => whnf
                  refine CutK.go ?_
                  conv => whnf
                  exact LoopOk.back (spec_shValue_l0_4_ct  n _ _ _ _ _ _ _ _ _ h) [some 128, some 192] [] ⟨⟨rfl, rfl⟩, ⟨rfl, ⟨rfl, rfl, rfl, trivial⟩, ⟨rfl, rfl, rfl, rfl, rfl, rfl, rfl, rfl, rfl, trivial⟩, trivial⟩, rfl, ⟨rfl, rfl⟩, ⟨rfl, rfl⟩, rfl, trivial⟩
                · replace h := iteF h g809
                  conv => whnf
                  refine CutK.go ?_
                  conv => whnf
                  exact LoopOk.back (spec_shValue_l0_4_ct  n _ _ _ _ _ _ _ _ _ h) [some 128, some 192] [] ⟨⟨rfl, rfl⟩, ⟨rfl, ⟨rfl, rfl, rfl, trivial⟩, ⟨rfl, rfl, rfl, rfl, rfl, rfl, rfl, rfl, rfl, trivial⟩, trivial⟩, rfl, ⟨rfl, rfl⟩, ⟨rfl, rfl⟩, rfl, trivial⟩
          · replace h := iteN h g795
            conv => whnf
            exact ⟨_, _, [some 128, some 192], [], ⟨rfl, _, _, _, _, _, _, _, _, h, rfl, rfl⟩, ⟨⟨rfl, rfl⟩, ⟨rfl, ⟨rfl, rfl, rfl, trivial⟩, ⟨rfl, rfl, rfl, rfl, rfl, rfl, rfl, rfl, rfl, trivial⟩, trivial⟩, ⟨rfl, rfl⟩, ⟨rfl, rfl⟩, trivial⟩⟩
        · replace h := condT h
          refine LoopOk.step ?_
          conv => whnf
          refine splD (fun g810 => ?_) (fun g810 => ?_)
          · replace h := iteP h g810
            conv => whnf
            refine splF ?_
            conv => whnf
            refine splT ?_
            conv => whnf
            obtain ⟨g812, b811, e813, h⟩ := byteD_ex h
            refine Req.of g812 ?_
            refine Byte.of _ e813 ?_
            conv => whnf
            refine splD (fun g814 => ?_) (fun g814 => ?_)
            · replace h := iteP h g814
              conv => whnf
              refine Pick.no ?_
              conv => whnf
              obtain ⟨y815, e816, h⟩ := bind_ex h
              refine CallOk.of (spec_shWalk_step_ct e816) ?_
              conv => whnf
              refine spl (fun g817 => ?_) (fun g817 => ?_)
              · replace h := iteT h g817
                conv => whnf
                refine spl (fun g818 => ?_) (fun g818 => ?_)
                · replace h := iteT h g818
                  conv => whnf
                  refine CutK.go ?_
                  conv => whnf
                  exact LoopOk.back (spec_shValue_l0_4_ct  n _ _ _ _ _ _ _ _ _ h) [some 128, some 192] [] ⟨⟨rfl, rfl⟩, ⟨rfl, ⟨rfl, rfl, rfl, trivial⟩, ⟨rfl, rfl, rfl, rfl, rfl, rfl, rfl, rfl, rfl, trivial⟩, trivial⟩, rfl, ⟨rfl, rfl⟩, ⟨rfl, rfl⟩, rfl, trivial⟩
                · replace h := iteF h g818
                  conv => whnf
                  refine CutK.go ?_
                  conv => whnf
                  exact LoopOk.back (spec_shValue_l0_4_ct  n _ _ _ _ _ _ _ _ _ h) [some 128, some 192] [] ⟨⟨rfl, rfl⟩, ⟨rfl, ⟨rfl, rfl, rfl, trivial⟩, ⟨rfl, rfl, rfl, rfl, rfl, rfl, rfl, rfl, rfl, trivial⟩, trivial⟩, rfl, ⟨rfl, rfl⟩, ⟨rfl, rfl⟩, rfl, trivial⟩
              · replace h := iteF h g817
                conv => whnf
                refine spl (fun g819 => ?_) (fun g819 => ?_)
                · replace h := iteT h g819
                  conv => whnf
                  refine CutK.go ?_
                  conv => whnf
                  exact LoopOk.back (spec_shValue_l0_4_ct  n _ _ _ _ _ _ _ _ _ h) [some 128, some 192] [] ⟨⟨rfl, rfl⟩, ⟨rfl, ⟨rfl, rfl, rfl, trivial⟩, ⟨rfl, rfl, rfl, rfl, rfl, rfl, rfl, rfl, rfl, trivial⟩, trivial⟩, rfl, ⟨rfl, rfl⟩, ⟨rfl, rfl⟩, rfl, trivial⟩
                · replace h := iteF h g819
                  conv => whnf
                  refine CutK.go ?_
                  conv => whnf
                  exact LoopOk.back (spec_shValue_l0_4_ct  n _ _ _ _ _ _ _ _ _ h) [some 128, some 192] [] ⟨⟨rfl, rfl⟩, ⟨rfl, ⟨rfl, rfl, rfl, trivial⟩, ⟨rfl, rfl, rfl, rfl, rfl, rfl, rfl, rfl, rfl, trivial⟩, trivial⟩, rfl, ⟨rfl, rfl⟩, ⟨rfl, rfl⟩, rfl, trivial⟩
            · replace h := iteN h g814
              conv => whnf
              refine Pick.no ?_
              conv => whnf
              obtain ⟨y820, e821, h⟩ := bind_ex h
              refine CallOk.of (spec_shWalk_step_ct e821) ?_
              conv => whnf
              refine spl (fun g822 => ?_) (fun g822 => ?_)
              · replace h := iteT h g822
                conv => whnf
                refine spl (fun g823 => ?_) (fun g823 => ?_)
                · replace h := iteT h g823
                  conv => whnf
                  refine CutK.go ?_
                  conv => whnf
                  exact LoopOk.back (spec_shValue_l0_4_ct  n _ _ _ _ _ _ _ _ _ h) [some 128, some 192] [] ⟨⟨rfl, rfl⟩, ⟨rfl, ⟨rfl, rfl, rfl, trivial⟩, ⟨rfl, rfl, rfl, rfl, rfl, rfl, rfl, rfl, rfl, trivial⟩, trivial⟩, rfl, ⟨rfl, rfl⟩, ⟨rfl, rfl⟩, rfl, trivial⟩
                · replace h := iteF h g823
                  conv => whnf
                  refine CutK.go ?_
                  conv => whnf
                  exact LoopOk.back (spec_shValue_l0_4_ct  n _ _ _ _ _ _ _ _ _ h) [some 128, some 192] [] ⟨⟨rfl, rfl⟩, ⟨rfl, ⟨rfl, rfl, rfl, trivial⟩, ⟨rfl, rfl, rfl, rfl, rfl, rfl, rfl, rfl, rfl, trivial⟩, trivial⟩, rfl, ⟨rfl, rfl⟩, ⟨rfl, rfl⟩, rfl, trivial⟩
              · replace h := iteF h g822
                conv => whnf
                refine spl (fun g824 => ?_) (fun g824 => ?_)
                · replace h := iteT h g824
                  conv => whnf
                  refine CutK.go ?_
                  conv => whnf
                  exact LoopOk.back (spec_shValue_l0_4_ct  n _ _ _ _ _ _ _ _ _ h) [some 128, some 192] [] ⟨⟨rfl, rfl⟩, ⟨rfl, ⟨rfl, rfl, rfl, trivial⟩, ⟨rfl, rfl, rfl, rfl, rfl, rfl, rfl, rfl, rfl, trivial⟩, trivial⟩, rfl, ⟨rfl, rfl⟩, ⟨rfl, rfl⟩, rfl, trivial⟩
                · replace h := iteF h g824
                  conv => whnf
                  refine CutK.go ?_
                  conv => whnf
                  exact LoopOk.back (spec_shValue_l0_4_ct  n _ _ _ _ _ _ _ _ _ h) [some 128, some 192] [] ⟨⟨rfl, rfl⟩, ⟨rfl, ⟨rfl, rfl, rfl, trivial⟩, ⟨rfl, rfl, rfl, rfl, rfl, rfl, rfl, rfl, rfl, trivial⟩, trivial⟩, rfl, ⟨rfl, rfl⟩, ⟨rfl, rfl⟩, rfl, trivial⟩
          · replace h := iteN h g810
            conv => whnf
            exact ⟨_, _, [some 128, some 192], [], ⟨rfl, _, _, _, _, _, _, _, _, h, rfl, rfl⟩, ⟨⟨rfl, rfl⟩, ⟨rfl, ⟨rfl, rfl, rfl, trivial⟩, ⟨rfl, rfl, rfl, rfl, rfl, rfl, rfl, rfl, rfl, trivial⟩, trivial⟩, ⟨rfl, rfl⟩, ⟨rfl, rfl⟩, trivial⟩⟩
      · replace h := condT h
        cases v660
        · replace h := condF h
          refine LoopOk.step ?_
          conv => whnf
          refine splD (fun g825 => ?_) (fun g825 => ?_)
          · replace h := iteP h g825
            conv => whnf
            refine splT ?_
            conv => whnf
            refine splF ?_
            conv => whnf
            obtain ⟨g827, b826, e828, h⟩ := byteD_ex h
            refine Req.of g827 ?_
            refine Byte.of _ e828 ?_
            conv => whnf
            refine splD (fun g829 => ?_) (fun g829 => ?_)
            · replace h := iteP h g829
              conv => whnf
              refine Pick.no ?_
              conv => whnf
              obtain ⟨y830, e831, h⟩ := bind_ex h
              refine CallOk.of (spec_shWalk_step_ct e831) ?_
              conv => whnf
              refine spl (fun g832 => ?_) (fun g832 => ?_)
              · replace h := iteT h g832
                conv => whnf
                refine spl (fun g833 => ?_) (fun g833 => ?_)
                · replace h := iteT h g833
                  conv => whnf
                  refine CutK.go ?_
                  conv => whnf
                  exact LoopOk.back (spec_shValue_l0_4_ct  n _ _ _ _ _ _ _ _ _ h) [some 128, some 192] [] ⟨⟨rfl, rfl⟩, ⟨rfl, ⟨rfl, rfl, rfl, trivial⟩, ⟨rfl, rfl, rfl, rfl, rfl, rfl, rfl, rfl, rfl, trivial⟩, trivial⟩, rfl, ⟨rfl, rfl⟩, ⟨rfl, rfl⟩, rfl, trivial⟩
                · replace h := iteF h g833
                  conv => whnf
                  refine CutK.go ?_
                  conv => whnf
                  exact LoopOk.back (spec_shValue_l0_4_ct  n _ _ _ _ _ _ _ _ _ h) [some 128, some 192] [] ⟨⟨rfl, rfl⟩, ⟨rfl, ⟨rfl, rfl, rfl, trivial⟩, ⟨rfl, rfl, rfl, rfl, rfl, rfl, rfl, rfl, rfl, trivial⟩, trivial⟩, rfl, ⟨rfl, rfl⟩, ⟨rfl, rfl⟩, rfl, trivial⟩
              · replace h := iteF h g832
                conv => whnf
                refine spl (fun g834 => ?_) (fun g834 => ?_)
                · replace h := iteT h g834
                  conv => whnf
                  refine CutK.go ?_
                  conv => whnf
                  exact LoopOk.back (spec_shValue_l0_4_ct  n _ _ _ _ _ _ _ _ _ h) [some 128, some 192] [] ⟨⟨rfl, rfl⟩, ⟨rfl, ⟨rfl, rfl, rfl, trivial⟩, ⟨rfl, rfl, rfl, rfl, rfl, rfl, rfl, rfl, rfl, trivial⟩, trivial⟩, rfl, ⟨rfl, rfl⟩, ⟨rfl, rfl⟩, rfl, trivial⟩
                · replace h := iteF h g834
                  conv => whnf
                  refine CutK.go ?_
                  conv => whnf
                  exact LoopOk.back (spec_shValue_l0_4_ct  n _ _ _ _ _ _ _ _ _ h) [some 128, some 192] [] ⟨⟨rfl, rfl⟩, ⟨rfl, ⟨rfl, rfl, rfl, trivial⟩, ⟨rfl, rfl, rfl, rfl, rfl, rfl, rfl, rfl, rfl, trivial⟩, trivial⟩, rfl, ⟨rfl, rfl⟩, ⟨rfl, rfl⟩, rfl, trivial⟩
            · replace h := iteN h g829
              conv => whnf
              refine Pick.no ?_
              conv => whnf
              obtain ⟨y835, e836, h⟩ := bind_ex h
              refine CallOk.of (spec_shWalk_step_ct e836) ?_
              conv => whnf
              refine spl (fun g837 => ?_) (fun g837 => ?_)
              · replace h := iteT h g837
                conv => whnf
                refine spl (fun g838 => ?_) (fun g838 => ?_)
                · replace h := iteT h g838
                  conv => whnf
                  refine CutK.go ?_
                  conv => whnf
                  exact LoopOk.back (spec_shValue_l0_4_ct  n _ _ _ _ _ _ _ _ _ h) [some 128, some 192] [] ⟨⟨rfl, rfl⟩, ⟨rfl, ⟨rfl, rfl, rfl, trivial⟩, ⟨rfl, rfl, rfl, rfl, rfl, rfl, rfl, rfl, rfl, trivial⟩, trivial⟩, rfl, ⟨rfl, rfl⟩, ⟨rfl, rfl⟩, rfl, trivial⟩
                · replace h := iteF h g838
                  conv => whnf
                  refine CutK.go ?_
                  conv => whnf
                  exact LoopOk.back (spec_shValue_l0_4_ct  n _ _ _ _ _ _ _ _ _ h) [some 128, some 192] [] ⟨⟨rfl, rfl⟩, ⟨rfl, ⟨rfl, rfl, rfl, trivial⟩, ⟨rfl, rfl, rfl, rfl, rfl, rfl, rfl, rfl, rfl, trivial⟩, trivial⟩, rfl, ⟨rfl, rfl⟩, ⟨rfl, rfl⟩, rfl, trivial⟩
              · replace h := iteF h g837
                conv => whnf
                refine spl (fun g839 => ?_) (fun g839 => ?_)
                · replace h := iteT h g839
                  conv => whnf
                  refine CutK.go ?_
                  conv => whnf
                  exact LoopOk.back (spec_shValue_l0_4_ct  n _ _ _ _ _ _ _ _ _ h) [some 128, some 192] [] ⟨⟨rfl, rfl⟩, ⟨rfl, ⟨rfl, rfl, rfl, trivial⟩, ⟨rfl, rfl, rfl, rfl, rfl, rfl, rfl, rfl, rfl, trivial⟩, trivial⟩, rfl, ⟨rfl, rfl⟩, ⟨rfl, rfl⟩, rfl, trivial⟩
                · replace h := iteF h g839
                  conv => whnf
                  refine CutK.go ?_
                  conv => whnf
                  exact LoopOk.back (spec_shValue_l0_4_ct  n _ _ _ _ _ _ _ _ _ h) [some 128, some 192] [] ⟨⟨rfl, rfl⟩, ⟨rfl, ⟨rfl, rfl, rfl, trivial⟩, ⟨rfl, rfl, rfl, rfl, rfl, rfl, rfl, rfl, rfl, trivial⟩, trivial⟩, rfl, ⟨rfl, rfl⟩, ⟨rfl, rfl⟩, rfl, trivial⟩
          · replace h := iteN h g825
            conv => whnf
            exact ⟨_, _, [some 128, some 192], [], ⟨rfl, _, _, _, _, _, _, _, _, h, rfl, rfl⟩, ⟨⟨rfl, rfl⟩, ⟨rfl, ⟨rfl, rfl, rfl, trivial⟩, ⟨rfl, rfl, rfl, rfl, rfl, rfl, rfl, rfl, rfl, trivial⟩, trivial⟩, ⟨rfl, rfl⟩, ⟨rfl, rfl⟩, trivial⟩⟩
        · replace h := condT h
          refine LoopOk.step ?_
          conv => whnf
          refine splD (fun g840 => ?_) (fun g840 => ?_)
          · replace h := iteP h g840
            conv => whnf
            refine splT ?_
            conv => whnf
            refine splT ?_
            conv => whnf
            obtain ⟨g842, b841, e843, h⟩ := byteD_ex h
            refine Req.of g842 ?_
            refine Byte.of _ e843 ?_
            conv => whnf
            refine splD (fun g844 => ?_) (fun g844 => ?_)
            · replace h := iteP h g844
              conv => whnf
              refine Pick.no ?_
              conv => whnf
              obtain ⟨y845, e846, h⟩ := bind_ex h
              refine CallOk.of (spec_shWalk_step_ct e846) ?_
              conv => whnf
              refine spl (fun g847 => ?_) (fun g847 => ?_)
              · replace h := iteT h g847
                conv => whnf
                refine spl (fun g848 => ?_) (fun g848 => ?_)
                · replace h := iteT h g848
                  conv => whnf
                  refine CutK.go ?_
                  conv => whnf
                  exact LoopOk.back (spec_shValue_l0_4_ct  n _ _ _ _ _ _ _ _ _ h) [some 128, some 192] [] ⟨⟨rfl, rfl⟩, ⟨rfl, ⟨rfl, rfl, rfl, trivial⟩, ⟨rfl, rfl, rfl, rfl, rfl, rfl, rfl, rfl, rfl, trivial⟩, trivial⟩, rfl, ⟨rfl, rfl⟩, ⟨rfl, rfl⟩, rfl, trivial⟩
                · replace h := iteF h g848
                  conv => whnf
                  refine CutK.go ?_
                  conv => whnf
                  exact LoopOk.back (spec_shValue_l0_4_ct  n _ _ _ _ _ _ _ _ _ h) [some 128, some 192] [] ⟨⟨rfl, rfl⟩, ⟨rfl, ⟨rfl, rfl, rfl, trivial⟩, ⟨rfl, rfl, rfl, rfl, rfl, rfl, rfl, rfl, rfl, trivial⟩, trivial⟩, rfl, ⟨rfl, rfl⟩, ⟨rfl, rfl⟩, rfl, trivial⟩
              · replace h := iteF h g847
                conv => whnf
                refine spl (fun g849 => ?_) (fun g849 => ?_)
                · replace h := iteT h g849
                  conv => whnf
                  refine CutK.go ?_
                  conv => whnf
                  exact LoopOk.back (spec_shValue_l0_4_ct  n _ _ _ _ _ _ _ _ _ h) [some 128, some 192] [] ⟨⟨rfl, rfl⟩, ⟨rfl, ⟨rfl, rfl, rfl, trivial⟩, ⟨rfl, rfl, rfl, rfl, rfl, rfl, rfl, rfl, rfl, trivial⟩, trivial⟩, rfl, ⟨rfl, rfl⟩, ⟨rfl, rfl⟩, rfl, trivial⟩
                · replace h := iteF h g849
                  conv => whnf
                  refine CutK.go ?_
                  conv => whnf
                  exact LoopOk.back (spec_shValue_l0_4_ct  n _ _ _ _ _ _ _ _ _ h) [some 128, some 192] [] ⟨⟨rfl, rfl⟩, ⟨rfl, ⟨rfl, rfl, rfl, trivial⟩, ⟨rfl, rfl, rfl, rfl, rfl, rfl, rfl, rfl, rfl, trivial⟩, trivial⟩, rfl, ⟨rfl, rfl⟩, ⟨rfl, rfl⟩, rfl, trivial⟩
            · replace h := iteN h g844
              conv => whnf
              refine Pick.no ?_
              conv => whnf
              obtain ⟨y850, e851, h⟩ := bind_ex h
              refine CallOk.of (spec_shWalk_step_ct e851) ?_
              conv => whnf
              refine spl (fun g852 => ?_) (fun g852 => ?_)
              · replace h := iteT h g852
                conv => whnf
                refine spl (fun g853 => ?_) (fun g853 => ?_)
                · replace h := iteT h g853
                  conv => whnf
                  refine CutK.go ?_
                  conv => whnf
                  exact LoopOk.back (spec_shValue_l0_4_ct  n _ _ _ _ _ _ _ _ _ h) [some 128, some 192] [] ⟨⟨rfl, rfl⟩, ⟨rfl, ⟨rfl, rfl, rfl, trivial⟩, ⟨rfl, rfl, rfl, rfl, rfl, rfl, rfl, rfl, rfl, trivial⟩, trivial⟩, rfl, ⟨rfl, rfl⟩, ⟨rfl, rfl⟩, rfl, trivial⟩
                · replace h := iteF h g853
                  conv => whnf
                  refine CutK.go ?_
                  conv => whnf
                  exact LoopOk.back (spec_shValue_l0_4_ct  n _ _ _ _ _ _ _ _ _ h) [some 128, some 192] [] ⟨⟨rfl, rfl⟩, ⟨rfl, ⟨rfl, rfl, rfl, trivial⟩, ⟨rfl, rfl, rfl, rfl, rfl, rfl, rfl, rfl, rfl, trivial⟩, trivial⟩, rfl, ⟨rfl, rfl⟩, ⟨rfl, rfl⟩, rfl, trivial⟩
              · replace h := iteF h g852
                conv => whnf
                refine spl (fun g854 => ?_) (fun g854 => ?_)
                · replace h := iteT h g854
                  conv => whnf
                  refine CutK.go ?_
                  conv => whnf
                  exact LoopOk.back (spec_shValue_l0_4_ct  n _ _ _ _ _ _ _ _ _ h) [some 128, some 192] [] ⟨⟨rfl, rfl⟩, ⟨rfl, ⟨rfl, rfl, rfl, trivial⟩, ⟨rfl, rfl, rfl, rfl, rfl, rfl, rfl, rfl, rfl, trivial⟩, trivial⟩, rfl, ⟨rfl, rfl⟩, ⟨rfl, rfl⟩, rfl, trivial⟩
                · replace h := iteF h g854
                  conv => whnf
                  refine CutK.go ?_
                  conv => whnf
                  exact LoopOk.back (spec_shValue_l0_4_ct  n _ _ _ _ _ _ _ _ _ h) [some 128, some 192] [] ⟨⟨rfl, rfl⟩, ⟨rfl, ⟨rfl, rfl, rfl, trivial⟩, ⟨rfl, rfl, rfl, rfl, rfl, rfl, rfl, rfl, rfl, trivial⟩, trivial⟩, rfl, ⟨rfl, rfl⟩, ⟨rfl, rfl⟩, rfl, trivial⟩
          · replace h := iteN h g840
            conv => whnf
            exact ⟨_, _, [some 128, some 192], [], ⟨rfl, _, _, _, _, _, _, _, _, h, rfl, rfl⟩, ⟨⟨rfl, rfl⟩, ⟨rfl, ⟨rfl, rfl, rfl, trivial⟩, ⟨rfl, rfl, rfl, rfl, rfl, rfl, rfl, rfl, rfl, trivial⟩, trivial⟩, ⟨rfl, rfl⟩, ⟨rfl, rfl⟩, trivial⟩⟩
def spec_shValue (k : Nat) (a1 : ByteArray) : Option (Int × Int) :=
  ((spec_shStart).bind fun y2 => (if y2.2.2.2.2.2.2.1 = true then (if y2.2.2.2.2.2.2.2 = true then (spec_shValue_l0 k a1 (fun (v45 : Int) (v46 : Int) (v47 : Int) (v48 : Int) (v49 : Int) (v50 : Int) (v51 : Bool) (v52 : Bool) => (cond v51 (cond v52 (some (v45, v46)) (some (v45, v46))) (cond v52 (some (v45, v46)) (some (v45, v46))))) k 0 y2.1 y2.2.1 y2.2.2.1 y2.2.2.2.1 y2.2.2.2.2.1 y2.2.2.2.2.2.1 true true) else (spec_shValue_l0_2 k a1 (fun (v257 : Int) (v258 : Int) (v259 : Int) (v260 : Int) (v261 : Int) (v262 : Int) (v263 : Bool) (v294 : Bool) => (cond v263 (cond v294 (some (v257, v258)) (some (v257, v258))) (cond v294 (some (v257, v258)) (some (v257, v258))))) k 0 y2.1 y2.2.1 y2.2.2.1 y2.2.2.2.1 y2.2.2.2.2.1 y2.2.2.2.2.2.1 false true)) else (if y2.2.2.2.2.2.2.2 = true then (spec_shValue_l0_3 k a1 (fun (v470 : Int) (v471 : Int) (v472 : Int) (v473 : Int) (v474 : Int) (v475 : Int) (v476 : Bool) (v507 : Bool) => (cond v476 (cond v507 (some (v470, v471)) (some (v470, v471))) (cond v507 (some (v470, v471)) (some (v470, v471))))) k 0 y2.1 y2.2.1 y2.2.2.1 y2.2.2.2.1 y2.2.2.2.2.1 y2.2.2.2.2.2.1 false true) else (spec_shValue_l0_4 k a1 (fun (v682 : Int) (v683 : Int) (v684 : Int) (v685 : Int) (v686 : Int) (v687 : Int) (v703 : Bool) (v719 : Bool) => (cond v703 (cond v719 (some (v682, v683)) (some (v682, v683))) (cond v719 (some (v682, v683)) (some (v682, v683))))) k 0 y2.1 y2.2.1 y2.2.2.1 y2.2.2.2.1 y2.2.2.2.2.1 y2.2.2.2.2.2.1 false false))))
set_option maxHeartbeats 4000000 in
set_option maxRecDepth 100000 in
theorem spec_shValue_ct {k : Nat} {a1 : ByteArray} {r : Int × Int} (h : spec_shValue k a1 = some r) : Ct prog 25 [.d (D.str a1)] (⟨[], []⟩) (.agg [.d (D.int .i64 r.1), .d (D.int .i64 r.2)]) (⟨[], []⟩) := by
  rw [spec_shValue] at h
  refine Ct.of (c := _) mixed func25 ⟨rfl, rfl, rfl⟩ ?_ rfl
  conv => whnf
  refine Pick.no ?_
  conv => whnf
  obtain ⟨y2, e3, h⟩ := bind_ex h
  refine CallOk.of (spec_shStart_ct e3) ?_
  conv => whnf
  refine spl (fun g4 => ?_) (fun g4 => ?_)
  · replace h := iteT h g4
    conv => whnf
    refine spl (fun g5 => ?_) (fun g5 => ?_)
    · replace h := iteT h g5
      conv => whnf
      refine CutK.go ?_
      conv => whnf
      refine LoopOk.into (spec_shValue_l0_ct  _ _ _ _ _ _ _ _ _ _ h) [some 128, some 192] [] ⟨⟨rfl, rfl⟩, ⟨rfl, ⟨rfl, rfl, rfl, trivial⟩, ⟨rfl, rfl, rfl, rfl, rfl, rfl, rfl, rfl, rfl, trivial⟩, trivial⟩, rfl, ⟨rfl, rfl⟩, ⟨rfl, rfl⟩, rfl, trivial⟩ ?_ (fun _ hs => hs)
      rintro i ts os ⟨rfl, v45, v46, v47, v48, v49, v50, v51, v52, h, rfl, rfl⟩
      cases v51
      · replace h := condF h
        cases v52
        · replace h := condF h
          conv => whnf
          refine CutK.go ?_
          conv => whnf
          cases h
          exact Done.of [] [] rfl rfl ⟨⟨rfl, rfl⟩, ⟨rfl, trivial⟩, ⟨rfl, rfl, trivial⟩, trivial⟩
        · replace h := condT h
          conv => whnf
          refine CutK.go ?_
          conv => whnf
          cases h
          exact Done.of [] [] rfl rfl ⟨⟨rfl, rfl⟩, ⟨rfl, trivial⟩, ⟨rfl, rfl, trivial⟩, trivial⟩
      · replace h := condT h
        cases v52
        · replace h := condF h
          conv => whnf
          refine CutK.go ?_
          conv => whnf
          cases h
          exact Done.of [] [] rfl rfl ⟨⟨rfl, rfl⟩, ⟨rfl, trivial⟩, ⟨rfl, rfl, trivial⟩, trivial⟩
        · replace h := condT h
          conv => whnf
          refine CutK.go ?_
          conv => whnf
          cases h
          exact Done.of [] [] rfl rfl ⟨⟨rfl, rfl⟩, ⟨rfl, trivial⟩, ⟨rfl, rfl, trivial⟩, trivial⟩
    · replace h := iteF h g5
      conv => whnf
      refine CutK.go ?_
      conv => whnf
      refine LoopOk.into (spec_shValue_l0_2_ct  _ _ _ _ _ _ _ _ _ _ h) [some 128, some 192] [] ⟨⟨rfl, rfl⟩, ⟨rfl, ⟨rfl, rfl, rfl, trivial⟩, ⟨rfl, rfl, rfl, rfl, rfl, rfl, rfl, rfl, rfl, trivial⟩, trivial⟩, rfl, ⟨rfl, rfl⟩, ⟨rfl, rfl⟩, rfl, trivial⟩ ?_ (fun _ hs => hs)
      rintro i ts os ⟨rfl, v257, v258, v259, v260, v261, v262, v263, v294, h, rfl, rfl⟩
      cases v263
      · replace h := condF h
        cases v294
        · replace h := condF h
          conv => whnf
          refine CutK.go ?_
          conv => whnf
          cases h
          exact Done.of [] [] rfl rfl ⟨⟨rfl, rfl⟩, ⟨rfl, trivial⟩, ⟨rfl, rfl, trivial⟩, trivial⟩
        · replace h := condT h
          conv => whnf
          refine CutK.go ?_
          conv => whnf
          cases h
          exact Done.of [] [] rfl rfl ⟨⟨rfl, rfl⟩, ⟨rfl, trivial⟩, ⟨rfl, rfl, trivial⟩, trivial⟩
      · replace h := condT h
        cases v294
        · replace h := condF h
          conv => whnf
          refine CutK.go ?_
          conv => whnf
          cases h
          exact Done.of [] [] rfl rfl ⟨⟨rfl, rfl⟩, ⟨rfl, trivial⟩, ⟨rfl, rfl, trivial⟩, trivial⟩
        · replace h := condT h
          conv => whnf
          refine CutK.go ?_
          conv => whnf
          cases h
          exact Done.of [] [] rfl rfl ⟨⟨rfl, rfl⟩, ⟨rfl, trivial⟩, ⟨rfl, rfl, trivial⟩, trivial⟩
  · replace h := iteF h g4
    conv => whnf
    refine spl (fun g430 => ?_) (fun g430 => ?_)
    · replace h := iteT h g430
      conv => whnf
      refine CutK.go ?_
      conv => whnf
      refine LoopOk.into (spec_shValue_l0_3_ct  _ _ _ _ _ _ _ _ _ _ h) [some 128, some 192] [] ⟨⟨rfl, rfl⟩, ⟨rfl, ⟨rfl, rfl, rfl, trivial⟩, ⟨rfl, rfl, rfl, rfl, rfl, rfl, rfl, rfl, rfl, trivial⟩, trivial⟩, rfl, ⟨rfl, rfl⟩, ⟨rfl, rfl⟩, rfl, trivial⟩ ?_ (fun _ hs => hs)
      rintro i ts os ⟨rfl, v470, v471, v472, v473, v474, v475, v476, v507, h, rfl, rfl⟩
      cases v476
      · replace h := condF h
        cases v507
        · replace h := condF h
          conv => whnf
          refine CutK.go ?_
          conv => whnf
          cases h
          exact Done.of [] [] rfl rfl ⟨⟨rfl, rfl⟩, ⟨rfl, trivial⟩, ⟨rfl, rfl, trivial⟩, trivial⟩
        · replace h := condT h
          conv => whnf
          refine CutK.go ?_
          conv => whnf
          cases h
          exact Done.of [] [] rfl rfl ⟨⟨rfl, rfl⟩, ⟨rfl, trivial⟩, ⟨rfl, rfl, trivial⟩, trivial⟩
      · replace h := condT h
        cases v507
        · replace h := condF h
          conv => whnf
          refine CutK.go ?_
          conv => whnf
          cases h
          exact Done.of [] [] rfl rfl ⟨⟨rfl, rfl⟩, ⟨rfl, trivial⟩, ⟨rfl, rfl, trivial⟩, trivial⟩
        · replace h := condT h
          conv => whnf
          refine CutK.go ?_
          conv => whnf
          cases h
          exact Done.of [] [] rfl rfl ⟨⟨rfl, rfl⟩, ⟨rfl, trivial⟩, ⟨rfl, rfl, trivial⟩, trivial⟩
    · replace h := iteF h g430
      conv => whnf
      refine CutK.go ?_
      conv => whnf
      refine LoopOk.into (spec_shValue_l0_4_ct  _ _ _ _ _ _ _ _ _ _ h) [some 128, some 192] [] ⟨⟨rfl, rfl⟩, ⟨rfl, ⟨rfl, rfl, rfl, trivial⟩, ⟨rfl, rfl, rfl, rfl, rfl, rfl, rfl, rfl, rfl, trivial⟩, trivial⟩, rfl, ⟨rfl, rfl⟩, ⟨rfl, rfl⟩, rfl, trivial⟩ ?_ (fun _ hs => hs)
      rintro i ts os ⟨rfl, v682, v683, v684, v685, v686, v687, v703, v719, h, rfl, rfl⟩
      cases v703
      · replace h := condF h
        cases v719
        · replace h := condF h
          conv => whnf
          refine CutK.go ?_
          conv => whnf
          cases h
          exact Done.of [] [] rfl rfl ⟨⟨rfl, rfl⟩, ⟨rfl, trivial⟩, ⟨rfl, rfl, trivial⟩, trivial⟩
        · replace h := condT h
          conv => whnf
          refine CutK.go ?_
          conv => whnf
          cases h
          exact Done.of [] [] rfl rfl ⟨⟨rfl, rfl⟩, ⟨rfl, trivial⟩, ⟨rfl, rfl, trivial⟩, trivial⟩
      · replace h := condT h
        cases v719
        · replace h := condF h
          conv => whnf
          refine CutK.go ?_
          conv => whnf
          cases h
          exact Done.of [] [] rfl rfl ⟨⟨rfl, rfl⟩, ⟨rfl, trivial⟩, ⟨rfl, rfl, trivial⟩, trivial⟩
        · replace h := condT h
          conv => whnf
          refine CutK.go ?_
          conv => whnf
          cases h
          exact Done.of [] [] rfl rfl ⟨⟨rfl, rfl⟩, ⟨rfl, trivial⟩, ⟨rfl, rfl, trivial⟩, trivial⟩

def spec_shBorn_b (k : Nat) (rec_spec_shBorn : ByteArray → Int → Option Rw) (a1 : ByteArray) (a2 : Int) : Option Rw :=
  (if a2 = (0 : Int) then ((spec_shValue k a1).bind fun y4 => some ([[D.int .i64 y4.1, D.int .i64 y4.2]] : Rw)) else (if a1.size + (ByteArray.mk #[45]).size ≤ 9223372036854775807 then ((rec_spec_shBorn (a1 ++ (ByteArray.mk #[45])) (IntKind.i64.wrap (a2 - 1))).bind fun y7 => (if a1.size + (ByteArray.mk #[43]).size ≤ 9223372036854775807 then ((rec_spec_shBorn (a1 ++ (ByteArray.mk #[43])) (IntKind.i64.wrap (a2 - 1))).bind fun y10 => (if y7.length + y10.length ≤ cap ∧ (∀ cs ∈ y10, cs.length = 2) then some (y7 ++ y10) else none)) else none)) else none))
set_option maxHeartbeats 4000000 in
set_option maxRecDepth 100000 in
theorem spec_shBorn_b_ct {k : Nat} {rec_spec_shBorn : ByteArray → Int → Option Rw} (hrec_spec_shBorn : ∀ (a1 : ByteArray) (a2 : Int) (r : Rw), rec_spec_shBorn a1 a2 = some r → Ct prog 16 [.d (D.str a1), .d (D.int .i64 a2)] (⟨[], []⟩) (.os 8 r.length) (⟨[], [(32, true, r)]⟩)) {a1 : ByteArray} {a2 : Int} {r : Rw} (h : spec_shBorn_b k rec_spec_shBorn a1 a2 = some r) : Ct prog 16 [.d (D.str a1), .d (D.int .i64 a2)] (⟨[], []⟩) (.os 8 r.length) (⟨[], [(32, true, r)]⟩) := by
  rw [spec_shBorn_b] at h
  refine Ct.of (c := _) mixed func16 ⟨rfl, rfl, rfl⟩ ?_ rfl
  conv => whnf
  refine splD (fun g3 => ?_) (fun g3 => ?_)
  · replace h := iteP h g3
    conv => whnf
    refine Pick.no ?_
    conv => whnf
    obtain ⟨y4, e5, h⟩ := bind_ex h
    refine CallOk.of (spec_shValue_ct e5) ?_
    conv => whnf
    refine CutK.go ?_
    conv => whnf
    cases h
    exact Done.of [some 576] [] rfl rfl ⟨⟨rfl, rfl⟩, ⟨rfl, ⟨rfl, rfl, rows_same⟩, trivial⟩, ⟨(by first | rfl | exact List.length_append.symm | (simp; done) | omega | (dsimp only; omega)), rfl⟩, trivial⟩
  · replace h := iteN h g3
    conv => whnf
    refine CutK.go ?_
    conv => whnf
    obtain ⟨g6, h⟩ := req_ex h
    refine Req.of g6 ?_
    conv => whnf
    refine Pick.no ?_
    conv => whnf
    obtain ⟨y7, e8, h⟩ := bind_ex h
    refine CallOk.of (hrec_spec_shBorn _ _ _ e8) ?_
    conv => whnf
    obtain ⟨g9, h⟩ := req_ex h
    refine Req.of g9 ?_
    conv => whnf
    refine Pick.no ?_
    conv => whnf
    obtain ⟨y10, e11, h⟩ := bind_ex h
    refine CallOk.of (hrec_spec_shBorn _ _ _ e11) ?_
    conv => whnf
    refine Take.all (rfl) ?_
    conv => whnf
    refine Take.all (rfl) ?_
    conv => whnf
    obtain ⟨g12, h⟩ := req_ex h
    refine Req.of (room (b := 16) (by decide) g12.1 g12.2) ?_
    conv => whnf
    refine CutK.go ?_
    conv => whnf
    cases h
    exact Done.of [some 1280] [] rfl rfl ⟨⟨rfl, rfl⟩, ⟨rfl, ⟨rfl, rfl, rows_same⟩, trivial⟩, ⟨(by first | rfl | exact List.length_append.symm | (simp; done) | omega | (dsimp only; omega)), rfl⟩, trivial⟩
def spec_shBorn : Nat → ByteArray → Int → Option Rw
  | 0, _, _ => none
  | k + 1, a1, a2 => spec_shBorn_b k (spec_shBorn k) a1 a2
theorem spec_shBorn_ct' : ∀ (k : Nat) (a1 : ByteArray) (a2 : Int) (r : Rw), spec_shBorn k a1 a2 = some r → Ct prog 16 [.d (D.str a1), .d (D.int .i64 a2)] (⟨[], []⟩) (.os 8 r.length) (⟨[], [(32, true, r)]⟩)
  | 0, _, _, _, h => by rw [spec_shBorn] at h; cases h
  | k + 1, _, _, _, h => by rw [spec_shBorn] at h; exact spec_shBorn_b_ct (spec_shBorn_ct' k) h
theorem spec_shBorn_ct {k : Nat} {a1 : ByteArray} {a2 : Int} {r : Rw} (h : spec_shBorn k a1 a2 = some r) : Ct prog 16 [.d (D.str a1), .d (D.int .i64 a2)] (⟨[], []⟩) (.os 8 r.length) (⟨[], [(32, true, r)]⟩) := spec_shBorn_ct' k _ _ _ h

def spec_BornOn (k : Nat) (a1 : Int) : Option (Rw × Bool) :=
  ((spec_l1In a1 0 8).bind fun y2 => (if y2 = true then ((spec_shBorn k (ByteArray.mk #[]) a1).bind fun y5 => some (y5, true)) else some (([] : Rw), false)))
set_option maxHeartbeats 4000000 in
set_option maxRecDepth 100000 in
theorem spec_BornOn_ct {k : Nat} {a1 : Int} {r : Rw × Bool} (h : spec_BornOn k a1 = some r) : Ct prog 5 [.d (D.int .i64 a1)] (⟨[], []⟩) (.tup [.os 8 r.1.length, .d (D.bool r.2)]) (⟨[], [(32, true, r.1)]⟩) := by
  rw [spec_BornOn] at h
  refine Ct.of (c := _) mixed func5 ⟨rfl, rfl, rfl⟩ ?_ rfl
  conv => whnf
  refine Pick.no ?_
  conv => whnf
  obtain ⟨y2, e3, h⟩ := bind_ex h
  refine CallOk.of (spec_l1In_ct e3) ?_
  conv => whnf
  refine spl (fun g4 => ?_) (fun g4 => ?_)
  · replace h := iteT h g4
    conv => whnf
    refine CutK.go ?_
    conv => whnf
    refine CutK.go ?_
    conv => whnf
    refine Pick.no ?_
    conv => whnf
    obtain ⟨y5, e6, h⟩ := bind_ex h
    refine CallOk.of (spec_shBorn_ct e6) ?_
    conv => whnf
    refine CutK.go ?_
    conv => whnf
    cases h
    exact Done.of [some 512] [] rfl rfl ⟨⟨rfl, rfl⟩, ⟨rfl, ⟨rfl, rfl, rows_same⟩, trivial⟩, ⟨⟨rfl, rfl⟩, rfl, trivial⟩, trivial⟩
  · replace h := iteF h g4
    conv => whnf
    refine CutK.go ?_
    conv => whnf
    cases h
    exact Done.of [none] [] rfl rfl ⟨⟨rfl, rfl⟩, ⟨rfl, rfl, trivial⟩, ⟨⟨rfl, rfl⟩, rfl, trivial⟩, trivial⟩

def laws_FnExactBornOn_p14 (o83 : Int) (o84 : Int) : Option Bool :=
  (if o84 < (0 : Int) then some false else (if o84 = o83 then some true else some false))
set_option maxHeartbeats 4000000 in
set_option maxRecDepth 100000 in
theorem laws_FnExactBornOn_p14_ct {o83 : Int} {o84 : Int} {r : Bool} (h : laws_FnExactBornOn_p14 o83 o84 = some r) : X prog 0 (tlF f3 14) (mk 63 [(7, .d (D.int .i64 o83)), (8, .d (D.int .i64 o84))] []) (finK prog f3 0 (.d (D.bool r)) (⟨[], []⟩)) := by
  rw [laws_FnExactBornOn_p14] at h
  conv => whnf
  refine splD (fun g87 => ?_) (fun g87 => ?_)
  · replace h := iteP h g87
    conv => whnf
    cases h
    exact Done.of [] [] rfl rfl ⟨⟨rfl, rfl⟩, ⟨rfl, trivial⟩, rfl, trivial⟩
  · replace h := iteN h g87
    conv => whnf
    refine splN (fun g88 => ?_) (fun g88 => ?_)
    · replace h := iteN h g88
      conv => whnf
      cases h
      exact Done.of [] [] rfl rfl ⟨⟨rfl, rfl⟩, ⟨rfl, trivial⟩, rfl, trivial⟩
    · replace h := iteP h g88
      conv => whnf
      cases h
      exact Done.of [] [] rfl rfl ⟨⟨rfl, rfl⟩, ⟨rfl, trivial⟩, rfl, trivial⟩
def laws_FnExactBornOn_p12 (o70 : Rw) (o71 : Int) : Option Bool :=
  ((laws_heldFractionS o70 1).bind fun y89 => (laws_FnExactBornOn_p14 o71 y89))
set_option maxHeartbeats 4000000 in
set_option maxRecDepth 100000 in
theorem laws_FnExactBornOn_p12_ct {o70 : Rw} {o71 : Int} {r : Bool} (h : laws_FnExactBornOn_p12 o70 o71 = some r) : X prog 0 (tlF f3 12) (mk 63 [(5, .os 1124000 o70.length), (7, .d (D.int .i64 o71))] [(1124000, .arr 32 true o70)]) (finK prog f3 0 (.d (D.bool r)) (⟨[], []⟩)) := by
  rw [laws_FnExactBornOn_p12] at h
  conv => whnf
  refine Choice.old ?_
  conv => whnf
  refine Pick.no ?_
  conv => whnf
  refine Take.all (rfl) ?_
  conv => whnf
  obtain ⟨y89, e90, h⟩ := bind_ex h
  refine CallOk.of (laws_heldFractionS_ct e90) ?_
  conv => whnf
  exact CutK.piece (laws_FnExactBornOn_p14_ct  h) [] [] ⟨⟨rfl, rfl⟩, ⟨rfl, trivial⟩, rfl, rfl, trivial⟩
def laws_FnExactBornOn_p11 (o56 : Rw) (o57 : Rw) (o58 : Int) (o59 : Rw) (v60 : Bool) (v66 : Bool) : Option Bool :=
  (cond v60 (cond v66 ((laws_eqFractionS o59 o56).bind fun y100 => (if y100 = true then (laws_FnExactBornOn_p12 o57 o58) else some false)) ((laws_eqFractionS o59 o56).bind fun y97 => (if y97 = true then some false else some false))) (cond v66 ((laws_eqFractionS o59 o56).bind fun y94 => (if y94 = true then some false else some false)) ((laws_eqFractionS o59 o56).bind fun y91 => (if y91 = true then (laws_FnExactBornOn_p12 o57 o58) else some false))))
set_option maxHeartbeats 4000000 in
set_option maxRecDepth 100000 in
theorem laws_FnExactBornOn_p11_ct {o56 : Rw} {o57 : Rw} {o58 : Int} {o59 : Rw} {v60 : Bool} {v66 : Bool} {r : Bool} (h : laws_FnExactBornOn_p11 o56 o57 o58 o59 v60 v66 = some r) : X prog 0 (tlF f3 11) (mk 63 [(3, .os 1119000 o56.length), (4, .d (D.bool v66)), (5, .os 1119001 o57.length), (7, .d (D.int .i64 o58)), (9, .os 1119002 o59.length), (10, .d (D.bool v60))] [(1119000, .arr 32 true o56), (1119001, .arr 32 true o57), (1119002, .arr 32 true o59)]) (finK prog f3 0 (.d (D.bool r)) (⟨[], []⟩)) := by
  rw [laws_FnExactBornOn_p11] at h
  cases v60
  · replace h := condF h
    cases v66
    · replace h := condF h
      conv => whnf
      refine Pick.no ?_
      conv => whnf
      refine Take.all (rfl) ?_
      conv => whnf
      refine Take.all (rfl) ?_
      conv => whnf
      obtain ⟨y91, e92, h⟩ := bind_ex h
      refine CallOk.of (laws_eqFractionS_ct e92) ?_
      conv => whnf
      refine spl (fun g93 => ?_) (fun g93 => ?_)
      · replace h := iteT h g93
        conv => whnf
        refine splF ?_
        conv => whnf
        refine CutK.norm [5, 7, 54] [1119001] ?_
        conv => whnf
        exact CutK.piece (laws_FnExactBornOn_p12_ct  h) [some 1119001] [] ⟨⟨rfl, rfl⟩, ⟨rfl, ⟨rfl, rfl, rows_same⟩, trivial⟩, ⟨rfl, rfl⟩, rfl, trivial⟩
      · replace h := iteF h g93
        conv => whnf
        refine CutK.norm [5, 7, 54] [1119001] ?_
        conv => whnf
        cases h
        exact Done.of [] [] rfl rfl ⟨⟨rfl, rfl⟩, ⟨rfl, trivial⟩, rfl, trivial⟩
    · replace h := condT h
      conv => whnf
      refine Pick.no ?_
      conv => whnf
      refine Take.all (rfl) ?_
      conv => whnf
      refine Take.all (rfl) ?_
      conv => whnf
      obtain ⟨y94, e95, h⟩ := bind_ex h
      refine CallOk.of (laws_eqFractionS_ct e95) ?_
      conv => whnf
      refine spl (fun g96 => ?_) (fun g96 => ?_)
      · replace h := iteT h g96
        conv => whnf
        refine splT ?_
        conv => whnf
        refine CutK.norm [5, 7, 54] [1119001] ?_
        conv => whnf
        cases h
        exact Done.of [] [] rfl rfl ⟨⟨rfl, rfl⟩, ⟨rfl, trivial⟩, rfl, trivial⟩
      · replace h := iteF h g96
        conv => whnf
        refine CutK.norm [5, 7, 54] [1119001] ?_
        conv => whnf
        cases h
        exact Done.of [] [] rfl rfl ⟨⟨rfl, rfl⟩, ⟨rfl, trivial⟩, rfl, trivial⟩
  · replace h := condT h
    cases v66
    · replace h := condF h
      conv => whnf
      refine Pick.no ?_
      conv => whnf
      refine Take.all (rfl) ?_
      conv => whnf
      refine Take.all (rfl) ?_
      conv => whnf
      obtain ⟨y97, e98, h⟩ := bind_ex h
      refine CallOk.of (laws_eqFractionS_ct e98) ?_
      conv => whnf
      refine spl (fun g99 => ?_) (fun g99 => ?_)
      · replace h := iteT h g99
        conv => whnf
        refine splT ?_
        conv => whnf
        refine CutK.norm [5, 7, 54] [1119001] ?_
        conv => whnf
        cases h
        exact Done.of [] [] rfl rfl ⟨⟨rfl, rfl⟩, ⟨rfl, trivial⟩, rfl, trivial⟩
      · replace h := iteF h g99
        conv => whnf
        refine CutK.norm [5, 7, 54] [1119001] ?_
        conv => whnf
        cases h
        exact Done.of [] [] rfl rfl ⟨⟨rfl, rfl⟩, ⟨rfl, trivial⟩, rfl, trivial⟩
    · replace h := condT h
      conv => whnf
      refine Pick.no ?_
      conv => whnf
      refine Take.all (rfl) ?_
      conv => whnf
      refine Take.all (rfl) ?_
      conv => whnf
      obtain ⟨y100, e101, h⟩ := bind_ex h
      refine CallOk.of (laws_eqFractionS_ct e101) ?_
      conv => whnf
      refine spl (fun g102 => ?_) (fun g102 => ?_)
      · replace h := iteT h g102
        conv => whnf
        refine splF ?_
        conv => whnf
        refine CutK.norm [5, 7, 54] [1119001] ?_
        conv => whnf
        exact CutK.piece (laws_FnExactBornOn_p12_ct  h) [some 1119001] [] ⟨⟨rfl, rfl⟩, ⟨rfl, ⟨rfl, rfl, rows_same⟩, trivial⟩, ⟨rfl, rfl⟩, rfl, trivial⟩
      · replace h := iteF h g102
        conv => whnf
        refine CutK.norm [5, 7, 54] [1119001] ?_
        conv => whnf
        cases h
        exact Done.of [] [] rfl rfl ⟨⟨rfl, rfl⟩, ⟨rfl, trivial⟩, rfl, trivial⟩
def laws_FnExactBornOn_p8 (k : Nat) (a1 : Int) (o44 : Rw) (o45 : Rw) (o46 : Int) (o47 : Int) (v50 : Bool) : Option Bool :=
  (cond v50 (if o47 < (0 : Int) then some false else (if o47 = o46 then ((impl_BornOn k a1).bind fun y110 => (if y110.2 = true then (laws_FnExactBornOn_p11 o44 o45 o46 y110.1 true true) else (laws_FnExactBornOn_p11 o44 o45 o46 y110.1 false true))) else some false)) (if o47 < (0 : Int) then some false else (if o47 = o46 then ((impl_BornOn k a1).bind fun y105 => (if y105.2 = true then (laws_FnExactBornOn_p11 o44 o45 o46 y105.1 true false) else (laws_FnExactBornOn_p11 o44 o45 o46 y105.1 false false))) else some false)))
set_option maxHeartbeats 4000000 in
set_option maxRecDepth 100000 in
theorem laws_FnExactBornOn_p8_ct {k : Nat} {a1 : Int} {o44 : Rw} {o45 : Rw} {o46 : Int} {o47 : Int} {v50 : Bool} {r : Bool} (h : laws_FnExactBornOn_p8 k a1 o44 o45 o46 o47 v50 = some r) : X prog 0 (tlF f3 8) (mk 63 [(0, .d (D.int .i64 a1)), (3, .os 1104000 o44.length), (4, .d (D.bool v50)), (5, .os 1104001 o45.length), (7, .d (D.int .i64 o46)), (8, .d (D.int .i64 o47))] [(1104000, .arr 32 true o44), (1104001, .arr 32 true o45)]) (finK prog f3 0 (.d (D.bool r)) (⟨[], []⟩)) := by
  rw [laws_FnExactBornOn_p8] at h
  cases v50
  · replace h := condF h
    conv => whnf
    refine splD (fun g103 => ?_) (fun g103 => ?_)
    · replace h := iteP h g103
      conv => whnf
      cases h
      exact Done.of [] [] rfl rfl ⟨⟨rfl, rfl⟩, ⟨rfl, trivial⟩, rfl, trivial⟩
    · replace h := iteN h g103
      conv => whnf
      refine splN (fun g104 => ?_) (fun g104 => ?_)
      · replace h := iteN h g104
        conv => whnf
        cases h
        exact Done.of [] [] rfl rfl ⟨⟨rfl, rfl⟩, ⟨rfl, trivial⟩, rfl, trivial⟩
      · replace h := iteP h g104
        conv => whnf
        refine Pick.no ?_
        conv => whnf
        obtain ⟨y105, e106, h⟩ := bind_ex h
        refine CallOk.of (impl_BornOn_ct e106) ?_
        conv => whnf
        refine spl (fun g107 => ?_) (fun g107 => ?_)
        · replace h := iteT h g107
          conv => whnf
          exact CutK.piece (laws_FnExactBornOn_p11_ct  h) [some 1104000, some 1104001, some 2752] [] ⟨⟨rfl, rfl⟩, ⟨rfl, ⟨rfl, rfl, rows_same⟩, ⟨rfl, rfl, rows_same⟩, ⟨rfl, rfl, rows_same⟩, trivial⟩, ⟨rfl, rfl⟩, rfl, ⟨rfl, rfl⟩, rfl, ⟨rfl, rfl⟩, rfl, trivial⟩
        · replace h := iteF h g107
          conv => whnf
          exact CutK.piece (laws_FnExactBornOn_p11_ct  h) [some 1104000, some 1104001, some 2752] [] ⟨⟨rfl, rfl⟩, ⟨rfl, ⟨rfl, rfl, rows_same⟩, ⟨rfl, rfl, rows_same⟩, ⟨rfl, rfl, rows_same⟩, trivial⟩, ⟨rfl, rfl⟩, rfl, ⟨rfl, rfl⟩, rfl, ⟨rfl, rfl⟩, rfl, trivial⟩
  · replace h := condT h
    conv => whnf
    refine splD (fun g108 => ?_) (fun g108 => ?_)
    · replace h := iteP h g108
      conv => whnf
      cases h
      exact Done.of [] [] rfl rfl ⟨⟨rfl, rfl⟩, ⟨rfl, trivial⟩, rfl, trivial⟩
    · replace h := iteN h g108
      conv => whnf
      refine splN (fun g109 => ?_) (fun g109 => ?_)
      · replace h := iteN h g109
        conv => whnf
        cases h
        exact Done.of [] [] rfl rfl ⟨⟨rfl, rfl⟩, ⟨rfl, trivial⟩, rfl, trivial⟩
      · replace h := iteP h g109
        conv => whnf
        refine Pick.no ?_
        conv => whnf
        obtain ⟨y110, e111, h⟩ := bind_ex h
        refine CallOk.of (impl_BornOn_ct e111) ?_
        conv => whnf
        refine spl (fun g112 => ?_) (fun g112 => ?_)
        · replace h := iteT h g112
          conv => whnf
          exact CutK.piece (laws_FnExactBornOn_p11_ct  h) [some 1104000, some 1104001, some 2752] [] ⟨⟨rfl, rfl⟩, ⟨rfl, ⟨rfl, rfl, rows_same⟩, ⟨rfl, rfl, rows_same⟩, ⟨rfl, rfl, rows_same⟩, trivial⟩, ⟨rfl, rfl⟩, rfl, ⟨rfl, rfl⟩, rfl, ⟨rfl, rfl⟩, rfl, trivial⟩
        · replace h := iteF h g112
          conv => whnf
          exact CutK.piece (laws_FnExactBornOn_p11_ct  h) [some 1104000, some 1104001, some 2752] [] ⟨⟨rfl, rfl⟩, ⟨rfl, ⟨rfl, rfl, rows_same⟩, ⟨rfl, rfl, rows_same⟩, ⟨rfl, rfl, rows_same⟩, trivial⟩, ⟨rfl, rfl⟩, rfl, ⟨rfl, rfl⟩, rfl, ⟨rfl, rfl⟩, rfl, trivial⟩
def laws_FnExactBornOn_p6 (k : Nat) (a1 : Int) (o35 : Rw) (o36 : Rw) (o37 : Int) (v41 : Bool) : Option Bool :=
  (cond v41 ((laws_heldFractionS o36 1).bind fun y115 => (laws_FnExactBornOn_p8 k a1 o35 o36 o37 y115 true)) ((laws_heldFractionS o36 1).bind fun y113 => (laws_FnExactBornOn_p8 k a1 o35 o36 o37 y113 false)))
set_option maxHeartbeats 4000000 in
set_option maxRecDepth 100000 in
theorem laws_FnExactBornOn_p6_ct {k : Nat} {a1 : Int} {o35 : Rw} {o36 : Rw} {o37 : Int} {v41 : Bool} {r : Bool} (h : laws_FnExactBornOn_p6 k a1 o35 o36 o37 v41 = some r) : X prog 0 (tlF f3 6) (mk 63 [(0, .d (D.int .i64 a1)), (3, .os 1094000 o35.length), (4, .d (D.bool v41)), (5, .os 1094001 o36.length), (7, .d (D.int .i64 o37))] [(1094000, .arr 32 true o35), (1094001, .arr 32 true o36)]) (finK prog f3 0 (.d (D.bool r)) (⟨[], []⟩)) := by
  rw [laws_FnExactBornOn_p6] at h
  cases v41
  · replace h := condF h
    conv => whnf
    refine Choice.old ?_
    conv => whnf
    refine Pick.no ?_
    conv => whnf
    refine Take.all (rfl) ?_
    conv => whnf
    obtain ⟨y113, e114, h⟩ := bind_ex h
    refine CallOk.of (laws_heldFractionS_ct e114) ?_
    conv => whnf
    exact CutK.piece (laws_FnExactBornOn_p8_ct  h) [some 1094000, some 1094001] [] ⟨⟨rfl, rfl⟩, ⟨rfl, ⟨rfl, rfl, rows_same⟩, ⟨rfl, rfl, rows_same⟩, trivial⟩, rfl, ⟨rfl, rfl⟩, rfl, ⟨rfl, rfl⟩, rfl, rfl, trivial⟩
  · replace h := condT h
    conv => whnf
    refine Choice.old ?_
    conv => whnf
    refine Pick.no ?_
    conv => whnf
    refine Take.all (rfl) ?_
    conv => whnf
    obtain ⟨y115, e116, h⟩ := bind_ex h
    refine CallOk.of (laws_heldFractionS_ct e116) ?_
    conv => whnf
    exact CutK.piece (laws_FnExactBornOn_p8_ct  h) [some 1094000, some 1094001] [] ⟨⟨rfl, rfl⟩, ⟨rfl, ⟨rfl, rfl, rows_same⟩, ⟨rfl, rfl, rows_same⟩, trivial⟩, rfl, ⟨rfl, rfl⟩, rfl, ⟨rfl, rfl⟩, rfl, rfl, trivial⟩
def laws_FnExactBornOn_p4 (k : Nat) (a1 : Int) (o20 : Rw) (o21 : Rw) (v31 : Bool) : Option Bool :=
  (cond v31 ((laws_markFractionS_2 k o21 1).bind fun y120 => (if y120.2.length = o21.length then (laws_FnExactBornOn_p6 k a1 o20 y120.2 y120.1 true) else none)) ((laws_markFractionS_2 k o21 1).bind fun y117 => (if y117.2.length = o21.length then (laws_FnExactBornOn_p6 k a1 o20 y117.2 y117.1 false) else none)))
set_option maxHeartbeats 4000000 in
set_option maxRecDepth 100000 in
theorem laws_FnExactBornOn_p4_ct {k : Nat} {a1 : Int} {o20 : Rw} {o21 : Rw} {v31 : Bool} {r : Bool} (h : laws_FnExactBornOn_p4 k a1 o20 o21 v31 = some r) : X prog 0 (tlF f3 4) (mk 63 [(0, .d (D.int .i64 a1)), (3, .os 1084000 o20.length), (4, .d (D.bool v31)), (5, .os 1084001 o21.length)] [(1084000, .arr 32 true o20), (1084001, .arr 32 true o21)]) (finK prog f3 0 (.d (D.bool r)) (⟨[], []⟩)) := by
  rw [laws_FnExactBornOn_p4] at h
  cases v31
  · replace h := condF h
    conv => whnf
    refine Choice.new ?_
    conv => whnf
    refine Req.of (rfl) ?_
    conv => whnf
    obtain ⟨y117, e118, h⟩ := bind_ex h
    refine MarkOk.of (laws_markFractionS_2_ct e118) ?_
    conv => whnf
    obtain ⟨g119, h⟩ := req_ex h
    exact CutK.piece (laws_FnExactBornOn_p6_ct  h) [some 1084000, some 1084001] [] ⟨⟨rfl, rfl⟩, ⟨rfl, ⟨rfl, rfl, rows_same⟩, ⟨rfl, rfl, rows_same⟩, trivial⟩, rfl, ⟨rfl, rfl⟩, rfl, ⟨(by first | rfl | exact List.length_append.symm | (simp; done) | omega | (dsimp only; omega)), rfl⟩, rfl, trivial⟩
  · replace h := condT h
    conv => whnf
    refine Choice.new ?_
    conv => whnf
    refine Req.of (rfl) ?_
    conv => whnf
    obtain ⟨y120, e121, h⟩ := bind_ex h
    refine MarkOk.of (laws_markFractionS_2_ct e121) ?_
    conv => whnf
    obtain ⟨g122, h⟩ := req_ex h
    exact CutK.piece (laws_FnExactBornOn_p6_ct  h) [some 1084000, some 1084001] [] ⟨⟨rfl, rfl⟩, ⟨rfl, ⟨rfl, rfl, rows_same⟩, ⟨rfl, rfl, rows_same⟩, trivial⟩, rfl, ⟨rfl, rfl⟩, rfl, ⟨(by first | rfl | exact List.length_append.symm | (simp; done) | omega | (dsimp only; omega)), rfl⟩, rfl, trivial⟩
def laws_FnExactBornOn_p3 (k : Nat) (a1 : Int) (o10 : Rw) (o11 : Rw) (v12 : Bool) (v16 : Bool) : Option Bool :=
  (cond v12 (cond v16 ((laws_eqFractionS o11 o10).bind fun y132 => (if y132 = true then (laws_FnExactBornOn_p4 k a1 o10 o11 true) else some false)) ((laws_eqFractionS o11 o10).bind fun y129 => (if y129 = true then some false else some false))) (cond v16 ((laws_eqFractionS o11 o10).bind fun y126 => (if y126 = true then some false else some false)) ((laws_eqFractionS o11 o10).bind fun y123 => (if y123 = true then (laws_FnExactBornOn_p4 k a1 o10 o11 false) else some false))))
set_option maxHeartbeats 4000000 in
set_option maxRecDepth 100000 in
theorem laws_FnExactBornOn_p3_ct {k : Nat} {a1 : Int} {o10 : Rw} {o11 : Rw} {v12 : Bool} {v16 : Bool} {r : Bool} (h : laws_FnExactBornOn_p3 k a1 o10 o11 v12 v16 = some r) : X prog 0 (tlF f3 3) (mk 63 [(0, .d (D.int .i64 a1)), (3, .os 1079000 o10.length), (4, .d (D.bool v16)), (5, .os 1079001 o11.length), (6, .d (D.bool v12))] [(1079000, .arr 32 true o10), (1079001, .arr 32 true o11)]) (finK prog f3 0 (.d (D.bool r)) (⟨[], []⟩)) := by
  rw [laws_FnExactBornOn_p3] at h
  cases v12
  · replace h := condF h
    cases v16
    · replace h := condF h
      conv => whnf
      refine Pick.no ?_
      conv => whnf
      refine Take.all (rfl) ?_
      conv => whnf
      refine Take.all (rfl) ?_
      conv => whnf
      obtain ⟨y123, e124, h⟩ := bind_ex h
      refine CallOk.of (laws_eqFractionS_ct e124) ?_
      conv => whnf
      refine spl (fun g125 => ?_) (fun g125 => ?_)
      · replace h := iteT h g125
        conv => whnf
        refine splF ?_
        conv => whnf
        refine CutK.norm [0, 3, 4, 5, 29] [1079000, 1079001] ?_
        conv => whnf
        exact CutK.piece (laws_FnExactBornOn_p4_ct  h) [some 1079000, some 1079001] [] ⟨⟨rfl, rfl⟩, ⟨rfl, ⟨rfl, rfl, rows_same⟩, ⟨rfl, rfl, rows_same⟩, trivial⟩, rfl, ⟨rfl, rfl⟩, rfl, ⟨rfl, rfl⟩, trivial⟩
      · replace h := iteF h g125
        conv => whnf
        refine CutK.norm [0, 3, 4, 5, 29] [1079000, 1079001] ?_
        conv => whnf
        cases h
        exact Done.of [] [] rfl rfl ⟨⟨rfl, rfl⟩, ⟨rfl, trivial⟩, rfl, trivial⟩
    · replace h := condT h
      conv => whnf
      refine Pick.no ?_
      conv => whnf
      refine Take.all (rfl) ?_
      conv => whnf
      refine Take.all (rfl) ?_
      conv => whnf
      obtain ⟨y126, e127, h⟩ := bind_ex h
      refine CallOk.of (laws_eqFractionS_ct e127) ?_
      conv => whnf
      refine spl (fun g128 => ?_) (fun g128 => ?_)
      · replace h := iteT h g128
        conv => whnf
        refine splT ?_
        conv => whnf
        refine CutK.norm [0, 3, 4, 5, 29] [1079000, 1079001] ?_
        conv => whnf
        cases h
        exact Done.of [] [] rfl rfl ⟨⟨rfl, rfl⟩, ⟨rfl, trivial⟩, rfl, trivial⟩
      · replace h := iteF h g128
        conv => whnf
        refine CutK.norm [0, 3, 4, 5, 29] [1079000, 1079001] ?_
        conv => whnf
        cases h
        exact Done.of [] [] rfl rfl ⟨⟨rfl, rfl⟩, ⟨rfl, trivial⟩, rfl, trivial⟩
  · replace h := condT h
    cases v16
    · replace h := condF h
      conv => whnf
      refine Pick.no ?_
      conv => whnf
      refine Take.all (rfl) ?_
      conv => whnf
      refine Take.all (rfl) ?_
      conv => whnf
      obtain ⟨y129, e130, h⟩ := bind_ex h
      refine CallOk.of (laws_eqFractionS_ct e130) ?_
      conv => whnf
      refine spl (fun g131 => ?_) (fun g131 => ?_)
      · replace h := iteT h g131
        conv => whnf
        refine splT ?_
        conv => whnf
        refine CutK.norm [0, 3, 4, 5, 29] [1079000, 1079001] ?_
        conv => whnf
        cases h
        exact Done.of [] [] rfl rfl ⟨⟨rfl, rfl⟩, ⟨rfl, trivial⟩, rfl, trivial⟩
      · replace h := iteF h g131
        conv => whnf
        refine CutK.norm [0, 3, 4, 5, 29] [1079000, 1079001] ?_
        conv => whnf
        cases h
        exact Done.of [] [] rfl rfl ⟨⟨rfl, rfl⟩, ⟨rfl, trivial⟩, rfl, trivial⟩
    · replace h := condT h
      conv => whnf
      refine Pick.no ?_
      conv => whnf
      refine Take.all (rfl) ?_
      conv => whnf
      refine Take.all (rfl) ?_
      conv => whnf
      obtain ⟨y132, e133, h⟩ := bind_ex h
      refine CallOk.of (laws_eqFractionS_ct e133) ?_
      conv => whnf
      refine spl (fun g134 => ?_) (fun g134 => ?_)
      · replace h := iteT h g134
        conv => whnf
        refine splF ?_
        conv => whnf
        refine CutK.norm [0, 3, 4, 5, 29] [1079000, 1079001] ?_
        conv => whnf
        exact CutK.piece (laws_FnExactBornOn_p4_ct  h) [some 1079000, some 1079001] [] ⟨⟨rfl, rfl⟩, ⟨rfl, ⟨rfl, rfl, rows_same⟩, ⟨rfl, rfl, rows_same⟩, trivial⟩, rfl, ⟨rfl, rfl⟩, rfl, ⟨rfl, rfl⟩, trivial⟩
      · replace h := iteF h g134
        conv => whnf
        refine CutK.norm [0, 3, 4, 5, 29] [1079000, 1079001] ?_
        conv => whnf
        cases h
        exact Done.of [] [] rfl rfl ⟨⟨rfl, rfl⟩, ⟨rfl, trivial⟩, rfl, trivial⟩
def laws_FnExactBornOn_p2 (k : Nat) (a1 : Int) (o5 : Rw) (v6 : Bool) : Option Bool :=
  (cond v6 ((impl_BornOn k a1).bind fun y138 => (if y138.2 = true then (laws_FnExactBornOn_p3 k a1 o5 y138.1 true true) else (laws_FnExactBornOn_p3 k a1 o5 y138.1 false true))) ((impl_BornOn k a1).bind fun y135 => (if y135.2 = true then (laws_FnExactBornOn_p3 k a1 o5 y135.1 true false) else (laws_FnExactBornOn_p3 k a1 o5 y135.1 false false))))
set_option maxHeartbeats 4000000 in
set_option maxRecDepth 100000 in
theorem laws_FnExactBornOn_p2_ct {k : Nat} {a1 : Int} {o5 : Rw} {v6 : Bool} {r : Bool} (h : laws_FnExactBornOn_p2 k a1 o5 v6 = some r) : X prog 0 (tlF f3 2) (mk 63 [(0, .d (D.int .i64 a1)), (3, .os 1074000 o5.length), (4, .d (D.bool v6))] [(1074000, .arr 32 true o5)]) (finK prog f3 0 (.d (D.bool r)) (⟨[], []⟩)) := by
  rw [laws_FnExactBornOn_p2] at h
  cases v6
  · replace h := condF h
    conv => whnf
    refine Pick.no ?_
    conv => whnf
    obtain ⟨y135, e136, h⟩ := bind_ex h
    refine CallOk.of (impl_BornOn_ct e136) ?_
    conv => whnf
    refine spl (fun g137 => ?_) (fun g137 => ?_)
    · replace h := iteT h g137
      conv => whnf
      exact CutK.piece (laws_FnExactBornOn_p3_ct  h) [some 1074000, some 1152] [] ⟨⟨rfl, rfl⟩, ⟨rfl, ⟨rfl, rfl, rows_same⟩, ⟨rfl, rfl, rows_same⟩, trivial⟩, rfl, ⟨rfl, rfl⟩, rfl, ⟨rfl, rfl⟩, rfl, trivial⟩
    · replace h := iteF h g137
      conv => whnf
      exact CutK.piece (laws_FnExactBornOn_p3_ct  h) [some 1074000, some 1152] [] ⟨⟨rfl, rfl⟩, ⟨rfl, ⟨rfl, rfl, rows_same⟩, ⟨rfl, rfl, rows_same⟩, trivial⟩, rfl, ⟨rfl, rfl⟩, rfl, ⟨rfl, rfl⟩, rfl, trivial⟩
  · replace h := condT h
    conv => whnf
    refine Pick.no ?_
    conv => whnf
    obtain ⟨y138, e139, h⟩ := bind_ex h
    refine CallOk.of (impl_BornOn_ct e139) ?_
    conv => whnf
    refine spl (fun g140 => ?_) (fun g140 => ?_)
    · replace h := iteT h g140
      conv => whnf
      exact CutK.piece (laws_FnExactBornOn_p3_ct  h) [some 1074000, some 1152] [] ⟨⟨rfl, rfl⟩, ⟨rfl, ⟨rfl, rfl, rows_same⟩, ⟨rfl, rfl, rows_same⟩, trivial⟩, rfl, ⟨rfl, rfl⟩, rfl, ⟨rfl, rfl⟩, rfl, trivial⟩
    · replace h := iteF h g140
      conv => whnf
      exact CutK.piece (laws_FnExactBornOn_p3_ct  h) [some 1074000, some 1152] [] ⟨⟨rfl, rfl⟩, ⟨rfl, ⟨rfl, rfl, rows_same⟩, ⟨rfl, rfl, rows_same⟩, trivial⟩, rfl, ⟨rfl, rfl⟩, rfl, ⟨rfl, rfl⟩, rfl, trivial⟩
def laws_FnExactBornOn (k : Nat) (a1 : Int) : Option Bool :=
  ((spec_BornOn k a1).bind fun y141 => (if y141.2 = true then (laws_FnExactBornOn_p2 k a1 y141.1 true) else (laws_FnExactBornOn_p2 k a1 y141.1 false)))
set_option maxHeartbeats 4000000 in
set_option maxRecDepth 100000 in
theorem laws_FnExactBornOn_ct {k : Nat} {a1 : Int} {r : Bool} (h : laws_FnExactBornOn k a1 = some r) : Ct prog 3 [.d (D.int .i64 a1)] (⟨[], []⟩) (.d (D.bool r)) (⟨[], []⟩) := by
  rw [laws_FnExactBornOn] at h
  refine Ct.of (c := _) mixed func3 ⟨rfl, rfl, rfl⟩ ?_ rfl
  conv => whnf
  refine Pick.no ?_
  conv => whnf
  obtain ⟨y141, e142, h⟩ := bind_ex h
  refine CallOk.of (spec_BornOn_ct e142) ?_
  conv => whnf
  refine spl (fun g143 => ?_) (fun g143 => ?_)
  · replace h := iteT h g143
    conv => whnf
    exact CutK.piece (laws_FnExactBornOn_p2_ct  h) [some 832] [] ⟨⟨rfl, rfl⟩, ⟨rfl, ⟨rfl, rfl, rows_same⟩, trivial⟩, rfl, ⟨rfl, rfl⟩, rfl, trivial⟩
  · replace h := iteF h g143
    conv => whnf
    exact CutK.piece (laws_FnExactBornOn_p2_ct  h) [some 832] [] ⟨⟨rfl, rfl⟩, ⟨rfl, ⟨rfl, rfl, rows_same⟩, trivial⟩, rfl, ⟨rfl, rfl⟩, rfl, trivial⟩
end
end Go.Proofs.Try
