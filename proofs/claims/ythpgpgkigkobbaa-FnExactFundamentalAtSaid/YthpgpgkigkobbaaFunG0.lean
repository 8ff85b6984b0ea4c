/- Printed by program (axgen): pure functions, and that the Go functions compute them. -/
import Derived.Test.YthpgpgkigkobbaaProg
import Derived.Test.YthpgpgkigkobbaaAxC
import Derived.KernelRfl
set_option linter.unusedVariables false
set_option linter.unusedSimpArgs false
namespace Go.Proofs.Try
open Go Go.AX
theorem mixed : prog.follows .mixedOrders = true := by kernel_rfl
def cell_si {α : Type} (cs : List D) (K : Rw → Int → Option α) : Option α := match cs with | [.sl a0, .int .i64 a1] => K a0 a1 | _ => none
def row_si {α : Type} (es : Rw) (i : Int) (K : Rw → Int → Option α) : Option α := if 0 ≤ i then (match es[i.toNat]? with | some cs => cell_si cs K | none => none) else none
theorem cell_si_ex {α : Type} {cs : List D} {K : Rw → Int → Option α} {r : α} (h : cell_si cs K = some r) : ∃ a0 a1, cs = [.sl a0, .int .i64 a1] ∧ K a0 a1 = some r := by
  unfold cell_si at h
  split at h
  · exact ⟨_, _, rfl, h⟩
  · cases h
theorem row_si_ex {α : Type} {es : Rw} {i : Int} {K : Rw → Int → Option α} {r : α} (h : row_si es i K = some r) : 0 ≤ i ∧ ∃ a0 a1, es[i.toNat]? = some [.sl a0, .int .i64 a1] ∧ K a0 a1 = some r := by
  unfold row_si at h
  obtain ⟨g, h⟩ := req_ex h
  split at h
  · rename_i cs e
    obtain ⟨a0, a1, rfl, h⟩ := cell_si_ex h
    exact ⟨g, a0, a1, e, h⟩
  · cases h
noncomputable section
def laws_heldOrdinalTermS_l0 (rec_laws_heldOrdinalTermS : Rw → Int → Option Int) (a1 : Rw) (K0 : Int → Option Int) : Rw → Int → Option Int
  | [], v12 => (K0 v12)
  | cs :: rest, v12 => (cell_si cs fun x33 x34 => ((rec_laws_heldOrdinalTermS x33 v12).bind fun y36 => (if y36 < (0 : Int) then some (-1) else (if x34 = y36 then (laws_heldOrdinalTermS_l0 rec_laws_heldOrdinalTermS a1 K0 rest (IntKind.i64.wrap (y36 + 1))) else some (-1)))))
set_option maxRecDepth 100000 in
theorem laws_heldOrdinalTermS_l0_ct {rec_laws_heldOrdinalTermS : Rw → Int → Option Int} {a1 : Rw} {K0 : Int → Option Int} (hrec_laws_heldOrdinalTermS : ∀ (a1 : Rw) (a2 : Int) (r : Int), rec_laws_heldOrdinalTermS a1 a2 = some r → Ct prog 48 [.d (D.sl a1), .d (D.int .i64 a2)] (⟨[], []⟩) (.d (D.int .i64 r)) (⟨[], []⟩)) {r : Int} (hx : a1.length ≤ cap) : ∀ (rest : Rw) (v13n : Nat) (v12 : Int), a1.drop v13n = rest → laws_heldOrdinalTermS_l0 rec_laws_heldOrdinalTermS a1 K0 rest v12 = some r → LoopOk prog 0 (lp f48 0) (mk 32 [(0, .d (D.sl a1)), (1, .d (D.int .i64 v12)), (5, .d (D.int .i64 (v13n : Int)))] []) (LoopEnd prog f48 0 32 (.d (D.int .i64 r)) (⟨[], []⟩) (fun i ts os => (i = 0 ∧ ∃ v23 : Int, K0 v23 = some r ∧ ts = [(1, .d (D.int .i64 v23))] ∧ os = [])))
  | [], v13n, v12, hd, h => by
      rw [laws_heldOrdinalTermS_l0] at h
      have hn := drop_nil hd
      refine LoopOk.step ?_
      conv => whnf
      refine splD (fun g => absurd g hn) (fun _ => ?_)
      conv => whnf
      exact ⟨_, _, [], [], ⟨rfl, _, h, rfl, rfl⟩, ⟨⟨rfl, rfl⟩, ⟨rfl, trivial⟩, rfl, trivial⟩⟩
  | cs :: rest, v13n, v12, hd, h => by
      rw [laws_heldOrdinalTermS_l0] at h
      obtain ⟨hrow, hd1, hlt⟩ := drop_cons hd
      refine LoopOk.step ?_
      conv => whnf
      refine splD (fun _ => ?_) (fun g => absurd hlt g)
      conv => whnf
      obtain ⟨x33, x34, e35, h⟩ := cell_si_ex h
      rw [e35] at hrow
      refine Req.of (Int.natCast_nonneg _) ?_
      refine Row.of _ hrow ?_
      conv => whnf
      obtain ⟨y36, e37, h⟩ := bind_ex h
      refine CallOk.of (hrec_laws_heldOrdinalTermS _ _ _ e37) ?_
      conv => whnf
      refine CutK.norm [0, 1, 5] [] ?_
      conv => whnf
      refine splD (fun g38 => ?_) (fun g38 => ?_)
      · replace h := iteP h g38
        conv => whnf
        cases h
        exact Done.of [] [] rfl rfl ⟨⟨rfl, rfl⟩, ⟨rfl, trivial⟩, rfl, trivial⟩
      · replace h := iteN h g38
        conv => whnf
        refine Req.of (Int.natCast_nonneg _) ?_
        refine Row.of _ hrow ?_
        conv => whnf
        refine splN (fun g39 => ?_) (fun g39 => ?_)
        · replace h := iteN h g39
          conv => whnf
          cases h
          exact Done.of [] [] rfl rfl ⟨⟨rfl, rfl⟩, ⟨rfl, trivial⟩, rfl, trivial⟩
        · replace h := iteP h g39
          conv => whnf
          refine CutK.norm [0, 1, 5] [] ?_
          conv => whnf
          exact LoopOk.back (laws_heldOrdinalTermS_l0_ct hrec_laws_heldOrdinalTermS hx rest (v13n + 1) _ hd1 h) [] [] ⟨⟨rfl, rfl⟩, ⟨rfl, trivial⟩, rfl, rfl, i64eq (wrap_up hlt hx), trivial⟩
def laws_heldOrdinalTermS_b (rec_laws_heldOrdinalTermS : Rw → Int → Option Int) (a1 : Rw) (a2 : Int) : Option Int :=
  (if a1.length ≤ cap then (laws_heldOrdinalTermS_l0 rec_laws_heldOrdinalTermS a1 (fun (v23 : Int) => some v23) a1 a2) else none)
set_option maxHeartbeats 4000000 in
set_option maxRecDepth 100000 in
theorem laws_heldOrdinalTermS_b_ct {rec_laws_heldOrdinalTermS : Rw → Int → Option Int} (hrec_laws_heldOrdinalTermS : ∀ (a1 : Rw) (a2 : Int) (r : Int), rec_laws_heldOrdinalTermS a1 a2 = some r → Ct prog 48 [.d (D.sl a1), .d (D.int .i64 a2)] (⟨[], []⟩) (.d (D.int .i64 r)) (⟨[], []⟩)) {a1 : Rw} {a2 : Int} {r : Int} (h : laws_heldOrdinalTermS_b rec_laws_heldOrdinalTermS a1 a2 = some r) : Ct prog 48 [.d (D.sl a1), .d (D.int .i64 a2)] (⟨[], []⟩) (.d (D.int .i64 r)) (⟨[], []⟩) := by
  rw [laws_heldOrdinalTermS_b] at h
  refine Ct.of (c := _) mixed func48 ⟨rfl, rfl, rfl⟩ ?_ rfl
  conv => whnf
  obtain ⟨g40, h⟩ := req_ex h
  refine LoopOk.into (laws_heldOrdinalTermS_l0_ct hrec_laws_heldOrdinalTermS g40 _ _ _ rfl h) [] [] ⟨⟨rfl, rfl⟩, ⟨rfl, trivial⟩, rfl, rfl, rfl, trivial⟩ ?_ (fun _ hs => hs)
  rintro i ts os ⟨rfl, v23, h, rfl, rfl⟩
  conv => whnf
  refine CutK.norm [1] [] ?_
  conv => whnf
  cases h
  exact Done.of [] [] rfl rfl ⟨⟨rfl, rfl⟩, ⟨rfl, trivial⟩, rfl, trivial⟩
def laws_heldOrdinalTermS : Nat → Rw → Int → Option Int
  | 0, _, _ => none
  | k + 1, a1, a2 => laws_heldOrdinalTermS_b (laws_heldOrdinalTermS k) a1 a2
theorem laws_heldOrdinalTermS_ct' : ∀ (k : Nat) (a1 : Rw) (a2 : Int) (r : Int), laws_heldOrdinalTermS k a1 a2 = some r → Ct prog 48 [.d (D.sl a1), .d (D.int .i64 a2)] (⟨[], []⟩) (.d (D.int .i64 r)) (⟨[], []⟩)
  | 0, _, _, _, h => by rw [laws_heldOrdinalTermS] at h; cases h
  | k + 1, _, _, _, h => by rw [laws_heldOrdinalTermS] at h; exact laws_heldOrdinalTermS_b_ct (laws_heldOrdinalTermS_ct' k) h
theorem laws_heldOrdinalTermS_ct {k : Nat} {a1 : Rw} {a2 : Int} {r : Int} (h : laws_heldOrdinalTermS k a1 a2 = some r) : Ct prog 48 [.d (D.sl a1), .d (D.int .i64 a2)] (⟨[], []⟩) (.d (D.int .i64 r)) (⟨[], []⟩) := laws_heldOrdinalTermS_ct' k _ _ _ h

def laws_heldOrdinal (k : Nat) (a1 : Rw) (a2 : Int) : Option Int :=
  ((laws_heldOrdinalTermS k a1 a2).bind fun y3 => (if y3 < (0 : Int) then some (-1) else some y3))
set_option maxHeartbeats 4000000 in
set_option maxRecDepth 100000 in
theorem laws_heldOrdinal_ct {k : Nat} {a1 : Rw} {a2 : Int} {r : Int} (h : laws_heldOrdinal k a1 a2 = some r) : Ct prog 14 [.agg [.d (D.sl a1)], .d (D.int .i64 a2)] (⟨[], []⟩) (.d (D.int .i64 r)) (⟨[], []⟩) := by
  rw [laws_heldOrdinal] at h
  refine Ct.of (c := _) mixed func14 ⟨rfl, rfl, rfl⟩ ?_ rfl
  conv => whnf
  obtain ⟨y3, e4, h⟩ := bind_ex h
  refine CallOk.of (laws_heldOrdinalTermS_ct e4) ?_
  conv => whnf
  refine CutK.go ?_
  conv => whnf
  refine splD (fun g5 => ?_) (fun g5 => ?_)
  · replace h := iteP h g5
    conv => whnf
    cases h
    exact Done.of [] [] rfl rfl ⟨⟨rfl, rfl⟩, ⟨rfl, trivial⟩, rfl, trivial⟩
  · replace h := iteN h g5
    conv => whnf
    cases h
    exact Done.of [] [] rfl rfl ⟨⟨rfl, rfl⟩, ⟨rfl, trivial⟩, rfl, trivial⟩

def laws_eqOrdinalTerm (rec_laws_eqOrdinal : Rw → Rw → Option Bool) (a1 : Rw) (a2 : Int) (a3 : Rw) (a4 : Int) : Option Bool :=
  ((rec_laws_eqOrdinal a1 a3).bind fun y5 => (if y5 = true then (if a2 = a4 then some true else some false) else some false))
set_option maxHeartbeats 4000000 in
set_option maxRecDepth 100000 in
theorem laws_eqOrdinalTerm_ct {rec_laws_eqOrdinal : Rw → Rw → Option Bool} (hrec_laws_eqOrdinal : ∀ (a1 : Rw) (a2 : Rw) (r : Bool), rec_laws_eqOrdinal a1 a2 = some r → Ct prog 12 [.agg [.d (D.sl a1)], .agg [.d (D.sl a2)]] (⟨[], []⟩) (.d (D.bool r)) (⟨[], []⟩)) {a1 : Rw} {a2 : Int} {a3 : Rw} {a4 : Int} {r : Bool} (h : laws_eqOrdinalTerm rec_laws_eqOrdinal a1 a2 a3 a4 = some r) : Ct prog 88 [.agg [.d (D.sl a1), .d (D.int .i64 a2)], .agg [.d (D.sl a3), .d (D.int .i64 a4)]] (⟨[], []⟩) (.d (D.bool r)) (⟨[], []⟩) := by
  rw [laws_eqOrdinalTerm] at h
  refine Ct.of (c := _) mixed func88 ⟨rfl, rfl, rfl⟩ ?_ rfl
  conv => whnf
  obtain ⟨y5, e6, h⟩ := bind_ex h
  refine CallOk.of (hrec_laws_eqOrdinal _ _ _ e6) ?_
  conv => whnf
  refine spl (fun g7 => ?_) (fun g7 => ?_)
  · replace h := iteT h g7
    conv => whnf
    refine CutK.go ?_
    conv => whnf
    refine CutK.go ?_
    conv => whnf
    refine splN (fun g8 => ?_) (fun g8 => ?_)
    · replace h := iteN h g8
      conv => whnf
      cases h
      exact Done.of [] [] rfl rfl ⟨⟨rfl, rfl⟩, ⟨rfl, trivial⟩, rfl, trivial⟩
    · replace h := iteP h g8
      conv => whnf
      cases h
      exact Done.of [] [] rfl rfl ⟨⟨rfl, rfl⟩, ⟨rfl, trivial⟩, rfl, trivial⟩
  · replace h := iteF h g7
    conv => whnf
    refine CutK.go ?_
    conv => whnf
    cases h
    exact Done.of [] [] rfl rfl ⟨⟨rfl, rfl⟩, ⟨rfl, trivial⟩, rfl, trivial⟩

def laws_eqOrdinalTermS_l0 (rec_laws_eqOrdinal : Rw → Rw → Option Bool) (a1 : Rw) (a2 : Rw) (K0 : Option Bool) : Rw → Nat → Option Bool
  | [], v16n => (K0)
  | cs :: rest, v16n => (cell_si cs fun x29 x30 => (row_si a2 (v16n : Int) fun x32 x33 => ((laws_eqOrdinalTerm rec_laws_eqOrdinal x29 x30 x32 x33).bind fun y36 => (if y36 = true then (laws_eqOrdinalTermS_l0 rec_laws_eqOrdinal a1 a2 K0 rest (v16n + 1)) else some false))))
set_option maxRecDepth 100000 in
theorem laws_eqOrdinalTermS_l0_ct {rec_laws_eqOrdinal : Rw → Rw → Option Bool} {a1 : Rw} {a2 : Rw} {K0 : Option Bool} (hrec_laws_eqOrdinal : ∀ (a1 : Rw) (a2 : Rw) (r : Bool), rec_laws_eqOrdinal a1 a2 = some r → Ct prog 12 [.agg [.d (D.sl a1)], .agg [.d (D.sl a2)]] (⟨[], []⟩) (.d (D.bool r)) (⟨[], []⟩)) {r : Bool} (hx : a1.length ≤ cap) : ∀ (rest : Rw) (v16n : Nat), a1.drop v16n = rest → laws_eqOrdinalTermS_l0 rec_laws_eqOrdinal a1 a2 K0 rest v16n = some r → LoopOk prog 0 (lp f46 0) (mk 27 [(0, .d (D.sl a1)), (1, .d (D.sl a2)), (5, .d (D.int .i64 (v16n : Int)))] []) (LoopEnd prog f46 0 27 (.d (D.bool r)) (⟨[], []⟩) (fun i ts os => (i = 0 ∧ K0 = some r ∧ ts = [] ∧ os = [])))
  | [], v16n, hd, h => by
      rw [laws_eqOrdinalTermS_l0] at h
      have hn := drop_nil hd
      refine LoopOk.step ?_
      conv => whnf
      refine splD (fun g => absurd g hn) (fun _ => ?_)
      conv => whnf
      exact ⟨_, _, [], [], ⟨rfl, h, rfl, rfl⟩, ⟨⟨rfl, rfl⟩, ⟨rfl, trivial⟩, trivial⟩⟩
  | cs :: rest, v16n, hd, h => by
      rw [laws_eqOrdinalTermS_l0] at h
      obtain ⟨hrow, hd1, hlt⟩ := drop_cons hd
      refine LoopOk.step ?_
      conv => whnf
      refine splD (fun _ => ?_) (fun g => absurd hlt g)
      conv => whnf
      obtain ⟨x29, x30, e31, h⟩ := cell_si_ex h
      rw [e31] at hrow
      refine Req.of (Int.natCast_nonneg _) ?_
      refine Row.of _ hrow ?_
      conv => whnf
      obtain ⟨g35, x32, x33, e34, h⟩ := row_si_ex h
      refine Req.of g35 ?_
      refine Row.of _ e34 ?_
      conv => whnf
      obtain ⟨y36, e37, h⟩ := bind_ex h
      refine CallOk.of (laws_eqOrdinalTerm_ct hrec_laws_eqOrdinal e37) ?_
      conv => whnf
      refine spl (fun g38 => ?_) (fun g38 => ?_)
      · replace h := iteT h g38
        conv => whnf
        refine CutK.go ?_
        conv => whnf
        refine CutK.go ?_
        conv => whnf
        exact LoopOk.back (laws_eqOrdinalTermS_l0_ct hrec_laws_eqOrdinal hx rest (v16n + 1)  hd1 h) [] [] ⟨⟨rfl, rfl⟩, ⟨rfl, trivial⟩, rfl, rfl, i64eq (wrap_up hlt hx), trivial⟩
      · replace h := iteF h g38
        conv => whnf
        refine CutK.go ?_
        conv => whnf
        cases h
        exact Done.of [] [] rfl rfl ⟨⟨rfl, rfl⟩, ⟨rfl, trivial⟩, rfl, trivial⟩
def laws_eqOrdinalTermS (rec_laws_eqOrdinal : Rw → Rw → Option Bool) (a1 : Rw) (a2 : Rw) : Option Bool :=
  (if (a1.length : Int) = (a2.length : Int) then (if a1.length ≤ cap then (laws_eqOrdinalTermS_l0 rec_laws_eqOrdinal a1 a2 (some true) a1 0) else none) else some false)
set_option maxHeartbeats 4000000 in
set_option maxRecDepth 100000 in
theorem laws_eqOrdinalTermS_ct {rec_laws_eqOrdinal : Rw → Rw → Option Bool} (hrec_laws_eqOrdinal : ∀ (a1 : Rw) (a2 : Rw) (r : Bool), rec_laws_eqOrdinal a1 a2 = some r → Ct prog 12 [.agg [.d (D.sl a1)], .agg [.d (D.sl a2)]] (⟨[], []⟩) (.d (D.bool r)) (⟨[], []⟩)) {a1 : Rw} {a2 : Rw} {r : Bool} (h : laws_eqOrdinalTermS rec_laws_eqOrdinal a1 a2 = some r) : Ct prog 46 [.d (D.sl a1), .d (D.sl a2)] (⟨[], []⟩) (.d (D.bool r)) (⟨[], []⟩) := by
  rw [laws_eqOrdinalTermS] at h
  refine Ct.of (c := _) mixed func46 ⟨rfl, rfl, rfl⟩ ?_ rfl
  conv => whnf
  refine splN (fun g3 => ?_) (fun g3 => ?_)
  · replace h := iteN h g3
    conv => whnf
    cases h
    exact Done.of [] [] rfl rfl ⟨⟨rfl, rfl⟩, ⟨rfl, trivial⟩, rfl, trivial⟩
  · replace h := iteP h g3
    conv => whnf
    obtain ⟨g39, h⟩ := req_ex h
    refine LoopOk.into (laws_eqOrdinalTermS_l0_ct hrec_laws_eqOrdinal g39 _ _  rfl h) [] [] ⟨⟨rfl, rfl⟩, ⟨rfl, trivial⟩, rfl, rfl, rfl, trivial⟩ ?_ (fun _ hs => hs)
    rintro i ts os ⟨rfl, h, rfl, rfl⟩
    conv => whnf
    refine CutK.go ?_
    conv => whnf
    cases h
    exact Done.of [] [] rfl rfl ⟨⟨rfl, rfl⟩, ⟨rfl, trivial⟩, rfl, trivial⟩

def laws_eqOrdinal_b (rec_laws_eqOrdinal : Rw → Rw → Option Bool) (a1 : Rw) (a2 : Rw) : Option Bool :=
  ((laws_eqOrdinalTermS rec_laws_eqOrdinal a1 a2).bind fun y3 => (if y3 = true then some true else some false))
set_option maxHeartbeats 4000000 in
set_option maxRecDepth 100000 in
theorem laws_eqOrdinal_b_ct {rec_laws_eqOrdinal : Rw → Rw → Option Bool} (hrec_laws_eqOrdinal : ∀ (a1 : Rw) (a2 : Rw) (r : Bool), rec_laws_eqOrdinal a1 a2 = some r → Ct prog 12 [.agg [.d (D.sl a1)], .agg [.d (D.sl a2)]] (⟨[], []⟩) (.d (D.bool r)) (⟨[], []⟩)) {a1 : Rw} {a2 : Rw} {r : Bool} (h : laws_eqOrdinal_b rec_laws_eqOrdinal a1 a2 = some r) : Ct prog 12 [.agg [.d (D.sl a1)], .agg [.d (D.sl a2)]] (⟨[], []⟩) (.d (D.bool r)) (⟨[], []⟩) := by
  rw [laws_eqOrdinal_b] at h
  refine Ct.of (c := _) mixed func12 ⟨rfl, rfl, rfl⟩ ?_ rfl
  conv => whnf
  obtain ⟨y3, e4, h⟩ := bind_ex h
  refine CallOk.of (laws_eqOrdinalTermS_ct hrec_laws_eqOrdinal e4) ?_
  conv => whnf
  refine spl (fun g5 => ?_) (fun g5 => ?_)
  · replace h := iteT h g5
    conv => whnf
    refine CutK.go ?_
    conv => whnf
    refine CutK.go ?_
    conv => whnf
    cases h
    exact Done.of [] [] rfl rfl ⟨⟨rfl, rfl⟩, ⟨rfl, trivial⟩, rfl, trivial⟩
  · replace h := iteF h g5
    conv => whnf
    refine CutK.go ?_
    conv => whnf
    cases h
    exact Done.of [] [] rfl rfl ⟨⟨rfl, rfl⟩, ⟨rfl, trivial⟩, rfl, trivial⟩
def laws_eqOrdinal : Nat → Rw → Rw → Option Bool
  | 0, _, _ => none
  | k + 1, a1, a2 => laws_eqOrdinal_b (laws_eqOrdinal k) a1 a2
theorem laws_eqOrdinal_ct' : ∀ (k : Nat) (a1 : Rw) (a2 : Rw) (r : Bool), laws_eqOrdinal k a1 a2 = some r → Ct prog 12 [.agg [.d (D.sl a1)], .agg [.d (D.sl a2)]] (⟨[], []⟩) (.d (D.bool r)) (⟨[], []⟩)
  | 0, _, _, _, h => by rw [laws_eqOrdinal] at h; cases h
  | k + 1, _, _, _, h => by rw [laws_eqOrdinal] at h; exact laws_eqOrdinal_b_ct (laws_eqOrdinal_ct' k) h
theorem laws_eqOrdinal_ct {k : Nat} {a1 : Rw} {a2 : Rw} {r : Bool} (h : laws_eqOrdinal k a1 a2 = some r) : Ct prog 12 [.agg [.d (D.sl a1)], .agg [.d (D.sl a2)]] (⟨[], []⟩) (.d (D.bool r)) (⟨[], []⟩) := laws_eqOrdinal_ct' k _ _ _ h

def laws_toOrdinalTerm (rec_laws_toOrdinal : Rw → Option Rw) (a1 : Rw) (a2 : Int) : Option (Rw × Int) :=
  ((rec_laws_toOrdinal a1).bind fun y3 => some (y3, a2))
set_option maxHeartbeats 4000000 in
set_option maxRecDepth 100000 in
theorem laws_toOrdinalTerm_ct {rec_laws_toOrdinal : Rw → Option Rw} (hrec_laws_toOrdinal : ∀ (a1 : Rw) (r : Rw), rec_laws_toOrdinal a1 = some r → Ct prog 10 [.agg [.d (D.sl a1)]] (⟨[], []⟩) (.agg [.os 8 r.length]) (⟨[], [(77, true, r)]⟩)) {a1 : Rw} {a2 : Int} {r : Rw × Int} (h : laws_toOrdinalTerm rec_laws_toOrdinal a1 a2 = some r) : Ct prog 84 [.agg [.d (D.sl a1), .d (D.int .i64 a2)]] (⟨[], []⟩) (.agg [.os 8 r.1.length, .d (D.int .i64 r.2)]) (⟨[], [(77, true, r.1)]⟩) := by
  rw [laws_toOrdinalTerm] at h
  refine Ct.of (c := _) mixed func84 ⟨rfl, rfl, rfl⟩ ?_ rfl
  conv => whnf
  obtain ⟨y3, e4, h⟩ := bind_ex h
  refine CallOk.of (hrec_laws_toOrdinal _ _ e4) ?_
  conv => whnf
  refine CutK.go ?_
  conv => whnf
  cases h
  exact Done.of [some 384] [] rfl rfl ⟨⟨rfl, rfl⟩, ⟨rfl, ⟨rfl, rfl, rows_same⟩, trivial⟩, ⟨⟨rfl, rfl⟩, rfl, trivial⟩, trivial⟩

def laws_toOrdinalTermS_l0 (rec_laws_toOrdinal : Rw → Option Rw) (a1 : Rw) (K0 : Rw → Option Rw) : Rw → Nat → Rw → Option Rw
  | [], v16n, v15 => (K0 v15)
  | cs :: rest, v16n, v15 => (cell_si cs fun x42 x43 => ((laws_toOrdinalTerm rec_laws_toOrdinal x42 x43).bind fun y45 => (if 0 ≤ (v16n : Int) ∧ (v16n : Int) < (v15.length : Int) then (row_si v15 (v16n : Int) fun x48 x49 => (laws_toOrdinalTermS_l0 rec_laws_toOrdinal a1 K0 rest (v16n + 1) (v15.set (((v16n : Int) : Int).toNat) [D.sl y45.1, D.int .i64 y45.2]))) else none)))
set_option maxRecDepth 100000 in
theorem laws_toOrdinalTermS_l0_ct {rec_laws_toOrdinal : Rw → Option Rw} {a1 : Rw} {K0 : Rw → Option Rw} (hrec_laws_toOrdinal : ∀ (a1 : Rw) (r : Rw), rec_laws_toOrdinal a1 = some r → Ct prog 10 [.agg [.d (D.sl a1)]] (⟨[], []⟩) (.agg [.os 8 r.length]) (⟨[], [(77, true, r)]⟩)) {r : Rw} (hx : a1.length ≤ cap) : ∀ (rest : Rw) (v16n : Nat) (v15 : Rw), a1.drop v16n = rest → laws_toOrdinalTermS_l0 rec_laws_toOrdinal a1 K0 rest v16n v15 = some r → LoopOk prog 0 (lp f40 0) (mk 23 [(0, .d (D.sl a1)), (3, .os 64000 v15.length), (4, .d (D.int .i64 (v16n : Int)))] [(64000, .arr 77 true v15)]) (LoopEnd prog f40 0 23 (.os 8 r.length) (⟨[], [(77, true, r)]⟩) (fun i ts os => (i = 0 ∧ ∃ v29 : Rw, K0 v29 = some r ∧ ts = [(3, .os 67001 v29.length)] ∧ os = [(67001, .arr 77 true v29)])))
  | [], v16n, v15, hd, h => by
      rw [laws_toOrdinalTermS_l0] at h
      have hn := drop_nil hd
      refine LoopOk.step ?_
      conv => whnf
      refine splD (fun g => absurd g hn) (fun _ => ?_)
      conv => whnf
      exact ⟨_, _, [some 64000], [], ⟨rfl, _, h, rfl, rfl⟩, ⟨⟨rfl, rfl⟩, ⟨rfl, ⟨rfl, rfl, rows_same⟩, trivial⟩, ⟨rfl, rfl⟩, trivial⟩⟩
  | cs :: rest, v16n, v15, hd, h => by
      rw [laws_toOrdinalTermS_l0] at h
      obtain ⟨hrow, hd1, hlt⟩ := drop_cons hd
      refine LoopOk.step ?_
      conv => whnf
      refine splD (fun _ => ?_) (fun g => absurd hlt g)
      conv => whnf
      obtain ⟨x42, x43, e44, h⟩ := cell_si_ex h
      rw [e44] at hrow
      refine Req.of (Int.natCast_nonneg _) ?_
      refine Row.of _ hrow ?_
      conv => whnf
      obtain ⟨y45, e46, h⟩ := bind_ex h
      refine CallOk.of (laws_toOrdinalTerm_ct hrec_laws_toOrdinal e46) ?_
      conv => whnf
      obtain ⟨g47, h⟩ := req_ex h
      refine Req.of g47 ?_
      conv => whnf
      refine Take.all (rfl) ?_
      conv => whnf
      obtain ⟨g51, x48, x49, e50, h⟩ := row_si_ex h
      refine Row.of _ e50 ?_
      conv => whnf
      refine CutK.go ?_
      conv => whnf
      exact LoopOk.back (laws_toOrdinalTermS_l0_ct hrec_laws_toOrdinal hx rest (v16n + 1) _ hd1 h) [some 64000] [] ⟨⟨rfl, rfl⟩, ⟨rfl, ⟨rfl, rfl, rows_same⟩, trivial⟩, rfl, ⟨(by first | rfl | exact List.length_append.symm | (simp; done) | omega), rfl⟩, i64eq (wrap_up hlt hx), trivial⟩
def laws_toOrdinalTermS (rec_laws_toOrdinal : Rw → Option Rw) (a1 : Rw) : Option Rw :=
  (if 0 ≤ (a1.length : Int) ∧ (a1.length : Int) ≤ 1099511627776 then (if a1.length ≤ cap then (laws_toOrdinalTermS_l0 rec_laws_toOrdinal a1 (fun (v29 : Rw) => some v29) a1 0 (List.replicate ((a1.length : Int) : Int).toNat [D.sl ([]), D.int .i64 0] : Rw)) else none) else none)
set_option maxHeartbeats 4000000 in
set_option maxRecDepth 100000 in
theorem laws_toOrdinalTermS_ct {rec_laws_toOrdinal : Rw → Option Rw} (hrec_laws_toOrdinal : ∀ (a1 : Rw) (r : Rw), rec_laws_toOrdinal a1 = some r → Ct prog 10 [.agg [.d (D.sl a1)]] (⟨[], []⟩) (.agg [.os 8 r.length]) (⟨[], [(77, true, r)]⟩)) {a1 : Rw} {r : Rw} (h : laws_toOrdinalTermS rec_laws_toOrdinal a1 = some r) : Ct prog 40 [.d (D.sl a1)] (⟨[], []⟩) (.os 8 r.length) (⟨[], [(77, true, r)]⟩) := by
  rw [laws_toOrdinalTermS] at h
  refine Ct.of (c := _) mixed func40 ⟨rfl, rfl, rfl⟩ ?_ rfl
  conv => whnf
  obtain ⟨g2, h⟩ := req_ex h
  refine Req.of (makeRoom (b := 32) (by decide) g2) ?_
  conv => whnf
  obtain ⟨g52, h⟩ := req_ex h
  refine LoopOk.into (laws_toOrdinalTermS_l0_ct hrec_laws_toOrdinal g52 _ _ _ rfl h) [some 448] [] ⟨⟨rfl, rfl⟩, ⟨rfl, ⟨rfl, rfl, rows_same⟩, trivial⟩, rfl, ⟨(by first | rfl | exact List.length_append.symm | (simp; done) | omega), rfl⟩, rfl, trivial⟩ ?_ (fun _ hs => hs)
  rintro i ts os ⟨rfl, v29, h, rfl, rfl⟩
  conv => whnf
  refine CutK.go ?_
  conv => whnf
  cases h
  exact Done.of [some 67001] [] rfl rfl ⟨⟨rfl, rfl⟩, ⟨rfl, ⟨rfl, rfl, rows_same⟩, trivial⟩, ⟨rfl, rfl⟩, trivial⟩

def laws_toOrdinal_b (rec_laws_toOrdinal : Rw → Option Rw) (a1 : Rw) : Option Rw :=
  ((laws_toOrdinalTermS rec_laws_toOrdinal a1).bind fun y2 => some y2)
set_option maxHeartbeats 4000000 in
set_option maxRecDepth 100000 in
theorem laws_toOrdinal_b_ct {rec_laws_toOrdinal : Rw → Option Rw} (hrec_laws_toOrdinal : ∀ (a1 : Rw) (r : Rw), rec_laws_toOrdinal a1 = some r → Ct prog 10 [.agg [.d (D.sl a1)]] (⟨[], []⟩) (.agg [.os 8 r.length]) (⟨[], [(77, true, r)]⟩)) {a1 : Rw} {r : Rw} (h : laws_toOrdinal_b rec_laws_toOrdinal a1 = some r) : Ct prog 10 [.agg [.d (D.sl a1)]] (⟨[], []⟩) (.agg [.os 8 r.length]) (⟨[], [(77, true, r)]⟩) := by
  rw [laws_toOrdinal_b] at h
  refine Ct.of (c := _) mixed func10 ⟨rfl, rfl, rfl⟩ ?_ rfl
  conv => whnf
  obtain ⟨y2, e3, h⟩ := bind_ex h
  refine CallOk.of (laws_toOrdinalTermS_ct hrec_laws_toOrdinal e3) ?_
  conv => whnf
  refine CutK.go ?_
  conv => whnf
  cases h
  exact Done.of [some 384] [] rfl rfl ⟨⟨rfl, rfl⟩, ⟨rfl, ⟨rfl, rfl, rows_same⟩, trivial⟩, ⟨⟨rfl, rfl⟩, trivial⟩, trivial⟩
def laws_toOrdinal : Nat → Rw → Option Rw
  | 0, _ => none
  | k + 1, a1 => laws_toOrdinal_b (laws_toOrdinal k) a1
theorem laws_toOrdinal_ct' : ∀ (k : Nat) (a1 : Rw) (r : Rw), laws_toOrdinal k a1 = some r → Ct prog 10 [.agg [.d (D.sl a1)]] (⟨[], []⟩) (.agg [.os 8 r.length]) (⟨[], [(77, true, r)]⟩)
  | 0, _, _, h => by rw [laws_toOrdinal] at h; cases h
  | k + 1, _, _, h => by rw [laws_toOrdinal] at h; exact laws_toOrdinal_b_ct (laws_toOrdinal_ct' k) h
theorem laws_toOrdinal_ct {k : Nat} {a1 : Rw} {r : Rw} (h : laws_toOrdinal k a1 = some r) : Ct prog 10 [.agg [.d (D.sl a1)]] (⟨[], []⟩) (.agg [.os 8 r.length]) (⟨[], [(77, true, r)]⟩) := laws_toOrdinal_ct' k _ _ h

def impl_in  (a1 : Int) (a2 : Int) (a3 : Int) : Option Bool :=
  (if a2 ≤ a1 then (if a1 ≤ a3 then some true else some false) else some false)
set_option maxHeartbeats 4000000 in
set_option maxRecDepth 100000 in
theorem impl_in_ct  {a1 : Int} {a2 : Int} {a3 : Int} {r : Bool} (h : impl_in a1 a2 a3 = some r) : Ct prog 43 [.d (D.int .i64 a1), .d (D.int .i64 a2), .d (D.int .i64 a3)] (⟨[], []⟩) (.d (D.bool r)) (⟨[], []⟩) := by
  rw [impl_in] at h
  refine Ct.of (c := _) mixed func43 ⟨rfl, rfl, rfl⟩ ?_ rfl
  conv => whnf
  refine splD (fun g4 => ?_) (fun g4 => ?_)
  · replace h := iteP h g4
    conv => whnf
    refine splD (fun g5 => ?_) (fun g5 => ?_)
    · replace h := iteP h g5
      conv => whnf
      cases h
      exact Done.of [] [] rfl rfl ⟨⟨rfl, rfl⟩, ⟨rfl, trivial⟩, rfl, trivial⟩
    · replace h := iteN h g5
      conv => whnf
      cases h
      exact Done.of [] [] rfl rfl ⟨⟨rfl, rfl⟩, ⟨rfl, trivial⟩, rfl, trivial⟩
  · replace h := iteN h g4
    conv => whnf
    cases h
    exact Done.of [] [] rfl rfl ⟨⟨rfl, rfl⟩, ⟨rfl, trivial⟩, rfl, trivial⟩

def impl_compare  (a1 : Int) (a2 : Int) : Option Int :=
  (if a1 < a2 then some (-1) else (if a2 < a1 then some 1 else some 0))
set_option maxHeartbeats 4000000 in
set_option maxRecDepth 100000 in
theorem impl_compare_ct  {a1 : Int} {a2 : Int} {r : Int} (h : impl_compare a1 a2 = some r) : Ct prog 106 [.d (D.int .i64 a1), .d (D.int .i64 a2)] (⟨[], []⟩) (.d (D.int .i64 r)) (⟨[], []⟩) := by
  rw [impl_compare] at h
  refine Ct.of (c := _) mixed func106 ⟨rfl, rfl, rfl⟩ ?_ rfl
  conv => whnf
  refine splD (fun g3 => ?_) (fun g3 => ?_)
  · replace h := iteP h g3
    conv => whnf
    cases h
    exact Done.of [] [] rfl rfl ⟨⟨rfl, rfl⟩, ⟨rfl, trivial⟩, rfl, trivial⟩
  · replace h := iteN h g3
    conv => whnf
    refine splD (fun g4 => ?_) (fun g4 => ?_)
    · replace h := iteP h g4
      conv => whnf
      cases h
      exact Done.of [] [] rfl rfl ⟨⟨rfl, rfl⟩, ⟨rfl, trivial⟩, rfl, trivial⟩
    · replace h := iteN h g4
      conv => whnf
      cases h
      exact Done.of [] [] rfl rfl ⟨⟨rfl, rfl⟩, ⟨rfl, trivial⟩, rfl, trivial⟩

def impl_cmpTerms (rec_impl_cmp : Rw → Rw → Option Int) (a1 : Rw) (a2 : Int) (a3 : Rw) (a4 : Int) : Option Int :=
  ((rec_impl_cmp a1 a3).bind fun y5 => (if y5 = (0 : Int) then ((impl_compare a2 a4).bind fun y8 => some y8) else some y5))
set_option maxHeartbeats 4000000 in
set_option maxRecDepth 100000 in
theorem impl_cmpTerms_ct {rec_impl_cmp : Rw → Rw → Option Int} (hrec_impl_cmp : ∀ (a1 : Rw) (a2 : Rw) (r : Int), rec_impl_cmp a1 a2 = some r → Ct prog 59 [.agg [.d (D.sl a1)], .agg [.d (D.sl a2)]] (⟨[], []⟩) (.d (D.int .i64 r)) (⟨[], []⟩)) {a1 : Rw} {a2 : Int} {a3 : Rw} {a4 : Int} {r : Int} (h : impl_cmpTerms rec_impl_cmp a1 a2 a3 a4 = some r) : Ct prog 94 [.agg [.d (D.sl a1), .d (D.int .i64 a2)], .agg [.d (D.sl a3), .d (D.int .i64 a4)]] (⟨[], []⟩) (.d (D.int .i64 r)) (⟨[], []⟩) := by
  rw [impl_cmpTerms] at h
  refine Ct.of (c := _) mixed func94 ⟨rfl, rfl, rfl⟩ ?_ rfl
  conv => whnf
  obtain ⟨y5, e6, h⟩ := bind_ex h
  refine CallOk.of (hrec_impl_cmp _ _ _ e6) ?_
  conv => whnf
  refine CutK.go ?_
  conv => whnf
  refine splN (fun g7 => ?_) (fun g7 => ?_)
  · replace h := iteN h g7
    conv => whnf
    cases h
    exact Done.of [] [] rfl rfl ⟨⟨rfl, rfl⟩, ⟨rfl, trivial⟩, rfl, trivial⟩
  · replace h := iteP h g7
    conv => whnf
    refine CutK.go ?_
    conv => whnf
    obtain ⟨y8, e9, h⟩ := bind_ex h
    refine CallOk.of (impl_compare_ct e9) ?_
    conv => whnf
    refine CutK.go ?_
    conv => whnf
    cases h
    exact Done.of [] [] rfl rfl ⟨⟨rfl, rfl⟩, ⟨rfl, trivial⟩, rfl, trivial⟩

def slices_CompareFunc__cmpTerms_l0 (rec_impl_cmp : Rw → Rw → Option Int) (a1 : Rw) (a2 : Rw) (K0 : Option Int) : Rw → Nat → Option Int
  | [], v16n => (K0)
  | cs :: rest, v16n => (cell_si cs fun x30 x31 => (if (a2.length : Int) ≤ (v16n : Int) then some 1 else (row_si a2 (v16n : Int) fun x34 x35 => ((impl_cmpTerms rec_impl_cmp x30 x31 x34 x35).bind fun y38 => (if y38 = (0 : Int) then (slices_CompareFunc__cmpTerms_l0 rec_impl_cmp a1 a2 K0 rest (v16n + 1)) else some y38)))))
set_option maxRecDepth 100000 in
theorem slices_CompareFunc__cmpTerms_l0_ct {rec_impl_cmp : Rw → Rw → Option Int} {a1 : Rw} {a2 : Rw} {K0 : Option Int} (hrec_impl_cmp : ∀ (a1 : Rw) (a2 : Rw) (r : Int), rec_impl_cmp a1 a2 = some r → Ct prog 59 [.agg [.d (D.sl a1)], .agg [.d (D.sl a2)]] (⟨[], []⟩) (.d (D.int .i64 r)) (⟨[], []⟩)) {r : Int} (hx : a1.length ≤ cap) : ∀ (rest : Rw) (v16n : Nat), a1.drop v16n = rest → slices_CompareFunc__cmpTerms_l0 rec_impl_cmp a1 a2 K0 rest v16n = some r → LoopOk prog 0 (lp f93 0) (mk 39 [(0, .d (D.sl a1)), (1, .d (D.sl a2)), (2, .fn 94 []), (11, .d (D.sl a1)), (12, .d (D.int .i64 (a1.length : Int))), (13, .d (D.int .i64 (v16n : Int)))] []) (LoopEnd prog f93 0 39 (.d (D.int .i64 r)) (⟨[], []⟩) (fun i ts os => (i = 0 ∧ K0 = some r ∧ ts = [(0, .d (D.sl a1)), (1, .d (D.sl a2))] ∧ os = [])))
  | [], v16n, hd, h => by
      rw [slices_CompareFunc__cmpTerms_l0] at h
      have hn := drop_nil hd
      refine LoopOk.step ?_
      conv => whnf
      refine splD (fun g => absurd g hn) (fun _ => ?_)
      conv => whnf
      exact ⟨_, _, [], [], ⟨rfl, h, rfl, rfl⟩, ⟨⟨rfl, rfl⟩, ⟨rfl, trivial⟩, rfl, rfl, trivial⟩⟩
  | cs :: rest, v16n, hd, h => by
      rw [slices_CompareFunc__cmpTerms_l0] at h
      obtain ⟨hrow, hd1, hlt⟩ := drop_cons hd
      refine LoopOk.step ?_
      conv => whnf
      refine splD (fun _ => ?_) (fun g => absurd hlt g)
      conv => whnf
      obtain ⟨x30, x31, e32, h⟩ := cell_si_ex h
      rw [e32] at hrow
      refine Req.of (Int.natCast_nonneg _) ?_
      refine Row.of _ hrow ?_
      conv => whnf
      refine splD (fun g33 => ?_) (fun g33 => ?_)
      · replace h := iteP h g33
        conv => whnf
        cases h
        exact Done.of [] [] rfl rfl ⟨⟨rfl, rfl⟩, ⟨rfl, trivial⟩, rfl, trivial⟩
      · replace h := iteN h g33
        conv => whnf
        obtain ⟨g37, x34, x35, e36, h⟩ := row_si_ex h
        refine Req.of g37 ?_
        refine Row.of _ e36 ?_
        conv => whnf
        obtain ⟨y38, e39, h⟩ := bind_ex h
        refine CallOk.of (impl_cmpTerms_ct hrec_impl_cmp e39) ?_
        conv => whnf
        refine CutK.norm [0, 1, 2, 10, 11, 12, 13] [] ?_
        conv => whnf
        refine splN (fun g40 => ?_) (fun g40 => ?_)
        · replace h := iteN h g40
          conv => whnf
          cases h
          exact Done.of [] [] rfl rfl ⟨⟨rfl, rfl⟩, ⟨rfl, trivial⟩, rfl, trivial⟩
        · replace h := iteP h g40
          conv => whnf
          refine CutK.norm [0, 1, 2, 11, 12, 13] [] ?_
          conv => whnf
          exact LoopOk.back (slices_CompareFunc__cmpTerms_l0_ct hrec_impl_cmp hx rest (v16n + 1)  hd1 h) [] [] ⟨⟨rfl, rfl⟩, ⟨rfl, trivial⟩, rfl, rfl, ⟨rfl, trivial⟩, rfl, rfl, i64eq (wrap_up hlt hx), trivial⟩
def slices_CompareFunc__cmpTerms (rec_impl_cmp : Rw → Rw → Option Int) (a1 : Rw) (a2 : Rw) : Option Int :=
  (if a1.length ≤ cap then (slices_CompareFunc__cmpTerms_l0 rec_impl_cmp a1 a2 (if (a1.length : Int) < (a2.length : Int) then some (-1) else some 0) a1 0) else none)
set_option maxHeartbeats 4000000 in
set_option maxRecDepth 100000 in
theorem slices_CompareFunc__cmpTerms_ct {rec_impl_cmp : Rw → Rw → Option Int} (hrec_impl_cmp : ∀ (a1 : Rw) (a2 : Rw) (r : Int), rec_impl_cmp a1 a2 = some r → Ct prog 59 [.agg [.d (D.sl a1)], .agg [.d (D.sl a2)]] (⟨[], []⟩) (.d (D.int .i64 r)) (⟨[], []⟩)) {a1 : Rw} {a2 : Rw} {r : Int} (h : slices_CompareFunc__cmpTerms rec_impl_cmp a1 a2 = some r) : Ct prog 93 [.d (D.sl a1), .d (D.sl a2), .fn 94 []] (⟨[], []⟩) (.d (D.int .i64 r)) (⟨[], []⟩) := by
  rw [slices_CompareFunc__cmpTerms] at h
  refine Ct.of (c := _) mixed func93 ⟨rfl, rfl, rfl⟩ ?_ rfl
  conv => whnf
  obtain ⟨g41, h⟩ := req_ex h
  refine LoopOk.into (slices_CompareFunc__cmpTerms_l0_ct hrec_impl_cmp g41 _ _  rfl h) [] [] ⟨⟨rfl, rfl⟩, ⟨rfl, trivial⟩, rfl, rfl, ⟨rfl, trivial⟩, rfl, rfl, rfl, trivial⟩ ?_ (fun _ hs => hs)
  rintro i ts os ⟨rfl, h, rfl, rfl⟩
  conv => whnf
  refine CutK.norm [0, 1] [] ?_
  conv => whnf
  refine splD (fun g42 => ?_) (fun g42 => ?_)
  · replace h := iteP h g42
    conv => whnf
    cases h
    exact Done.of [] [] rfl rfl ⟨⟨rfl, rfl⟩, ⟨rfl, trivial⟩, rfl, trivial⟩
  · replace h := iteN h g42
    conv => whnf
    cases h
    exact Done.of [] [] rfl rfl ⟨⟨rfl, rfl⟩, ⟨rfl, trivial⟩, rfl, trivial⟩

def impl_cmp_b (rec_impl_cmp : Rw → Rw → Option Int) (a1 : Rw) (a2 : Rw) : Option Int :=
  ((slices_CompareFunc__cmpTerms rec_impl_cmp a1 a2).bind fun y3 => some y3)
set_option maxHeartbeats 4000000 in
set_option maxRecDepth 100000 in
theorem impl_cmp_b_ct {rec_impl_cmp : Rw → Rw → Option Int} (hrec_impl_cmp : ∀ (a1 : Rw) (a2 : Rw) (r : Int), rec_impl_cmp a1 a2 = some r → Ct prog 59 [.agg [.d (D.sl a1)], .agg [.d (D.sl a2)]] (⟨[], []⟩) (.d (D.int .i64 r)) (⟨[], []⟩)) {a1 : Rw} {a2 : Rw} {r : Int} (h : impl_cmp_b rec_impl_cmp a1 a2 = some r) : Ct prog 59 [.agg [.d (D.sl a1)], .agg [.d (D.sl a2)]] (⟨[], []⟩) (.d (D.int .i64 r)) (⟨[], []⟩) := by
  rw [impl_cmp_b] at h
  refine Ct.of (c := _) mixed func59 ⟨rfl, rfl, rfl⟩ ?_ rfl
  conv => whnf
  obtain ⟨y3, e4, h⟩ := bind_ex h
  refine CallOk.of (slices_CompareFunc__cmpTerms_ct hrec_impl_cmp e4) ?_
  conv => whnf
  refine CutK.go ?_
  conv => whnf
  cases h
  exact Done.of [] [] rfl rfl ⟨⟨rfl, rfl⟩, ⟨rfl, trivial⟩, rfl, trivial⟩
def impl_cmp : Nat → Rw → Rw → Option Int
  | 0, _, _ => none
  | k + 1, a1, a2 => impl_cmp_b (impl_cmp k) a1 a2
theorem impl_cmp_ct' : ∀ (k : Nat) (a1 : Rw) (a2 : Rw) (r : Int), impl_cmp k a1 a2 = some r → Ct prog 59 [.agg [.d (D.sl a1)], .agg [.d (D.sl a2)]] (⟨[], []⟩) (.d (D.int .i64 r)) (⟨[], []⟩)
  | 0, _, _, _, h => by rw [impl_cmp] at h; cases h
  | k + 1, _, _, _, h => by rw [impl_cmp] at h; exact impl_cmp_b_ct (impl_cmp_ct' k) h
theorem impl_cmp_ct {k : Nat} {a1 : Rw} {a2 : Rw} {r : Int} (h : impl_cmp k a1 a2 = some r) : Ct prog 59 [.agg [.d (D.sl a1)], .agg [.d (D.sl a2)]] (⟨[], []⟩) (.d (D.int .i64 r)) (⟨[], []⟩) := impl_cmp_ct' k _ _ _ h

def impl_ordinalAt_2_p3 (o62 : Int) : Option (Bool × Int) :=
  some (true, o62)
set_option maxHeartbeats 4000000 in
set_option maxRecDepth 100000 in
theorem impl_ordinalAt_2_p3_ct {o62 : Int} {r : Bool × Int} (h : impl_ordinalAt_2_p3 o62 = some r) : X prog 1 (tlF f85 3) (mk 83 [] [(0, .box 3 [.d (D.int .i64 o62)])]) (finK prog f85 1 (.d (D.bool r.1)) (⟨[(3, [.d (D.int .i64 r.2)])], []⟩)) := by
  rw [impl_ordinalAt_2_p3] at h
  conv => whnf
  cases h
  exact Done.of [some 0] [] rfl rfl ⟨⟨rfl, rfl⟩, ⟨rfl, ⟨rfl, rfl, trivial⟩, trivial⟩, rfl, trivial⟩
def impl_ordinalAt_2_l0 (k : Nat) (rec_impl_ordinalAt_2 : Rw → Int → Int → Int → Option (Bool × Int)) (a1 : Rw) (a2 : Int) (a3 : Int) (K0 : Int → Option (Bool × Int)) : Rw → Nat → Int → Option (Bool × Int)
  | [], v77n, v78 => (K0 v78)
  | cs :: rest, v77n, v78 => (cell_si cs fun x120 x121 => (if (60 : Int) < (IntKind.i64.wrap (v78 + 1)) then some (false, IntKind.i64.wrap (v78 + 1)) else ((impl_in x121 1 1000000).bind fun y124 => (if y124 = true then ((rec_impl_ordinalAt_2 x120 x121 (IntKind.i64.wrap (a3 + 1)) (IntKind.i64.wrap (v78 + 1))).bind fun y127 => (if y127.1 = true then (if (0 : Int) < (v77n : Int) then (row_si a1 (IntKind.i64.wrap ((v77n : Int) - 1)) fun x131 x132 => ((impl_cmp k x131 x120).bind fun y135 => (if y135 ≤ (0 : Int) then some (false, y127.2) else (impl_ordinalAt_2_l0 k rec_impl_ordinalAt_2 a1 a2 a3 K0 rest (v77n + 1) y127.2)))) else (impl_ordinalAt_2_l0 k rec_impl_ordinalAt_2 a1 a2 a3 K0 rest (v77n + 1) y127.2)) else some (false, y127.2))) else some (false, IntKind.i64.wrap (v78 + 1))))))
set_option maxRecDepth 100000 in
theorem impl_ordinalAt_2_l0_ct {k : Nat} {rec_impl_ordinalAt_2 : Rw → Int → Int → Int → Option (Bool × Int)} {a1 : Rw} {a2 : Int} {a3 : Int} {K0 : Int → Option (Bool × Int)} (hrec_impl_ordinalAt_2 : ∀ (a1 : Rw) (a2 : Int) (a3 : Int) (a4 : Int) (r : Bool × Int), rec_impl_ordinalAt_2 a1 a2 a3 a4 = some r → Ct prog 85 [.dp [D.sl a1, D.int .i64 a2], .d (D.int .i64 a3), .ptr 0 0] (⟨[(3, [.d (D.int .i64 a4)])], []⟩) (.d (D.bool r.1)) (⟨[(3, [.d (D.int .i64 r.2)])], []⟩)) {r : Bool × Int} (hx : a1.length ≤ cap) : ∀ (rest : Rw) (v77n : Nat) (v78 : Int), a1.drop v77n = rest → impl_ordinalAt_2_l0 k rec_impl_ordinalAt_2 a1 a2 a3 K0 rest v77n v78 = some r → LoopOk prog 1 (lp f85 0) (mk 83 [(0, .dp [D.sl a1, D.int .i64 a2]), (1, .d (D.int .i64 a3)), (2, .ptr 0 0), (26, .d (D.int .i64 (a1.length : Int))), (27, .d (D.int .i64 (v77n : Int)))] [(0, .box 3 [.d (D.int .i64 v78)])]) (LoopEnd prog f85 1 83 (.d (D.bool r.1)) (⟨[(3, [.d (D.int .i64 r.2)])], []⟩) (fun i ts os => (i = 0 ∧ ∃ v99 : Int, K0 v99 = some r ∧ ts = [] ∧ os = [(0, .box 3 [.d (D.int .i64 v99)])])))
  | [], v77n, v78, hd, h => by
      rw [impl_ordinalAt_2_l0] at h
      have hn := drop_nil hd
      refine LoopOk.step ?_
      conv => whnf
      refine splD (fun g => absurd g hn) (fun _ => ?_)
      conv => whnf
      exact ⟨_, _, [some 0], [], ⟨rfl, _, h, rfl, rfl⟩, ⟨⟨rfl, rfl⟩, ⟨rfl, ⟨rfl, rfl, trivial⟩, trivial⟩, trivial⟩⟩
  | cs :: rest, v77n, v78, hd, h => by
      rw [impl_ordinalAt_2_l0] at h
      obtain ⟨hrow, hd1, hlt⟩ := drop_cons hd
      refine LoopOk.step ?_
      conv => whnf
      refine splD (fun _ => ?_) (fun g => absurd hlt g)
      conv => whnf
      obtain ⟨x120, x121, e122, h⟩ := cell_si_ex h
      rw [e122] at hrow
      refine Req.of (Int.natCast_nonneg _) ?_
      refine Row.of _ hrow ?_
      conv => whnf
      refine splD (fun g123 => ?_) (fun g123 => ?_)
      · replace h := iteP h g123
        conv => whnf
        refine CutK.norm [0, 1, 2, 7, 8, 26, 27, 62] [0] ?_
        conv => whnf
        cases h
        exact Done.of [some 0] [] rfl rfl ⟨⟨rfl, rfl⟩, ⟨rfl, ⟨rfl, rfl, trivial⟩, trivial⟩, rfl, trivial⟩
      · replace h := iteN h g123
        conv => whnf
        obtain ⟨y124, e125, h⟩ := bind_ex h
        refine CallOk.of (impl_in_ct e125) ?_
        conv => whnf
        refine spl (fun g126 => ?_) (fun g126 => ?_)
        · replace h := iteT h g126
          conv => whnf
          obtain ⟨y127, e128, h⟩ := bind_ex h
          refine CallOk.of (hrec_impl_ordinalAt_2 _ _ _ _ _ e128) ?_
          conv => whnf
          refine spl (fun g129 => ?_) (fun g129 => ?_)
          · replace h := iteT h g129
            conv => whnf
            refine CutK.norm [0, 1, 2, 7, 8, 26, 27, 62] [0] ?_
            conv => whnf
            refine CutK.norm [0, 1, 2, 7, 8, 26, 27] [0] ?_
            conv => whnf
            refine splD (fun g130 => ?_) (fun g130 => ?_)
            · replace h := iteP h g130
              conv => whnf
              obtain ⟨g134, x131, x132, e133, h⟩ := row_si_ex h
              refine Req.of g134 ?_
              refine Row.of _ e133 ?_
              conv => whnf
              obtain ⟨y135, e136, h⟩ := bind_ex h
              refine CallOk.of (impl_cmp_ct e136) ?_
              conv => whnf
              refine splD (fun g137 => ?_) (fun g137 => ?_)
              · replace h := iteP h g137
                conv => whnf
                refine CutK.norm [0, 1, 2, 26, 27, 81] [0] ?_
                conv => whnf
                cases h
                exact Done.of [some 0] [] rfl rfl ⟨⟨rfl, rfl⟩, ⟨rfl, ⟨rfl, rfl, trivial⟩, trivial⟩, rfl, trivial⟩
              · replace h := iteN h g137
                conv => whnf
                refine CutK.norm [0, 1, 2, 26, 27, 81] [0] ?_
                conv => whnf
                refine CutK.norm [0, 1, 2, 26, 27] [0] ?_
                conv => whnf
                exact LoopOk.back (impl_ordinalAt_2_l0_ct hrec_impl_ordinalAt_2 hx rest (v77n + 1) _ hd1 h) [some 0] [] ⟨⟨rfl, rfl⟩, ⟨rfl, ⟨rfl, rfl, trivial⟩, trivial⟩, rfl, rfl, ⟨rfl, rfl⟩, rfl, i64eq (wrap_up hlt hx), trivial⟩
            · replace h := iteN h g130
              conv => whnf
              refine CutK.norm [0, 1, 2, 26, 27, 81] [0] ?_
              conv => whnf
              refine CutK.norm [0, 1, 2, 26, 27] [0] ?_
              conv => whnf
              exact LoopOk.back (impl_ordinalAt_2_l0_ct hrec_impl_ordinalAt_2 hx rest (v77n + 1) _ hd1 h) [some 0] [] ⟨⟨rfl, rfl⟩, ⟨rfl, ⟨rfl, rfl, trivial⟩, trivial⟩, rfl, rfl, ⟨rfl, rfl⟩, rfl, i64eq (wrap_up hlt hx), trivial⟩
          · replace h := iteF h g129
            conv => whnf
            refine CutK.norm [0, 1, 2, 7, 8, 26, 27, 62] [0] ?_
            conv => whnf
            cases h
            exact Done.of [some 0] [] rfl rfl ⟨⟨rfl, rfl⟩, ⟨rfl, ⟨rfl, rfl, trivial⟩, trivial⟩, rfl, trivial⟩
        · replace h := iteF h g126
          conv => whnf
          refine CutK.norm [0, 1, 2, 7, 8, 26, 27, 62] [0] ?_
          conv => whnf
          cases h
          exact Done.of [some 0] [] rfl rfl ⟨⟨rfl, rfl⟩, ⟨rfl, ⟨rfl, rfl, trivial⟩, trivial⟩, rfl, trivial⟩
def impl_ordinalAt_2_b (k : Nat) (rec_impl_ordinalAt_2 : Rw → Int → Int → Int → Option (Bool × Int)) (a1 : Rw) (a2 : Int) (a3 : Int) (a4 : Int) : Option (Bool × Int) :=
  (if (60 : Int) < (IntKind.i64.wrap (a4 + 1)) then some (false, IntKind.i64.wrap (a4 + 1)) else (if (6 : Int) < a3 then some (false, IntKind.i64.wrap (a4 + 1)) else (if a1.length ≤ cap then (impl_ordinalAt_2_l0 k rec_impl_ordinalAt_2 a1 a2 a3 (fun (v99 : Int) => (impl_ordinalAt_2_p3 v99)) a1 0 (IntKind.i64.wrap (a4 + 1))) else none)))
set_option maxHeartbeats 4000000 in
set_option maxRecDepth 100000 in
theorem impl_ordinalAt_2_b_ct {k : Nat} {rec_impl_ordinalAt_2 : Rw → Int → Int → Int → Option (Bool × Int)} (hrec_impl_ordinalAt_2 : ∀ (a1 : Rw) (a2 : Int) (a3 : Int) (a4 : Int) (r : Bool × Int), rec_impl_ordinalAt_2 a1 a2 a3 a4 = some r → Ct prog 85 [.dp [D.sl a1, D.int .i64 a2], .d (D.int .i64 a3), .ptr 0 0] (⟨[(3, [.d (D.int .i64 a4)])], []⟩) (.d (D.bool r.1)) (⟨[(3, [.d (D.int .i64 r.2)])], []⟩)) {a1 : Rw} {a2 : Int} {a3 : Int} {a4 : Int} {r : Bool × Int} (h : impl_ordinalAt_2_b k rec_impl_ordinalAt_2 a1 a2 a3 a4 = some r) : Ct prog 85 [.dp [D.sl a1, D.int .i64 a2], .d (D.int .i64 a3), .ptr 0 0] (⟨[(3, [.d (D.int .i64 a4)])], []⟩) (.d (D.bool r.1)) (⟨[(3, [.d (D.int .i64 r.2)])], []⟩) := by
  rw [impl_ordinalAt_2_b] at h
  refine Ct.of (c := _) mixed func85 ⟨rfl, rfl, rfl⟩ ?_ rfl
  conv => whnf
  refine splD (fun g63 => ?_) (fun g63 => ?_)
  · replace h := iteP h g63
    conv => whnf
    cases h
    exact Done.of [some 0] [] rfl rfl ⟨⟨rfl, rfl⟩, ⟨rfl, ⟨rfl, rfl, trivial⟩, trivial⟩, rfl, trivial⟩
  · replace h := iteN h g63
    conv => whnf
    refine splD (fun g64 => ?_) (fun g64 => ?_)
    · replace h := iteP h g64
      conv => whnf
      cases h
      exact Done.of [some 0] [] rfl rfl ⟨⟨rfl, rfl⟩, ⟨rfl, ⟨rfl, rfl, trivial⟩, trivial⟩, rfl, trivial⟩
    · replace h := iteN h g64
      conv => whnf
      obtain ⟨g138, h⟩ := req_ex h
      refine LoopOk.into (impl_ordinalAt_2_l0_ct hrec_impl_ordinalAt_2 g138 _ _ _ rfl h) [some 0] [] ⟨⟨rfl, rfl⟩, ⟨rfl, ⟨rfl, rfl, trivial⟩, trivial⟩, rfl, rfl, ⟨rfl, rfl⟩, rfl, rfl, trivial⟩ ?_ (fun _ hs => hs)
      rintro i ts os ⟨rfl, v99, h, rfl, rfl⟩
      conv => whnf
      exact CutK.piece (impl_ordinalAt_2_p3_ct  h) [some 0] [] ⟨⟨rfl, rfl⟩, ⟨rfl, ⟨rfl, rfl, trivial⟩, trivial⟩, trivial⟩
def impl_ordinalAt_2 : Nat → Rw → Int → Int → Int → Option (Bool × Int)
  | 0, _, _, _, _ => none
  | k + 1, a1, a2, a3, a4 => impl_ordinalAt_2_b k (impl_ordinalAt_2 k) a1 a2 a3 a4
theorem impl_ordinalAt_2_ct' : ∀ (k : Nat) (a1 : Rw) (a2 : Int) (a3 : Int) (a4 : Int) (r : Bool × Int), impl_ordinalAt_2 k a1 a2 a3 a4 = some r → Ct prog 85 [.dp [D.sl a1, D.int .i64 a2], .d (D.int .i64 a3), .ptr 0 0] (⟨[(3, [.d (D.int .i64 a4)])], []⟩) (.d (D.bool r.1)) (⟨[(3, [.d (D.int .i64 r.2)])], []⟩)
  | 0, _, _, _, _, _, h => by rw [impl_ordinalAt_2] at h; cases h
  | k + 1, _, _, _, _, _, h => by rw [impl_ordinalAt_2] at h; exact impl_ordinalAt_2_b_ct (impl_ordinalAt_2_ct' k) h
theorem impl_ordinalAt_2_ct {k : Nat} {a1 : Rw} {a2 : Int} {a3 : Int} {a4 : Int} {r : Bool × Int} (h : impl_ordinalAt_2 k a1 a2 a3 a4 = some r) : Ct prog 85 [.dp [D.sl a1, D.int .i64 a2], .d (D.int .i64 a3), .ptr 0 0] (⟨[(3, [.d (D.int .i64 a4)])], []⟩) (.d (D.bool r.1)) (⟨[(3, [.d (D.int .i64 r.2)])], []⟩) := impl_ordinalAt_2_ct' k _ _ _ _ _ h

def impl_ordinalAt_p3 (a1 : Rw) (o61 : Int) : Option (Bool × Rw × Int) :=
  some (true, a1, o61)
set_option maxHeartbeats 4000000 in
set_option maxRecDepth 100000 in
theorem impl_ordinalAt_p3_ct {a1 : Rw} {o61 : Int} {r : Bool × Rw × Int} (h : impl_ordinalAt_p3 a1 o61 = some r) : X prog 2 (tlF f85 3) (mk 83 [] [(0, .box 28 [.d (D.sl a1)]), (64, .box 3 [.d (D.int .i64 o61)])]) (finK prog f85 2 (.d (D.bool r.1)) (⟨[(28, [.d (D.sl r.2.1)]), (3, [.d (D.int .i64 r.2.2)])], []⟩)) := by
  rw [impl_ordinalAt_p3] at h
  conv => whnf
  cases h
  exact Done.of [some 0, some 64] [] rfl rfl ⟨⟨rfl, rfl⟩, ⟨rfl, ⟨rfl, rfl, trivial⟩, ⟨rfl, rfl, trivial⟩, trivial⟩, rfl, trivial⟩
def impl_ordinalAt_l0 (k : Nat) (a1 : Rw) (a2 : Int) (K0 : Int → Option (Bool × Rw × Int)) : Rw → Nat → Int → Option (Bool × Rw × Int)
  | [], v76n, v77 => (K0 v77)
  | cs :: rest, v76n, v77 => (cell_si cs fun x119 x120 => (if (60 : Int) < (IntKind.i64.wrap (v77 + 1)) then some (false, a1, IntKind.i64.wrap (v77 + 1)) else ((impl_in x120 1 1000000).bind fun y123 => (if y123 = true then ((impl_ordinalAt_2 k x119 x120 (IntKind.i64.wrap (a2 + 1)) (IntKind.i64.wrap (v77 + 1))).bind fun y126 => (if y126.1 = true then (if (0 : Int) < (v76n : Int) then (row_si a1 (IntKind.i64.wrap ((v76n : Int) - 1)) fun x130 x131 => ((impl_cmp k x130 x119).bind fun y134 => (if y134 ≤ (0 : Int) then some (false, a1, y126.2) else (impl_ordinalAt_l0 k a1 a2 K0 rest (v76n + 1) y126.2)))) else (impl_ordinalAt_l0 k a1 a2 K0 rest (v76n + 1) y126.2)) else some (false, a1, y126.2))) else some (false, a1, IntKind.i64.wrap (v77 + 1))))))
set_option maxRecDepth 100000 in
theorem impl_ordinalAt_l0_ct {k : Nat} {a1 : Rw} {a2 : Int} {K0 : Int → Option (Bool × Rw × Int)} {r : Bool × Rw × Int} (hx : a1.length ≤ cap) : ∀ (rest : Rw) (v76n : Nat) (v77 : Int), a1.drop v76n = rest → impl_ordinalAt_l0 k a1 a2 K0 rest v76n v77 = some r → LoopOk prog 2 (lp f85 0) (mk 83 [(0, .ptr 0 0), (1, .d (D.int .i64 a2)), (2, .ptr 64 0), (26, .d (D.int .i64 (a1.length : Int))), (27, .d (D.int .i64 (v76n : Int)))] [(0, .box 28 [.d (D.sl a1)]), (64, .box 3 [.d (D.int .i64 v77)])]) (LoopEnd prog f85 2 83 (.d (D.bool r.1)) (⟨[(28, [.d (D.sl r.2.1)]), (3, [.d (D.int .i64 r.2.2)])], []⟩) (fun i ts os => (i = 0 ∧ ∃ v98 : Int, K0 v98 = some r ∧ ts = [] ∧ os = [(0, .box 28 [.d (D.sl a1)]), (64, .box 3 [.d (D.int .i64 v98)])])))
  | [], v76n, v77, hd, h => by
      rw [impl_ordinalAt_l0] at h
      have hn := drop_nil hd
      refine LoopOk.step ?_
      conv => whnf
      refine splD (fun g => absurd g hn) (fun _ => ?_)
      conv => whnf
      exact ⟨_, _, [some 0, some 64], [], ⟨rfl, _, h, rfl, rfl⟩, ⟨⟨rfl, rfl⟩, ⟨rfl, ⟨rfl, rfl, trivial⟩, ⟨rfl, rfl, trivial⟩, trivial⟩, trivial⟩⟩
  | cs :: rest, v76n, v77, hd, h => by
      rw [impl_ordinalAt_l0] at h
      obtain ⟨hrow, hd1, hlt⟩ := drop_cons hd
      refine LoopOk.step ?_
      conv => whnf
      refine splD (fun _ => ?_) (fun g => absurd hlt g)
      conv => whnf
      obtain ⟨x119, x120, e121, h⟩ := cell_si_ex h
      rw [e121] at hrow
      refine Req.of (Int.natCast_nonneg _) ?_
      refine Row.of _ hrow ?_
      conv => whnf
      refine splD (fun g122 => ?_) (fun g122 => ?_)
      · replace h := iteP h g122
        conv => whnf
        refine CutK.norm [0, 1, 2, 7, 8, 26, 27, 62] [0, 64] ?_
        conv => whnf
        cases h
        exact Done.of [some 0, some 64] [] rfl rfl ⟨⟨rfl, rfl⟩, ⟨rfl, ⟨rfl, rfl, trivial⟩, ⟨rfl, rfl, trivial⟩, trivial⟩, rfl, trivial⟩
      · replace h := iteN h g122
        conv => whnf
        obtain ⟨y123, e124, h⟩ := bind_ex h
        refine CallOk.of (impl_in_ct e124) ?_
        conv => whnf
        refine spl (fun g125 => ?_) (fun g125 => ?_)
        · replace h := iteT h g125
          conv => whnf
          obtain ⟨y126, e127, h⟩ := bind_ex h
          refine CallOk.of (impl_ordinalAt_2_ct e127) ?_
          conv => whnf
          refine spl (fun g128 => ?_) (fun g128 => ?_)
          · replace h := iteT h g128
            conv => whnf
            refine CutK.norm [0, 1, 2, 7, 8, 26, 27, 62] [0, 64] ?_
            conv => whnf
            refine CutK.norm [0, 1, 2, 7, 8, 26, 27] [0, 64] ?_
            conv => whnf
            refine splD (fun g129 => ?_) (fun g129 => ?_)
            · replace h := iteP h g129
              conv => whnf
              obtain ⟨g133, x130, x131, e132, h⟩ := row_si_ex h
              refine Req.of g133 ?_
              refine Row.of _ e132 ?_
              conv => whnf
              obtain ⟨y134, e135, h⟩ := bind_ex h
              refine CallOk.of (impl_cmp_ct e135) ?_
              conv => whnf
              refine splD (fun g136 => ?_) (fun g136 => ?_)
              · replace h := iteP h g136
                conv => whnf
                refine CutK.norm [0, 1, 2, 26, 27, 81] [0, 64] ?_
                conv => whnf
                cases h
                exact Done.of [some 0, some 64] [] rfl rfl ⟨⟨rfl, rfl⟩, ⟨rfl, ⟨rfl, rfl, trivial⟩, ⟨rfl, rfl, trivial⟩, trivial⟩, rfl, trivial⟩
              · replace h := iteN h g136
                conv => whnf
                refine CutK.norm [0, 1, 2, 26, 27, 81] [0, 64] ?_
                conv => whnf
                refine CutK.norm [0, 1, 2, 26, 27] [0, 64] ?_
                conv => whnf
                exact LoopOk.back (impl_ordinalAt_l0_ct hx rest (v76n + 1) _ hd1 h) [some 0, some 64] [] ⟨⟨rfl, rfl⟩, ⟨rfl, ⟨rfl, rfl, trivial⟩, ⟨rfl, rfl, trivial⟩, trivial⟩, ⟨rfl, rfl⟩, rfl, ⟨rfl, rfl⟩, rfl, i64eq (wrap_up hlt hx), trivial⟩
            · replace h := iteN h g129
              conv => whnf
              refine CutK.norm [0, 1, 2, 26, 27, 81] [0, 64] ?_
              conv => whnf
              refine CutK.norm [0, 1, 2, 26, 27] [0, 64] ?_
              conv => whnf
              exact LoopOk.back (impl_ordinalAt_l0_ct hx rest (v76n + 1) _ hd1 h) [some 0, some 64] [] ⟨⟨rfl, rfl⟩, ⟨rfl, ⟨rfl, rfl, trivial⟩, ⟨rfl, rfl, trivial⟩, trivial⟩, ⟨rfl, rfl⟩, rfl, ⟨rfl, rfl⟩, rfl, i64eq (wrap_up hlt hx), trivial⟩
          · replace h := iteF h g128
            conv => whnf
            refine CutK.norm [0, 1, 2, 7, 8, 26, 27, 62] [0, 64] ?_
            conv => whnf
            cases h
            exact Done.of [some 0, some 64] [] rfl rfl ⟨⟨rfl, rfl⟩, ⟨rfl, ⟨rfl, rfl, trivial⟩, ⟨rfl, rfl, trivial⟩, trivial⟩, rfl, trivial⟩
        · replace h := iteF h g125
          conv => whnf
          refine CutK.norm [0, 1, 2, 7, 8, 26, 27, 62] [0, 64] ?_
          conv => whnf
          cases h
          exact Done.of [some 0, some 64] [] rfl rfl ⟨⟨rfl, rfl⟩, ⟨rfl, ⟨rfl, rfl, trivial⟩, ⟨rfl, rfl, trivial⟩, trivial⟩, rfl, trivial⟩
def impl_ordinalAt (k : Nat) (a1 : Rw) (a2 : Int) (a3 : Int) : Option (Bool × Rw × Int) :=
  (if (60 : Int) < (IntKind.i64.wrap (a3 + 1)) then some (false, a1, IntKind.i64.wrap (a3 + 1)) else (if (6 : Int) < a2 then some (false, a1, IntKind.i64.wrap (a3 + 1)) else (if a1.length ≤ cap then (impl_ordinalAt_l0 k a1 a2 (fun (v98 : Int) => (impl_ordinalAt_p3 a1 v98)) a1 0 (IntKind.i64.wrap (a3 + 1))) else none)))
set_option maxHeartbeats 4000000 in
set_option maxRecDepth 100000 in
theorem impl_ordinalAt_ct {k : Nat} {a1 : Rw} {a2 : Int} {a3 : Int} {r : Bool × Rw × Int} (h : impl_ordinalAt k a1 a2 a3 = some r) : Ct prog 85 [.ptr 0 0, .d (D.int .i64 a2), .ptr 64 0] (⟨[(28, [.d (D.sl a1)]), (3, [.d (D.int .i64 a3)])], []⟩) (.d (D.bool r.1)) (⟨[(28, [.d (D.sl r.2.1)]), (3, [.d (D.int .i64 r.2.2)])], []⟩) := by
  rw [impl_ordinalAt] at h
  refine Ct.of (c := _) mixed func85 ⟨rfl, rfl, rfl⟩ ?_ rfl
  conv => whnf
  refine splD (fun g62 => ?_) (fun g62 => ?_)
  · replace h := iteP h g62
    conv => whnf
    cases h
    exact Done.of [some 0, some 64] [] rfl rfl ⟨⟨rfl, rfl⟩, ⟨rfl, ⟨rfl, rfl, trivial⟩, ⟨rfl, rfl, trivial⟩, trivial⟩, rfl, trivial⟩
  · replace h := iteN h g62
    conv => whnf
    refine splD (fun g63 => ?_) (fun g63 => ?_)
    · replace h := iteP h g63
      conv => whnf
      cases h
      exact Done.of [some 0, some 64] [] rfl rfl ⟨⟨rfl, rfl⟩, ⟨rfl, ⟨rfl, rfl, trivial⟩, ⟨rfl, rfl, trivial⟩, trivial⟩, rfl, trivial⟩
    · replace h := iteN h g63
      conv => whnf
      obtain ⟨g137, h⟩ := req_ex h
      refine LoopOk.into (impl_ordinalAt_l0_ct  g137 _ _ _ rfl h) [some 0, some 64] [] ⟨⟨rfl, rfl⟩, ⟨rfl, ⟨rfl, rfl, trivial⟩, ⟨rfl, rfl, trivial⟩, trivial⟩, ⟨rfl, rfl⟩, rfl, ⟨rfl, rfl⟩, rfl, rfl, trivial⟩ ?_ (fun _ hs => hs)
      rintro i ts os ⟨rfl, v98, h, rfl, rfl⟩
      conv => whnf
      exact CutK.piece (impl_ordinalAt_p3_ct  h) [some 0, some 64] [] ⟨⟨rfl, rfl⟩, ⟨rfl, ⟨rfl, rfl, trivial⟩, ⟨rfl, rfl, trivial⟩, trivial⟩, trivial⟩

def impl_IsOrdinal (k : Nat) (a1 : Rw) : Option Bool :=
  ((impl_ordinalAt k a1 0 0).bind fun y2 => (if y2.1 = true then some true else some false))
set_option maxHeartbeats 4000000 in
set_option maxRecDepth 100000 in
theorem impl_IsOrdinal_ct {k : Nat} {a1 : Rw} {r : Bool} (h : impl_IsOrdinal k a1 = some r) : Ct prog 41 [.agg [.d (D.sl a1)]] (⟨[], []⟩) (.d (D.bool r)) (⟨[], []⟩) := by
  rw [impl_IsOrdinal] at h
  refine Ct.of (c := _) mixed func41 ⟨rfl, rfl, rfl⟩ ?_ rfl
  conv => whnf
  obtain ⟨y2, e3, h⟩ := bind_ex h
  refine CallOk.of (impl_ordinalAt_ct e3) ?_
  conv => whnf
  refine spl (fun g4 => ?_) (fun g4 => ?_)
  · replace h := iteT h g4
    conv => whnf
    refine CutK.go ?_
    conv => whnf
    cases h
    exact Done.of [] [] rfl rfl ⟨⟨rfl, rfl⟩, ⟨rfl, trivial⟩, rfl, trivial⟩
  · replace h := iteF h g4
    conv => whnf
    refine CutK.go ?_
    conv => whnf
    cases h
    exact Done.of [] [] rfl rfl ⟨⟨rfl, rfl⟩, ⟨rfl, trivial⟩, rfl, trivial⟩

def impl_isZero  (a1 : Rw) : Option Bool :=
  (if (a1.length : Int) = (0 : Int) then some true else some false)
set_option maxHeartbeats 4000000 in
set_option maxRecDepth 100000 in
theorem impl_isZero_ct  {a1 : Rw} {r : Bool} (h : impl_isZero a1 = some r) : Ct prog 54 [.agg [.d (D.sl a1)]] (⟨[], []⟩) (.d (D.bool r)) (⟨[], []⟩) := by
  rw [impl_isZero] at h
  refine Ct.of (c := _) mixed func54 ⟨rfl, rfl, rfl⟩ ?_ rfl
  conv => whnf
  refine splD (fun g2 => ?_) (fun g2 => ?_)
  · replace h := iteP h g2
    conv => whnf
    cases h
    exact Done.of [] [] rfl rfl ⟨⟨rfl, rfl⟩, ⟨rfl, trivial⟩, rfl, trivial⟩
  · replace h := iteN h g2
    conv => whnf
    cases h
    exact Done.of [] [] rfl rfl ⟨⟨rfl, rfl⟩, ⟨rfl, trivial⟩, rfl, trivial⟩

def impl_parted  (a1 : Rw) : Option (Rw × Int) :=
  (if (0 : Int) ≤ (IntKind.i64.wrap ((a1.length : Int) - 1)) then (row_si a1 (IntKind.i64.wrap ((a1.length : Int) - 1)) fun x3 x4 => ((impl_isZero x3).bind fun y7 => (if y7 = true then (if 0 ≤ (IntKind.i64.wrap ((a1.length : Int) - 1)) ∧ (IntKind.i64.wrap ((a1.length : Int) - 1)) ≤ (a1.length : Int) ∧ (∀ cs ∈ a1, cs.length = 2) then some (a1.take (IntKind.i64.wrap ((a1.length : Int) - 1) : Int).toNat, x4) else none) else some (a1, 0)))) else some (a1, 0))
set_option maxHeartbeats 4000000 in
set_option maxRecDepth 100000 in
theorem impl_parted_ct  {a1 : Rw} {r : Rw × Int} (h : impl_parted a1 = some r) : Ct prog 63 [.agg [.d (D.sl a1)]] (⟨[], []⟩) (.tup [.agg [.d (D.sl r.1)], .d (D.int .i64 r.2)]) (⟨[], []⟩) := by
  rw [impl_parted] at h
  refine Ct.of (c := _) mixed func63 ⟨rfl, rfl, rfl⟩ ?_ rfl
  conv => whnf
  refine splD (fun g2 => ?_) (fun g2 => ?_)
  · replace h := iteP h g2
    conv => whnf
    obtain ⟨g6, x3, x4, e5, h⟩ := row_si_ex h
    refine Req.of g6 ?_
    refine Row.of _ e5 ?_
    conv => whnf
    obtain ⟨y7, e8, h⟩ := bind_ex h
    refine CallOk.of (impl_isZero_ct e8) ?_
    conv => whnf
    refine spl (fun g9 => ?_) (fun g9 => ?_)
    · replace h := iteT h g9
      conv => whnf
      refine CutK.norm [1, 2, 4, 19] [64, 128] ?_
      conv => whnf
      obtain ⟨g10, h⟩ := req_ex h
      refine Req.of g10 ?_
      conv => whnf
      refine Req.of g6 ?_
      refine Row.of _ e5 ?_
      conv => whnf
      cases h
      exact Done.of [] [] rfl rfl ⟨⟨rfl, rfl⟩, ⟨rfl, trivial⟩, ⟨⟨rfl, trivial⟩, rfl, trivial⟩, trivial⟩
    · replace h := iteF h g9
      conv => whnf
      refine CutK.norm [1, 2, 4, 19] [64, 128] ?_
      conv => whnf
      refine CutK.norm [1, 2] [64, 128] ?_
      conv => whnf
      cases h
      exact Done.of [] [] rfl rfl ⟨⟨rfl, rfl⟩, ⟨rfl, trivial⟩, ⟨⟨rfl, trivial⟩, rfl, trivial⟩, trivial⟩
  · replace h := iteN h g2
    conv => whnf
    refine CutK.norm [1, 2, 4, 19] [64, 128] ?_
    conv => whnf
    refine CutK.norm [1, 2] [64, 128] ?_
    conv => whnf
    cases h
    exact Done.of [] [] rfl rfl ⟨⟨rfl, rfl⟩, ⟨rfl, trivial⟩, ⟨⟨rfl, trivial⟩, rfl, trivial⟩, trivial⟩

def impl_isLimit  (a1 : Rw) : Option Bool :=
  ((impl_parted a1).bind fun y2 => ((impl_isZero a1).bind fun y4 => (if y4 = true then some false else (if y2.2 = (0 : Int) then some true else some false))))
set_option maxHeartbeats 4000000 in
set_option maxRecDepth 100000 in
theorem impl_isLimit_ct  {a1 : Rw} {r : Bool} (h : impl_isLimit a1 = some r) : Ct prog 42 [.agg [.d (D.sl a1)]] (⟨[], []⟩) (.d (D.bool r)) (⟨[], []⟩) := by
  rw [impl_isLimit] at h
  refine Ct.of (c := _) mixed func42 ⟨rfl, rfl, rfl⟩ ?_ rfl
  conv => whnf
  obtain ⟨y2, e3, h⟩ := bind_ex h
  refine CallOk.of (impl_parted_ct e3) ?_
  conv => whnf
  refine CutK.go ?_
  conv => whnf
  obtain ⟨y4, e5, h⟩ := bind_ex h
  refine CallOk.of (impl_isZero_ct e5) ?_
  conv => whnf
  refine spl (fun g6 => ?_) (fun g6 => ?_)
  · replace h := iteT h g6
    conv => whnf
    refine CutK.go ?_
    conv => whnf
    cases h
    exact Done.of [] [] rfl rfl ⟨⟨rfl, rfl⟩, ⟨rfl, trivial⟩, rfl, trivial⟩
  · replace h := iteF h g6
    conv => whnf
    refine splD (fun g7 => ?_) (fun g7 => ?_)
    · replace h := iteP h g7
      conv => whnf
      refine CutK.go ?_
      conv => whnf
      cases h
      exact Done.of [] [] rfl rfl ⟨⟨rfl, rfl⟩, ⟨rfl, trivial⟩, rfl, trivial⟩
    · replace h := iteN h g7
      conv => whnf
      refine CutK.go ?_
      conv => whnf
      cases h
      exact Done.of [] [] rfl rfl ⟨⟨rfl, rfl⟩, ⟨rfl, trivial⟩, rfl, trivial⟩

def impl_finite  (a1 : Int) : Option Rw :=
  (if a1 = (0 : Int) then some ([] : Rw) else some ([[D.sl ([]), D.int .i64 a1]] : Rw))
set_option maxHeartbeats 4000000 in
set_option maxRecDepth 100000 in
theorem impl_finite_ct  {a1 : Int} {r : Rw} (h : impl_finite a1 = some r) : Ct prog 64 [.d (D.int .i64 a1)] (⟨[], []⟩) (.agg [.os 8 r.length]) (⟨[], [(77, true, r)]⟩) := by
  rw [impl_finite] at h
  refine Ct.of (c := _) mixed func64 ⟨rfl, rfl, rfl⟩ ?_ rfl
  conv => whnf
  refine splD (fun g2 => ?_) (fun g2 => ?_)
  · replace h := iteP h g2
    conv => whnf
    cases h
    exact Done.of [none] [] rfl rfl ⟨⟨rfl, rfl⟩, ⟨rfl, rfl, trivial⟩, ⟨⟨rfl, rfl⟩, trivial⟩, trivial⟩
  · replace h := iteN h g2
    conv => whnf
    cases h
    exact Done.of [some 512] [] rfl rfl ⟨⟨rfl, rfl⟩, ⟨rfl, ⟨rfl, rfl, rows_same⟩, trivial⟩, ⟨⟨(by first | rfl | exact List.length_append.symm | (simp; done) | omega), rfl⟩, trivial⟩, trivial⟩

def impl_plus_p4 (a2 : Rw) (o58 : Rw) : Option Rw :=
  (if o58.length + a2.length ≤ cap ∧ (∀ cs ∈ a2, cs.length = 2) then some (o58 ++ a2) else none)
set_option maxHeartbeats 4000000 in
set_option maxRecDepth 100000 in
theorem impl_plus_p4_ct {a2 : Rw} {o58 : Rw} {r : Rw} (h : impl_plus_p4 a2 o58 = some r) : X prog 0 (tlF f60 4) (mk 69 [(3, .ptr 192 0), (4, .ptr 256 0), (5, .ptr 320 0)] [(192, .box 28 [.d (D.sl a2)]), (256, .box 28 [.es]), (320, .box 28 [.os 1084000 o58.length]), (1084000, .arr 77 false o58)]) (finK prog f60 0 (.agg [.d (D.sl r)]) (⟨[], []⟩)) := by
  rw [impl_plus_p4] at h
  conv => whnf
  refine Take.all (rfl) ?_
  conv => whnf
  obtain ⟨g60, h⟩ := req_ex h
  refine Req.of (room (b := 32) (by decide) g60.1 g60.2) ?_
  conv => whnf
  cases h
  exact Done.of [] [4224] rfl rfl ⟨⟨rfl, rfl⟩, ⟨rfl, trivial⟩, ⟨⟨rfl, Nat.le_of_eq (by first | rfl | exact List.length_append.symm | (simp; done) | omega), eq_take (by first | rfl | exact List.length_append.symm | (simp; done) | omega)⟩, trivial⟩, trivial⟩
def impl_plus_l0 (k : Nat) (a1 : Rw) (a2 : Rw) (K0 : Rw → Option Rw) : Rw → Rw → Option Rw
  | [], v74 => (K0 v74)
  | cs :: rest, v74 => (cell_si cs fun x113 x114 => (row_si a2 0 fun x116 x117 => ((impl_cmp k x113 x116).bind fun y120 => (if y120 = (1 : Int) then (if v74.length + 1 ≤ cap then (impl_plus_l0 k a1 a2 K0 rest (v74 ++ ([[D.sl x113, D.int .i64 x114]]))) else none) else (if y120 = (0 : Int) then (if v74.length + 1 ≤ cap then (if 0 ≤ (1 : Int) ∧ (1 : Int) ≤ (a2.length : Int) ∧ (∀ cs ∈ a2, cs.length = 2) then (if (v74 ++ ([[D.sl x113, D.int .i64 (IntKind.i64.wrap (x114 + x117))]])).length + (a2.drop (1 : Int).toNat).length ≤ cap ∧ (∀ cs ∈ (a2.drop (1 : Int).toNat), cs.length = 2) then some ((v74 ++ ([[D.sl x113, D.int .i64 (IntKind.i64.wrap (x114 + x117))]])) ++ (a2.drop (1 : Int).toNat)) else none) else none) else none) else (impl_plus_l0 k a1 a2 K0 rest v74))))))
set_option maxRecDepth 100000 in
theorem impl_plus_l0_ct {k : Nat} {a1 : Rw} {a2 : Rw} {K0 : Rw → Option Rw} {r : Rw} (hx : a1.length ≤ cap) : ∀ (rest : Rw) (v73n : Nat) (v74 : Rw), a1.drop v73n = rest → impl_plus_l0 k a1 a2 K0 rest v74 = some r → LoopOk prog 0 (lp f60 0) (mk 69 [(3, .ptr 192 0), (4, .ptr 256 0), (5, .ptr 320 0), (13, .d (D.sl a1)), (14, .d (D.int .i64 (a1.length : Int))), (15, .d (D.int .i64 (v73n : Int)))] [(192, .box 28 [.d (D.sl a2)]), (256, .box 28 [.es]), (320, .box 28 [.os 64000 v74.length]), (64000, .arr 77 false v74)]) (LoopEnd prog f60 0 69 (.agg [.d (D.sl r)]) (⟨[], []⟩) (fun i ts os => (i = 0 ∧ ∃ v95 : Rw, K0 v95 = some r ∧ ts = [(3, .ptr 192 0), (4, .ptr 256 0), (5, .ptr 320 0)] ∧ os = [(192, .box 28 [.d (D.sl a2)]), (256, .box 28 [.es]), (320, .box 28 [.os 67001 v95.length]), (67001, .arr 77 false v95)])))
  | [], v73n, v74, hd, h => by
      rw [impl_plus_l0] at h
      have hn := drop_nil hd
      refine LoopOk.step ?_
      conv => whnf
      refine splD (fun g => absurd g hn) (fun _ => ?_)
      conv => whnf
      exact ⟨_, _, [some 192, some 256, some 320, some 64000], [], ⟨rfl, _, h, rfl, rfl⟩, ⟨⟨rfl, rfl⟩, ⟨rfl, ⟨rfl, rfl, trivial⟩, ⟨rfl, trivial, trivial⟩, ⟨rfl, ⟨rfl, rfl⟩, trivial⟩, ⟨rfl, rfl, rows_same⟩, trivial⟩, ⟨rfl, rfl⟩, ⟨rfl, rfl⟩, ⟨rfl, rfl⟩, trivial⟩⟩
  | cs :: rest, v73n, v74, hd, h => by
      rw [impl_plus_l0] at h
      obtain ⟨hrow, hd1, hlt⟩ := drop_cons hd
      refine LoopOk.step ?_
      conv => whnf
      refine splD (fun _ => ?_) (fun g => absurd hlt g)
      conv => whnf
      obtain ⟨x113, x114, e115, h⟩ := cell_si_ex h
      rw [e115] at hrow
      refine Req.of (Int.natCast_nonneg _) ?_
      refine Row.of _ hrow ?_
      conv => whnf
      obtain ⟨g119, x116, x117, e118, h⟩ := row_si_ex h
      refine Req.of g119 ?_
      refine Row.of _ e118 ?_
      conv => whnf
      obtain ⟨y120, e121, h⟩ := bind_ex h
      refine CallOk.of (impl_cmp_ct e121) ?_
      conv => whnf
      refine CutK.norm [3, 4, 5, 7, 13, 14, 15, 26] [192, 256, 320, 448, 64000] ?_
      conv => whnf
      refine splD (fun g122 => ?_) (fun g122 => ?_)
      · replace h := iteP h g122
        conv => whnf
        refine Take.all (rfl) ?_
        conv => whnf
        refine Take.all (by first | rfl | exact List.length_append.symm | (simp; done) | omega) ?_
        conv => whnf
        obtain ⟨g123, h⟩ := req_ex h
        refine Req.of (room (b := 32) (by decide) g123 (wide1 rfl wide0)) ?_
        conv => whnf
        refine CutK.norm [3, 4, 5, 13, 14, 15] [192, 256, 320, 2112] ?_
        conv => whnf
        exact LoopOk.back (impl_plus_l0_ct hx rest (v73n + 1) _ hd1 h) [some 192, some 256, some 320, some 2112] [] ⟨⟨rfl, rfl⟩, ⟨rfl, ⟨rfl, rfl, trivial⟩, ⟨rfl, trivial, trivial⟩, ⟨rfl, ⟨(by first | rfl | exact List.length_append.symm | (simp; done) | omega), rfl⟩, trivial⟩, ⟨rfl, rfl, rows_same⟩, trivial⟩, ⟨rfl, rfl⟩, ⟨rfl, rfl⟩, ⟨rfl, rfl⟩, rfl, rfl, i64eq (wrap_up hlt hx), trivial⟩
      · replace h := iteN h g122
        conv => whnf
        refine splD (fun g124 => ?_) (fun g124 => ?_)
        · replace h := iteP h g124
          conv => whnf
          refine Req.of g119 ?_
          refine Row.of _ e118 ?_
          conv => whnf
          refine Take.all (rfl) ?_
          conv => whnf
          refine Take.all (by first | rfl | exact List.length_append.symm | (simp; done) | omega) ?_
          conv => whnf
          obtain ⟨g125, h⟩ := req_ex h
          refine Req.of (room (b := 32) (by decide) g125 (wide1 rfl wide0)) ?_
          conv => whnf
          obtain ⟨g126, h⟩ := req_ex h
          refine Req.of g126 ?_
          conv => whnf
          refine Take.all (by first | rfl | exact List.length_append.symm | (simp; done) | omega) ?_
          conv => whnf
          obtain ⟨g127, h⟩ := req_ex h
          refine Req.of (room (b := 32) (by decide) g127.1 g127.2) ?_
          conv => whnf
          cases h
          exact Done.of [] [3712] rfl rfl ⟨⟨rfl, rfl⟩, ⟨rfl, trivial⟩, ⟨⟨rfl, Nat.le_of_eq (by first | rfl | exact List.length_append.symm | (simp; done) | omega), eq_take (by first | rfl | exact List.length_append.symm | (simp; done) | omega)⟩, trivial⟩, trivial⟩
        · replace h := iteN h g124
          conv => whnf
          refine CutK.norm [3, 4, 5, 13, 14, 15] [192, 256, 320, 64000] ?_
          conv => whnf
          exact LoopOk.back (impl_plus_l0_ct hx rest (v73n + 1) _ hd1 h) [some 192, some 256, some 320, some 64000] [] ⟨⟨rfl, rfl⟩, ⟨rfl, ⟨rfl, rfl, trivial⟩, ⟨rfl, trivial, trivial⟩, ⟨rfl, ⟨rfl, rfl⟩, trivial⟩, ⟨rfl, rfl, rows_same⟩, trivial⟩, ⟨rfl, rfl⟩, ⟨rfl, rfl⟩, ⟨rfl, rfl⟩, rfl, rfl, i64eq (wrap_up hlt hx), trivial⟩
def impl_plus_p2 (k : Nat) (a1 : Rw) (a2 : Rw) : Option Rw :=
  (if a1.length ≤ cap then (impl_plus_l0 k a1 a2 (fun (v95 : Rw) => (impl_plus_p4 a2 v95)) a1 ([] : Rw)) else none)
set_option maxHeartbeats 4000000 in
set_option maxRecDepth 100000 in
theorem impl_plus_p2_ct {k : Nat} {a1 : Rw} {a2 : Rw} {r : Rw} (h : impl_plus_p2 k a1 a2 = some r) : X prog 0 (tlF f60 2) (mk 69 [(2, .ptr 128 0), (3, .ptr 192 0), (4, .ptr 256 0)] [(128, .box 28 [.d (D.sl a1)]), (192, .box 28 [.d (D.sl a2)]), (256, .box 28 [.es])]) (finK prog f60 0 (.agg [.d (D.sl r)]) (⟨[], []⟩)) := by
  rw [impl_plus_p2] at h
  conv => whnf
  obtain ⟨g128, h⟩ := req_ex h
  refine LoopOk.into (impl_plus_l0_ct  g128 _ _ _ rfl h) [some 192, some 256, some 320, none] [] ⟨⟨rfl, rfl⟩, ⟨rfl, ⟨rfl, rfl, trivial⟩, ⟨rfl, trivial, trivial⟩, ⟨rfl, ⟨rfl, rfl⟩, trivial⟩, rfl, trivial⟩, ⟨rfl, rfl⟩, ⟨rfl, rfl⟩, ⟨rfl, rfl⟩, rfl, rfl, rfl, trivial⟩ ?_ (fun _ hs => hs)
  rintro i ts os ⟨rfl, v95, h, rfl, rfl⟩
  conv => whnf
  exact CutK.piece (impl_plus_p4_ct  h) [some 192, some 256, some 320, some 67001] [] ⟨⟨rfl, rfl⟩, ⟨rfl, ⟨rfl, rfl, trivial⟩, ⟨rfl, trivial, trivial⟩, ⟨rfl, ⟨rfl, rfl⟩, trivial⟩, ⟨rfl, rfl, rows_same⟩, trivial⟩, ⟨rfl, rfl⟩, ⟨rfl, rfl⟩, ⟨rfl, rfl⟩, trivial⟩
def impl_plus (k : Nat) (a1 : Rw) (a2 : Rw) : Option Rw :=
  ((impl_isZero a2).bind fun y129 => (if y129 = true then some a1 else (impl_plus_p2 k a1 a2)))
set_option maxHeartbeats 4000000 in
set_option maxRecDepth 100000 in
theorem impl_plus_ct {k : Nat} {a1 : Rw} {a2 : Rw} {r : Rw} (h : impl_plus k a1 a2 = some r) : Ct prog 60 [.agg [.d (D.sl a1)], .agg [.d (D.sl a2)]] (⟨[], []⟩) (.agg [.d (D.sl r)]) (⟨[], []⟩) := by
  rw [impl_plus] at h
  refine Ct.of (c := _) mixed func60 ⟨rfl, rfl, rfl⟩ ?_ rfl
  conv => whnf
  obtain ⟨y129, e130, h⟩ := bind_ex h
  refine CallOk.of (impl_isZero_ct e130) ?_
  conv => whnf
  refine spl (fun g131 => ?_) (fun g131 => ?_)
  · replace h := iteT h g131
    conv => whnf
    refine CutK.norm [2, 3, 4, 9] [128, 192, 256] ?_
    conv => whnf
    cases h
    exact Done.of [] [] rfl rfl ⟨⟨rfl, rfl⟩, ⟨rfl, trivial⟩, ⟨rfl, trivial⟩, trivial⟩
  · replace h := iteF h g131
    conv => whnf
    refine CutK.norm [2, 3, 4, 9] [128, 192, 256] ?_
    conv => whnf
    exact CutK.piece (impl_plus_p2_ct  h) [some 128, some 192, some 256] [] ⟨⟨rfl, rfl⟩, ⟨rfl, ⟨rfl, rfl, trivial⟩, ⟨rfl, rfl, trivial⟩, ⟨rfl, trivial, trivial⟩, trivial⟩, ⟨rfl, rfl⟩, ⟨rfl, rfl⟩, ⟨rfl, rfl⟩, trivial⟩

def impl_before (k : Nat) (a1 : Rw) : Option Rw :=
  ((impl_parted a1).bind fun y2 => ((impl_finite (IntKind.i64.wrap (y2.2 - 1))).bind fun y4 => ((impl_plus k y2.1 y4).bind fun y6 => some y6)))
set_option maxHeartbeats 4000000 in
set_option maxRecDepth 100000 in
theorem impl_before_ct {k : Nat} {a1 : Rw} {r : Rw} (h : impl_before k a1 = some r) : Ct prog 57 [.agg [.d (D.sl a1)]] (⟨[], []⟩) (.agg [.d (D.sl r)]) (⟨[], []⟩) := by
  rw [impl_before] at h
  refine Ct.of (c := _) mixed func57 ⟨rfl, rfl, rfl⟩ ?_ rfl
  conv => whnf
  obtain ⟨y2, e3, h⟩ := bind_ex h
  refine CallOk.of (impl_parted_ct e3) ?_
  conv => whnf
  refine CutK.go ?_
  conv => whnf
  obtain ⟨y4, e5, h⟩ := bind_ex h
  refine CallOk.of (impl_finite_ct e5) ?_
  conv => whnf
  refine Take.all (rfl) ?_
  conv => whnf
  obtain ⟨y6, e7, h⟩ := bind_ex h
  refine CallOk.of (impl_plus_ct e7) ?_
  conv => whnf
  refine CutK.go ?_
  conv => whnf
  cases h
  exact Done.of [] [] rfl rfl ⟨⟨rfl, rfl⟩, ⟨rfl, trivial⟩, ⟨rfl, trivial⟩, trivial⟩

def impl_power  (a1 : Rw) (a2 : Int) : Option Rw :=
  (if a2 = (0 : Int) then some ([] : Rw) else some ([[D.sl a1, D.int .i64 a2]] : Rw))
set_option maxHeartbeats 4000000 in
set_option maxRecDepth 100000 in
theorem impl_power_ct  {a1 : Rw} {a2 : Int} {r : Rw} (h : impl_power a1 a2 = some r) : Ct prog 67 [.agg [.d (D.sl a1)], .d (D.int .i64 a2)] (⟨[], []⟩) (.agg [.os 8 r.length]) (⟨[], [(77, false, r)]⟩) := by
  rw [impl_power] at h
  refine Ct.of (c := _) mixed func67 ⟨rfl, rfl, rfl⟩ ?_ rfl
  conv => whnf
  refine splD (fun g3 => ?_) (fun g3 => ?_)
  · replace h := iteP h g3
    conv => whnf
    cases h
    exact Done.of [none] [] rfl rfl ⟨⟨rfl, rfl⟩, ⟨rfl, rfl, trivial⟩, ⟨⟨rfl, rfl⟩, trivial⟩, trivial⟩
  · replace h := iteN h g3
    conv => whnf
    cases h
    exact Done.of [some 704] [] rfl rfl ⟨⟨rfl, rfl⟩, ⟨rfl, ⟨rfl, rfl, rows_same⟩, trivial⟩, ⟨⟨(by first | rfl | exact List.length_append.symm | (simp; done) | omega), rfl⟩, trivial⟩, trivial⟩

def slices_Clone  (a1 : Rw) : Option Rw :=
  (nilD 2 a1 (some ([] : Rw)) (if a1.length ≤ cap ∧ (∀ cs ∈ a1, cs.length = 2) then some ([] ++ a1 : Rw) else none))
set_option maxHeartbeats 4000000 in
set_option maxRecDepth 100000 in
theorem slices_Clone_ct  {a1 : Rw} {r : Rw} (h : slices_Clone a1 = some r) : Ct prog 87 [.d (D.sl a1)] (⟨[], []⟩) (.os 8 r.length) (⟨[], [(77, false, r)]⟩) := by
  rw [slices_Clone] at h
  refine Ct.of (c := _) mixed func87 ⟨rfl, rfl, rfl⟩ ?_ rfl
  conv => whnf
  obtain ⟨h2, h3⟩ := nilD_ex h
  refine NilCmp.mk ⟨fun e4 => ?_, ?_⟩
  · replace h := h2 e4
    conv => whnf
    cases h
    exact Done.of [none] [] rfl rfl ⟨⟨rfl, rfl⟩, ⟨rfl, rfl, trivial⟩, ⟨rfl, rfl⟩, trivial⟩
  · replace h := h3
    conv => whnf
    refine Take.all (by first | rfl | exact List.length_append.symm | (simp; done) | omega) ?_
    conv => whnf
    obtain ⟨g5, h⟩ := req_ex h
    refine Req.of (room0 (b := 32) (by decide) g5.1 g5.2) ?_
    conv => whnf
    cases h
    exact Done.of [some 448] [] rfl rfl ⟨⟨rfl, rfl⟩, ⟨rfl, ⟨rfl, rfl, rows_same⟩, trivial⟩, ⟨(by first | rfl | exact List.length_append.symm | (simp; done) | omega), rfl⟩, trivial⟩

def impl_fundamental_p7 (o42 : Rw) : Option Rw :=
  some o42
set_option maxHeartbeats 4000000 in
set_option maxRecDepth 100000 in
theorem impl_fundamental_p7_ct {o42 : Rw} {r : Rw} (h : impl_fundamental_p7 o42 = some r) : X prog 0 (tlF f45 7) (mk 54 [(4, .ptr 256 0)] [(256, .box 28 [.d (D.sl o42)])]) (finK prog f45 0 (.agg [.d (D.sl r)]) (⟨[], []⟩)) := by
  rw [impl_fundamental_p7] at h
  conv => whnf
  cases h
  exact Done.of [] [] rfl rfl ⟨⟨rfl, rfl⟩, ⟨rfl, trivial⟩, ⟨rfl, trivial⟩, trivial⟩
def impl_fundamental_p6 (k : Nat) (a2 : Int) (o24 : Rw) (o25 : Int) (o26 : Rw) : Option Rw :=
  ((impl_before k o24).bind fun y43 => ((impl_power y43 a2).bind fun y45 => ((impl_plus k o26 y45).bind fun y47 => (impl_fundamental_p7 y47))))
set_option maxHeartbeats 4000000 in
set_option maxRecDepth 100000 in
theorem impl_fundamental_p6_ct {k : Nat} {a2 : Int} {o24 : Rw} {o25 : Int} {o26 : Rw} {r : Rw} (h : impl_fundamental_p6 k a2 o24 o25 o26 = some r) : X prog 0 (tlF f45 6) (mk 54 [(1, .d (D.int .i64 a2)), (4, .ptr 256 0), (6, .ptr 384 0), (7, .ptr 448 0)] [(256, .box 28 [.es]), (384, .box 77 [.d (D.sl o24), .d (D.int .i64 o25)]), (448, .box 28 [.os 1094000 o26.length]), (1094000, .arr 77 false o26)]) (finK prog f45 0 (.agg [.d (D.sl r)]) (⟨[], []⟩)) := by
  rw [impl_fundamental_p6] at h
  conv => whnf
  obtain ⟨y43, e44, h⟩ := bind_ex h
  refine CallOk.of (impl_before_ct e44) ?_
  conv => whnf
  obtain ⟨y45, e46, h⟩ := bind_ex h
  refine CallOk.of (impl_power_ct e46) ?_
  conv => whnf
  refine Take.all (rfl) ?_
  conv => whnf
  refine Take.all (rfl) ?_
  conv => whnf
  obtain ⟨y47, e48, h⟩ := bind_ex h
  refine CallOk.of (impl_plus_ct e48) ?_
  conv => whnf
  exact CutK.piece (impl_fundamental_p7_ct  h) [some 256] [] ⟨⟨rfl, rfl⟩, ⟨rfl, ⟨rfl, rfl, trivial⟩, trivial⟩, ⟨rfl, rfl⟩, trivial⟩
def impl_fundamental_p4 (k : Nat) (rec_impl_fundamental : Rw → Int → Option Rw) (a2 : Int) (o10 : Rw) (o11 : Int) (o12 : Rw) : Option Rw :=
  (if (1 : Int) < o11 then (if o12.length + 1 ≤ cap then ((impl_isLimit o10).bind fun y51 => (if y51 = true then ((rec_impl_fundamental o10 a2).bind fun y54 => ((impl_power y54 1).bind fun y56 => ((impl_plus k (o12 ++ ([[D.sl o10, D.int .i64 (IntKind.i64.wrap (o11 - 1))]])) y56).bind fun y58 => some y58))) else (impl_fundamental_p6 k a2 o10 o11 (o12 ++ ([[D.sl o10, D.int .i64 (IntKind.i64.wrap (o11 - 1))]]))))) else none) else ((impl_isLimit o10).bind fun y60 => (if y60 = true then ((rec_impl_fundamental o10 a2).bind fun y63 => ((impl_power y63 1).bind fun y65 => ((impl_plus k o12 y65).bind fun y67 => some y67))) else (impl_fundamental_p6 k a2 o10 o11 o12))))
set_option maxHeartbeats 4000000 in
set_option maxRecDepth 100000 in
theorem impl_fundamental_p4_ct {k : Nat} {rec_impl_fundamental : Rw → Int → Option Rw} (hrec_impl_fundamental : ∀ (a1 : Rw) (a2 : Int) (r : Rw), rec_impl_fundamental a1 a2 = some r → Ct prog 45 [.agg [.d (D.sl a1)], .d (D.int .i64 a2)] (⟨[], []⟩) (.agg [.d (D.sl r)]) (⟨[], []⟩)) {a2 : Int} {o10 : Rw} {o11 : Int} {o12 : Rw} {r : Rw} (h : impl_fundamental_p4 k rec_impl_fundamental a2 o10 o11 o12 = some r) : X prog 0 (tlF f45 4) (mk 54 [(1, .d (D.int .i64 a2)), (4, .ptr 256 0), (6, .ptr 384 0), (7, .ptr 448 0)] [(256, .box 28 [.es]), (384, .box 77 [.d (D.sl o10), .d (D.int .i64 o11)]), (448, .box 28 [.os 1084000 o12.length]), (1084000, .arr 77 false o12)]) (finK prog f45 0 (.agg [.d (D.sl r)]) (⟨[], []⟩)) := by
  rw [impl_fundamental_p4] at h
  conv => whnf
  refine splD (fun g49 => ?_) (fun g49 => ?_)
  · replace h := iteP h g49
    conv => whnf
    refine Take.all (rfl) ?_
    conv => whnf
    refine Take.all (by first | rfl | exact List.length_append.symm | (simp; done) | omega) ?_
    conv => whnf
    obtain ⟨g50, h⟩ := req_ex h
    refine Req.of (room (b := 32) (by decide) g50 (wide1 rfl wide0)) ?_
    conv => whnf
    obtain ⟨y51, e52, h⟩ := bind_ex h
    refine CallOk.of (impl_isLimit_ct e52) ?_
    conv => whnf
    refine spl (fun g53 => ?_) (fun g53 => ?_)
    · replace h := iteT h g53
      conv => whnf
      refine CutK.norm [1, 4, 6, 7, 39] [256, 384, 448, 2240] ?_
      conv => whnf
      obtain ⟨y54, e55, h⟩ := bind_ex h
      refine CallOk.of (hrec_impl_fundamental _ _ _ e55) ?_
      conv => whnf
      obtain ⟨y56, e57, h⟩ := bind_ex h
      refine CallOk.of (impl_power_ct e57) ?_
      conv => whnf
      refine Take.all (by first | rfl | exact List.length_append.symm | (simp; done) | omega) ?_
      conv => whnf
      refine Take.all (rfl) ?_
      conv => whnf
      obtain ⟨y58, e59, h⟩ := bind_ex h
      refine CallOk.of (impl_plus_ct e59) ?_
      conv => whnf
      refine CutK.norm [4] [256] ?_
      conv => whnf
      cases h
      exact Done.of [] [] rfl rfl ⟨⟨rfl, rfl⟩, ⟨rfl, trivial⟩, ⟨rfl, trivial⟩, trivial⟩
    · replace h := iteF h g53
      conv => whnf
      refine CutK.norm [1, 4, 6, 7, 39] [256, 384, 448, 2240] ?_
      conv => whnf
      exact CutK.piece (impl_fundamental_p6_ct  h) [some 256, some 384, some 448, some 2240] [] ⟨⟨rfl, rfl⟩, ⟨rfl, ⟨rfl, trivial, trivial⟩, ⟨rfl, rfl, rfl, trivial⟩, ⟨rfl, ⟨(by first | rfl | exact List.length_append.symm | (simp; done) | omega), rfl⟩, trivial⟩, ⟨rfl, rfl, rows_same⟩, trivial⟩, rfl, ⟨rfl, rfl⟩, ⟨rfl, rfl⟩, ⟨rfl, rfl⟩, trivial⟩
  · replace h := iteN h g49
    conv => whnf
    obtain ⟨y60, e61, h⟩ := bind_ex h
    refine CallOk.of (impl_isLimit_ct e61) ?_
    conv => whnf
    refine spl (fun g62 => ?_) (fun g62 => ?_)
    · replace h := iteT h g62
      conv => whnf
      refine CutK.norm [1, 4, 6, 7, 39] [256, 384, 448, 1084000] ?_
      conv => whnf
      obtain ⟨y63, e64, h⟩ := bind_ex h
      refine CallOk.of (hrec_impl_fundamental _ _ _ e64) ?_
      conv => whnf
      obtain ⟨y65, e66, h⟩ := bind_ex h
      refine CallOk.of (impl_power_ct e66) ?_
      conv => whnf
      refine Take.all (rfl) ?_
      conv => whnf
      refine Take.all (rfl) ?_
      conv => whnf
      obtain ⟨y67, e68, h⟩ := bind_ex h
      refine CallOk.of (impl_plus_ct e68) ?_
      conv => whnf
      refine CutK.norm [4] [256] ?_
      conv => whnf
      cases h
      exact Done.of [] [] rfl rfl ⟨⟨rfl, rfl⟩, ⟨rfl, trivial⟩, ⟨rfl, trivial⟩, trivial⟩
    · replace h := iteF h g62
      conv => whnf
      refine CutK.norm [1, 4, 6, 7, 39] [256, 384, 448, 1084000] ?_
      conv => whnf
      exact CutK.piece (impl_fundamental_p6_ct  h) [some 256, some 384, some 448, some 1084000] [] ⟨⟨rfl, rfl⟩, ⟨rfl, ⟨rfl, trivial, trivial⟩, ⟨rfl, rfl, rfl, trivial⟩, ⟨rfl, ⟨rfl, rfl⟩, trivial⟩, ⟨rfl, rfl, rows_same⟩, trivial⟩, rfl, ⟨rfl, rfl⟩, ⟨rfl, rfl⟩, ⟨rfl, rfl⟩, trivial⟩
def impl_fundamental_b (k : Nat) (rec_impl_fundamental : Rw → Int → Option Rw) (a1 : Rw) (a2 : Int) : Option Rw :=
  (row_si a1 (IntKind.i64.wrap ((a1.length : Int) - 1)) fun x69 x70 => (if 0 ≤ (IntKind.i64.wrap ((a1.length : Int) - 1)) ∧ (IntKind.i64.wrap ((a1.length : Int) - 1)) ≤ (a1.length : Int) ∧ (∀ cs ∈ a1, cs.length = 2) then ((slices_Clone (a1.take (IntKind.i64.wrap ((a1.length : Int) - 1) : Int).toNat)).bind fun y74 => (impl_fundamental_p4 k rec_impl_fundamental a2 x69 x70 y74)) else none))
set_option maxHeartbeats 4000000 in
set_option maxRecDepth 100000 in
theorem impl_fundamental_b_ct {k : Nat} {rec_impl_fundamental : Rw → Int → Option Rw} (hrec_impl_fundamental : ∀ (a1 : Rw) (a2 : Int) (r : Rw), rec_impl_fundamental a1 a2 = some r → Ct prog 45 [.agg [.d (D.sl a1)], .d (D.int .i64 a2)] (⟨[], []⟩) (.agg [.d (D.sl r)]) (⟨[], []⟩)) {a1 : Rw} {a2 : Int} {r : Rw} (h : impl_fundamental_b k rec_impl_fundamental a1 a2 = some r) : Ct prog 45 [.agg [.d (D.sl a1)], .d (D.int .i64 a2)] (⟨[], []⟩) (.agg [.d (D.sl r)]) (⟨[], []⟩) := by
  rw [impl_fundamental_b] at h
  refine Ct.of (c := _) mixed func45 ⟨rfl, rfl, rfl⟩ ?_ rfl
  conv => whnf
  obtain ⟨g72, x69, x70, e71, h⟩ := row_si_ex h
  refine Req.of g72 ?_
  refine Row.of _ e71 ?_
  conv => whnf
  obtain ⟨g73, h⟩ := req_ex h
  refine Req.of g73 ?_
  conv => whnf
  obtain ⟨y74, e75, h⟩ := bind_ex h
  refine CallOk.of (slices_Clone_ct e75) ?_
  conv => whnf
  exact CutK.piece (impl_fundamental_p4_ct hrec_impl_fundamental h) [some 256, some 384, some 448, some 1344] [] ⟨⟨rfl, rfl⟩, ⟨rfl, ⟨rfl, trivial, trivial⟩, ⟨rfl, rfl, rfl, trivial⟩, ⟨rfl, ⟨rfl, rfl⟩, trivial⟩, ⟨rfl, rfl, rows_same⟩, trivial⟩, rfl, ⟨rfl, rfl⟩, ⟨rfl, rfl⟩, ⟨rfl, rfl⟩, trivial⟩
def impl_fundamental : Nat → Rw → Int → Option Rw
  | 0, _, _ => none
  | k + 1, a1, a2 => impl_fundamental_b k (impl_fundamental k) a1 a2
theorem impl_fundamental_ct' : ∀ (k : Nat) (a1 : Rw) (a2 : Int) (r : Rw), impl_fundamental k a1 a2 = some r → Ct prog 45 [.agg [.d (D.sl a1)], .d (D.int .i64 a2)] (⟨[], []⟩) (.agg [.d (D.sl r)]) (⟨[], []⟩)
  | 0, _, _, _, h => by rw [impl_fundamental] at h; cases h
  | k + 1, _, _, _, h => by rw [impl_fundamental] at h; exact impl_fundamental_b_ct (impl_fundamental_ct' k) h
theorem impl_fundamental_ct {k : Nat} {a1 : Rw} {a2 : Int} {r : Rw} (h : impl_fundamental k a1 a2 = some r) : Ct prog 45 [.agg [.d (D.sl a1)], .d (D.int .i64 a2)] (⟨[], []⟩) (.agg [.d (D.sl r)]) (⟨[], []⟩) := impl_fundamental_ct' k _ _ _ h

def impl_cloneOrdinal_l0 (rec_impl_cloneOrdinal : Rw → Option Rw) (a1 : Rw) (K0 : Rw → Option Rw) : Rw → Rw → Option Rw
  | [], v10 => (K0 v10)
  | cs :: rest, v10 => (cell_si cs fun x28 x29 => ((rec_impl_cloneOrdinal x28).bind fun y31 => (if v10.length + 1 ≤ cap then (impl_cloneOrdinal_l0 rec_impl_cloneOrdinal a1 K0 rest (v10 ++ ([[D.sl y31, D.int .i64 x29]]))) else none)))
set_option maxRecDepth 100000 in
theorem impl_cloneOrdinal_l0_ct {rec_impl_cloneOrdinal : Rw → Option Rw} {a1 : Rw} {K0 : Rw → Option Rw} (hrec_impl_cloneOrdinal : ∀ (a1 : Rw) (r : Rw), rec_impl_cloneOrdinal a1 = some r → Ct prog 86 [.agg [.d (D.sl a1)]] (⟨[], []⟩) (.agg [.os 8 r.length]) (⟨[], [(77, true, r)]⟩)) {r : Rw} (hx : a1.length ≤ cap) : ∀ (rest : Rw) (v9n : Nat) (v10 : Rw), a1.drop v9n = rest → impl_cloneOrdinal_l0 rec_impl_cloneOrdinal a1 K0 rest v10 = some r → LoopOk prog 0 (lp f86 0) (mk 27 [(2, .ptr 128 0), (3, .ptr 192 0), (8, .d (D.sl a1)), (9, .d (D.int .i64 (a1.length : Int))), (10, .d (D.int .i64 (v9n : Int)))] [(128, .box 28 [.es]), (192, .box 28 [.os 64000 v10.length]), (64000, .arr 77 true v10)]) (LoopEnd prog f86 0 27 (.agg [.os 8 r.length]) (⟨[], [(77, true, r)]⟩) (fun i ts os => (i = 0 ∧ ∃ v19 : Rw, K0 v19 = some r ∧ ts = [(2, .ptr 128 0), (3, .ptr 192 0)] ∧ os = [(128, .box 28 [.es]), (192, .box 28 [.os 67001 v19.length]), (67001, .arr 77 true v19)])))
  | [], v9n, v10, hd, h => by
      rw [impl_cloneOrdinal_l0] at h
      have hn := drop_nil hd
      refine LoopOk.step ?_
      conv => whnf
      refine splD (fun g => absurd g hn) (fun _ => ?_)
      conv => whnf
      exact ⟨_, _, [some 128, some 192, some 64000], [], ⟨rfl, _, h, rfl, rfl⟩, ⟨⟨rfl, rfl⟩, ⟨rfl, ⟨rfl, trivial, trivial⟩, ⟨rfl, ⟨rfl, rfl⟩, trivial⟩, ⟨rfl, rfl, rows_same⟩, trivial⟩, ⟨rfl, rfl⟩, ⟨rfl, rfl⟩, trivial⟩⟩
  | cs :: rest, v9n, v10, hd, h => by
      rw [impl_cloneOrdinal_l0] at h
      obtain ⟨hrow, hd1, hlt⟩ := drop_cons hd
      refine LoopOk.step ?_
      conv => whnf
      refine splD (fun _ => ?_) (fun g => absurd hlt g)
      conv => whnf
      obtain ⟨x28, x29, e30, h⟩ := cell_si_ex h
      rw [e30] at hrow
      refine Req.of (Int.natCast_nonneg _) ?_
      refine Row.of _ hrow ?_
      conv => whnf
      obtain ⟨y31, e32, h⟩ := bind_ex h
      refine CallOk.of (hrec_impl_cloneOrdinal _ _ e32) ?_
      conv => whnf
      refine Take.all (rfl) ?_
      conv => whnf
      refine Take.all (rfl) ?_
      conv => whnf
      refine Take.all (by first | rfl | exact List.length_append.symm | (simp; done) | omega) ?_
      conv => whnf
      obtain ⟨g33, h⟩ := req_ex h
      refine Req.of (room (b := 32) (by decide) g33 (wide1 rfl wide0)) ?_
      conv => whnf
      refine CutK.go ?_
      conv => whnf
      exact LoopOk.back (impl_cloneOrdinal_l0_ct hrec_impl_cloneOrdinal hx rest (v9n + 1) _ hd1 h) [some 128, some 192, some 1472] [] ⟨⟨rfl, rfl⟩, ⟨rfl, ⟨rfl, trivial, trivial⟩, ⟨rfl, ⟨(by first | rfl | exact List.length_append.symm | (simp; done) | omega), rfl⟩, trivial⟩, ⟨rfl, rfl, rows_same⟩, trivial⟩, ⟨rfl, rfl⟩, ⟨rfl, rfl⟩, rfl, rfl, i64eq (wrap_up hlt hx), trivial⟩
def impl_cloneOrdinal_b (rec_impl_cloneOrdinal : Rw → Option Rw) (a1 : Rw) : Option Rw :=
  (if a1.length ≤ cap then (impl_cloneOrdinal_l0 rec_impl_cloneOrdinal a1 (fun (v19 : Rw) => some v19) a1 ([] : Rw)) else none)
set_option maxHeartbeats 4000000 in
set_option maxRecDepth 100000 in
theorem impl_cloneOrdinal_b_ct {rec_impl_cloneOrdinal : Rw → Option Rw} (hrec_impl_cloneOrdinal : ∀ (a1 : Rw) (r : Rw), rec_impl_cloneOrdinal a1 = some r → Ct prog 86 [.agg [.d (D.sl a1)]] (⟨[], []⟩) (.agg [.os 8 r.length]) (⟨[], [(77, true, r)]⟩)) {a1 : Rw} {r : Rw} (h : impl_cloneOrdinal_b rec_impl_cloneOrdinal a1 = some r) : Ct prog 86 [.agg [.d (D.sl a1)]] (⟨[], []⟩) (.agg [.os 8 r.length]) (⟨[], [(77, true, r)]⟩) := by
  rw [impl_cloneOrdinal_b] at h
  refine Ct.of (c := _) mixed func86 ⟨rfl, rfl, rfl⟩ ?_ rfl
  conv => whnf
  obtain ⟨g34, h⟩ := req_ex h
  refine LoopOk.into (impl_cloneOrdinal_l0_ct hrec_impl_cloneOrdinal g34 _ _ _ rfl h) [some 128, some 192, none] [] ⟨⟨rfl, rfl⟩, ⟨rfl, ⟨rfl, trivial, trivial⟩, ⟨rfl, ⟨rfl, rfl⟩, trivial⟩, rfl, trivial⟩, ⟨rfl, rfl⟩, ⟨rfl, rfl⟩, rfl, rfl, rfl, trivial⟩ ?_ (fun _ hs => hs)
  rintro i ts os ⟨rfl, v19, h, rfl, rfl⟩
  conv => whnf
  refine CutK.go ?_
  conv => whnf
  cases h
  exact Done.of [some 67001] [] rfl rfl ⟨⟨rfl, rfl⟩, ⟨rfl, ⟨rfl, rfl, rows_same⟩, trivial⟩, ⟨⟨rfl, rfl⟩, trivial⟩, trivial⟩
def impl_cloneOrdinal : Nat → Rw → Option Rw
  | 0, _ => none
  | k + 1, a1 => impl_cloneOrdinal_b (impl_cloneOrdinal k) a1
theorem impl_cloneOrdinal_ct' : ∀ (k : Nat) (a1 : Rw) (r : Rw), impl_cloneOrdinal k a1 = some r → Ct prog 86 [.agg [.d (D.sl a1)]] (⟨[], []⟩) (.agg [.os 8 r.length]) (⟨[], [(77, true, r)]⟩)
  | 0, _, _, h => by rw [impl_cloneOrdinal] at h; cases h
  | k + 1, _, _, h => by rw [impl_cloneOrdinal] at h; exact impl_cloneOrdinal_b_ct (impl_cloneOrdinal_ct' k) h
theorem impl_cloneOrdinal_ct {k : Nat} {a1 : Rw} {r : Rw} (h : impl_cloneOrdinal k a1 = some r) : Ct prog 86 [.agg [.d (D.sl a1)]] (⟨[], []⟩) (.agg [.os 8 r.length]) (⟨[], [(77, true, r)]⟩) := impl_cloneOrdinal_ct' k _ _ h

def impl_told (k : Nat) (a1 : Rw) : Option (Rw × Bool) :=
  ((impl_IsOrdinal k a1).bind fun y2 => (if y2 = true then ((impl_cloneOrdinal k a1).bind fun y5 => some (y5, true)) else some (([] : Rw), false)))
set_option maxHeartbeats 4000000 in
set_option maxRecDepth 100000 in
theorem impl_told_ct {k : Nat} {a1 : Rw} {r : Rw × Bool} (h : impl_told k a1 = some r) : Ct prog 44 [.agg [.d (D.sl a1)]] (⟨[], []⟩) (.tup [.agg [.os 8 r.1.length], .d (D.bool r.2)]) (⟨[], [(77, true, r.1)]⟩) := by
  rw [impl_told] at h
  refine Ct.of (c := _) mixed func44 ⟨rfl, rfl, rfl⟩ ?_ rfl
  conv => whnf
  obtain ⟨y2, e3, h⟩ := bind_ex h
  refine CallOk.of (impl_IsOrdinal_ct e3) ?_
  conv => whnf
  refine spl (fun g4 => ?_) (fun g4 => ?_)
  · replace h := iteT h g4
    conv => whnf
    refine CutK.go ?_
    conv => whnf
    refine CutK.go ?_
    conv => whnf
    obtain ⟨y5, e6, h⟩ := bind_ex h
    refine CallOk.of (impl_cloneOrdinal_ct e6) ?_
    conv => whnf
    refine CutK.go ?_
    conv => whnf
    cases h
    exact Done.of [some 576] [] rfl rfl ⟨⟨rfl, rfl⟩, ⟨rfl, ⟨rfl, rfl, rows_same⟩, trivial⟩, ⟨⟨⟨rfl, rfl⟩, trivial⟩, rfl, trivial⟩, trivial⟩
  · replace h := iteF h g4
    conv => whnf
    refine CutK.go ?_
    conv => whnf
    cases h
    exact Done.of [none] [] rfl rfl ⟨⟨rfl, rfl⟩, ⟨rfl, rfl, trivial⟩, ⟨⟨⟨rfl, rfl⟩, trivial⟩, rfl, trivial⟩, trivial⟩

def impl_FundamentalAt (k : Nat) (a1 : Rw) (a2 : Int) : Option (Rw × Bool) :=
  ((impl_IsOrdinal k a1).bind fun y3 => (if y3 = true then ((impl_isLimit a1).bind fun y6 => (if y6 = true then ((impl_in a2 0 1000).bind fun y9 => (if y9 = true then ((impl_fundamental k a1 a2).bind fun y12 => ((impl_told k y12).bind fun y14 => (if y14.2 = true then some (y14.1, true) else some (y14.1, false)))) else some (([] : Rw), false))) else some (([] : Rw), false))) else some (([] : Rw), false)))
set_option maxHeartbeats 4000000 in
set_option maxRecDepth 100000 in
theorem impl_FundamentalAt_ct {k : Nat} {a1 : Rw} {a2 : Int} {r : Rw × Bool} (h : impl_FundamentalAt k a1 a2 = some r) : Ct prog 11 [.agg [.d (D.sl a1)], .d (D.int .i64 a2)] (⟨[], []⟩) (.tup [.agg [.os 8 r.1.length], .d (D.bool r.2)]) (⟨[], [(77, true, r.1)]⟩) := by
  rw [impl_FundamentalAt] at h
  refine Ct.of (c := _) mixed func11 ⟨rfl, rfl, rfl⟩ ?_ rfl
  conv => whnf
  obtain ⟨y3, e4, h⟩ := bind_ex h
  refine CallOk.of (impl_IsOrdinal_ct e4) ?_
  conv => whnf
  refine spl (fun g5 => ?_) (fun g5 => ?_)
  · replace h := iteT h g5
    conv => whnf
    obtain ⟨y6, e7, h⟩ := bind_ex h
    refine CallOk.of (impl_isLimit_ct e7) ?_
    conv => whnf
    refine spl (fun g8 => ?_) (fun g8 => ?_)
    · replace h := iteT h g8
      conv => whnf
      obtain ⟨y9, e10, h⟩ := bind_ex h
      refine CallOk.of (impl_in_ct e10) ?_
      conv => whnf
      refine spl (fun g11 => ?_) (fun g11 => ?_)
      · replace h := iteT h g11
        conv => whnf
        refine CutK.go ?_
        conv => whnf
        refine CutK.go ?_
        conv => whnf
        obtain ⟨y12, e13, h⟩ := bind_ex h
        refine CallOk.of (impl_fundamental_ct e13) ?_
        conv => whnf
        obtain ⟨y14, e15, h⟩ := bind_ex h
        refine CallOk.of (impl_told_ct e15) ?_
        conv => whnf
        refine spl (fun g16 => ?_) (fun g16 => ?_)
        · replace h := iteT h g16
          conv => whnf
          refine CutK.go ?_
          conv => whnf
          cases h
          exact Done.of [some 1472] [] rfl rfl ⟨⟨rfl, rfl⟩, ⟨rfl, ⟨rfl, rfl, rows_same⟩, trivial⟩, ⟨⟨⟨rfl, rfl⟩, trivial⟩, rfl, trivial⟩, trivial⟩
        · replace h := iteF h g16
          conv => whnf
          refine CutK.go ?_
          conv => whnf
          cases h
          exact Done.of [some 1472] [] rfl rfl ⟨⟨rfl, rfl⟩, ⟨rfl, ⟨rfl, rfl, rows_same⟩, trivial⟩, ⟨⟨⟨rfl, rfl⟩, trivial⟩, rfl, trivial⟩, trivial⟩
      · replace h := iteF h g11
        conv => whnf
        refine CutK.go ?_
        conv => whnf
        cases h
        exact Done.of [none] [] rfl rfl ⟨⟨rfl, rfl⟩, ⟨rfl, rfl, trivial⟩, ⟨⟨⟨rfl, rfl⟩, trivial⟩, rfl, trivial⟩, trivial⟩
    · replace h := iteF h g8
      conv => whnf
      refine CutK.go ?_
      conv => whnf
      cases h
      exact Done.of [none] [] rfl rfl ⟨⟨rfl, rfl⟩, ⟨rfl, rfl, trivial⟩, ⟨⟨⟨rfl, rfl⟩, trivial⟩, rfl, trivial⟩, trivial⟩
  · replace h := iteF h g5
    conv => whnf
    refine CutK.go ?_
    conv => whnf
    cases h
    exact Done.of [none] [] rfl rfl ⟨⟨rfl, rfl⟩, ⟨rfl, rfl, trivial⟩, ⟨⟨⟨rfl, rfl⟩, trivial⟩, rfl, trivial⟩, trivial⟩

def laws_markOrdinalTermS_2_l0 (a1 : Int) (K0 : Option Int) : Nat → Option Int
  | 0 => none
  | n + 1 => (K0)
set_option maxRecDepth 100000 in
theorem laws_markOrdinalTermS_2_l0_ct {a1 : Int} {K0 : Option Int} {r : Int} : ∀ (n : Nat), laws_markOrdinalTermS_2_l0 a1 K0 n = some r → LoopOk prog 0 (lp f47 0) (mk 28 [(0, .d (.sl [])), (1, .d (D.int .i64 a1)), (5, .d (D.int .i64 0))] []) (LoopEnd prog f47 0 28 (.d (D.int .i64 r)) (⟨[], []⟩) (fun i ts os => (i = 0 ∧ K0 = some r ∧ ts = [(1, .d (D.int .i64 a1))] ∧ os = [])))
  | 0, h => by
      rw [laws_markOrdinalTermS_2_l0] at h; cases h
  | n + 1, h => by
      rw [laws_markOrdinalTermS_2_l0] at h
      refine LoopOk.step ?_
      conv => whnf
      refine splD (fun g => absurd g (by decide)) (fun _ => ?_)
      conv => whnf
      exact ⟨_, _, [], [], ⟨rfl, h, rfl, rfl⟩, ⟨⟨rfl, rfl⟩, ⟨rfl, trivial⟩, rfl, trivial⟩⟩
def laws_markOrdinalTermS_2 (k : Nat) (a1 : Int) : Option Int :=
  (laws_markOrdinalTermS_2_l0 a1 (some a1) k)
set_option maxHeartbeats 4000000 in
set_option maxRecDepth 100000 in
theorem laws_markOrdinalTermS_2_ct {k : Nat} {a1 : Int} {r : Int} (h : laws_markOrdinalTermS_2 k a1 = some r) : Ct prog 47 [.d (.sl []), .d (D.int .i64 a1)] (⟨[], []⟩) (.d (D.int .i64 r)) (⟨[], []⟩) := by
  rw [laws_markOrdinalTermS_2] at h
  refine Ct.of (c := _) mixed func47 ⟨rfl, rfl, rfl⟩ ?_ rfl
  conv => whnf
  refine LoopOk.into (laws_markOrdinalTermS_2_l0_ct  _  h) [] [] ⟨⟨rfl, rfl⟩, ⟨rfl, trivial⟩, rfl, rfl, rfl, trivial⟩ ?_ (fun _ hs => hs)
  rintro i ts os ⟨rfl, h, rfl, rfl⟩
  conv => whnf
  refine CutK.go ?_
  conv => whnf
  cases h
  exact Done.of [] [] rfl rfl ⟨⟨rfl, rfl⟩, ⟨rfl, trivial⟩, rfl, trivial⟩

def laws_markOrdinal_2 (k : Nat) (a1 : Int) : Option Int :=
  ((laws_markOrdinalTermS_2 k a1).bind fun y2 => some y2)
set_option maxHeartbeats 4000000 in
set_option maxRecDepth 100000 in
theorem laws_markOrdinal_2_ct {k : Nat} {a1 : Int} {r : Int} (h : laws_markOrdinal_2 k a1 = some r) : Ct prog 13 [.agg [.d (.sl [])], .d (D.int .i64 a1)] (⟨[], []⟩) (.d (D.int .i64 r)) (⟨[], []⟩) := by
  rw [laws_markOrdinal_2] at h
  refine Ct.of (c := _) mixed func13 ⟨rfl, rfl, rfl⟩ ?_ rfl
  conv => whnf
  obtain ⟨y2, e3, h⟩ := bind_ex h
  refine CallOk.of (laws_markOrdinalTermS_2_ct e3) ?_
  conv => whnf
  refine CutK.go ?_
  conv => whnf
  cases h
  exact Done.of [] [] rfl rfl ⟨⟨rfl, rfl⟩, ⟨rfl, trivial⟩, rfl, trivial⟩

def laws_markOrdinalTermS_l0 (rec_laws_markOrdinalTermS : Rw → Int → Option (Int × Rw)) (K0 : Int → Rw → Option (Int × Rw)) : Nat → Rw → Int → Int → Option (Int × Rw)
  | 0, _, _, _ => none
  | n + 1, v15, v16, v17 => (if v17 < (v15.length : Int) then (if 0 ≤ v17 ∧ v17 < (v15.length : Int) then (row_si v15 v17 fun x46 x47 => ((rec_laws_markOrdinalTermS x46 v16).bind fun y50 => (row_si (v15.set ((v17 : Int).toNat) [D.sl y50.2, D.int .i64 x47]) v17 fun x52 x53 => (laws_markOrdinalTermS_l0 rec_laws_markOrdinalTermS K0 n ((v15.set ((v17 : Int).toNat) [D.sl y50.2, D.int .i64 x47]).set ((v17 : Int).toNat) [D.sl x52, D.int .i64 y50.1]) (IntKind.i64.wrap (y50.1 + 1)) (IntKind.i64.wrap (v17 + 1)))))) else none) else (K0 v16 v15))
set_option maxRecDepth 100000 in
theorem laws_markOrdinalTermS_l0_ct {rec_laws_markOrdinalTermS : Rw → Int → Option (Int × Rw)} {K0 : Int → Rw → Option (Int × Rw)} {T : TypeId} (hrec_laws_markOrdinalTermS : ∀ (a1 : Rw) (a2 : Int) (r : Int × Rw), rec_laws_markOrdinalTermS a1 a2 = some r → CtM prog 47 false [.int .i64 a2] a1 (.int .i64 r.1) r.2) {r : Int × Rw} : ∀ (n : Nat) (v15 : Rw) (v16 : Int) (v17 : Int), laws_markOrdinalTermS_l0 rec_laws_markOrdinalTermS K0 n v15 v16 v17 = some r → LoopOk prog 1 (lp f47 0) (mk 28 [(0, .os 0 v15.length), (1, .d (D.int .i64 v16)), (5, .d (D.int .i64 v17))] [(0, .arr T true v15)]) (LoopEndM 1 28 (fun i ts os => (i = 0 ∧ ∃ v30 : Int, ∃ v31 : Rw, K0 v30 v31 = some r ∧ ts = [(1, .d (D.int .i64 v30))] ∧ os = [(0, .arr T true v31)])))
  | 0, _, _, _, h => by
      rw [laws_markOrdinalTermS_l0] at h; cases h
  | n + 1, v15, v16, v17, h => by
      rw [laws_markOrdinalTermS_l0] at h
      refine LoopOk.step ?_
      conv => whnf
      refine splD (fun g44 => ?_) (fun g44 => ?_)
      · replace h := iteP h g44
        conv => whnf
        obtain ⟨g45, h⟩ := req_ex h
        refine Req.of g45 ?_
        conv => whnf
        obtain ⟨g49, x46, x47, e48, h⟩ := row_si_ex h
        refine Row.of _ e48 ?_
        conv => whnf
        obtain ⟨y50, e51, h⟩ := bind_ex h
        refine MarkOk.of (hrec_laws_markOrdinalTermS _ _ _ e51) ?_
        conv => whnf
        refine CutK.go ?_
        conv => whnf
        refine Req.of g45 ?_
        conv => whnf
        obtain ⟨g55, x52, x53, e54, h⟩ := row_si_ex h
        refine Row.of _ e54 ?_
        conv => whnf
        refine CutK.go ?_
        conv => whnf
        exact LoopOk.back (laws_markOrdinalTermS_l0_ct hrec_laws_markOrdinalTermS n _ _ _ h) [some 0] [] ⟨⟨rfl, rfl⟩, ⟨rfl, ⟨rfl, rfl, rows_same⟩, trivial⟩, ⟨(by first | rfl | exact List.length_append.symm | (simp; done) | omega), rfl⟩, rfl, rfl, trivial⟩
      · replace h := iteN h g44
        conv => whnf
        exact ⟨_, _, [some 0], [], ⟨rfl, _, _, h, rfl, rfl⟩, ⟨⟨rfl, rfl⟩, ⟨rfl, ⟨rfl, rfl, rows_same⟩, trivial⟩, rfl, trivial⟩⟩
def laws_markOrdinalTermS_b (k : Nat) (rec_laws_markOrdinalTermS : Rw → Int → Option (Int × Rw)) (a1 : Rw) (a2 : Int) : Option (Int × Rw) :=
  (if a1.isEmpty = true then ((laws_markOrdinalTermS_2 k a2).bind fun y => some (y, ([] : Rw))) else (laws_markOrdinalTermS_l0 rec_laws_markOrdinalTermS (fun (v30 : Int) (v31 : Rw) => (if v31.length = a1.length then some (v30, v31) else none)) k a1 a2 0))
set_option maxHeartbeats 4000000 in
set_option maxRecDepth 100000 in
theorem laws_markOrdinalTermS_b_ct {k : Nat} {rec_laws_markOrdinalTermS : Rw → Int → Option (Int × Rw)} (hrec_laws_markOrdinalTermS : ∀ (a1 : Rw) (a2 : Int) (r : Int × Rw), rec_laws_markOrdinalTermS a1 a2 = some r → CtM prog 47 false [.int .i64 a2] a1 (.int .i64 r.1) r.2) {a1 : Rw} {a2 : Int} {r : Int × Rw} (h : laws_markOrdinalTermS_b k rec_laws_markOrdinalTermS a1 a2 = some r) : CtM prog 47 false [.int .i64 a2] a1 (.int .i64 r.1) r.2 := by
  rw [laws_markOrdinalTermS_b] at h
  refine CtM.of (c := _) mixed func47 ⟨rfl, rfl, rfl⟩ rfl (fun hne T => ?_) (fun h0 => ?_)
  · replace h := iteF h (by cases a1 with | nil => exact absurd rfl hne | cons _ _ => rfl)
    conv => whnf
    refine LoopOk.intoM (laws_markOrdinalTermS_l0_ct hrec_laws_markOrdinalTermS _ _ _ _ h) [some 0] [] ⟨⟨rfl, rfl⟩, ⟨rfl, ⟨rfl, rfl, rows_same⟩, trivial⟩, ⟨rfl, rfl⟩, rfl, rfl, trivial⟩ ?_
    rintro i ts os ⟨rfl, v30, v31, h, rfl, rfl⟩
    conv => whnf
    refine CutK.go ?_
    conv => whnf
    obtain ⟨g56, h⟩ := req_ex h
    cases h
    exact DoneM.of [some 0] [] rfl g56 ⟨⟨rfl, rfl⟩, ⟨rfl, ⟨rfl, rfl, rows_same⟩, trivial⟩, rfl, trivial⟩
  · subst h0
    replace h := iteT h rfl
    obtain ⟨y, e, h⟩ := bind_ex h
    cases h
    exact ⟨rfl, laws_markOrdinalTermS_2_ct e⟩
def laws_markOrdinalTermS : Nat → Rw → Int → Option (Int × Rw)
  | 0, _, _ => none
  | k + 1, a1, a2 => laws_markOrdinalTermS_b k (laws_markOrdinalTermS k) a1 a2
theorem laws_markOrdinalTermS_ct' : ∀ (k : Nat) (a1 : Rw) (a2 : Int) (r : Int × Rw), laws_markOrdinalTermS k a1 a2 = some r → CtM prog 47 false [.int .i64 a2] a1 (.int .i64 r.1) r.2
  | 0, _, _, _, h => by rw [laws_markOrdinalTermS] at h; cases h
  | k + 1, _, _, _, h => by rw [laws_markOrdinalTermS] at h; exact laws_markOrdinalTermS_b_ct (laws_markOrdinalTermS_ct' k) h
theorem laws_markOrdinalTermS_ct {k : Nat} {a1 : Rw} {a2 : Int} {r : Int × Rw} (h : laws_markOrdinalTermS k a1 a2 = some r) : CtM prog 47 false [.int .i64 a2] a1 (.int .i64 r.1) r.2 := laws_markOrdinalTermS_ct' k _ _ _ h

def laws_markOrdinal (k : Nat) (a1 : Rw) (a2 : Int) : Option (Int × Rw) :=
  (if a1.isEmpty = true then ((laws_markOrdinal_2 k a2).bind fun y => some (y, ([] : Rw))) else ((laws_markOrdinalTermS k a1 a2).bind fun y3 => (if y3.2.length = a1.length then some (y3.1, y3.2) else none)))
set_option maxHeartbeats 4000000 in
set_option maxRecDepth 100000 in
theorem laws_markOrdinal_ct {k : Nat} {a1 : Rw} {a2 : Int} {r : Int × Rw} (h : laws_markOrdinal k a1 a2 = some r) : CtM prog 13 true [.int .i64 a2] a1 (.int .i64 r.1) r.2 := by
  rw [laws_markOrdinal] at h
  refine CtM.of (c := _) mixed func13 ⟨rfl, rfl, rfl⟩ rfl (fun hne T => ?_) (fun h0 => ?_)
  · replace h := iteF h (by cases a1 with | nil => exact absurd rfl hne | cons _ _ => rfl)
    conv => whnf
    refine Choice.new ?_
    conv => whnf
    refine Req.of (rfl) ?_
    conv => whnf
    obtain ⟨y3, e4, h⟩ := bind_ex h
    refine MarkOk.of (laws_markOrdinalTermS_ct e4) ?_
    conv => whnf
    refine CutK.go ?_
    conv => whnf
    obtain ⟨g5, h⟩ := req_ex h
    cases h
    exact DoneM.of [some 0] [] rfl g5 ⟨⟨rfl, rfl⟩, ⟨rfl, ⟨rfl, rfl, rows_same⟩, trivial⟩, rfl, trivial⟩
  · subst h0
    replace h := iteT h rfl
    obtain ⟨y, e, h⟩ := bind_ex h
    cases h
    exact ⟨rfl, laws_markOrdinal_2_ct e⟩

def spec_odLeft_l0 (rec_spec_odLeft : Rw → Int → Int → Option Int) (a1 : Rw) (a2 : Int) (K0 : Int → Option Int) : Rw → Int → Option Int
  | [], v13 => (K0 v13)
  | cs :: rest, v13 => (cell_si cs fun x34 x35 => (if v13 < (0 : Int) then some (-1) else (if a2 = (0 : Int) then some (-1) else ((rec_spec_odLeft x34 (IntKind.i64.wrap (a2 - 1)) (IntKind.i64.wrap (v13 - 1))).bind fun y39 => (spec_odLeft_l0 rec_spec_odLeft a1 a2 K0 rest y39)))))
set_option maxRecDepth 100000 in
theorem spec_odLeft_l0_ct {rec_spec_odLeft : Rw → Int → Int → Option Int} {a1 : Rw} {a2 : Int} {K0 : Int → Option Int} (hrec_spec_odLeft : ∀ (a1 : Rw) (a2 : Int) (a3 : Int) (r : Int), rec_spec_odLeft a1 a2 a3 = some r → Ct prog 77 [.agg [.d (D.sl a1)], .d (D.int .i64 a2), .d (D.int .i64 a3)] (⟨[], []⟩) (.d (D.int .i64 r)) (⟨[], []⟩)) {r : Int} (hx : a1.length ≤ cap) : ∀ (rest : Rw) (v14n : Nat) (v13 : Int), a1.drop v14n = rest → spec_odLeft_l0 rec_spec_odLeft a1 a2 K0 rest v13 = some r → LoopOk prog 0 (lp f77 0) (mk 33 [(1, .d (D.int .i64 a2)), (2, .d (D.int .i64 v13)), (12, .d (D.sl a1)), (13, .d (D.int .i64 (a1.length : Int))), (14, .d (D.int .i64 (v14n : Int)))] []) (LoopEnd prog f77 0 33 (.d (D.int .i64 r)) (⟨[], []⟩) (fun i ts os => (i = 0 ∧ ∃ v24 : Int, K0 v24 = some r ∧ ts = [(2, .d (D.int .i64 v24))] ∧ os = [])))
  | [], v14n, v13, hd, h => by
      rw [spec_odLeft_l0] at h
      have hn := drop_nil hd
      refine LoopOk.step ?_
      conv => whnf
      refine splD (fun g => absurd g hn) (fun _ => ?_)
      conv => whnf
      exact ⟨_, _, [], [], ⟨rfl, _, h, rfl, rfl⟩, ⟨⟨rfl, rfl⟩, ⟨rfl, trivial⟩, rfl, trivial⟩⟩
  | cs :: rest, v14n, v13, hd, h => by
      rw [spec_odLeft_l0] at h
      obtain ⟨hrow, hd1, hlt⟩ := drop_cons hd
      refine LoopOk.step ?_
      conv => whnf
      refine splD (fun _ => ?_) (fun g => absurd hlt g)
      conv => whnf
      obtain ⟨x34, x35, e36, h⟩ := cell_si_ex h
      rw [e36] at hrow
      refine Req.of (Int.natCast_nonneg _) ?_
      refine Row.of _ hrow ?_
      conv => whnf
      refine splD (fun g37 => ?_) (fun g37 => ?_)
      · replace h := iteP h g37
        conv => whnf
        cases h
        exact Done.of [] [] rfl rfl ⟨⟨rfl, rfl⟩, ⟨rfl, trivial⟩, rfl, trivial⟩
      · replace h := iteN h g37
        conv => whnf
        refine splD (fun g38 => ?_) (fun g38 => ?_)
        · replace h := iteP h g38
          conv => whnf
          cases h
          exact Done.of [] [] rfl rfl ⟨⟨rfl, rfl⟩, ⟨rfl, trivial⟩, rfl, trivial⟩
        · replace h := iteN h g38
          conv => whnf
          obtain ⟨y39, e40, h⟩ := bind_ex h
          refine CallOk.of (hrec_spec_odLeft _ _ _ _ e40) ?_
          conv => whnf
          refine CutK.norm [1, 2, 12, 13, 14] [] ?_
          conv => whnf
          exact LoopOk.back (spec_odLeft_l0_ct hrec_spec_odLeft hx rest (v14n + 1) _ hd1 h) [] [] ⟨⟨rfl, rfl⟩, ⟨rfl, trivial⟩, rfl, rfl, rfl, rfl, i64eq (wrap_up hlt hx), trivial⟩
def spec_odLeft_b (rec_spec_odLeft : Rw → Int → Int → Option Int) (a1 : Rw) (a2 : Int) (a3 : Int) : Option Int :=
  (if a1.length ≤ cap then (spec_odLeft_l0 rec_spec_odLeft a1 a2 (fun (v24 : Int) => some v24) a1 (IntKind.i64.wrap (a3 - 1))) else none)
set_option maxHeartbeats 4000000 in
set_option maxRecDepth 100000 in
theorem spec_odLeft_b_ct {rec_spec_odLeft : Rw → Int → Int → Option Int} (hrec_spec_odLeft : ∀ (a1 : Rw) (a2 : Int) (a3 : Int) (r : Int), rec_spec_odLeft a1 a2 a3 = some r → Ct prog 77 [.agg [.d (D.sl a1)], .d (D.int .i64 a2), .d (D.int .i64 a3)] (⟨[], []⟩) (.d (D.int .i64 r)) (⟨[], []⟩)) {a1 : Rw} {a2 : Int} {a3 : Int} {r : Int} (h : spec_odLeft_b rec_spec_odLeft a1 a2 a3 = some r) : Ct prog 77 [.agg [.d (D.sl a1)], .d (D.int .i64 a2), .d (D.int .i64 a3)] (⟨[], []⟩) (.d (D.int .i64 r)) (⟨[], []⟩) := by
  rw [spec_odLeft_b] at h
  refine Ct.of (c := _) mixed func77 ⟨rfl, rfl, rfl⟩ ?_ rfl
  conv => whnf
  obtain ⟨g41, h⟩ := req_ex h
  refine LoopOk.into (spec_odLeft_l0_ct hrec_spec_odLeft g41 _ _ _ rfl h) [] [] ⟨⟨rfl, rfl⟩, ⟨rfl, trivial⟩, rfl, rfl, rfl, rfl, rfl, trivial⟩ ?_ (fun _ hs => hs)
  rintro i ts os ⟨rfl, v24, h, rfl, rfl⟩
  conv => whnf
  refine CutK.norm [2] [] ?_
  conv => whnf
  cases h
  exact Done.of [] [] rfl rfl ⟨⟨rfl, rfl⟩, ⟨rfl, trivial⟩, rfl, trivial⟩
def spec_odLeft : Nat → Rw → Int → Int → Option Int
  | 0, _, _, _ => none
  | k + 1, a1, a2, a3 => spec_odLeft_b (spec_odLeft k) a1 a2 a3
theorem spec_odLeft_ct' : ∀ (k : Nat) (a1 : Rw) (a2 : Int) (a3 : Int) (r : Int), spec_odLeft k a1 a2 a3 = some r → Ct prog 77 [.agg [.d (D.sl a1)], .d (D.int .i64 a2), .d (D.int .i64 a3)] (⟨[], []⟩) (.d (D.int .i64 r)) (⟨[], []⟩)
  | 0, _, _, _, _, h => by rw [spec_odLeft] at h; cases h
  | k + 1, _, _, _, _, h => by rw [spec_odLeft] at h; exact spec_odLeft_b_ct (spec_odLeft_ct' k) h
theorem spec_odLeft_ct {k : Nat} {a1 : Rw} {a2 : Int} {a3 : Int} {r : Int} (h : spec_odLeft k a1 a2 a3 = some r) : Ct prog 77 [.agg [.d (D.sl a1)], .d (D.int .i64 a2), .d (D.int .i64 a3)] (⟨[], []⟩) (.d (D.int .i64 r)) (⟨[], []⟩) := spec_odLeft_ct' k _ _ _ _ h

def spec_l1In  (a1 : Int) (a2 : Int) (a3 : Int) : Option Bool :=
  (if a2 ≤ a1 then (if a1 ≤ a3 then some true else some false) else some false)
set_option maxHeartbeats 4000000 in
set_option maxRecDepth 100000 in
theorem spec_l1In_ct  {a1 : Int} {a2 : Int} {a3 : Int} {r : Bool} (h : spec_l1In a1 a2 a3 = some r) : Ct prog 37 [.d (D.int .i64 a1), .d (D.int .i64 a2), .d (D.int .i64 a3)] (⟨[], []⟩) (.d (D.bool r)) (⟨[], []⟩) := by
  rw [spec_l1In] at h
  refine Ct.of (c := _) mixed func37 ⟨rfl, rfl, rfl⟩ ?_ rfl
  conv => whnf
  refine splD (fun g4 => ?_) (fun g4 => ?_)
  · replace h := iteP h g4
    conv => whnf
    refine splD (fun g5 => ?_) (fun g5 => ?_)
    · replace h := iteP h g5
      conv => whnf
      cases h
      exact Done.of [] [] rfl rfl ⟨⟨rfl, rfl⟩, ⟨rfl, trivial⟩, rfl, trivial⟩
    · replace h := iteN h g5
      conv => whnf
      cases h
      exact Done.of [] [] rfl rfl ⟨⟨rfl, rfl⟩, ⟨rfl, trivial⟩, rfl, trivial⟩
  · replace h := iteN h g4
    conv => whnf
    cases h
    exact Done.of [] [] rfl rfl ⟨⟨rfl, rfl⟩, ⟨rfl, trivial⟩, rfl, trivial⟩

def spec_l1Sign  (a1 : Int) : Option Int :=
  (if (0 : Int) < a1 then some 1 else (if a1 < (0 : Int) then some (-1) else some 0))
set_option maxHeartbeats 4000000 in
set_option maxRecDepth 100000 in
theorem spec_l1Sign_ct  {a1 : Int} {r : Int} (h : spec_l1Sign a1 = some r) : Ct prog 107 [.d (D.int .i64 a1)] (⟨[], []⟩) (.d (D.int .i64 r)) (⟨[], []⟩) := by
  rw [spec_l1Sign] at h
  refine Ct.of (c := _) mixed func107 ⟨rfl, rfl, rfl⟩ ?_ rfl
  conv => whnf
  refine splD (fun g2 => ?_) (fun g2 => ?_)
  · replace h := iteP h g2
    conv => whnf
    cases h
    exact Done.of [] [] rfl rfl ⟨⟨rfl, rfl⟩, ⟨rfl, trivial⟩, rfl, trivial⟩
  · replace h := iteN h g2
    conv => whnf
    refine splD (fun g3 => ?_) (fun g3 => ?_)
    · replace h := iteP h g3
      conv => whnf
      cases h
      exact Done.of [] [] rfl rfl ⟨⟨rfl, rfl⟩, ⟨rfl, trivial⟩, rfl, trivial⟩
    · replace h := iteN h g3
      conv => whnf
      cases h
      exact Done.of [] [] rfl rfl ⟨⟨rfl, rfl⟩, ⟨rfl, trivial⟩, rfl, trivial⟩

def spec_odCmp_p2 (a1 : Rw) (a2 : Rw) : Option Int :=
  (if (a1.length : Int) < (a2.length : Int) then some (-1) else some 0)
set_option maxHeartbeats 4000000 in
set_option maxRecDepth 100000 in
theorem spec_odCmp_p2_ct {a1 : Rw} {a2 : Rw} {r : Int} (h : spec_odCmp_p2 a1 a2 = some r) : X prog 0 (tlF f97 2) (mk 60 [(2, .ptr 128 0), (3, .ptr 192 0)] [(128, .box 28 [.d (D.sl a1)]), (192, .box 28 [.d (D.sl a2)])]) (finK prog f97 0 (.d (D.int .i64 r)) (⟨[], []⟩)) := by
  rw [spec_odCmp_p2] at h
  conv => whnf
  refine splD (fun g37 => ?_) (fun g37 => ?_)
  · replace h := iteP h g37
    conv => whnf
    cases h
    exact Done.of [] [] rfl rfl ⟨⟨rfl, rfl⟩, ⟨rfl, trivial⟩, rfl, trivial⟩
  · replace h := iteN h g37
    conv => whnf
    cases h
    exact Done.of [] [] rfl rfl ⟨⟨rfl, rfl⟩, ⟨rfl, trivial⟩, rfl, trivial⟩
def spec_odCmp_l0 (rec_spec_odCmp : Rw → Rw → Option Int) (a1 : Rw) (a2 : Rw) (K0 : Option Int) : Rw → Nat → Option Int
  | [], v54n => (K0)
  | cs :: rest, v54n => (cell_si cs fun x71 x72 => (if (v54n : Int) = (a2.length : Int) then some 1 else (row_si a2 (v54n : Int) fun x75 x76 => ((rec_spec_odCmp x71 x75).bind fun y79 => (if y79 = (0 : Int) then (if x72 = x76 then (spec_odCmp_l0 rec_spec_odCmp a1 a2 K0 rest (v54n + 1)) else ((spec_l1Sign (IntKind.i64.wrap (x72 - x76))).bind fun y83 => some y83)) else some y79)))))
set_option maxRecDepth 100000 in
theorem spec_odCmp_l0_ct {rec_spec_odCmp : Rw → Rw → Option Int} {a1 : Rw} {a2 : Rw} {K0 : Option Int} (hrec_spec_odCmp : ∀ (a1 : Rw) (a2 : Rw) (r : Int), rec_spec_odCmp a1 a2 = some r → Ct prog 97 [.agg [.d (D.sl a1)], .agg [.d (D.sl a2)]] (⟨[], []⟩) (.d (D.int .i64 r)) (⟨[], []⟩)) {r : Int} (hx : a1.length ≤ cap) : ∀ (rest : Rw) (v54n : Nat), a1.drop v54n = rest → spec_odCmp_l0 rec_spec_odCmp a1 a2 K0 rest v54n = some r → LoopOk prog 0 (lp f97 0) (mk 60 [(2, .ptr 128 0), (3, .ptr 192 0), (9, .d (D.sl a1)), (10, .d (D.int .i64 (a1.length : Int))), (11, .d (D.int .i64 (v54n : Int)))] [(128, .box 28 [.d (D.sl a1)]), (192, .box 28 [.d (D.sl a2)])]) (LoopEnd prog f97 0 60 (.d (D.int .i64 r)) (⟨[], []⟩) (fun i ts os => (i = 0 ∧ K0 = some r ∧ ts = [(2, .ptr 128 0), (3, .ptr 192 0)] ∧ os = [(128, .box 28 [.d (D.sl a1)]), (192, .box 28 [.d (D.sl a2)])])))
  | [], v54n, hd, h => by
      rw [spec_odCmp_l0] at h
      have hn := drop_nil hd
      refine LoopOk.step ?_
      conv => whnf
      refine splD (fun g => absurd g hn) (fun _ => ?_)
      conv => whnf
      exact ⟨_, _, [some 128, some 192], [], ⟨rfl, h, rfl, rfl⟩, ⟨⟨rfl, rfl⟩, ⟨rfl, ⟨rfl, rfl, trivial⟩, ⟨rfl, rfl, trivial⟩, trivial⟩, ⟨rfl, rfl⟩, ⟨rfl, rfl⟩, trivial⟩⟩
  | cs :: rest, v54n, hd, h => by
      rw [spec_odCmp_l0] at h
      obtain ⟨hrow, hd1, hlt⟩ := drop_cons hd
      refine LoopOk.step ?_
      conv => whnf
      refine splD (fun _ => ?_) (fun g => absurd hlt g)
      conv => whnf
      obtain ⟨x71, x72, e73, h⟩ := cell_si_ex h
      rw [e73] at hrow
      refine Req.of (Int.natCast_nonneg _) ?_
      refine Row.of _ hrow ?_
      conv => whnf
      refine splD (fun g74 => ?_) (fun g74 => ?_)
      · replace h := iteP h g74
        conv => whnf
        cases h
        exact Done.of [] [] rfl rfl ⟨⟨rfl, rfl⟩, ⟨rfl, trivial⟩, rfl, trivial⟩
      · replace h := iteN h g74
        conv => whnf
        obtain ⟨g78, x75, x76, e77, h⟩ := row_si_ex h
        refine Req.of g78 ?_
        refine Row.of _ e77 ?_
        conv => whnf
        obtain ⟨y79, e80, h⟩ := bind_ex h
        refine CallOk.of (hrec_spec_odCmp _ _ _ e80) ?_
        conv => whnf
        refine CutK.norm [2, 3, 5, 6, 7, 9, 10, 11] [128, 192, 384] ?_
        conv => whnf
        refine splN (fun g81 => ?_) (fun g81 => ?_)
        · replace h := iteN h g81
          conv => whnf
          cases h
          exact Done.of [] [] rfl rfl ⟨⟨rfl, rfl⟩, ⟨rfl, trivial⟩, rfl, trivial⟩
        · replace h := iteP h g81
          conv => whnf
          refine CutK.norm [2, 3, 5, 6, 9, 10, 11] [128, 192, 384] ?_
          conv => whnf
          refine Req.of g78 ?_
          refine Row.of _ e77 ?_
          conv => whnf
          refine splN (fun g82 => ?_) (fun g82 => ?_)
          · replace h := iteN h g82
            conv => whnf
            refine Req.of g78 ?_
            refine Row.of _ e77 ?_
            conv => whnf
            obtain ⟨y83, e84, h⟩ := bind_ex h
            refine CallOk.of (spec_l1Sign_ct e84) ?_
            conv => whnf
            refine CutK.norm [4] [] ?_
            conv => whnf
            cases h
            exact Done.of [] [] rfl rfl ⟨⟨rfl, rfl⟩, ⟨rfl, trivial⟩, rfl, trivial⟩
          · replace h := iteP h g82
            conv => whnf
            refine CutK.norm [2, 3, 9, 10, 11] [128, 192] ?_
            conv => whnf
            exact LoopOk.back (spec_odCmp_l0_ct hrec_spec_odCmp hx rest (v54n + 1)  hd1 h) [some 128, some 192] [] ⟨⟨rfl, rfl⟩, ⟨rfl, ⟨rfl, rfl, trivial⟩, ⟨rfl, rfl, trivial⟩, trivial⟩, ⟨rfl, rfl⟩, ⟨rfl, rfl⟩, rfl, rfl, i64eq (wrap_up hlt hx), trivial⟩
def spec_odCmp_b (rec_spec_odCmp : Rw → Rw → Option Int) (a1 : Rw) (a2 : Rw) : Option Int :=
  (if a1.length ≤ cap then (spec_odCmp_l0 rec_spec_odCmp a1 a2 (spec_odCmp_p2 a1 a2) a1 0) else none)
set_option maxHeartbeats 4000000 in
set_option maxRecDepth 100000 in
theorem spec_odCmp_b_ct {rec_spec_odCmp : Rw → Rw → Option Int} (hrec_spec_odCmp : ∀ (a1 : Rw) (a2 : Rw) (r : Int), rec_spec_odCmp a1 a2 = some r → Ct prog 97 [.agg [.d (D.sl a1)], .agg [.d (D.sl a2)]] (⟨[], []⟩) (.d (D.int .i64 r)) (⟨[], []⟩)) {a1 : Rw} {a2 : Rw} {r : Int} (h : spec_odCmp_b rec_spec_odCmp a1 a2 = some r) : Ct prog 97 [.agg [.d (D.sl a1)], .agg [.d (D.sl a2)]] (⟨[], []⟩) (.d (D.int .i64 r)) (⟨[], []⟩) := by
  rw [spec_odCmp_b] at h
  refine Ct.of (c := _) mixed func97 ⟨rfl, rfl, rfl⟩ ?_ rfl
  conv => whnf
  obtain ⟨g85, h⟩ := req_ex h
  refine LoopOk.into (spec_odCmp_l0_ct hrec_spec_odCmp g85 _ _  rfl h) [some 128, some 192] [] ⟨⟨rfl, rfl⟩, ⟨rfl, ⟨rfl, rfl, trivial⟩, ⟨rfl, rfl, trivial⟩, trivial⟩, ⟨rfl, rfl⟩, ⟨rfl, rfl⟩, rfl, rfl, rfl, trivial⟩ ?_ (fun _ hs => hs)
  rintro i ts os ⟨rfl, h, rfl, rfl⟩
  conv => whnf
  exact CutK.piece (spec_odCmp_p2_ct  h) [some 128, some 192] [] ⟨⟨rfl, rfl⟩, ⟨rfl, ⟨rfl, rfl, trivial⟩, ⟨rfl, rfl, trivial⟩, trivial⟩, ⟨rfl, rfl⟩, ⟨rfl, rfl⟩, trivial⟩
def spec_odCmp : Nat → Rw → Rw → Option Int
  | 0, _, _ => none
  | k + 1, a1, a2 => spec_odCmp_b (spec_odCmp k) a1 a2
theorem spec_odCmp_ct' : ∀ (k : Nat) (a1 : Rw) (a2 : Rw) (r : Int), spec_odCmp k a1 a2 = some r → Ct prog 97 [.agg [.d (D.sl a1)], .agg [.d (D.sl a2)]] (⟨[], []⟩) (.d (D.int .i64 r)) (⟨[], []⟩)
  | 0, _, _, _, h => by rw [spec_odCmp] at h; cases h
  | k + 1, _, _, _, h => by rw [spec_odCmp] at h; exact spec_odCmp_b_ct (spec_odCmp_ct' k) h
theorem spec_odCmp_ct {k : Nat} {a1 : Rw} {a2 : Rw} {r : Int} (h : spec_odCmp k a1 a2 = some r) : Ct prog 97 [.agg [.d (D.sl a1)], .agg [.d (D.sl a2)]] (⟨[], []⟩) (.d (D.int .i64 r)) (⟨[], []⟩) := spec_odCmp_ct' k _ _ _ h

def spec_odForm_p3  : Option Bool :=
  some true
set_option maxHeartbeats 4000000 in
set_option maxRecDepth 100000 in
theorem spec_odForm_p3_ct  {r : Bool} (h : spec_odForm_p3 = some r) : X prog 0 (tlF f78 3) (mk 47 [] []) (finK prog f78 0 (.d (D.bool r)) (⟨[], []⟩)) := by
  rw [spec_odForm_p3] at h
  conv => whnf
  cases h
  exact Done.of [] [] rfl rfl ⟨⟨rfl, rfl⟩, ⟨rfl, trivial⟩, rfl, trivial⟩
def spec_odForm_l0 (k : Nat) (rec_spec_odForm : Rw → Int → Option Bool) (a1 : Rw) (a2 : Int) (K0 : Option Bool) : Rw → Nat → Option Bool
  | [], v47n => (K0)
  | cs :: rest, v47n => (cell_si cs fun x67 x68 => ((spec_l1In x68 1 1000000).bind fun y70 => (if y70 = true then ((rec_spec_odForm x67 (IntKind.i64.wrap (a2 - 1))).bind fun y73 => (if y73 = true then (if (0 : Int) < (v47n : Int) then (row_si a1 (IntKind.i64.wrap ((v47n : Int) - 1)) fun x77 x78 => ((spec_odCmp k x77 x67).bind fun y81 => (if y81 ≤ (0 : Int) then some false else (spec_odForm_l0 k rec_spec_odForm a1 a2 K0 rest (v47n + 1))))) else (spec_odForm_l0 k rec_spec_odForm a1 a2 K0 rest (v47n + 1))) else some false)) else some false)))
set_option maxRecDepth 100000 in
theorem spec_odForm_l0_ct {k : Nat} {rec_spec_odForm : Rw → Int → Option Bool} {a1 : Rw} {a2 : Int} {K0 : Option Bool} (hrec_spec_odForm : ∀ (a1 : Rw) (a2 : Int) (r : Bool), rec_spec_odForm a1 a2 = some r → Ct prog 78 [.agg [.d (D.sl a1)], .d (D.int .i64 a2)] (⟨[], []⟩) (.d (D.bool r)) (⟨[], []⟩)) {r : Bool} (hx : a1.length ≤ cap) : ∀ (rest : Rw) (v47n : Nat), a1.drop v47n = rest → spec_odForm_l0 k rec_spec_odForm a1 a2 K0 rest v47n = some r → LoopOk prog 0 (lp f78 0) (mk 47 [(1, .d (D.int .i64 a2)), (2, .ptr 128 0), (10, .d (D.sl a1)), (11, .d (D.int .i64 (a1.length : Int))), (12, .d (D.int .i64 (v47n : Int)))] [(128, .box 28 [.d (D.sl a1)])]) (LoopEnd prog f78 0 47 (.d (D.bool r)) (⟨[], []⟩) (fun i ts os => (i = 0 ∧ K0 = some r ∧ ts = [] ∧ os = [])))
  | [], v47n, hd, h => by
      rw [spec_odForm_l0] at h
      have hn := drop_nil hd
      refine LoopOk.step ?_
      conv => whnf
      refine splD (fun g => absurd g hn) (fun _ => ?_)
      conv => whnf
      exact ⟨_, _, [], [], ⟨rfl, h, rfl, rfl⟩, ⟨⟨rfl, rfl⟩, ⟨rfl, trivial⟩, trivial⟩⟩
  | cs :: rest, v47n, hd, h => by
      rw [spec_odForm_l0] at h
      obtain ⟨hrow, hd1, hlt⟩ := drop_cons hd
      refine LoopOk.step ?_
      conv => whnf
      refine splD (fun _ => ?_) (fun g => absurd hlt g)
      conv => whnf
      obtain ⟨x67, x68, e69, h⟩ := cell_si_ex h
      rw [e69] at hrow
      refine Req.of (Int.natCast_nonneg _) ?_
      refine Row.of _ hrow ?_
      conv => whnf
      obtain ⟨y70, e71, h⟩ := bind_ex h
      refine CallOk.of (spec_l1In_ct e71) ?_
      conv => whnf
      refine spl (fun g72 => ?_) (fun g72 => ?_)
      · replace h := iteT h g72
        conv => whnf
        obtain ⟨y73, e74, h⟩ := bind_ex h
        refine CallOk.of (hrec_spec_odForm _ _ _ e74) ?_
        conv => whnf
        refine spl (fun g75 => ?_) (fun g75 => ?_)
        · replace h := iteT h g75
          conv => whnf
          refine splD (fun g76 => ?_) (fun g76 => ?_)
          · replace h := iteP h g76
            conv => whnf
            obtain ⟨g80, x77, x78, e79, h⟩ := row_si_ex h
            refine Req.of g80 ?_
            refine Row.of _ e79 ?_
            conv => whnf
            obtain ⟨y81, e82, h⟩ := bind_ex h
            refine CallOk.of (spec_odCmp_ct e82) ?_
            conv => whnf
            refine splD (fun g83 => ?_) (fun g83 => ?_)
            · replace h := iteP h g83
              conv => whnf
              refine CutK.norm [1, 2, 10, 11, 12, 45] [128] ?_
              conv => whnf
              cases h
              exact Done.of [] [] rfl rfl ⟨⟨rfl, rfl⟩, ⟨rfl, trivial⟩, rfl, trivial⟩
            · replace h := iteN h g83
              conv => whnf
              refine CutK.norm [1, 2, 10, 11, 12, 45] [128] ?_
              conv => whnf
              refine CutK.norm [1, 2, 10, 11, 12] [128] ?_
              conv => whnf
              exact LoopOk.back (spec_odForm_l0_ct hrec_spec_odForm hx rest (v47n + 1)  hd1 h) [some 128] [] ⟨⟨rfl, rfl⟩, ⟨rfl, ⟨rfl, rfl, trivial⟩, trivial⟩, rfl, ⟨rfl, rfl⟩, rfl, rfl, i64eq (wrap_up hlt hx), trivial⟩
          · replace h := iteN h g76
            conv => whnf
            refine CutK.norm [1, 2, 10, 11, 12, 45] [128] ?_
            conv => whnf
            refine CutK.norm [1, 2, 10, 11, 12] [128] ?_
            conv => whnf
            exact LoopOk.back (spec_odForm_l0_ct hrec_spec_odForm hx rest (v47n + 1)  hd1 h) [some 128] [] ⟨⟨rfl, rfl⟩, ⟨rfl, ⟨rfl, rfl, trivial⟩, trivial⟩, rfl, ⟨rfl, rfl⟩, rfl, rfl, i64eq (wrap_up hlt hx), trivial⟩
        · replace h := iteF h g75
          conv => whnf
          refine CutK.norm [1, 2, 10, 11, 12, 45] [128] ?_
          conv => whnf
          cases h
          exact Done.of [] [] rfl rfl ⟨⟨rfl, rfl⟩, ⟨rfl, trivial⟩, rfl, trivial⟩
      · replace h := iteF h g72
        conv => whnf
        refine CutK.norm [1, 2, 10, 11, 12, 45] [128] ?_
        conv => whnf
        cases h
        exact Done.of [] [] rfl rfl ⟨⟨rfl, rfl⟩, ⟨rfl, trivial⟩, rfl, trivial⟩
def spec_odForm_b (k : Nat) (rec_spec_odForm : Rw → Int → Option Bool) (a1 : Rw) (a2 : Int) : Option Bool :=
  (if a2 < (0 : Int) then some false else (if a1.length ≤ cap then (spec_odForm_l0 k rec_spec_odForm a1 a2 (spec_odForm_p3) a1 0) else none))
set_option maxHeartbeats 4000000 in
set_option maxRecDepth 100000 in
theorem spec_odForm_b_ct {k : Nat} {rec_spec_odForm : Rw → Int → Option Bool} (hrec_spec_odForm : ∀ (a1 : Rw) (a2 : Int) (r : Bool), rec_spec_odForm a1 a2 = some r → Ct prog 78 [.agg [.d (D.sl a1)], .d (D.int .i64 a2)] (⟨[], []⟩) (.d (D.bool r)) (⟨[], []⟩)) {a1 : Rw} {a2 : Int} {r : Bool} (h : spec_odForm_b k rec_spec_odForm a1 a2 = some r) : Ct prog 78 [.agg [.d (D.sl a1)], .d (D.int .i64 a2)] (⟨[], []⟩) (.d (D.bool r)) (⟨[], []⟩) := by
  rw [spec_odForm_b] at h
  refine Ct.of (c := _) mixed func78 ⟨rfl, rfl, rfl⟩ ?_ rfl
  conv => whnf
  refine splD (fun g35 => ?_) (fun g35 => ?_)
  · replace h := iteP h g35
    conv => whnf
    cases h
    exact Done.of [] [] rfl rfl ⟨⟨rfl, rfl⟩, ⟨rfl, trivial⟩, rfl, trivial⟩
  · replace h := iteN h g35
    conv => whnf
    obtain ⟨g84, h⟩ := req_ex h
    refine LoopOk.into (spec_odForm_l0_ct hrec_spec_odForm g84 _ _  rfl h) [some 128] [] ⟨⟨rfl, rfl⟩, ⟨rfl, ⟨rfl, rfl, trivial⟩, trivial⟩, rfl, ⟨rfl, rfl⟩, rfl, rfl, rfl, trivial⟩ ?_ (fun _ hs => hs)
    rintro i ts os ⟨rfl, h, rfl, rfl⟩
    conv => whnf
    exact CutK.piece (spec_odForm_p3_ct  h) [] [] ⟨⟨rfl, rfl⟩, ⟨rfl, trivial⟩, trivial⟩
def spec_odForm : Nat → Rw → Int → Option Bool
  | 0, _, _ => none
  | k + 1, a1, a2 => spec_odForm_b k (spec_odForm k) a1 a2
theorem spec_odForm_ct' : ∀ (k : Nat) (a1 : Rw) (a2 : Int) (r : Bool), spec_odForm k a1 a2 = some r → Ct prog 78 [.agg [.d (D.sl a1)], .d (D.int .i64 a2)] (⟨[], []⟩) (.d (D.bool r)) (⟨[], []⟩)
  | 0, _, _, _, h => by rw [spec_odForm] at h; cases h
  | k + 1, _, _, _, h => by rw [spec_odForm] at h; exact spec_odForm_b_ct (spec_odForm_ct' k) h
theorem spec_odForm_ct {k : Nat} {a1 : Rw} {a2 : Int} {r : Bool} (h : spec_odForm k a1 a2 = some r) : Ct prog 78 [.agg [.d (D.sl a1)], .d (D.int .i64 a2)] (⟨[], []⟩) (.d (D.bool r)) (⟨[], []⟩) := spec_odForm_ct' k _ _ _ h

def spec_odGood (k : Nat) (a1 : Rw) : Option Bool :=
  ((spec_odLeft k a1 6 60).bind fun y2 => (if (0 : Int) ≤ y2 then ((spec_odForm k a1 6).bind fun y5 => (if y5 = true then some true else some false)) else some false))
set_option maxHeartbeats 4000000 in
set_option maxRecDepth 100000 in
theorem spec_odGood_ct {k : Nat} {a1 : Rw} {r : Bool} (h : spec_odGood k a1 = some r) : Ct prog 35 [.agg [.d (D.sl a1)]] (⟨[], []⟩) (.d (D.bool r)) (⟨[], []⟩) := by
  rw [spec_odGood] at h
  refine Ct.of (c := _) mixed func35 ⟨rfl, rfl, rfl⟩ ?_ rfl
  conv => whnf
  obtain ⟨y2, e3, h⟩ := bind_ex h
  refine CallOk.of (spec_odLeft_ct e3) ?_
  conv => whnf
  refine splD (fun g4 => ?_) (fun g4 => ?_)
  · replace h := iteP h g4
    conv => whnf
    obtain ⟨y5, e6, h⟩ := bind_ex h
    refine CallOk.of (spec_odForm_ct e6) ?_
    conv => whnf
    refine spl (fun g7 => ?_) (fun g7 => ?_)
    · replace h := iteT h g7
      conv => whnf
      refine CutK.go ?_
      conv => whnf
      cases h
      exact Done.of [] [] rfl rfl ⟨⟨rfl, rfl⟩, ⟨rfl, trivial⟩, rfl, trivial⟩
    · replace h := iteF h g7
      conv => whnf
      refine CutK.go ?_
      conv => whnf
      cases h
      exact Done.of [] [] rfl rfl ⟨⟨rfl, rfl⟩, ⟨rfl, trivial⟩, rfl, trivial⟩
  · replace h := iteN h g4
    conv => whnf
    refine CutK.go ?_
    conv => whnf
    cases h
    exact Done.of [] [] rfl rfl ⟨⟨rfl, rfl⟩, ⟨rfl, trivial⟩, rfl, trivial⟩

def spec_odZero  (a1 : Rw) : Option Bool :=
  (if (a1.length : Int) = (0 : Int) then some true else some false)
set_option maxHeartbeats 4000000 in
set_option maxRecDepth 100000 in
theorem spec_odZero_ct  {a1 : Rw} {r : Bool} (h : spec_odZero a1 = some r) : Ct prog 55 [.agg [.d (D.sl a1)]] (⟨[], []⟩) (.d (D.bool r)) (⟨[], []⟩) := by
  rw [spec_odZero] at h
  refine Ct.of (c := _) mixed func55 ⟨rfl, rfl, rfl⟩ ?_ rfl
  conv => whnf
  refine splD (fun g2 => ?_) (fun g2 => ?_)
  · replace h := iteP h g2
    conv => whnf
    cases h
    exact Done.of [] [] rfl rfl ⟨⟨rfl, rfl⟩, ⟨rfl, trivial⟩, rfl, trivial⟩
  · replace h := iteN h g2
    conv => whnf
    cases h
    exact Done.of [] [] rfl rfl ⟨⟨rfl, rfl⟩, ⟨rfl, trivial⟩, rfl, trivial⟩

def spec_odFinite  (a1 : Rw) : Option (Int × Rw) :=
  (if (0 : Int) ≤ (IntKind.i64.wrap ((a1.length : Int) - 1)) then (row_si a1 (IntKind.i64.wrap ((a1.length : Int) - 1)) fun x3 x4 => ((spec_odZero x3).bind fun y7 => (if y7 = true then (if 0 ≤ (IntKind.i64.wrap ((a1.length : Int) - 1)) ∧ (IntKind.i64.wrap ((a1.length : Int) - 1)) ≤ (a1.length : Int) ∧ (∀ cs ∈ a1, cs.length = 2) then some (x4, a1.take (IntKind.i64.wrap ((a1.length : Int) - 1) : Int).toNat) else none) else some (0, a1)))) else some (0, a1))
set_option maxHeartbeats 4000000 in
set_option maxRecDepth 100000 in
theorem spec_odFinite_ct  {a1 : Rw} {r : Int × Rw} (h : spec_odFinite a1 = some r) : Ct prog 79 [.agg [.d (D.sl a1)]] (⟨[], []⟩) (.tup [.d (D.int .i64 r.1), .agg [.d (D.sl r.2)]]) (⟨[], []⟩) := by
  rw [spec_odFinite] at h
  refine Ct.of (c := _) mixed func79 ⟨rfl, rfl, rfl⟩ ?_ rfl
  conv => whnf
  refine splD (fun g2 => ?_) (fun g2 => ?_)
  · replace h := iteP h g2
    conv => whnf
    obtain ⟨g6, x3, x4, e5, h⟩ := row_si_ex h
    refine Req.of g6 ?_
    refine Row.of _ e5 ?_
    conv => whnf
    obtain ⟨y7, e8, h⟩ := bind_ex h
    refine CallOk.of (spec_odZero_ct e8) ?_
    conv => whnf
    refine spl (fun g9 => ?_) (fun g9 => ?_)
    · replace h := iteT h g9
      conv => whnf
      refine CutK.norm [1, 3, 4, 19] [64, 192] ?_
      conv => whnf
      refine Req.of g6 ?_
      refine Row.of _ e5 ?_
      conv => whnf
      obtain ⟨g10, h⟩ := req_ex h
      refine Req.of g10 ?_
      conv => whnf
      cases h
      exact Done.of [] [] rfl rfl ⟨⟨rfl, rfl⟩, ⟨rfl, trivial⟩, ⟨rfl, ⟨rfl, trivial⟩, trivial⟩, trivial⟩
    · replace h := iteF h g9
      conv => whnf
      refine CutK.norm [1, 3, 4, 19] [64, 192] ?_
      conv => whnf
      refine CutK.norm [1, 3] [64, 192] ?_
      conv => whnf
      cases h
      exact Done.of [] [] rfl rfl ⟨⟨rfl, rfl⟩, ⟨rfl, trivial⟩, ⟨rfl, ⟨rfl, trivial⟩, trivial⟩, trivial⟩
  · replace h := iteN h g2
    conv => whnf
    refine CutK.norm [1, 3, 4, 19] [64, 192] ?_
    conv => whnf
    refine CutK.norm [1, 3] [64, 192] ?_
    conv => whnf
    cases h
    exact Done.of [] [] rfl rfl ⟨⟨rfl, rfl⟩, ⟨rfl, trivial⟩, ⟨rfl, ⟨rfl, trivial⟩, trivial⟩, trivial⟩

def spec_odLimit  (a1 : Rw) : Option Bool :=
  ((spec_odFinite a1).bind fun y2 => ((spec_odZero a1).bind fun y4 => (if y4 = true then some false else (if y2.1 = (0 : Int) then some true else some false))))
set_option maxHeartbeats 4000000 in
set_option maxRecDepth 100000 in
theorem spec_odLimit_ct  {a1 : Rw} {r : Bool} (h : spec_odLimit a1 = some r) : Ct prog 36 [.agg [.d (D.sl a1)]] (⟨[], []⟩) (.d (D.bool r)) (⟨[], []⟩) := by
  rw [spec_odLimit] at h
  refine Ct.of (c := _) mixed func36 ⟨rfl, rfl, rfl⟩ ?_ rfl
  conv => whnf
  obtain ⟨y2, e3, h⟩ := bind_ex h
  refine CallOk.of (spec_odFinite_ct e3) ?_
  conv => whnf
  refine CutK.go ?_
  conv => whnf
  obtain ⟨y4, e5, h⟩ := bind_ex h
  refine CallOk.of (spec_odZero_ct e5) ?_
  conv => whnf
  refine spl (fun g6 => ?_) (fun g6 => ?_)
  · replace h := iteT h g6
    conv => whnf
    refine CutK.go ?_
    conv => whnf
    cases h
    exact Done.of [] [] rfl rfl ⟨⟨rfl, rfl⟩, ⟨rfl, trivial⟩, rfl, trivial⟩
  · replace h := iteF h g6
    conv => whnf
    refine splD (fun g7 => ?_) (fun g7 => ?_)
    · replace h := iteP h g7
      conv => whnf
      refine CutK.go ?_
      conv => whnf
      cases h
      exact Done.of [] [] rfl rfl ⟨⟨rfl, rfl⟩, ⟨rfl, trivial⟩, rfl, trivial⟩
    · replace h := iteN h g7
      conv => whnf
      refine CutK.go ?_
      conv => whnf
      cases h
      exact Done.of [] [] rfl rfl ⟨⟨rfl, rfl⟩, ⟨rfl, trivial⟩, rfl, trivial⟩

def spec_odBefore  (a1 : Rw) : Option Rw :=
  (row_si a1 (IntKind.i64.wrap ((a1.length : Int) - 1)) fun x2 x3 => (if 0 ≤ (IntKind.i64.wrap ((a1.length : Int) - 1)) ∧ (IntKind.i64.wrap ((a1.length : Int) - 1)) ≤ (a1.length : Int) ∧ (∀ cs ∈ a1, cs.length = 2) then (if (a1.take (IntKind.i64.wrap ((a1.length : Int) - 1) : Int).toNat).length ≤ cap ∧ (∀ cs ∈ (a1.take (IntKind.i64.wrap ((a1.length : Int) - 1) : Int).toNat), cs.length = 2) then (if (1 : Int) < x3 then (if ([] ++ (a1.take (IntKind.i64.wrap ((a1.length : Int) - 1) : Int).toNat) : Rw).length + 1 ≤ cap then some (([] ++ (a1.take (IntKind.i64.wrap ((a1.length : Int) - 1) : Int).toNat)) ++ ([[D.sl x2, D.int .i64 (IntKind.i64.wrap (x3 - 1))]])) else none) else some ([] ++ (a1.take (IntKind.i64.wrap ((a1.length : Int) - 1) : Int).toNat) : Rw)) else none) else none))
set_option maxHeartbeats 4000000 in
set_option maxRecDepth 100000 in
theorem spec_odBefore_ct  {a1 : Rw} {r : Rw} (h : spec_odBefore a1 = some r) : Ct prog 82 [.agg [.d (D.sl a1)]] (⟨[], []⟩) (.agg [.os 8 r.length]) (⟨[], [(77, false, r)]⟩) := by
  rw [spec_odBefore] at h
  refine Ct.of (c := _) mixed func82 ⟨rfl, rfl, rfl⟩ ?_ rfl
  conv => whnf
  obtain ⟨g5, x2, x3, e4, h⟩ := row_si_ex h
  refine Req.of g5 ?_
  refine Row.of _ e4 ?_
  conv => whnf
  obtain ⟨g6, h⟩ := req_ex h
  refine Req.of g6 ?_
  conv => whnf
  refine Take.all (by first | rfl | exact List.length_append.symm | (simp; done) | omega) ?_
  conv => whnf
  obtain ⟨g7, h⟩ := req_ex h
  refine Req.of (room0 (b := 32) (by decide) g7.1 g7.2) ?_
  conv => whnf
  refine splD (fun g8 => ?_) (fun g8 => ?_)
  · replace h := iteP h g8
    conv => whnf
    refine Take.all (by first | rfl | exact List.length_append.symm | (simp; done) | omega) ?_
    conv => whnf
    refine Take.all (by first | rfl | exact List.length_append.symm | (simp; done) | omega) ?_
    conv => whnf
    obtain ⟨g9, h⟩ := req_ex h
    refine Req.of (room (b := 32) (by decide) g9 (wide1 rfl wide0)) ?_
    conv => whnf
    cases h
    exact Done.of [some 2112] [] rfl rfl ⟨⟨rfl, rfl⟩, ⟨rfl, ⟨rfl, rfl, rows_same⟩, trivial⟩, ⟨⟨(by first | rfl | exact List.length_append.symm | (simp; done) | omega), rfl⟩, trivial⟩, trivial⟩
  · replace h := iteN h g8
    conv => whnf
    cases h
    exact Done.of [some 1280] [] rfl rfl ⟨⟨rfl, rfl⟩, ⟨rfl, ⟨rfl, rfl, rows_same⟩, trivial⟩, ⟨⟨(by first | rfl | exact List.length_append.symm | (simp; done) | omega), rfl⟩, trivial⟩, trivial⟩

def spec_odTerm  (a1 : Rw) (a2 : Int) : Option Rw :=
  (if a2 = (0 : Int) then some ([] : Rw) else some ([[D.sl a1, D.int .i64 a2]] : Rw))
set_option maxHeartbeats 4000000 in
set_option maxRecDepth 100000 in
theorem spec_odTerm_ct  {a1 : Rw} {a2 : Int} {r : Rw} (h : spec_odTerm a1 a2 = some r) : Ct prog 83 [.agg [.d (D.sl a1)], .d (D.int .i64 a2)] (⟨[], []⟩) (.agg [.os 8 r.length]) (⟨[], [(77, false, r)]⟩) := by
  rw [spec_odTerm] at h
  refine Ct.of (c := _) mixed func83 ⟨rfl, rfl, rfl⟩ ?_ rfl
  conv => whnf
  refine splD (fun g3 => ?_) (fun g3 => ?_)
  · replace h := iteP h g3
    conv => whnf
    cases h
    exact Done.of [none] [] rfl rfl ⟨⟨rfl, rfl⟩, ⟨rfl, rfl, trivial⟩, ⟨⟨rfl, rfl⟩, trivial⟩, trivial⟩
  · replace h := iteN h g3
    conv => whnf
    cases h
    exact Done.of [some 704] [] rfl rfl ⟨⟨rfl, rfl⟩, ⟨rfl, ⟨rfl, rfl, rows_same⟩, trivial⟩, ⟨⟨(by first | rfl | exact List.length_append.symm | (simp; done) | omega), rfl⟩, trivial⟩, trivial⟩

def spec_odPlus_p3 (o151 : Rw) : Option Rw :=
  some o151
set_option maxHeartbeats 4000000 in
set_option maxRecDepth 100000 in
theorem spec_odPlus_p3_ct {o151 : Rw} {r : Rw} (h : spec_odPlus_p3 o151 = some r) : X prog 0 (tlF f81 3) (mk 85 [(4, .ptr 256 0), (5, .ptr 320 0)] [(256, .box 28 [.es]), (320, .box 28 [.os 1079000 o151.length]), (1079000, .arr 77 false o151)]) (finK prog f81 0 (.agg [.os 8 r.length]) (⟨[], [(77, false, r)]⟩)) := by
  rw [spec_odPlus_p3] at h
  conv => whnf
  cases h
  exact Done.of [some 1079000] [] rfl rfl ⟨⟨rfl, rfl⟩, ⟨rfl, ⟨rfl, rfl, rows_same⟩, trivial⟩, ⟨⟨rfl, rfl⟩, trivial⟩, trivial⟩
def spec_odPlus_l1 (k : Nat) (a2 : Rw) (v199n : Nat) (x300 : Rw) (x301 : Int) (K2 : Rw → Option Rw) : Nat → Rw → Option Rw
  | 0, _ => none
  | n + 1, v313 => (if (0 : Int) < (v313.length : Int) then (if 0 ≤ (IntKind.i64.wrap ((v313.length : Int) - 1)) ∧ (IntKind.i64.wrap ((v313.length : Int) - 1)) < (v313.length : Int) then (row_si v313 (IntKind.i64.wrap ((v313.length : Int) - 1)) fun x337 x338 => ((spec_odCmp k x337 x300).bind fun y341 => (if y341 < (0 : Int) then (if 0 ≤ (IntKind.i64.wrap ((v313.length : Int) - 1)) ∧ (IntKind.i64.wrap ((v313.length : Int) - 1)) ≤ (v313.length : Int) then (if (IntKind.i64.wrap ((v313.length : Int) - 1) : Int).toNat ≤ v313.length then (spec_odPlus_l1 k a2 v199n x300 x301 K2 n (v313.take ((IntKind.i64.wrap ((v313.length : Int) - 1) : Int).toNat))) else none) else none) else (K2 v313)))) else none) else (K2 v313))
set_option maxRecDepth 100000 in
theorem spec_odPlus_l1_ct {k : Nat} {a2 : Rw} {v199n : Nat} {x300 : Rw} {x301 : Int} {K2 : Rw → Option Rw} {r : Rw} : ∀ (n : Nat) (v313 : Rw), spec_odPlus_l1 k a2 v199n x300 x301 K2 n v313 = some r → LoopOk prog 0 (lp f81 1) (mk 85 [(4, .ptr 256 0), (5, .ptr 320 0), (7, .ptr 448 0), (15, .d (D.sl a2)), (16, .d (D.int .i64 (a2.length : Int))), (17, .d (D.int .i64 (v199n : Int)))] [(256, .box 28 [.es]), (320, .box 28 [.os 76800 v313.length]), (448, .box 77 [.d (D.sl x300), .d (D.int .i64 x301)]), (76800, .arr 77 false v313)]) (LoopEnd prog f81 0 85 (.agg [.os 8 r.length]) (⟨[], [(77, false, r)]⟩) (fun i ts os => (i = 2 ∧ ∃ v324 : Rw, K2 v324 = some r ∧ ts = [(4, .ptr 256 0), (5, .ptr 320 0), (7, .ptr 448 0), (15, .d (D.sl a2)), (16, .d (D.int .i64 (a2.length : Int))), (17, .d (D.int .i64 (v199n : Int)))] ∧ os = [(256, .box 28 [.es]), (320, .box 28 [.os 79801 v324.length]), (448, .box 77 [.d (D.sl x300), .d (D.int .i64 x301)]), (79801, .arr 77 false v324)])))
  | 0, _, h => by
      rw [spec_odPlus_l1] at h; cases h
  | n + 1, v313, h => by
      rw [spec_odPlus_l1] at h
      refine LoopOk.step ?_
      conv => whnf
      refine splD (fun g335 => ?_) (fun g335 => ?_)
      · replace h := iteP h g335
        conv => whnf
        obtain ⟨g336, h⟩ := req_ex h
        refine Req.of g336 ?_
        conv => whnf
        obtain ⟨g340, x337, x338, e339, h⟩ := row_si_ex h
        refine Row.of _ e339 ?_
        conv => whnf
        obtain ⟨y341, e342, h⟩ := bind_ex h
        refine CallOk.of (spec_odCmp_ct e342) ?_
        conv => whnf
        refine splD (fun g343 => ?_) (fun g343 => ?_)
        · replace h := iteP h g343
          conv => whnf
          refine CutK.norm [4, 5, 7, 15, 16, 17, 39] [256, 320, 448, 76800] ?_
          conv => whnf
          refine CutK.norm [4, 5, 7, 15, 16, 17] [256, 320, 448, 76800] ?_
          conv => whnf
          obtain ⟨g344, h⟩ := req_ex h
          refine Req.of (⟨rfl, g344⟩) ?_
          conv => whnf
          obtain ⟨g345, h⟩ := req_ex h
          exact LoopOk.back (spec_odPlus_l1_ct  n _ h) [some 256, some 320, some 448, some 76800] [] ⟨⟨rfl, rfl⟩, ⟨rfl, ⟨rfl, trivial, trivial⟩, ⟨rfl, ⟨take_len g345, rfl⟩, trivial⟩, ⟨rfl, rfl, rfl, trivial⟩, ⟨rfl, rfl, _, rfl⟩, trivial⟩, ⟨rfl, rfl⟩, ⟨rfl, rfl⟩, ⟨rfl, rfl⟩, rfl, rfl, rfl, trivial⟩
        · replace h := iteN h g343
          conv => whnf
          refine CutK.norm [4, 5, 7, 15, 16, 17, 39] [256, 320, 448, 76800] ?_
          conv => whnf
          exact ⟨_, _, [some 256, some 320, some 448, some 76800], [], ⟨rfl, _, h, rfl, rfl⟩, ⟨⟨rfl, rfl⟩, ⟨rfl, ⟨rfl, trivial, trivial⟩, ⟨rfl, ⟨rfl, rfl⟩, trivial⟩, ⟨rfl, rfl, rfl, trivial⟩, ⟨rfl, rfl, rows_same⟩, trivial⟩, ⟨rfl, rfl⟩, ⟨rfl, rfl⟩, ⟨rfl, rfl⟩, rfl, rfl, rfl, trivial⟩⟩
      · replace h := iteN h g335
        conv => whnf
        refine CutK.norm [4, 5, 7, 15, 16, 17, 39] [256, 320, 448, 76800] ?_
        conv => whnf
        exact ⟨_, _, [some 256, some 320, some 448, some 76800], [], ⟨rfl, _, h, rfl, rfl⟩, ⟨⟨rfl, rfl⟩, ⟨rfl, ⟨rfl, trivial, trivial⟩, ⟨rfl, ⟨rfl, rfl⟩, trivial⟩, ⟨rfl, rfl, rfl, trivial⟩, ⟨rfl, rfl, rows_same⟩, trivial⟩, ⟨rfl, rfl⟩, ⟨rfl, rfl⟩, ⟨rfl, rfl⟩, rfl, rfl, rfl, trivial⟩⟩
def spec_odPlus_l0 (k : Nat) (a2 : Rw) (K0 : Rw → Option Rw) : Rw → Nat → Rw → Option Rw
  | [], v199n, v200 => (K0 v200)
  | cs :: rest, v199n, v200 => (cell_si cs fun x300 x301 => (spec_odPlus_l1 k a2 v199n x300 x301 (fun (v324 : Rw) => (if (0 : Int) ≤ (IntKind.i64.wrap ((v324.length : Int) - 1)) then (if 0 ≤ (IntKind.i64.wrap ((v324.length : Int) - 1)) ∧ (IntKind.i64.wrap ((v324.length : Int) - 1)) < (v324.length : Int) then (row_si v324 (IntKind.i64.wrap ((v324.length : Int) - 1)) fun x348 x349 => ((spec_odCmp k x348 x300).bind fun y352 => (if y352 = (0 : Int) then (spec_odPlus_l0 k a2 K0 rest (v199n + 1) (v324.set ((IntKind.i64.wrap ((v324.length : Int) - 1) : Int).toNat) [D.sl x348, D.int .i64 (IntKind.i64.wrap (x349 + x301))])) else (if v324.length + 1 ≤ cap then (spec_odPlus_l0 k a2 K0 rest (v199n + 1) (v324 ++ ([[D.sl x300, D.int .i64 x301]]))) else none)))) else none) else (if v324.length + 1 ≤ cap then (spec_odPlus_l0 k a2 K0 rest (v199n + 1) (v324 ++ ([[D.sl x300, D.int .i64 x301]]))) else none))) k v200))
set_option maxRecDepth 100000 in
theorem spec_odPlus_l0_ct {k : Nat} {a2 : Rw} {K0 : Rw → Option Rw} {r : Rw} (hx : a2.length ≤ cap) : ∀ (rest : Rw) (v199n : Nat) (v200 : Rw), a2.drop v199n = rest → spec_odPlus_l0 k a2 K0 rest v199n v200 = some r → LoopOk prog 0 (lp f81 0) (mk 85 [(4, .ptr 256 0), (5, .ptr 320 0), (15, .d (D.sl a2)), (16, .d (D.int .i64 (a2.length : Int))), (17, .d (D.int .i64 (v199n : Int)))] [(256, .box 28 [.es]), (320, .box 28 [.os 64000 v200.length]), (64000, .arr 77 false v200)]) (LoopEnd prog f81 0 85 (.agg [.os 8 r.length]) (⟨[], [(77, false, r)]⟩) (fun i ts os => (i = 0 ∧ ∃ v251 : Rw, K0 v251 = some r ∧ ts = [(4, .ptr 256 0), (5, .ptr 320 0)] ∧ os = [(256, .box 28 [.es]), (320, .box 28 [.os 67001 v251.length]), (67001, .arr 77 false v251)])))
  | [], v199n, v200, hd, h => by
      rw [spec_odPlus_l0] at h
      have hn := drop_nil hd
      refine LoopOk.step ?_
      conv => whnf
      refine splD (fun g => absurd g hn) (fun _ => ?_)
      conv => whnf
      exact ⟨_, _, [some 256, some 320, some 64000], [], ⟨rfl, _, h, rfl, rfl⟩, ⟨⟨rfl, rfl⟩, ⟨rfl, ⟨rfl, trivial, trivial⟩, ⟨rfl, ⟨rfl, rfl⟩, trivial⟩, ⟨rfl, rfl, rows_same⟩, trivial⟩, ⟨rfl, rfl⟩, ⟨rfl, rfl⟩, trivial⟩⟩
  | cs :: rest, v199n, v200, hd, h => by
      rw [spec_odPlus_l0] at h
      obtain ⟨hrow, hd1, hlt⟩ := drop_cons hd
      refine LoopOk.step ?_
      conv => whnf
      refine splD (fun _ => ?_) (fun g => absurd hlt g)
      conv => whnf
      obtain ⟨x300, x301, e302, h⟩ := cell_si_ex h
      rw [e302] at hrow
      refine Req.of (Int.natCast_nonneg _) ?_
      refine Row.of _ hrow ?_
      conv => whnf
      refine LoopOk.into (spec_odPlus_l1_ct  _ _ h) [some 256, some 320, some 448, some 64000] [] ⟨⟨rfl, rfl⟩, ⟨rfl, ⟨rfl, trivial, trivial⟩, ⟨rfl, ⟨rfl, rfl⟩, trivial⟩, ⟨rfl, rfl, rfl, trivial⟩, ⟨rfl, rfl, rows_same⟩, trivial⟩, ⟨rfl, rfl⟩, ⟨rfl, rfl⟩, ⟨rfl, rfl⟩, rfl, rfl, rfl, trivial⟩ ?_ (fun _ hs => hs)
      rintro i ts os ⟨rfl, v324, h, rfl, rfl⟩
      conv => whnf
      refine CutK.norm [4, 5, 7, 15, 16, 17] [256, 320, 448, 79801] ?_
      conv => whnf
      refine splD (fun g346 => ?_) (fun g346 => ?_)
      · replace h := iteP h g346
        conv => whnf
        obtain ⟨g347, h⟩ := req_ex h
        refine Req.of g347 ?_
        conv => whnf
        obtain ⟨g351, x348, x349, e350, h⟩ := row_si_ex h
        refine Row.of _ e350 ?_
        conv => whnf
        obtain ⟨y352, e353, h⟩ := bind_ex h
        refine CallOk.of (spec_odCmp_ct e353) ?_
        conv => whnf
        refine splD (fun g354 => ?_) (fun g354 => ?_)
        · replace h := iteP h g354
          conv => whnf
          refine CutK.norm [4, 5, 7, 8, 15, 16, 17, 65] [256, 320, 448, 79801] ?_
          conv => whnf
          refine Req.of g347 ?_
          conv => whnf
          refine Row.of _ e350 ?_
          conv => whnf
          refine Req.of g347 ?_
          conv => whnf
          refine Row.of _ e350 ?_
          conv => whnf
          refine CutK.norm [4, 5, 15, 16, 17] [256, 320, 79801] ?_
          conv => whnf
          exact LoopOk.back (spec_odPlus_l0_ct hx rest (v199n + 1) _ hd1 h) [some 256, some 320, some 79801] [] ⟨⟨rfl, rfl⟩, ⟨rfl, ⟨rfl, trivial, trivial⟩, ⟨rfl, ⟨(by first | rfl | exact List.length_append.symm | (simp; done) | omega), rfl⟩, trivial⟩, ⟨rfl, rfl, rows_same⟩, trivial⟩, ⟨rfl, rfl⟩, ⟨rfl, rfl⟩, rfl, rfl, i64eq (wrap_up hlt hx), trivial⟩
        · replace h := iteN h g354
          conv => whnf
          refine CutK.norm [4, 5, 7, 8, 15, 16, 17, 65] [256, 320, 448, 79801] ?_
          conv => whnf
          refine Take.all (rfl) ?_
          conv => whnf
          refine Take.all (by first | rfl | exact List.length_append.symm | (simp; done) | omega) ?_
          conv => whnf
          obtain ⟨g355, h⟩ := req_ex h
          refine Req.of (room (b := 32) (by decide) g355 (wide1 rfl wide0)) ?_
          conv => whnf
          refine CutK.norm [4, 5, 15, 16, 17] [256, 320, 5184] ?_
          conv => whnf
          exact LoopOk.back (spec_odPlus_l0_ct hx rest (v199n + 1) _ hd1 h) [some 256, some 320, some 5184] [] ⟨⟨rfl, rfl⟩, ⟨rfl, ⟨rfl, trivial, trivial⟩, ⟨rfl, ⟨(by first | rfl | exact List.length_append.symm | (simp; done) | omega), rfl⟩, trivial⟩, ⟨rfl, rfl, rows_same⟩, trivial⟩, ⟨rfl, rfl⟩, ⟨rfl, rfl⟩, rfl, rfl, i64eq (wrap_up hlt hx), trivial⟩
      · replace h := iteN h g346
        conv => whnf
        refine CutK.norm [4, 5, 7, 8, 15, 16, 17, 65] [256, 320, 448, 79801] ?_
        conv => whnf
        refine Take.all (rfl) ?_
        conv => whnf
        refine Take.all (by first | rfl | exact List.length_append.symm | (simp; done) | omega) ?_
        conv => whnf
        obtain ⟨g356, h⟩ := req_ex h
        refine Req.of (room (b := 32) (by decide) g356 (wide1 rfl wide0)) ?_
        conv => whnf
        refine CutK.norm [4, 5, 15, 16, 17] [256, 320, 5184] ?_
        conv => whnf
        exact LoopOk.back (spec_odPlus_l0_ct hx rest (v199n + 1) _ hd1 h) [some 256, some 320, some 5184] [] ⟨⟨rfl, rfl⟩, ⟨rfl, ⟨rfl, trivial, trivial⟩, ⟨rfl, ⟨(by first | rfl | exact List.length_append.symm | (simp; done) | omega), rfl⟩, trivial⟩, ⟨rfl, rfl, rows_same⟩, trivial⟩, ⟨rfl, rfl⟩, ⟨rfl, rfl⟩, rfl, rfl, i64eq (wrap_up hlt hx), trivial⟩
def spec_odPlus (k : Nat) (a1 : Rw) (a2 : Rw) : Option Rw :=
  (if a1.length ≤ cap ∧ (∀ cs ∈ a1, cs.length = 2) then (if a2.length ≤ cap then (spec_odPlus_l0 k a2 (fun (v251 : Rw) => (spec_odPlus_p3 v251)) a2 0 ([] ++ a1 : Rw)) else none) else none)
set_option maxHeartbeats 4000000 in
set_option maxRecDepth 100000 in
theorem spec_odPlus_ct {k : Nat} {a1 : Rw} {a2 : Rw} {r : Rw} (h : spec_odPlus k a1 a2 = some r) : Ct prog 81 [.agg [.d (D.sl a1)], .agg [.d (D.sl a2)]] (⟨[], []⟩) (.agg [.os 8 r.length]) (⟨[], [(77, false, r)]⟩) := by
  rw [spec_odPlus] at h
  refine Ct.of (c := _) mixed func81 ⟨rfl, rfl, rfl⟩ ?_ rfl
  conv => whnf
  refine Take.all (by first | rfl | exact List.length_append.symm | (simp; done) | omega) ?_
  conv => whnf
  obtain ⟨g152, h⟩ := req_ex h
  refine Req.of (room0 (b := 32) (by decide) g152.1 g152.2) ?_
  conv => whnf
  obtain ⟨g357, h⟩ := req_ex h
  refine LoopOk.into (spec_odPlus_l0_ct  g357 _ _ _ rfl h) [some 256, some 320, some 768] [] ⟨⟨rfl, rfl⟩, ⟨rfl, ⟨rfl, trivial, trivial⟩, ⟨rfl, ⟨(by first | rfl | exact List.length_append.symm | (simp; done) | omega), rfl⟩, trivial⟩, ⟨rfl, rfl, rows_same⟩, trivial⟩, ⟨rfl, rfl⟩, ⟨rfl, rfl⟩, rfl, rfl, rfl, trivial⟩ ?_ (fun _ hs => hs)
  rintro i ts os ⟨rfl, v251, h, rfl, rfl⟩
  conv => whnf
  exact CutK.piece (spec_odPlus_p3_ct  h) [some 256, some 320, some 67001] [] ⟨⟨rfl, rfl⟩, ⟨rfl, ⟨rfl, trivial, trivial⟩, ⟨rfl, ⟨rfl, rfl⟩, trivial⟩, ⟨rfl, rfl, rows_same⟩, trivial⟩, ⟨rfl, rfl⟩, ⟨rfl, rfl⟩, trivial⟩

def spec_odAt_b (k : Nat) (rec_spec_odAt : Rw → Int → Option Rw) (a1 : Rw) (a2 : Int) : Option Rw :=
  (row_si a1 (IntKind.i64.wrap ((a1.length : Int) - 1)) fun x3 x4 => ((spec_odLimit x3).bind fun y7 => (if y7 = true then ((spec_odBefore a1).bind fun y10 => ((rec_spec_odAt x3 a2).bind fun y12 => ((spec_odTerm y12 1).bind fun y14 => ((spec_odPlus k y10 y14).bind fun y16 => some y16)))) else ((spec_odBefore a1).bind fun y18 => ((spec_odBefore x3).bind fun y20 => ((spec_odTerm y20 a2).bind fun y22 => ((spec_odPlus k y18 y22).bind fun y24 => some y24)))))))
set_option maxHeartbeats 4000000 in
set_option maxRecDepth 100000 in
theorem spec_odAt_b_ct {k : Nat} {rec_spec_odAt : Rw → Int → Option Rw} (hrec_spec_odAt : ∀ (a1 : Rw) (a2 : Int) (r : Rw), rec_spec_odAt a1 a2 = some r → Ct prog 39 [.agg [.d (D.sl a1)], .d (D.int .i64 a2)] (⟨[], []⟩) (.agg [.os 8 r.length]) (⟨[], [(77, false, r)]⟩)) {a1 : Rw} {a2 : Int} {r : Rw} (h : spec_odAt_b k rec_spec_odAt a1 a2 = some r) : Ct prog 39 [.agg [.d (D.sl a1)], .d (D.int .i64 a2)] (⟨[], []⟩) (.agg [.os 8 r.length]) (⟨[], [(77, false, r)]⟩) := by
  rw [spec_odAt_b] at h
  refine Ct.of (c := _) mixed func39 ⟨rfl, rfl, rfl⟩ ?_ rfl
  conv => whnf
  obtain ⟨g6, x3, x4, e5, h⟩ := row_si_ex h
  refine Req.of g6 ?_
  refine Row.of _ e5 ?_
  conv => whnf
  obtain ⟨y7, e8, h⟩ := bind_ex h
  refine CallOk.of (spec_odLimit_ct e8) ?_
  conv => whnf
  refine spl (fun g9 => ?_) (fun g9 => ?_)
  · replace h := iteT h g9
    conv => whnf
    refine CutK.norm [1, 2, 4, 5, 16] [128, 256, 320] ?_
    conv => whnf
    obtain ⟨y10, e11, h⟩ := bind_ex h
    refine CallOk.of (spec_odBefore_ct e11) ?_
    conv => whnf
    obtain ⟨y12, e13, h⟩ := bind_ex h
    refine CallOk.of (hrec_spec_odAt _ _ _ e13) ?_
    conv => whnf
    refine Take.all (rfl) ?_
    conv => whnf
    obtain ⟨y14, e15, h⟩ := bind_ex h
    refine CallOk.of (spec_odTerm_ct e15) ?_
    conv => whnf
    refine Take.all (rfl) ?_
    conv => whnf
    refine Take.all (rfl) ?_
    conv => whnf
    obtain ⟨y16, e17, h⟩ := bind_ex h
    refine CallOk.of (spec_odPlus_ct e17) ?_
    conv => whnf
    refine CutK.norm [4] [256, 1472] ?_
    conv => whnf
    cases h
    exact Done.of [some 1472] [] rfl rfl ⟨⟨rfl, rfl⟩, ⟨rfl, ⟨rfl, rfl, rows_same⟩, trivial⟩, ⟨⟨rfl, rfl⟩, trivial⟩, trivial⟩
  · replace h := iteF h g9
    conv => whnf
    refine CutK.norm [1, 2, 4, 5, 16] [128, 256, 320] ?_
    conv => whnf
    refine CutK.norm [1, 2, 4, 5] [128, 256, 320] ?_
    conv => whnf
    obtain ⟨y18, e19, h⟩ := bind_ex h
    refine CallOk.of (spec_odBefore_ct e19) ?_
    conv => whnf
    obtain ⟨y20, e21, h⟩ := bind_ex h
    refine CallOk.of (spec_odBefore_ct e21) ?_
    conv => whnf
    refine Take.all (rfl) ?_
    conv => whnf
    obtain ⟨y22, e23, h⟩ := bind_ex h
    refine CallOk.of (spec_odTerm_ct e23) ?_
    conv => whnf
    refine Take.all (rfl) ?_
    conv => whnf
    refine Take.all (rfl) ?_
    conv => whnf
    obtain ⟨y24, e25, h⟩ := bind_ex h
    refine CallOk.of (spec_odPlus_ct e25) ?_
    conv => whnf
    refine CutK.norm [4] [256, 1920] ?_
    conv => whnf
    cases h
    exact Done.of [some 1920] [] rfl rfl ⟨⟨rfl, rfl⟩, ⟨rfl, ⟨rfl, rfl, rows_same⟩, trivial⟩, ⟨⟨rfl, rfl⟩, trivial⟩, trivial⟩
def spec_odAt : Nat → Rw → Int → Option Rw
  | 0, _, _ => none
  | k + 1, a1, a2 => spec_odAt_b k (spec_odAt k) a1 a2
theorem spec_odAt_ct' : ∀ (k : Nat) (a1 : Rw) (a2 : Int) (r : Rw), spec_odAt k a1 a2 = some r → Ct prog 39 [.agg [.d (D.sl a1)], .d (D.int .i64 a2)] (⟨[], []⟩) (.agg [.os 8 r.length]) (⟨[], [(77, false, r)]⟩)
  | 0, _, _, _, h => by rw [spec_odAt] at h; cases h
  | k + 1, _, _, _, h => by rw [spec_odAt] at h; exact spec_odAt_b_ct (spec_odAt_ct' k) h
theorem spec_odAt_ct {k : Nat} {a1 : Rw} {a2 : Int} {r : Rw} (h : spec_odAt k a1 a2 = some r) : Ct prog 39 [.agg [.d (D.sl a1)], .d (D.int .i64 a2)] (⟨[], []⟩) (.agg [.os 8 r.length]) (⟨[], [(77, false, r)]⟩) := spec_odAt_ct' k _ _ _ h

def spec_odOwn_l0 (rec_spec_odOwn : Rw → Option Rw) (a1 : Rw) (K0 : Rw → Option Rw) : Rw → Rw → Option Rw
  | [], v10 => (K0 v10)
  | cs :: rest, v10 => (cell_si cs fun x28 x29 => ((rec_spec_odOwn x28).bind fun y31 => (if v10.length + 1 ≤ cap then (spec_odOwn_l0 rec_spec_odOwn a1 K0 rest (v10 ++ ([[D.sl y31, D.int .i64 x29]]))) else none)))
set_option maxRecDepth 100000 in
theorem spec_odOwn_l0_ct {rec_spec_odOwn : Rw → Option Rw} {a1 : Rw} {K0 : Rw → Option Rw} (hrec_spec_odOwn : ∀ (a1 : Rw) (r : Rw), rec_spec_odOwn a1 = some r → Ct prog 80 [.agg [.d (D.sl a1)]] (⟨[], []⟩) (.agg [.os 8 r.length]) (⟨[], [(77, true, r)]⟩)) {r : Rw} (hx : a1.length ≤ cap) : ∀ (rest : Rw) (v9n : Nat) (v10 : Rw), a1.drop v9n = rest → spec_odOwn_l0 rec_spec_odOwn a1 K0 rest v10 = some r → LoopOk prog 0 (lp f80 0) (mk 27 [(2, .ptr 128 0), (3, .ptr 192 0), (8, .d (D.sl a1)), (9, .d (D.int .i64 (a1.length : Int))), (10, .d (D.int .i64 (v9n : Int)))] [(128, .box 28 [.es]), (192, .box 28 [.os 64000 v10.length]), (64000, .arr 77 true v10)]) (LoopEnd prog f80 0 27 (.agg [.os 8 r.length]) (⟨[], [(77, true, r)]⟩) (fun i ts os => (i = 0 ∧ ∃ v19 : Rw, K0 v19 = some r ∧ ts = [(2, .ptr 128 0), (3, .ptr 192 0)] ∧ os = [(128, .box 28 [.es]), (192, .box 28 [.os 67001 v19.length]), (67001, .arr 77 true v19)])))
  | [], v9n, v10, hd, h => by
      rw [spec_odOwn_l0] at h
      have hn := drop_nil hd
      refine LoopOk.step ?_
      conv => whnf
      refine splD (fun g => absurd g hn) (fun _ => ?_)
      conv => whnf
      exact ⟨_, _, [some 128, some 192, some 64000], [], ⟨rfl, _, h, rfl, rfl⟩, ⟨⟨rfl, rfl⟩, ⟨rfl, ⟨rfl, trivial, trivial⟩, ⟨rfl, ⟨rfl, rfl⟩, trivial⟩, ⟨rfl, rfl, rows_same⟩, trivial⟩, ⟨rfl, rfl⟩, ⟨rfl, rfl⟩, trivial⟩⟩
  | cs :: rest, v9n, v10, hd, h => by
      rw [spec_odOwn_l0] at h
      obtain ⟨hrow, hd1, hlt⟩ := drop_cons hd
      refine LoopOk.step ?_
      conv => whnf
      refine splD (fun _ => ?_) (fun g => absurd hlt g)
      conv => whnf
      obtain ⟨x28, x29, e30, h⟩ := cell_si_ex h
      rw [e30] at hrow
      refine Req.of (Int.natCast_nonneg _) ?_
      refine Row.of _ hrow ?_
      conv => whnf
      obtain ⟨y31, e32, h⟩ := bind_ex h
      refine CallOk.of (hrec_spec_odOwn _ _ e32) ?_
      conv => whnf
      refine Take.all (rfl) ?_
      conv => whnf
      refine Take.all (rfl) ?_
      conv => whnf
      refine Take.all (by first | rfl | exact List.length_append.symm | (simp; done) | omega) ?_
      conv => whnf
      obtain ⟨g33, h⟩ := req_ex h
      refine Req.of (room (b := 32) (by decide) g33 (wide1 rfl wide0)) ?_
      conv => whnf
      refine CutK.go ?_
      conv => whnf
      exact LoopOk.back (spec_odOwn_l0_ct hrec_spec_odOwn hx rest (v9n + 1) _ hd1 h) [some 128, some 192, some 1472] [] ⟨⟨rfl, rfl⟩, ⟨rfl, ⟨rfl, trivial, trivial⟩, ⟨rfl, ⟨(by first | rfl | exact List.length_append.symm | (simp; done) | omega), rfl⟩, trivial⟩, ⟨rfl, rfl, rows_same⟩, trivial⟩, ⟨rfl, rfl⟩, ⟨rfl, rfl⟩, rfl, rfl, i64eq (wrap_up hlt hx), trivial⟩
def spec_odOwn_b (rec_spec_odOwn : Rw → Option Rw) (a1 : Rw) : Option Rw :=
  (if a1.length ≤ cap then (spec_odOwn_l0 rec_spec_odOwn a1 (fun (v19 : Rw) => some v19) a1 ([] : Rw)) else none)
set_option maxHeartbeats 4000000 in
set_option maxRecDepth 100000 in
theorem spec_odOwn_b_ct {rec_spec_odOwn : Rw → Option Rw} (hrec_spec_odOwn : ∀ (a1 : Rw) (r : Rw), rec_spec_odOwn a1 = some r → Ct prog 80 [.agg [.d (D.sl a1)]] (⟨[], []⟩) (.agg [.os 8 r.length]) (⟨[], [(77, true, r)]⟩)) {a1 : Rw} {r : Rw} (h : spec_odOwn_b rec_spec_odOwn a1 = some r) : Ct prog 80 [.agg [.d (D.sl a1)]] (⟨[], []⟩) (.agg [.os 8 r.length]) (⟨[], [(77, true, r)]⟩) := by
  rw [spec_odOwn_b] at h
  refine Ct.of (c := _) mixed func80 ⟨rfl, rfl, rfl⟩ ?_ rfl
  conv => whnf
  obtain ⟨g34, h⟩ := req_ex h
  refine LoopOk.into (spec_odOwn_l0_ct hrec_spec_odOwn g34 _ _ _ rfl h) [some 128, some 192, none] [] ⟨⟨rfl, rfl⟩, ⟨rfl, ⟨rfl, trivial, trivial⟩, ⟨rfl, ⟨rfl, rfl⟩, trivial⟩, rfl, trivial⟩, ⟨rfl, rfl⟩, ⟨rfl, rfl⟩, rfl, rfl, rfl, trivial⟩ ?_ (fun _ hs => hs)
  rintro i ts os ⟨rfl, v19, h, rfl, rfl⟩
  conv => whnf
  refine CutK.go ?_
  conv => whnf
  cases h
  exact Done.of [some 67001] [] rfl rfl ⟨⟨rfl, rfl⟩, ⟨rfl, ⟨rfl, rfl, rows_same⟩, trivial⟩, ⟨⟨rfl, rfl⟩, trivial⟩, trivial⟩
def spec_odOwn : Nat → Rw → Option Rw
  | 0, _ => none
  | k + 1, a1 => spec_odOwn_b (spec_odOwn k) a1
theorem spec_odOwn_ct' : ∀ (k : Nat) (a1 : Rw) (r : Rw), spec_odOwn k a1 = some r → Ct prog 80 [.agg [.d (D.sl a1)]] (⟨[], []⟩) (.agg [.os 8 r.length]) (⟨[], [(77, true, r)]⟩)
  | 0, _, _, h => by rw [spec_odOwn] at h; cases h
  | k + 1, _, _, h => by rw [spec_odOwn] at h; exact spec_odOwn_b_ct (spec_odOwn_ct' k) h
theorem spec_odOwn_ct {k : Nat} {a1 : Rw} {r : Rw} (h : spec_odOwn k a1 = some r) : Ct prog 80 [.agg [.d (D.sl a1)]] (⟨[], []⟩) (.agg [.os 8 r.length]) (⟨[], [(77, true, r)]⟩) := spec_odOwn_ct' k _ _ h

def spec_odIf (k : Nat) (a1 : Rw) : Option (Rw × Bool) :=
  ((spec_odGood k a1).bind fun y2 => (if y2 = true then ((spec_odOwn k a1).bind fun y5 => some (y5, true)) else some (([] : Rw), false)))
set_option maxHeartbeats 4000000 in
set_option maxRecDepth 100000 in
theorem spec_odIf_ct {k : Nat} {a1 : Rw} {r : Rw × Bool} (h : spec_odIf k a1 = some r) : Ct prog 38 [.agg [.d (D.sl a1)]] (⟨[], []⟩) (.tup [.agg [.os 8 r.1.length], .d (D.bool r.2)]) (⟨[], [(77, true, r.1)]⟩) := by
  rw [spec_odIf] at h
  refine Ct.of (c := _) mixed func38 ⟨rfl, rfl, rfl⟩ ?_ rfl
  conv => whnf
  obtain ⟨y2, e3, h⟩ := bind_ex h
  refine CallOk.of (spec_odGood_ct e3) ?_
  conv => whnf
  refine spl (fun g4 => ?_) (fun g4 => ?_)
  · replace h := iteT h g4
    conv => whnf
    refine CutK.go ?_
    conv => whnf
    refine CutK.go ?_
    conv => whnf
    obtain ⟨y5, e6, h⟩ := bind_ex h
    refine CallOk.of (spec_odOwn_ct e6) ?_
    conv => whnf
    refine CutK.go ?_
    conv => whnf
    cases h
    exact Done.of [some 576] [] rfl rfl ⟨⟨rfl, rfl⟩, ⟨rfl, ⟨rfl, rfl, rows_same⟩, trivial⟩, ⟨⟨⟨rfl, rfl⟩, trivial⟩, rfl, trivial⟩, trivial⟩
  · replace h := iteF h g4
    conv => whnf
    refine CutK.go ?_
    conv => whnf
    cases h
    exact Done.of [none] [] rfl rfl ⟨⟨rfl, rfl⟩, ⟨rfl, rfl, trivial⟩, ⟨⟨⟨rfl, rfl⟩, trivial⟩, rfl, trivial⟩, trivial⟩

def spec_FundamentalAt (k : Nat) (a1 : Rw) (a2 : Int) : Option (Rw × Bool) :=
  ((spec_odGood k a1).bind fun y3 => (if y3 = true then ((spec_odLimit a1).bind fun y6 => (if y6 = true then ((spec_l1In a2 0 1000).bind fun y9 => (if y9 = true then ((spec_odAt k a1 a2).bind fun y12 => ((spec_odIf k y12).bind fun y14 => (if y14.2 = true then some (y14.1, true) else some (y14.1, false)))) else some (([] : Rw), false))) else some (([] : Rw), false))) else some (([] : Rw), false)))
set_option maxHeartbeats 4000000 in
set_option maxRecDepth 100000 in
theorem spec_FundamentalAt_ct {k : Nat} {a1 : Rw} {a2 : Int} {r : Rw × Bool} (h : spec_FundamentalAt k a1 a2 = some r) : Ct prog 9 [.agg [.d (D.sl a1)], .d (D.int .i64 a2)] (⟨[], []⟩) (.tup [.agg [.os 8 r.1.length], .d (D.bool r.2)]) (⟨[], [(77, true, r.1)]⟩) := by
  rw [spec_FundamentalAt] at h
  refine Ct.of (c := _) mixed func9 ⟨rfl, rfl, rfl⟩ ?_ rfl
  conv => whnf
  obtain ⟨y3, e4, h⟩ := bind_ex h
  refine CallOk.of (spec_odGood_ct e4) ?_
  conv => whnf
  refine spl (fun g5 => ?_) (fun g5 => ?_)
  · replace h := iteT h g5
    conv => whnf
    obtain ⟨y6, e7, h⟩ := bind_ex h
    refine CallOk.of (spec_odLimit_ct e7) ?_
    conv => whnf
    refine spl (fun g8 => ?_) (fun g8 => ?_)
    · replace h := iteT h g8
      conv => whnf
      obtain ⟨y9, e10, h⟩ := bind_ex h
      refine CallOk.of (spec_l1In_ct e10) ?_
      conv => whnf
      refine spl (fun g11 => ?_) (fun g11 => ?_)
      · replace h := iteT h g11
        conv => whnf
        refine CutK.go ?_
        conv => whnf
        refine CutK.go ?_
        conv => whnf
        obtain ⟨y12, e13, h⟩ := bind_ex h
        refine CallOk.of (spec_odAt_ct e13) ?_
        conv => whnf
        refine Take.all (rfl) ?_
        conv => whnf
        obtain ⟨y14, e15, h⟩ := bind_ex h
        refine CallOk.of (spec_odIf_ct e15) ?_
        conv => whnf
        refine spl (fun g16 => ?_) (fun g16 => ?_)
        · replace h := iteT h g16
          conv => whnf
          refine CutK.go ?_
          conv => whnf
          cases h
          exact Done.of [some 1472] [] rfl rfl ⟨⟨rfl, rfl⟩, ⟨rfl, ⟨rfl, rfl, rows_same⟩, trivial⟩, ⟨⟨⟨rfl, rfl⟩, trivial⟩, rfl, trivial⟩, trivial⟩
        · replace h := iteF h g16
          conv => whnf
          refine CutK.go ?_
          conv => whnf
          cases h
          exact Done.of [some 1472] [] rfl rfl ⟨⟨rfl, rfl⟩, ⟨rfl, ⟨rfl, rfl, rows_same⟩, trivial⟩, ⟨⟨⟨rfl, rfl⟩, trivial⟩, rfl, trivial⟩, trivial⟩
      · replace h := iteF h g11
        conv => whnf
        refine CutK.go ?_
        conv => whnf
        cases h
        exact Done.of [none] [] rfl rfl ⟨⟨rfl, rfl⟩, ⟨rfl, rfl, trivial⟩, ⟨⟨⟨rfl, rfl⟩, trivial⟩, rfl, trivial⟩, trivial⟩
    · replace h := iteF h g8
      conv => whnf
      refine CutK.go ?_
      conv => whnf
      cases h
      exact Done.of [none] [] rfl rfl ⟨⟨rfl, rfl⟩, ⟨rfl, rfl, trivial⟩, ⟨⟨⟨rfl, rfl⟩, trivial⟩, rfl, trivial⟩, trivial⟩
  · replace h := iteF h g5
    conv => whnf
    refine CutK.go ?_
    conv => whnf
    cases h
    exact Done.of [none] [] rfl rfl ⟨⟨rfl, rfl⟩, ⟨rfl, rfl, trivial⟩, ⟨⟨⟨rfl, rfl⟩, trivial⟩, rfl, trivial⟩, trivial⟩

def laws_szOrdinalTerm (rec_laws_szOrdinal : Rw → Int → Option Int) (a1 : Rw) (a2 : Int) (a3 : Int) : Option Int :=
  ((rec_laws_szOrdinal a1 a3).bind fun y4 => (if y4 < (0 : Int) then some (-1) else some y4))
set_option maxHeartbeats 4000000 in
set_option maxRecDepth 100000 in
theorem laws_szOrdinalTerm_ct {rec_laws_szOrdinal : Rw → Int → Option Int} (hrec_laws_szOrdinal : ∀ (a1 : Rw) (a2 : Int) (r : Int), rec_laws_szOrdinal a1 a2 = some r → Ct prog 8 [.agg [.d (D.sl a1)], .d (D.int .i64 a2)] (⟨[], []⟩) (.d (D.int .i64 r)) (⟨[], []⟩)) {a1 : Rw} {a2 : Int} {a3 : Int} {r : Int} (h : laws_szOrdinalTerm rec_laws_szOrdinal a1 a2 a3 = some r) : Ct prog 76 [.agg [.d (D.sl a1), .d (D.int .i64 a2)], .d (D.int .i64 a3)] (⟨[], []⟩) (.d (D.int .i64 r)) (⟨[], []⟩) := by
  rw [laws_szOrdinalTerm] at h
  refine Ct.of (c := _) mixed func76 ⟨rfl, rfl, rfl⟩ ?_ rfl
  conv => whnf
  obtain ⟨y4, e5, h⟩ := bind_ex h
  refine CallOk.of (hrec_laws_szOrdinal _ _ _ e5) ?_
  conv => whnf
  refine CutK.go ?_
  conv => whnf
  refine splD (fun g6 => ?_) (fun g6 => ?_)
  · replace h := iteP h g6
    conv => whnf
    cases h
    exact Done.of [] [] rfl rfl ⟨⟨rfl, rfl⟩, ⟨rfl, trivial⟩, rfl, trivial⟩
  · replace h := iteN h g6
    conv => whnf
    cases h
    exact Done.of [] [] rfl rfl ⟨⟨rfl, rfl⟩, ⟨rfl, trivial⟩, rfl, trivial⟩

def laws_szOrdinalTermS_l0 (rec_laws_szOrdinal : Rw → Int → Option Int) (a1 : Rw) (K0 : Int → Option Int) : Rw → Int → Option Int
  | [], v12 => (K0 v12)
  | cs :: rest, v12 => (cell_si cs fun x31 x32 => ((laws_szOrdinalTerm rec_laws_szOrdinal x31 x32 v12).bind fun y34 => (if y34 < (0 : Int) then some (-1) else (laws_szOrdinalTermS_l0 rec_laws_szOrdinal a1 K0 rest y34))))
set_option maxRecDepth 100000 in
theorem laws_szOrdinalTermS_l0_ct {rec_laws_szOrdinal : Rw → Int → Option Int} {a1 : Rw} {K0 : Int → Option Int} (hrec_laws_szOrdinal : ∀ (a1 : Rw) (a2 : Int) (r : Int), rec_laws_szOrdinal a1 a2 = some r → Ct prog 8 [.agg [.d (D.sl a1)], .d (D.int .i64 a2)] (⟨[], []⟩) (.d (D.int .i64 r)) (⟨[], []⟩)) {r : Int} (hx : a1.length ≤ cap) : ∀ (rest : Rw) (v13n : Nat) (v12 : Int), a1.drop v13n = rest → laws_szOrdinalTermS_l0 rec_laws_szOrdinal a1 K0 rest v12 = some r → LoopOk prog 0 (lp f34 0) (mk 27 [(0, .d (D.sl a1)), (1, .d (D.int .i64 v12)), (5, .d (D.int .i64 (v13n : Int)))] []) (LoopEnd prog f34 0 27 (.d (D.int .i64 r)) (⟨[], []⟩) (fun i ts os => (i = 0 ∧ ∃ v22 : Int, K0 v22 = some r ∧ ts = [(1, .d (D.int .i64 v22))] ∧ os = [])))
  | [], v13n, v12, hd, h => by
      rw [laws_szOrdinalTermS_l0] at h
      have hn := drop_nil hd
      refine LoopOk.step ?_
      conv => whnf
      refine splD (fun g => absurd g hn) (fun _ => ?_)
      conv => whnf
      exact ⟨_, _, [], [], ⟨rfl, _, h, rfl, rfl⟩, ⟨⟨rfl, rfl⟩, ⟨rfl, trivial⟩, rfl, trivial⟩⟩
  | cs :: rest, v13n, v12, hd, h => by
      rw [laws_szOrdinalTermS_l0] at h
      obtain ⟨hrow, hd1, hlt⟩ := drop_cons hd
      refine LoopOk.step ?_
      conv => whnf
      refine splD (fun _ => ?_) (fun g => absurd hlt g)
      conv => whnf
      obtain ⟨x31, x32, e33, h⟩ := cell_si_ex h
      rw [e33] at hrow
      refine Req.of (Int.natCast_nonneg _) ?_
      refine Row.of _ hrow ?_
      conv => whnf
      obtain ⟨y34, e35, h⟩ := bind_ex h
      refine CallOk.of (laws_szOrdinalTerm_ct hrec_laws_szOrdinal e35) ?_
      conv => whnf
      refine CutK.go ?_
      conv => whnf
      refine splD (fun g36 => ?_) (fun g36 => ?_)
      · replace h := iteP h g36
        conv => whnf
        cases h
        exact Done.of [] [] rfl rfl ⟨⟨rfl, rfl⟩, ⟨rfl, trivial⟩, rfl, trivial⟩
      · replace h := iteN h g36
        conv => whnf
        refine CutK.go ?_
        conv => whnf
        exact LoopOk.back (laws_szOrdinalTermS_l0_ct hrec_laws_szOrdinal hx rest (v13n + 1) _ hd1 h) [] [] ⟨⟨rfl, rfl⟩, ⟨rfl, trivial⟩, rfl, rfl, i64eq (wrap_up hlt hx), trivial⟩
def laws_szOrdinalTermS (rec_laws_szOrdinal : Rw → Int → Option Int) (a1 : Rw) (a2 : Int) : Option Int :=
  (if (IntKind.i64.wrap (a2 - (a1.length : Int))) < (0 : Int) then some (-1) else (if a1.length ≤ cap then (laws_szOrdinalTermS_l0 rec_laws_szOrdinal a1 (fun (v22 : Int) => some v22) a1 (IntKind.i64.wrap (a2 - (a1.length : Int)))) else none))
set_option maxHeartbeats 4000000 in
set_option maxRecDepth 100000 in
theorem laws_szOrdinalTermS_ct {rec_laws_szOrdinal : Rw → Int → Option Int} (hrec_laws_szOrdinal : ∀ (a1 : Rw) (a2 : Int) (r : Int), rec_laws_szOrdinal a1 a2 = some r → Ct prog 8 [.agg [.d (D.sl a1)], .d (D.int .i64 a2)] (⟨[], []⟩) (.d (D.int .i64 r)) (⟨[], []⟩)) {a1 : Rw} {a2 : Int} {r : Int} (h : laws_szOrdinalTermS rec_laws_szOrdinal a1 a2 = some r) : Ct prog 34 [.d (D.sl a1), .d (D.int .i64 a2)] (⟨[], []⟩) (.d (D.int .i64 r)) (⟨[], []⟩) := by
  rw [laws_szOrdinalTermS] at h
  refine Ct.of (c := _) mixed func34 ⟨rfl, rfl, rfl⟩ ?_ rfl
  conv => whnf
  refine splD (fun g3 => ?_) (fun g3 => ?_)
  · replace h := iteP h g3
    conv => whnf
    cases h
    exact Done.of [] [] rfl rfl ⟨⟨rfl, rfl⟩, ⟨rfl, trivial⟩, rfl, trivial⟩
  · replace h := iteN h g3
    conv => whnf
    obtain ⟨g37, h⟩ := req_ex h
    refine LoopOk.into (laws_szOrdinalTermS_l0_ct hrec_laws_szOrdinal g37 _ _ _ rfl h) [] [] ⟨⟨rfl, rfl⟩, ⟨rfl, trivial⟩, rfl, rfl, rfl, trivial⟩ ?_ (fun _ hs => hs)
    rintro i ts os ⟨rfl, v22, h, rfl, rfl⟩
    conv => whnf
    refine CutK.go ?_
    conv => whnf
    cases h
    exact Done.of [] [] rfl rfl ⟨⟨rfl, rfl⟩, ⟨rfl, trivial⟩, rfl, trivial⟩

def laws_szOrdinal_b (rec_laws_szOrdinal : Rw → Int → Option Int) (a1 : Rw) (a2 : Int) : Option Int :=
  ((laws_szOrdinalTermS rec_laws_szOrdinal a1 a2).bind fun y3 => (if y3 < (0 : Int) then some (-1) else some y3))
set_option maxHeartbeats 4000000 in
set_option maxRecDepth 100000 in
theorem laws_szOrdinal_b_ct {rec_laws_szOrdinal : Rw → Int → Option Int} (hrec_laws_szOrdinal : ∀ (a1 : Rw) (a2 : Int) (r : Int), rec_laws_szOrdinal a1 a2 = some r → Ct prog 8 [.agg [.d (D.sl a1)], .d (D.int .i64 a2)] (⟨[], []⟩) (.d (D.int .i64 r)) (⟨[], []⟩)) {a1 : Rw} {a2 : Int} {r : Int} (h : laws_szOrdinal_b rec_laws_szOrdinal a1 a2 = some r) : Ct prog 8 [.agg [.d (D.sl a1)], .d (D.int .i64 a2)] (⟨[], []⟩) (.d (D.int .i64 r)) (⟨[], []⟩) := by
  rw [laws_szOrdinal_b] at h
  refine Ct.of (c := _) mixed func8 ⟨rfl, rfl, rfl⟩ ?_ rfl
  conv => whnf
  obtain ⟨y3, e4, h⟩ := bind_ex h
  refine CallOk.of (laws_szOrdinalTermS_ct hrec_laws_szOrdinal e4) ?_
  conv => whnf
  refine CutK.go ?_
  conv => whnf
  refine splD (fun g5 => ?_) (fun g5 => ?_)
  · replace h := iteP h g5
    conv => whnf
    cases h
    exact Done.of [] [] rfl rfl ⟨⟨rfl, rfl⟩, ⟨rfl, trivial⟩, rfl, trivial⟩
  · replace h := iteN h g5
    conv => whnf
    cases h
    exact Done.of [] [] rfl rfl ⟨⟨rfl, rfl⟩, ⟨rfl, trivial⟩, rfl, trivial⟩
def laws_szOrdinal : Nat → Rw → Int → Option Int
  | 0, _, _ => none
  | k + 1, a1, a2 => laws_szOrdinal_b (laws_szOrdinal k) a1 a2
theorem laws_szOrdinal_ct' : ∀ (k : Nat) (a1 : Rw) (a2 : Int) (r : Int), laws_szOrdinal k a1 a2 = some r → Ct prog 8 [.agg [.d (D.sl a1)], .d (D.int .i64 a2)] (⟨[], []⟩) (.d (D.int .i64 r)) (⟨[], []⟩)
  | 0, _, _, _, h => by rw [laws_szOrdinal] at h; cases h
  | k + 1, _, _, _, h => by rw [laws_szOrdinal] at h; exact laws_szOrdinal_b_ct (laws_szOrdinal_ct' k) h
theorem laws_szOrdinal_ct {k : Nat} {a1 : Rw} {a2 : Int} {r : Int} (h : laws_szOrdinal k a1 a2 = some r) : Ct prog 8 [.agg [.d (D.sl a1)], .d (D.int .i64 a2)] (⟨[], []⟩) (.d (D.int .i64 r)) (⟨[], []⟩) := laws_szOrdinal_ct' k _ _ _ h

def laws_FnExactFundamentalAt_p22 (o165 : Int) (o166 : Int) : Option Bool :=
  (if o166 < (0 : Int) then some false else (if o166 = o165 then some true else some false))
set_option maxHeartbeats 4000000 in
set_option maxRecDepth 100000 in
theorem laws_FnExactFundamentalAt_p22_ct {o165 : Int} {o166 : Int} {r : Bool} (h : laws_FnExactFundamentalAt_p22 o165 o166 = some r) : X prog 0 (tlF f3 22) (mk 101 [(12, .d (D.int .i64 o165)), (13, .d (D.int .i64 o166))] []) (finK prog f3 0 (.d (D.bool r)) (⟨[], []⟩)) := by
  rw [laws_FnExactFundamentalAt_p22] at h
  conv => whnf
  refine splD (fun g169 => ?_) (fun g169 => ?_)
  · replace h := iteP h g169
    conv => whnf
    cases h
    exact Done.of [] [] rfl rfl ⟨⟨rfl, rfl⟩, ⟨rfl, trivial⟩, rfl, trivial⟩
  · replace h := iteN h g169
    conv => whnf
    refine splN (fun g170 => ?_) (fun g170 => ?_)
    · replace h := iteN h g170
      conv => whnf
      cases h
      exact Done.of [] [] rfl rfl ⟨⟨rfl, rfl⟩, ⟨rfl, trivial⟩, rfl, trivial⟩
    · replace h := iteP h g170
      conv => whnf
      cases h
      exact Done.of [] [] rfl rfl ⟨⟨rfl, rfl⟩, ⟨rfl, trivial⟩, rfl, trivial⟩
def laws_FnExactFundamentalAt_p20 (k : Nat) (o152 : Int) (o153 : Rw) : Option Bool :=
  ((laws_heldOrdinal k o153 1).bind fun y171 => (laws_FnExactFundamentalAt_p22 o152 y171))
set_option maxHeartbeats 4000000 in
set_option maxRecDepth 100000 in
theorem laws_FnExactFundamentalAt_p20_ct {k : Nat} {o152 : Int} {o153 : Rw} {r : Bool} (h : laws_FnExactFundamentalAt_p20 k o152 o153 = some r) : X prog 0 (tlF f3 20) (mk 101 [(9, .ptr 576 0), (12, .d (D.int .i64 o152))] [(576, .box 28 [.os 1164000 o153.length]), (1164000, .arr 77 true o153)]) (finK prog f3 0 (.d (D.bool r)) (⟨[], []⟩)) := by
  rw [laws_FnExactFundamentalAt_p20] at h
  conv => whnf
  refine Choice.old ?_
  conv => whnf
  refine Take.all (rfl) ?_
  conv => whnf
  obtain ⟨y171, e172, h⟩ := bind_ex h
  refine CallOk.of (laws_heldOrdinal_ct e172) ?_
  conv => whnf
  exact CutK.piece (laws_FnExactFundamentalAt_p22_ct  h) [] [] ⟨⟨rfl, rfl⟩, ⟨rfl, trivial⟩, rfl, rfl, trivial⟩
def laws_FnExactFundamentalAt_p19 (k : Nat) (o136 : Int) (o137 : Rw) (o138 : Rw) (o139 : Rw) (v140 : Bool) (v148 : Bool) : Option Bool :=
  (cond v140 (cond v148 ((laws_eqOrdinal k o139 o137).bind fun y182 => (if y182 = true then (laws_FnExactFundamentalAt_p20 k o136 o138) else some false)) ((laws_eqOrdinal k o139 o137).bind fun y179 => (if y179 = true then some false else some false))) (cond v148 ((laws_eqOrdinal k o139 o137).bind fun y176 => (if y176 = true then some false else some false)) ((laws_eqOrdinal k o139 o137).bind fun y173 => (if y173 = true then (laws_FnExactFundamentalAt_p20 k o136 o138) else some false))))
set_option maxHeartbeats 4000000 in
set_option maxRecDepth 100000 in
theorem laws_FnExactFundamentalAt_p19_ct {k : Nat} {o136 : Int} {o137 : Rw} {o138 : Rw} {o139 : Rw} {v140 : Bool} {v148 : Bool} {r : Bool} (h : laws_FnExactFundamentalAt_p19 k o136 o137 o138 o139 v140 v148 = some r) : X prog 0 (tlF f3 19) (mk 101 [(6, .ptr 384 0), (7, .d (D.bool v148)), (9, .ptr 576 0), (12, .d (D.int .i64 o136)), (14, .ptr 896 0), (15, .d (D.bool v140))] [(384, .box 28 [.os 1159000 o137.length]), (576, .box 28 [.os 1159001 o138.length]), (896, .box 28 [.os 1159002 o139.length]), (1159000, .arr 77 true o137), (1159001, .arr 77 true o138), (1159002, .arr 77 true o139)]) (finK prog f3 0 (.d (D.bool r)) (⟨[], []⟩)) := by
  rw [laws_FnExactFundamentalAt_p19] at h
  cases v140
  · replace h := condF h
    cases v148
    · replace h := condF h
      conv => whnf
      refine Take.all (rfl) ?_
      conv => whnf
      refine Take.all (rfl) ?_
      conv => whnf
      obtain ⟨y173, e174, h⟩ := bind_ex h
      refine CallOk.of (laws_eqOrdinal_ct e174) ?_
      conv => whnf
      refine spl (fun g175 => ?_) (fun g175 => ?_)
      · replace h := iteT h g175
        conv => whnf
        refine splF ?_
        conv => whnf
        refine CutK.norm [9, 12, 92] [576, 1159001] ?_
        conv => whnf
        exact CutK.piece (laws_FnExactFundamentalAt_p20_ct  h) [some 576, some 1159001] [] ⟨⟨rfl, rfl⟩, ⟨rfl, ⟨rfl, ⟨rfl, rfl⟩, trivial⟩, ⟨rfl, rfl, rows_same⟩, trivial⟩, ⟨rfl, rfl⟩, rfl, trivial⟩
      · replace h := iteF h g175
        conv => whnf
        refine CutK.norm [9, 12, 92] [576, 1159001] ?_
        conv => whnf
        cases h
        exact Done.of [] [] rfl rfl ⟨⟨rfl, rfl⟩, ⟨rfl, trivial⟩, rfl, trivial⟩
    · replace h := condT h
      conv => whnf
      refine Take.all (rfl) ?_
      conv => whnf
      refine Take.all (rfl) ?_
      conv => whnf
      obtain ⟨y176, e177, h⟩ := bind_ex h
      refine CallOk.of (laws_eqOrdinal_ct e177) ?_
      conv => whnf
      refine spl (fun g178 => ?_) (fun g178 => ?_)
      · replace h := iteT h g178
        conv => whnf
        refine splT ?_
        conv => whnf
        refine CutK.norm [9, 12, 92] [576, 1159001] ?_
        conv => whnf
        cases h
        exact Done.of [] [] rfl rfl ⟨⟨rfl, rfl⟩, ⟨rfl, trivial⟩, rfl, trivial⟩
      · replace h := iteF h g178
        conv => whnf
        refine CutK.norm [9, 12, 92] [576, 1159001] ?_
        conv => whnf
        cases h
        exact Done.of [] [] rfl rfl ⟨⟨rfl, rfl⟩, ⟨rfl, trivial⟩, rfl, trivial⟩
  · replace h := condT h
    cases v148
    · replace h := condF h
      conv => whnf
      refine Take.all (rfl) ?_
      conv => whnf
      refine Take.all (rfl) ?_
      conv => whnf
      obtain ⟨y179, e180, h⟩ := bind_ex h
      refine CallOk.of (laws_eqOrdinal_ct e180) ?_
      conv => whnf
      refine spl (fun g181 => ?_) (fun g181 => ?_)
      · replace h := iteT h g181
        conv => whnf
        refine splT ?_
        conv => whnf
        refine CutK.norm [9, 12, 92] [576, 1159001] ?_
        conv => whnf
        cases h
        exact Done.of [] [] rfl rfl ⟨⟨rfl, rfl⟩, ⟨rfl, trivial⟩, rfl, trivial⟩
      · replace h := iteF h g181
        conv => whnf
        refine CutK.norm [9, 12, 92] [576, 1159001] ?_
        conv => whnf
        cases h
        exact Done.of [] [] rfl rfl ⟨⟨rfl, rfl⟩, ⟨rfl, trivial⟩, rfl, trivial⟩
    · replace h := condT h
      conv => whnf
      refine Take.all (rfl) ?_
      conv => whnf
      refine Take.all (rfl) ?_
      conv => whnf
      obtain ⟨y182, e183, h⟩ := bind_ex h
      refine CallOk.of (laws_eqOrdinal_ct e183) ?_
      conv => whnf
      refine spl (fun g184 => ?_) (fun g184 => ?_)
      · replace h := iteT h g184
        conv => whnf
        refine splF ?_
        conv => whnf
        refine CutK.norm [9, 12, 92] [576, 1159001] ?_
        conv => whnf
        exact CutK.piece (laws_FnExactFundamentalAt_p20_ct  h) [some 576, some 1159001] [] ⟨⟨rfl, rfl⟩, ⟨rfl, ⟨rfl, ⟨rfl, rfl⟩, trivial⟩, ⟨rfl, rfl, rows_same⟩, trivial⟩, ⟨rfl, rfl⟩, rfl, trivial⟩
      · replace h := iteF h g184
        conv => whnf
        refine CutK.norm [9, 12, 92] [576, 1159001] ?_
        conv => whnf
        cases h
        exact Done.of [] [] rfl rfl ⟨⟨rfl, rfl⟩, ⟨rfl, trivial⟩, rfl, trivial⟩
def laws_FnExactFundamentalAt_p16 (k : Nat) (a1 : Rw) (a2 : Int) (o122 : Int) (o123 : Int) (o124 : Rw) (o125 : Rw) (v128 : Bool) : Option Bool :=
  (cond v128 (if o123 < (0 : Int) then some false else (if o123 = o122 then ((laws_toOrdinal k a1).bind fun y194 => ((impl_FundamentalAt k y194 a2).bind fun y196 => (if y196.2 = true then (laws_FnExactFundamentalAt_p19 k o122 o124 o125 y196.1 true true) else (laws_FnExactFundamentalAt_p19 k o122 o124 o125 y196.1 false true)))) else some false)) (if o123 < (0 : Int) then some false else (if o123 = o122 then ((laws_toOrdinal k a1).bind fun y187 => ((impl_FundamentalAt k y187 a2).bind fun y189 => (if y189.2 = true then (laws_FnExactFundamentalAt_p19 k o122 o124 o125 y189.1 true false) else (laws_FnExactFundamentalAt_p19 k o122 o124 o125 y189.1 false false)))) else some false)))
set_option maxHeartbeats 4000000 in
set_option maxRecDepth 100000 in
theorem laws_FnExactFundamentalAt_p16_ct {k : Nat} {a1 : Rw} {a2 : Int} {o122 : Int} {o123 : Int} {o124 : Rw} {o125 : Rw} {v128 : Bool} {r : Bool} (h : laws_FnExactFundamentalAt_p16 k a1 a2 o122 o123 o124 o125 v128 = some r) : X prog 0 (tlF f3 16) (mk 101 [(1, .d (D.int .i64 a2)), (2, .ptr 128 0), (6, .ptr 384 0), (7, .d (D.bool v128)), (9, .ptr 576 0), (12, .d (D.int .i64 o122)), (13, .d (D.int .i64 o123))] [(128, .box 24 [.d (D.sl a1)]), (384, .box 28 [.os 1144000 o124.length]), (576, .box 28 [.os 1144001 o125.length]), (1144000, .arr 77 true o124), (1144001, .arr 77 true o125)]) (finK prog f3 0 (.d (D.bool r)) (⟨[], []⟩)) := by
  rw [laws_FnExactFundamentalAt_p16] at h
  cases v128
  · replace h := condF h
    conv => whnf
    refine splD (fun g185 => ?_) (fun g185 => ?_)
    · replace h := iteP h g185
      conv => whnf
      cases h
      exact Done.of [] [] rfl rfl ⟨⟨rfl, rfl⟩, ⟨rfl, trivial⟩, rfl, trivial⟩
    · replace h := iteN h g185
      conv => whnf
      refine splN (fun g186 => ?_) (fun g186 => ?_)
      · replace h := iteN h g186
        conv => whnf
        cases h
        exact Done.of [] [] rfl rfl ⟨⟨rfl, rfl⟩, ⟨rfl, trivial⟩, rfl, trivial⟩
      · replace h := iteP h g186
        conv => whnf
        obtain ⟨y187, e188, h⟩ := bind_ex h
        refine CallOk.of (laws_toOrdinal_ct e188) ?_
        conv => whnf
        refine Choice.old ?_
        conv => whnf
        refine Take.all (rfl) ?_
        conv => whnf
        obtain ⟨y189, e190, h⟩ := bind_ex h
        refine CallOk.of (impl_FundamentalAt_ct e190) ?_
        conv => whnf
        refine spl (fun g191 => ?_) (fun g191 => ?_)
        · replace h := iteT h g191
          conv => whnf
          exact CutK.piece (laws_FnExactFundamentalAt_p19_ct  h) [some 384, some 576, some 896, some 1144000, some 1144001, some 5184] [] ⟨⟨rfl, rfl⟩, ⟨rfl, ⟨rfl, ⟨rfl, rfl⟩, trivial⟩, ⟨rfl, ⟨rfl, rfl⟩, trivial⟩, ⟨rfl, ⟨rfl, rfl⟩, trivial⟩, ⟨rfl, rfl, rows_same⟩, ⟨rfl, rfl, rows_same⟩, ⟨rfl, rfl, rows_same⟩, trivial⟩, ⟨rfl, rfl⟩, rfl, ⟨rfl, rfl⟩, rfl, ⟨rfl, rfl⟩, rfl, trivial⟩
        · replace h := iteF h g191
          conv => whnf
          exact CutK.piece (laws_FnExactFundamentalAt_p19_ct  h) [some 384, some 576, some 896, some 1144000, some 1144001, some 5184] [] ⟨⟨rfl, rfl⟩, ⟨rfl, ⟨rfl, ⟨rfl, rfl⟩, trivial⟩, ⟨rfl, ⟨rfl, rfl⟩, trivial⟩, ⟨rfl, ⟨rfl, rfl⟩, trivial⟩, ⟨rfl, rfl, rows_same⟩, ⟨rfl, rfl, rows_same⟩, ⟨rfl, rfl, rows_same⟩, trivial⟩, ⟨rfl, rfl⟩, rfl, ⟨rfl, rfl⟩, rfl, ⟨rfl, rfl⟩, rfl, trivial⟩
  · replace h := condT h
    conv => whnf
    refine splD (fun g192 => ?_) (fun g192 => ?_)
    · replace h := iteP h g192
      conv => whnf
      cases h
      exact Done.of [] [] rfl rfl ⟨⟨rfl, rfl⟩, ⟨rfl, trivial⟩, rfl, trivial⟩
    · replace h := iteN h g192
      conv => whnf
      refine splN (fun g193 => ?_) (fun g193 => ?_)
      · replace h := iteN h g193
        conv => whnf
        cases h
        exact Done.of [] [] rfl rfl ⟨⟨rfl, rfl⟩, ⟨rfl, trivial⟩, rfl, trivial⟩
      · replace h := iteP h g193
        conv => whnf
        obtain ⟨y194, e195, h⟩ := bind_ex h
        refine CallOk.of (laws_toOrdinal_ct e195) ?_
        conv => whnf
        refine Choice.old ?_
        conv => whnf
        refine Take.all (rfl) ?_
        conv => whnf
        obtain ⟨y196, e197, h⟩ := bind_ex h
        refine CallOk.of (impl_FundamentalAt_ct e197) ?_
        conv => whnf
        refine spl (fun g198 => ?_) (fun g198 => ?_)
        · replace h := iteT h g198
          conv => whnf
          exact CutK.piece (laws_FnExactFundamentalAt_p19_ct  h) [some 384, some 576, some 896, some 1144000, some 1144001, some 5184] [] ⟨⟨rfl, rfl⟩, ⟨rfl, ⟨rfl, ⟨rfl, rfl⟩, trivial⟩, ⟨rfl, ⟨rfl, rfl⟩, trivial⟩, ⟨rfl, ⟨rfl, rfl⟩, trivial⟩, ⟨rfl, rfl, rows_same⟩, ⟨rfl, rfl, rows_same⟩, ⟨rfl, rfl, rows_same⟩, trivial⟩, ⟨rfl, rfl⟩, rfl, ⟨rfl, rfl⟩, rfl, ⟨rfl, rfl⟩, rfl, trivial⟩
        · replace h := iteF h g198
          conv => whnf
          exact CutK.piece (laws_FnExactFundamentalAt_p19_ct  h) [some 384, some 576, some 896, some 1144000, some 1144001, some 5184] [] ⟨⟨rfl, rfl⟩, ⟨rfl, ⟨rfl, ⟨rfl, rfl⟩, trivial⟩, ⟨rfl, ⟨rfl, rfl⟩, trivial⟩, ⟨rfl, ⟨rfl, rfl⟩, trivial⟩, ⟨rfl, rfl, rows_same⟩, ⟨rfl, rfl, rows_same⟩, ⟨rfl, rfl, rows_same⟩, trivial⟩, ⟨rfl, rfl⟩, rfl, ⟨rfl, rfl⟩, rfl, ⟨rfl, rfl⟩, rfl, trivial⟩
def laws_FnExactFundamentalAt_p14 (k : Nat) (a1 : Rw) (a2 : Int) (o113 : Int) (o114 : Rw) (o115 : Rw) (v119 : Bool) : Option Bool :=
  (cond v119 ((laws_heldOrdinal k o115 1).bind fun y201 => (laws_FnExactFundamentalAt_p16 k a1 a2 o113 y201 o114 o115 true)) ((laws_heldOrdinal k o115 1).bind fun y199 => (laws_FnExactFundamentalAt_p16 k a1 a2 o113 y199 o114 o115 false)))
set_option maxHeartbeats 4000000 in
set_option maxRecDepth 100000 in
theorem laws_FnExactFundamentalAt_p14_ct {k : Nat} {a1 : Rw} {a2 : Int} {o113 : Int} {o114 : Rw} {o115 : Rw} {v119 : Bool} {r : Bool} (h : laws_FnExactFundamentalAt_p14 k a1 a2 o113 o114 o115 v119 = some r) : X prog 0 (tlF f3 14) (mk 101 [(1, .d (D.int .i64 a2)), (2, .ptr 128 0), (6, .ptr 384 0), (7, .d (D.bool v119)), (9, .ptr 576 0), (12, .d (D.int .i64 o113))] [(128, .box 24 [.d (D.sl a1)]), (384, .box 28 [.os 1134000 o114.length]), (576, .box 28 [.os 1134001 o115.length]), (1134000, .arr 77 true o114), (1134001, .arr 77 true o115)]) (finK prog f3 0 (.d (D.bool r)) (⟨[], []⟩)) := by
  rw [laws_FnExactFundamentalAt_p14] at h
  cases v119
  · replace h := condF h
    conv => whnf
    refine Choice.old ?_
    conv => whnf
    refine Take.all (rfl) ?_
    conv => whnf
    obtain ⟨y199, e200, h⟩ := bind_ex h
    refine CallOk.of (laws_heldOrdinal_ct e200) ?_
    conv => whnf
    exact CutK.piece (laws_FnExactFundamentalAt_p16_ct  h) [some 128, some 384, some 576, some 1134000, some 1134001] [] ⟨⟨rfl, rfl⟩, ⟨rfl, ⟨rfl, rfl, trivial⟩, ⟨rfl, ⟨rfl, rfl⟩, trivial⟩, ⟨rfl, ⟨rfl, rfl⟩, trivial⟩, ⟨rfl, rfl, rows_same⟩, ⟨rfl, rfl, rows_same⟩, trivial⟩, rfl, ⟨rfl, rfl⟩, ⟨rfl, rfl⟩, rfl, ⟨rfl, rfl⟩, rfl, rfl, trivial⟩
  · replace h := condT h
    conv => whnf
    refine Choice.old ?_
    conv => whnf
    refine Take.all (rfl) ?_
    conv => whnf
    obtain ⟨y201, e202, h⟩ := bind_ex h
    refine CallOk.of (laws_heldOrdinal_ct e202) ?_
    conv => whnf
    exact CutK.piece (laws_FnExactFundamentalAt_p16_ct  h) [some 128, some 384, some 576, some 1134000, some 1134001] [] ⟨⟨rfl, rfl⟩, ⟨rfl, ⟨rfl, rfl, trivial⟩, ⟨rfl, ⟨rfl, rfl⟩, trivial⟩, ⟨rfl, ⟨rfl, rfl⟩, trivial⟩, ⟨rfl, rfl, rows_same⟩, ⟨rfl, rfl, rows_same⟩, trivial⟩, rfl, ⟨rfl, rfl⟩, ⟨rfl, rfl⟩, rfl, ⟨rfl, rfl⟩, rfl, rfl, trivial⟩
def laws_FnExactFundamentalAt_p12 (k : Nat) (a1 : Rw) (a2 : Int) (o95 : Rw) (o96 : Rw) (v109 : Bool) : Option Bool :=
  (cond v109 ((laws_markOrdinal k o96 1).bind fun y206 => (if y206.2.length = o96.length then (laws_FnExactFundamentalAt_p14 k a1 a2 y206.1 o95 y206.2 true) else none)) ((laws_markOrdinal k o96 1).bind fun y203 => (if y203.2.length = o96.length then (laws_FnExactFundamentalAt_p14 k a1 a2 y203.1 o95 y203.2 false) else none)))
set_option maxHeartbeats 4000000 in
set_option maxRecDepth 100000 in
theorem laws_FnExactFundamentalAt_p12_ct {k : Nat} {a1 : Rw} {a2 : Int} {o95 : Rw} {o96 : Rw} {v109 : Bool} {r : Bool} (h : laws_FnExactFundamentalAt_p12 k a1 a2 o95 o96 v109 = some r) : X prog 0 (tlF f3 12) (mk 101 [(1, .d (D.int .i64 a2)), (2, .ptr 128 0), (6, .ptr 384 0), (7, .d (D.bool v109)), (9, .ptr 576 0)] [(128, .box 24 [.d (D.sl a1)]), (384, .box 28 [.os 1124000 o95.length]), (576, .box 28 [.os 1124001 o96.length]), (1124000, .arr 77 true o95), (1124001, .arr 77 true o96)]) (finK prog f3 0 (.d (D.bool r)) (⟨[], []⟩)) := by
  rw [laws_FnExactFundamentalAt_p12] at h
  cases v109
  · replace h := condF h
    conv => whnf
    refine Choice.new ?_
    conv => whnf
    refine Req.of (rfl) ?_
    conv => whnf
    obtain ⟨y203, e204, h⟩ := bind_ex h
    refine MarkOk.of (laws_markOrdinal_ct e204) ?_
    conv => whnf
    obtain ⟨g205, h⟩ := req_ex h
    exact CutK.piece (laws_FnExactFundamentalAt_p14_ct  h) [some 128, some 384, some 576, some 1124000, some 1124001] [] ⟨⟨rfl, rfl⟩, ⟨rfl, ⟨rfl, rfl, trivial⟩, ⟨rfl, ⟨rfl, rfl⟩, trivial⟩, ⟨rfl, ⟨(by first | rfl | exact List.length_append.symm | (simp; done) | omega), rfl⟩, trivial⟩, ⟨rfl, rfl, rows_same⟩, ⟨rfl, rfl, rows_same⟩, trivial⟩, rfl, ⟨rfl, rfl⟩, ⟨rfl, rfl⟩, rfl, ⟨rfl, rfl⟩, rfl, trivial⟩
  · replace h := condT h
    conv => whnf
    refine Choice.new ?_
    conv => whnf
    refine Req.of (rfl) ?_
    conv => whnf
    obtain ⟨y206, e207, h⟩ := bind_ex h
    refine MarkOk.of (laws_markOrdinal_ct e207) ?_
    conv => whnf
    obtain ⟨g208, h⟩ := req_ex h
    exact CutK.piece (laws_FnExactFundamentalAt_p14_ct  h) [some 128, some 384, some 576, some 1124000, some 1124001] [] ⟨⟨rfl, rfl⟩, ⟨rfl, ⟨rfl, rfl, trivial⟩, ⟨rfl, ⟨rfl, rfl⟩, trivial⟩, ⟨rfl, ⟨(by first | rfl | exact List.length_append.symm | (simp; done) | omega), rfl⟩, trivial⟩, ⟨rfl, rfl, rows_same⟩, ⟨rfl, rfl, rows_same⟩, trivial⟩, rfl, ⟨rfl, rfl⟩, ⟨rfl, rfl⟩, rfl, ⟨rfl, rfl⟩, rfl, trivial⟩
def laws_FnExactFundamentalAt_p11 (k : Nat) (a1 : Rw) (a2 : Int) (o77 : Int) (o78 : Rw) (o79 : Rw) (v83 : Bool) (v87 : Bool) : Option Bool :=
  (cond v83 (cond v87 (if o77 < (0 : Int) then some false else ((laws_eqOrdinal k o79 o78).bind fun y222 => (if y222 = true then (laws_FnExactFundamentalAt_p12 k a1 a2 o78 o79 true) else some false))) (if o77 < (0 : Int) then some false else ((laws_eqOrdinal k o79 o78).bind fun y218 => (if y218 = true then some false else some false)))) (cond v87 (if o77 < (0 : Int) then some false else ((laws_eqOrdinal k o79 o78).bind fun y214 => (if y214 = true then some false else some false))) (if o77 < (0 : Int) then some false else ((laws_eqOrdinal k o79 o78).bind fun y210 => (if y210 = true then (laws_FnExactFundamentalAt_p12 k a1 a2 o78 o79 false) else some false)))))
set_option maxHeartbeats 4000000 in
set_option maxRecDepth 100000 in
theorem laws_FnExactFundamentalAt_p11_ct {k : Nat} {a1 : Rw} {a2 : Int} {o77 : Int} {o78 : Rw} {o79 : Rw} {v83 : Bool} {v87 : Bool} {r : Bool} (h : laws_FnExactFundamentalAt_p11 k a1 a2 o77 o78 o79 v83 v87 = some r) : X prog 0 (tlF f3 11) (mk 101 [(1, .d (D.int .i64 a2)), (2, .ptr 128 0), (6, .ptr 384 0), (7, .d (D.bool v83)), (9, .ptr 576 0), (10, .d (D.bool v87)), (11, .d (D.int .i64 o77))] [(128, .box 24 [.d (D.sl a1)]), (384, .box 28 [.os 1119000 o78.length]), (576, .box 28 [.os 1119001 o79.length]), (1119000, .arr 77 true o78), (1119001, .arr 77 true o79)]) (finK prog f3 0 (.d (D.bool r)) (⟨[], []⟩)) := by
  rw [laws_FnExactFundamentalAt_p11] at h
  cases v83
  · replace h := condF h
    cases v87
    · replace h := condF h
      conv => whnf
      refine splD (fun g209 => ?_) (fun g209 => ?_)
      · replace h := iteP h g209
        conv => whnf
        refine CutK.norm [1, 2, 6, 7, 9, 65] [128, 384, 576, 1119000, 1119001] ?_
        conv => whnf
        cases h
        exact Done.of [] [] rfl rfl ⟨⟨rfl, rfl⟩, ⟨rfl, trivial⟩, rfl, trivial⟩
      · replace h := iteN h g209
        conv => whnf
        refine Take.all (rfl) ?_
        conv => whnf
        refine Take.all (rfl) ?_
        conv => whnf
        obtain ⟨y210, e211, h⟩ := bind_ex h
        refine CallOk.of (laws_eqOrdinal_ct e211) ?_
        conv => whnf
        refine spl (fun g212 => ?_) (fun g212 => ?_)
        · replace h := iteT h g212
          conv => whnf
          refine splF ?_
          conv => whnf
          refine CutK.norm [1, 2, 6, 7, 9, 65] [128, 384, 576, 1119000, 1119001] ?_
          conv => whnf
          exact CutK.piece (laws_FnExactFundamentalAt_p12_ct  h) [some 128, some 384, some 576, some 1119000, some 1119001] [] ⟨⟨rfl, rfl⟩, ⟨rfl, ⟨rfl, rfl, trivial⟩, ⟨rfl, ⟨rfl, rfl⟩, trivial⟩, ⟨rfl, ⟨rfl, rfl⟩, trivial⟩, ⟨rfl, rfl, rows_same⟩, ⟨rfl, rfl, rows_same⟩, trivial⟩, rfl, ⟨rfl, rfl⟩, ⟨rfl, rfl⟩, rfl, ⟨rfl, rfl⟩, trivial⟩
        · replace h := iteF h g212
          conv => whnf
          refine CutK.norm [1, 2, 6, 7, 9, 65] [128, 384, 576, 1119000, 1119001] ?_
          conv => whnf
          cases h
          exact Done.of [] [] rfl rfl ⟨⟨rfl, rfl⟩, ⟨rfl, trivial⟩, rfl, trivial⟩
    · replace h := condT h
      conv => whnf
      refine splD (fun g213 => ?_) (fun g213 => ?_)
      · replace h := iteP h g213
        conv => whnf
        refine CutK.norm [1, 2, 6, 7, 9, 65] [128, 384, 576, 1119000, 1119001] ?_
        conv => whnf
        cases h
        exact Done.of [] [] rfl rfl ⟨⟨rfl, rfl⟩, ⟨rfl, trivial⟩, rfl, trivial⟩
      · replace h := iteN h g213
        conv => whnf
        refine Take.all (rfl) ?_
        conv => whnf
        refine Take.all (rfl) ?_
        conv => whnf
        obtain ⟨y214, e215, h⟩ := bind_ex h
        refine CallOk.of (laws_eqOrdinal_ct e215) ?_
        conv => whnf
        refine spl (fun g216 => ?_) (fun g216 => ?_)
        · replace h := iteT h g216
          conv => whnf
          refine splT ?_
          conv => whnf
          refine CutK.norm [1, 2, 6, 7, 9, 65] [128, 384, 576, 1119000, 1119001] ?_
          conv => whnf
          cases h
          exact Done.of [] [] rfl rfl ⟨⟨rfl, rfl⟩, ⟨rfl, trivial⟩, rfl, trivial⟩
        · replace h := iteF h g216
          conv => whnf
          refine CutK.norm [1, 2, 6, 7, 9, 65] [128, 384, 576, 1119000, 1119001] ?_
          conv => whnf
          cases h
          exact Done.of [] [] rfl rfl ⟨⟨rfl, rfl⟩, ⟨rfl, trivial⟩, rfl, trivial⟩
  · replace h := condT h
    cases v87
    · replace h := condF h
      conv => whnf
      refine splD (fun g217 => ?_) (fun g217 => ?_)
      · replace h := iteP h g217
        conv => whnf
        refine CutK.norm [1, 2, 6, 7, 9, 65] [128, 384, 576, 1119000, 1119001] ?_
        conv => whnf
        cases h
        exact Done.of [] [] rfl rfl ⟨⟨rfl, rfl⟩, ⟨rfl, trivial⟩, rfl, trivial⟩
      · replace h := iteN h g217
        conv => whnf
        refine Take.all (rfl) ?_
        conv => whnf
        refine Take.all (rfl) ?_
        conv => whnf
        obtain ⟨y218, e219, h⟩ := bind_ex h
        refine CallOk.of (laws_eqOrdinal_ct e219) ?_
        conv => whnf
        refine spl (fun g220 => ?_) (fun g220 => ?_)
        · replace h := iteT h g220
          conv => whnf
          refine splT ?_
          conv => whnf
          refine CutK.norm [1, 2, 6, 7, 9, 65] [128, 384, 576, 1119000, 1119001] ?_
          conv => whnf
          cases h
          exact Done.of [] [] rfl rfl ⟨⟨rfl, rfl⟩, ⟨rfl, trivial⟩, rfl, trivial⟩
        · replace h := iteF h g220
          conv => whnf
          refine CutK.norm [1, 2, 6, 7, 9, 65] [128, 384, 576, 1119000, 1119001] ?_
          conv => whnf
          cases h
          exact Done.of [] [] rfl rfl ⟨⟨rfl, rfl⟩, ⟨rfl, trivial⟩, rfl, trivial⟩
    · replace h := condT h
      conv => whnf
      refine splD (fun g221 => ?_) (fun g221 => ?_)
      · replace h := iteP h g221
        conv => whnf
        refine CutK.norm [1, 2, 6, 7, 9, 65] [128, 384, 576, 1119000, 1119001] ?_
        conv => whnf
        cases h
        exact Done.of [] [] rfl rfl ⟨⟨rfl, rfl⟩, ⟨rfl, trivial⟩, rfl, trivial⟩
      · replace h := iteN h g221
        conv => whnf
        refine Take.all (rfl) ?_
        conv => whnf
        refine Take.all (rfl) ?_
        conv => whnf
        obtain ⟨y222, e223, h⟩ := bind_ex h
        refine CallOk.of (laws_eqOrdinal_ct e223) ?_
        conv => whnf
        refine spl (fun g224 => ?_) (fun g224 => ?_)
        · replace h := iteT h g224
          conv => whnf
          refine splF ?_
          conv => whnf
          refine CutK.norm [1, 2, 6, 7, 9, 65] [128, 384, 576, 1119000, 1119001] ?_
          conv => whnf
          exact CutK.piece (laws_FnExactFundamentalAt_p12_ct  h) [some 128, some 384, some 576, some 1119000, some 1119001] [] ⟨⟨rfl, rfl⟩, ⟨rfl, ⟨rfl, rfl, trivial⟩, ⟨rfl, ⟨rfl, rfl⟩, trivial⟩, ⟨rfl, ⟨rfl, rfl⟩, trivial⟩, ⟨rfl, rfl, rows_same⟩, ⟨rfl, rfl, rows_same⟩, trivial⟩, rfl, ⟨rfl, rfl⟩, ⟨rfl, rfl⟩, rfl, ⟨rfl, rfl⟩, trivial⟩
        · replace h := iteF h g224
          conv => whnf
          refine CutK.norm [1, 2, 6, 7, 9, 65] [128, 384, 576, 1119000, 1119001] ?_
          conv => whnf
          cases h
          exact Done.of [] [] rfl rfl ⟨⟨rfl, rfl⟩, ⟨rfl, trivial⟩, rfl, trivial⟩
def laws_FnExactFundamentalAt_p9 (k : Nat) (a1 : Rw) (a2 : Int) (o54 : Rw) (o55 : Rw) (o56 : Rw) (v62 : Bool) (v68 : Bool) : Option Bool :=
  (cond v62 (cond v68 ((laws_markOrdinal k o55 1).bind fun y234 => (if y234.2.length = o55.length then (laws_FnExactFundamentalAt_p11 k a1 a2 y234.1 o54 o56 true true) else none)) ((laws_markOrdinal k o55 1).bind fun y231 => (if y231.2.length = o55.length then (laws_FnExactFundamentalAt_p11 k a1 a2 y231.1 o54 o56 false true) else none))) (cond v68 ((laws_markOrdinal k o55 1).bind fun y228 => (if y228.2.length = o55.length then (laws_FnExactFundamentalAt_p11 k a1 a2 y228.1 o54 o56 true false) else none)) ((laws_markOrdinal k o55 1).bind fun y225 => (if y225.2.length = o55.length then (laws_FnExactFundamentalAt_p11 k a1 a2 y225.1 o54 o56 false false) else none))))
set_option maxHeartbeats 4000000 in
set_option maxRecDepth 100000 in
theorem laws_FnExactFundamentalAt_p9_ct {k : Nat} {a1 : Rw} {a2 : Int} {o54 : Rw} {o55 : Rw} {o56 : Rw} {v62 : Bool} {v68 : Bool} {r : Bool} (h : laws_FnExactFundamentalAt_p9 k a1 a2 o54 o55 o56 v62 v68 = some r) : X prog 0 (tlF f3 9) (mk 101 [(1, .d (D.int .i64 a2)), (2, .ptr 128 0), (6, .ptr 384 0), (7, .d (D.bool v68)), (8, .ptr 512 0), (9, .ptr 576 0), (10, .d (D.bool v62))] [(128, .box 24 [.d (D.sl a1)]), (384, .box 28 [.os 1109000 o54.length]), (512, .box 28 [.os 1109001 o55.length]), (576, .box 28 [.os 1109002 o56.length]), (1109000, .arr 77 true o54), (1109001, .arr 77 true o55), (1109002, .arr 77 true o56)]) (finK prog f3 0 (.d (D.bool r)) (⟨[], []⟩)) := by
  rw [laws_FnExactFundamentalAt_p9] at h
  cases v62
  · replace h := condF h
    cases v68
    · replace h := condF h
      conv => whnf
      refine Choice.new ?_
      conv => whnf
      refine Req.of (rfl) ?_
      conv => whnf
      obtain ⟨y225, e226, h⟩ := bind_ex h
      refine MarkOk.of (laws_markOrdinal_ct e226) ?_
      conv => whnf
      obtain ⟨g227, h⟩ := req_ex h
      exact CutK.piece (laws_FnExactFundamentalAt_p11_ct  h) [some 128, some 384, some 576, some 1109000, some 1109002] [] ⟨⟨rfl, rfl⟩, ⟨rfl, ⟨rfl, rfl, trivial⟩, ⟨rfl, ⟨rfl, rfl⟩, trivial⟩, ⟨rfl, ⟨rfl, rfl⟩, trivial⟩, ⟨rfl, rfl, rows_same⟩, ⟨rfl, rfl, rows_same⟩, trivial⟩, rfl, ⟨rfl, rfl⟩, ⟨rfl, rfl⟩, rfl, ⟨rfl, rfl⟩, rfl, rfl, trivial⟩
    · replace h := condT h
      conv => whnf
      refine Choice.new ?_
      conv => whnf
      refine Req.of (rfl) ?_
      conv => whnf
      obtain ⟨y228, e229, h⟩ := bind_ex h
      refine MarkOk.of (laws_markOrdinal_ct e229) ?_
      conv => whnf
      obtain ⟨g230, h⟩ := req_ex h
      exact CutK.piece (laws_FnExactFundamentalAt_p11_ct  h) [some 128, some 384, some 576, some 1109000, some 1109002] [] ⟨⟨rfl, rfl⟩, ⟨rfl, ⟨rfl, rfl, trivial⟩, ⟨rfl, ⟨rfl, rfl⟩, trivial⟩, ⟨rfl, ⟨rfl, rfl⟩, trivial⟩, ⟨rfl, rfl, rows_same⟩, ⟨rfl, rfl, rows_same⟩, trivial⟩, rfl, ⟨rfl, rfl⟩, ⟨rfl, rfl⟩, rfl, ⟨rfl, rfl⟩, rfl, rfl, trivial⟩
  · replace h := condT h
    cases v68
    · replace h := condF h
      conv => whnf
      refine Choice.new ?_
      conv => whnf
      refine Req.of (rfl) ?_
      conv => whnf
      obtain ⟨y231, e232, h⟩ := bind_ex h
      refine MarkOk.of (laws_markOrdinal_ct e232) ?_
      conv => whnf
      obtain ⟨g233, h⟩ := req_ex h
      exact CutK.piece (laws_FnExactFundamentalAt_p11_ct  h) [some 128, some 384, some 576, some 1109000, some 1109002] [] ⟨⟨rfl, rfl⟩, ⟨rfl, ⟨rfl, rfl, trivial⟩, ⟨rfl, ⟨rfl, rfl⟩, trivial⟩, ⟨rfl, ⟨rfl, rfl⟩, trivial⟩, ⟨rfl, rfl, rows_same⟩, ⟨rfl, rfl, rows_same⟩, trivial⟩, rfl, ⟨rfl, rfl⟩, ⟨rfl, rfl⟩, rfl, ⟨rfl, rfl⟩, rfl, rfl, trivial⟩
    · replace h := condT h
      conv => whnf
      refine Choice.new ?_
      conv => whnf
      refine Req.of (rfl) ?_
      conv => whnf
      obtain ⟨y234, e235, h⟩ := bind_ex h
      refine MarkOk.of (laws_markOrdinal_ct e235) ?_
      conv => whnf
      obtain ⟨g236, h⟩ := req_ex h
      exact CutK.piece (laws_FnExactFundamentalAt_p11_ct  h) [some 128, some 384, some 576, some 1109000, some 1109002] [] ⟨⟨rfl, rfl⟩, ⟨rfl, ⟨rfl, rfl, trivial⟩, ⟨rfl, ⟨rfl, rfl⟩, trivial⟩, ⟨rfl, ⟨rfl, rfl⟩, trivial⟩, ⟨rfl, rfl, rows_same⟩, ⟨rfl, rfl, rows_same⟩, trivial⟩, rfl, ⟨rfl, rfl⟩, ⟨rfl, rfl⟩, rfl, ⟨rfl, rfl⟩, rfl, rfl, trivial⟩
def laws_FnExactFundamentalAt_p8 (k : Nat) (a1 : Rw) (a2 : Int) (o35 : Rw) (o36 : Rw) (o37 : Rw) (v47 : Bool) (v48 : Bool) : Option Bool :=
  (cond v47 (cond v48 ((laws_toOrdinal k a1).bind fun y252 => ((laws_eqOrdinal k o36 y252).bind fun y254 => (if y254 = true then (laws_FnExactFundamentalAt_p9 k a1 a2 o35 o36 o37 true true) else some false))) ((laws_toOrdinal k a1).bind fun y247 => ((laws_eqOrdinal k o36 y247).bind fun y249 => (if y249 = true then (laws_FnExactFundamentalAt_p9 k a1 a2 o35 o36 o37 false true) else some false)))) (cond v48 ((laws_toOrdinal k a1).bind fun y242 => ((laws_eqOrdinal k o36 y242).bind fun y244 => (if y244 = true then (laws_FnExactFundamentalAt_p9 k a1 a2 o35 o36 o37 true false) else some false))) ((laws_toOrdinal k a1).bind fun y237 => ((laws_eqOrdinal k o36 y237).bind fun y239 => (if y239 = true then (laws_FnExactFundamentalAt_p9 k a1 a2 o35 o36 o37 false false) else some false)))))
set_option maxHeartbeats 4000000 in
set_option maxRecDepth 100000 in
theorem laws_FnExactFundamentalAt_p8_ct {k : Nat} {a1 : Rw} {a2 : Int} {o35 : Rw} {o36 : Rw} {o37 : Rw} {v47 : Bool} {v48 : Bool} {r : Bool} (h : laws_FnExactFundamentalAt_p8 k a1 a2 o35 o36 o37 v47 v48 = some r) : X prog 0 (tlF f3 8) (mk 101 [(1, .d (D.int .i64 a2)), (2, .ptr 128 0), (6, .ptr 384 0), (7, .d (D.bool v47)), (8, .ptr 512 0), (9, .ptr 576 0), (10, .d (D.bool v48))] [(128, .box 24 [.d (D.sl a1)]), (384, .box 28 [.os 1104000 o35.length]), (512, .box 28 [.os 1104001 o36.length]), (576, .box 28 [.os 1104002 o37.length]), (1104000, .arr 77 true o35), (1104001, .arr 77 true o36), (1104002, .arr 77 true o37)]) (finK prog f3 0 (.d (D.bool r)) (⟨[], []⟩)) := by
  rw [laws_FnExactFundamentalAt_p8] at h
  cases v47
  · replace h := condF h
    cases v48
    · replace h := condF h
      conv => whnf
      obtain ⟨y237, e238, h⟩ := bind_ex h
      refine CallOk.of (laws_toOrdinal_ct e238) ?_
      conv => whnf
      refine Take.all (rfl) ?_
      conv => whnf
      refine Take.all (rfl) ?_
      conv => whnf
      obtain ⟨y239, e240, h⟩ := bind_ex h
      refine CallOk.of (laws_eqOrdinal_ct e240) ?_
      conv => whnf
      refine spl (fun g241 => ?_) (fun g241 => ?_)
      · replace h := iteT h g241
        conv => whnf
        refine CutK.norm [1, 2, 6, 7, 8, 9, 10, 49] [128, 384, 512, 576, 1104000, 1104001, 1104002] ?_
        conv => whnf
        exact CutK.piece (laws_FnExactFundamentalAt_p9_ct  h) [some 128, some 384, some 512, some 576, some 1104000, some 1104001, some 1104002] [] ⟨⟨rfl, rfl⟩, ⟨rfl, ⟨rfl, rfl, trivial⟩, ⟨rfl, ⟨rfl, rfl⟩, trivial⟩, ⟨rfl, ⟨rfl, rfl⟩, trivial⟩, ⟨rfl, ⟨rfl, rfl⟩, trivial⟩, ⟨rfl, rfl, rows_same⟩, ⟨rfl, rfl, rows_same⟩, ⟨rfl, rfl, rows_same⟩, trivial⟩, rfl, ⟨rfl, rfl⟩, ⟨rfl, rfl⟩, rfl, ⟨rfl, rfl⟩, ⟨rfl, rfl⟩, rfl, trivial⟩
      · replace h := iteF h g241
        conv => whnf
        refine CutK.norm [1, 2, 6, 7, 8, 9, 10, 49] [128, 384, 512, 576, 1104000, 1104001, 1104002] ?_
        conv => whnf
        cases h
        exact Done.of [] [] rfl rfl ⟨⟨rfl, rfl⟩, ⟨rfl, trivial⟩, rfl, trivial⟩
    · replace h := condT h
      conv => whnf
      obtain ⟨y242, e243, h⟩ := bind_ex h
      refine CallOk.of (laws_toOrdinal_ct e243) ?_
      conv => whnf
      refine Take.all (rfl) ?_
      conv => whnf
      refine Take.all (rfl) ?_
      conv => whnf
      obtain ⟨y244, e245, h⟩ := bind_ex h
      refine CallOk.of (laws_eqOrdinal_ct e245) ?_
      conv => whnf
      refine spl (fun g246 => ?_) (fun g246 => ?_)
      · replace h := iteT h g246
        conv => whnf
        refine CutK.norm [1, 2, 6, 7, 8, 9, 10, 49] [128, 384, 512, 576, 1104000, 1104001, 1104002] ?_
        conv => whnf
        exact CutK.piece (laws_FnExactFundamentalAt_p9_ct  h) [some 128, some 384, some 512, some 576, some 1104000, some 1104001, some 1104002] [] ⟨⟨rfl, rfl⟩, ⟨rfl, ⟨rfl, rfl, trivial⟩, ⟨rfl, ⟨rfl, rfl⟩, trivial⟩, ⟨rfl, ⟨rfl, rfl⟩, trivial⟩, ⟨rfl, ⟨rfl, rfl⟩, trivial⟩, ⟨rfl, rfl, rows_same⟩, ⟨rfl, rfl, rows_same⟩, ⟨rfl, rfl, rows_same⟩, trivial⟩, rfl, ⟨rfl, rfl⟩, ⟨rfl, rfl⟩, rfl, ⟨rfl, rfl⟩, ⟨rfl, rfl⟩, rfl, trivial⟩
      · replace h := iteF h g246
        conv => whnf
        refine CutK.norm [1, 2, 6, 7, 8, 9, 10, 49] [128, 384, 512, 576, 1104000, 1104001, 1104002] ?_
        conv => whnf
        cases h
        exact Done.of [] [] rfl rfl ⟨⟨rfl, rfl⟩, ⟨rfl, trivial⟩, rfl, trivial⟩
  · replace h := condT h
    cases v48
    · replace h := condF h
      conv => whnf
      obtain ⟨y247, e248, h⟩ := bind_ex h
      refine CallOk.of (laws_toOrdinal_ct e248) ?_
      conv => whnf
      refine Take.all (rfl) ?_
      conv => whnf
      refine Take.all (rfl) ?_
      conv => whnf
      obtain ⟨y249, e250, h⟩ := bind_ex h
      refine CallOk.of (laws_eqOrdinal_ct e250) ?_
      conv => whnf
      refine spl (fun g251 => ?_) (fun g251 => ?_)
      · replace h := iteT h g251
        conv => whnf
        refine CutK.norm [1, 2, 6, 7, 8, 9, 10, 49] [128, 384, 512, 576, 1104000, 1104001, 1104002] ?_
        conv => whnf
        exact CutK.piece (laws_FnExactFundamentalAt_p9_ct  h) [some 128, some 384, some 512, some 576, some 1104000, some 1104001, some 1104002] [] ⟨⟨rfl, rfl⟩, ⟨rfl, ⟨rfl, rfl, trivial⟩, ⟨rfl, ⟨rfl, rfl⟩, trivial⟩, ⟨rfl, ⟨rfl, rfl⟩, trivial⟩, ⟨rfl, ⟨rfl, rfl⟩, trivial⟩, ⟨rfl, rfl, rows_same⟩, ⟨rfl, rfl, rows_same⟩, ⟨rfl, rfl, rows_same⟩, trivial⟩, rfl, ⟨rfl, rfl⟩, ⟨rfl, rfl⟩, rfl, ⟨rfl, rfl⟩, ⟨rfl, rfl⟩, rfl, trivial⟩
      · replace h := iteF h g251
        conv => whnf
        refine CutK.norm [1, 2, 6, 7, 8, 9, 10, 49] [128, 384, 512, 576, 1104000, 1104001, 1104002] ?_
        conv => whnf
        cases h
        exact Done.of [] [] rfl rfl ⟨⟨rfl, rfl⟩, ⟨rfl, trivial⟩, rfl, trivial⟩
    · replace h := condT h
      conv => whnf
      obtain ⟨y252, e253, h⟩ := bind_ex h
      refine CallOk.of (laws_toOrdinal_ct e253) ?_
      conv => whnf
      refine Take.all (rfl) ?_
      conv => whnf
      refine Take.all (rfl) ?_
      conv => whnf
      obtain ⟨y254, e255, h⟩ := bind_ex h
      refine CallOk.of (laws_eqOrdinal_ct e255) ?_
      conv => whnf
      refine spl (fun g256 => ?_) (fun g256 => ?_)
      · replace h := iteT h g256
        conv => whnf
        refine CutK.norm [1, 2, 6, 7, 8, 9, 10, 49] [128, 384, 512, 576, 1104000, 1104001, 1104002] ?_
        conv => whnf
        exact CutK.piece (laws_FnExactFundamentalAt_p9_ct  h) [some 128, some 384, some 512, some 576, some 1104000, some 1104001, some 1104002] [] ⟨⟨rfl, rfl⟩, ⟨rfl, ⟨rfl, rfl, trivial⟩, ⟨rfl, ⟨rfl, rfl⟩, trivial⟩, ⟨rfl, ⟨rfl, rfl⟩, trivial⟩, ⟨rfl, ⟨rfl, rfl⟩, trivial⟩, ⟨rfl, rfl, rows_same⟩, ⟨rfl, rfl, rows_same⟩, ⟨rfl, rfl, rows_same⟩, trivial⟩, rfl, ⟨rfl, rfl⟩, ⟨rfl, rfl⟩, rfl, ⟨rfl, rfl⟩, ⟨rfl, rfl⟩, rfl, trivial⟩
      · replace h := iteF h g256
        conv => whnf
        refine CutK.norm [1, 2, 6, 7, 8, 9, 10, 49] [128, 384, 512, 576, 1104000, 1104001, 1104002] ?_
        conv => whnf
        cases h
        exact Done.of [] [] rfl rfl ⟨⟨rfl, rfl⟩, ⟨rfl, trivial⟩, rfl, trivial⟩
def laws_FnExactFundamentalAt_p7 (k : Nat) (a1 : Rw) (a2 : Int) (o24 : Rw) (o25 : Rw) (o26 : Rw) (v27 : Bool) (v31 : Bool) : Option Bool :=
  (cond v27 (cond v31 ((laws_eqOrdinal k o26 o24).bind fun y266 => (if y266 = true then (laws_FnExactFundamentalAt_p8 k a1 a2 o24 o25 o26 true true) else some false)) ((laws_eqOrdinal k o26 o24).bind fun y263 => (if y263 = true then some false else some false))) (cond v31 ((laws_eqOrdinal k o26 o24).bind fun y260 => (if y260 = true then some false else some false)) ((laws_eqOrdinal k o26 o24).bind fun y257 => (if y257 = true then (laws_FnExactFundamentalAt_p8 k a1 a2 o24 o25 o26 false false) else some false))))
set_option maxHeartbeats 4000000 in
set_option maxRecDepth 100000 in
theorem laws_FnExactFundamentalAt_p7_ct {k : Nat} {a1 : Rw} {a2 : Int} {o24 : Rw} {o25 : Rw} {o26 : Rw} {v27 : Bool} {v31 : Bool} {r : Bool} (h : laws_FnExactFundamentalAt_p7 k a1 a2 o24 o25 o26 v27 v31 = some r) : X prog 0 (tlF f3 7) (mk 101 [(1, .d (D.int .i64 a2)), (2, .ptr 128 0), (6, .ptr 384 0), (7, .d (D.bool v31)), (8, .ptr 512 0), (9, .ptr 576 0), (10, .d (D.bool v27))] [(128, .box 24 [.d (D.sl a1)]), (384, .box 28 [.os 1099000 o24.length]), (512, .box 28 [.os 1099001 o25.length]), (576, .box 28 [.os 1099002 o26.length]), (1099000, .arr 77 true o24), (1099001, .arr 77 true o25), (1099002, .arr 77 true o26)]) (finK prog f3 0 (.d (D.bool r)) (⟨[], []⟩)) := by
  rw [laws_FnExactFundamentalAt_p7] at h
  cases v27
  · replace h := condF h
    cases v31
    · replace h := condF h
      conv => whnf
      refine Take.all (rfl) ?_
      conv => whnf
      refine Take.all (rfl) ?_
      conv => whnf
      obtain ⟨y257, e258, h⟩ := bind_ex h
      refine CallOk.of (laws_eqOrdinal_ct e258) ?_
      conv => whnf
      refine spl (fun g259 => ?_) (fun g259 => ?_)
      · replace h := iteT h g259
        conv => whnf
        refine splF ?_
        conv => whnf
        refine CutK.norm [1, 2, 6, 7, 8, 9, 10, 44] [128, 384, 512, 576, 1099000, 1099001, 1099002] ?_
        conv => whnf
        exact CutK.piece (laws_FnExactFundamentalAt_p8_ct  h) [some 128, some 384, some 512, some 576, some 1099000, some 1099001, some 1099002] [] ⟨⟨rfl, rfl⟩, ⟨rfl, ⟨rfl, rfl, trivial⟩, ⟨rfl, ⟨rfl, rfl⟩, trivial⟩, ⟨rfl, ⟨rfl, rfl⟩, trivial⟩, ⟨rfl, ⟨rfl, rfl⟩, trivial⟩, ⟨rfl, rfl, rows_same⟩, ⟨rfl, rfl, rows_same⟩, ⟨rfl, rfl, rows_same⟩, trivial⟩, rfl, ⟨rfl, rfl⟩, ⟨rfl, rfl⟩, rfl, ⟨rfl, rfl⟩, ⟨rfl, rfl⟩, rfl, trivial⟩
      · replace h := iteF h g259
        conv => whnf
        refine CutK.norm [1, 2, 6, 7, 8, 9, 10, 44] [128, 384, 512, 576, 1099000, 1099001, 1099002] ?_
        conv => whnf
        cases h
        exact Done.of [] [] rfl rfl ⟨⟨rfl, rfl⟩, ⟨rfl, trivial⟩, rfl, trivial⟩
    · replace h := condT h
      conv => whnf
      refine Take.all (rfl) ?_
      conv => whnf
      refine Take.all (rfl) ?_
      conv => whnf
      obtain ⟨y260, e261, h⟩ := bind_ex h
      refine CallOk.of (laws_eqOrdinal_ct e261) ?_
      conv => whnf
      refine spl (fun g262 => ?_) (fun g262 => ?_)
      · replace h := iteT h g262
        conv => whnf
        refine splT ?_
        conv => whnf
        refine CutK.norm [1, 2, 6, 7, 8, 9, 10, 44] [128, 384, 512, 576, 1099000, 1099001, 1099002] ?_
        conv => whnf
        cases h
        exact Done.of [] [] rfl rfl ⟨⟨rfl, rfl⟩, ⟨rfl, trivial⟩, rfl, trivial⟩
      · replace h := iteF h g262
        conv => whnf
        refine CutK.norm [1, 2, 6, 7, 8, 9, 10, 44] [128, 384, 512, 576, 1099000, 1099001, 1099002] ?_
        conv => whnf
        cases h
        exact Done.of [] [] rfl rfl ⟨⟨rfl, rfl⟩, ⟨rfl, trivial⟩, rfl, trivial⟩
  · replace h := condT h
    cases v31
    · replace h := condF h
      conv => whnf
      refine Take.all (rfl) ?_
      conv => whnf
      refine Take.all (rfl) ?_
      conv => whnf
      obtain ⟨y263, e264, h⟩ := bind_ex h
      refine CallOk.of (laws_eqOrdinal_ct e264) ?_
      conv => whnf
      refine spl (fun g265 => ?_) (fun g265 => ?_)
      · replace h := iteT h g265
        conv => whnf
        refine splT ?_
        conv => whnf
        refine CutK.norm [1, 2, 6, 7, 8, 9, 10, 44] [128, 384, 512, 576, 1099000, 1099001, 1099002] ?_
        conv => whnf
        cases h
        exact Done.of [] [] rfl rfl ⟨⟨rfl, rfl⟩, ⟨rfl, trivial⟩, rfl, trivial⟩
      · replace h := iteF h g265
        conv => whnf
        refine CutK.norm [1, 2, 6, 7, 8, 9, 10, 44] [128, 384, 512, 576, 1099000, 1099001, 1099002] ?_
        conv => whnf
        cases h
        exact Done.of [] [] rfl rfl ⟨⟨rfl, rfl⟩, ⟨rfl, trivial⟩, rfl, trivial⟩
    · replace h := condT h
      conv => whnf
      refine Take.all (rfl) ?_
      conv => whnf
      refine Take.all (rfl) ?_
      conv => whnf
      obtain ⟨y266, e267, h⟩ := bind_ex h
      refine CallOk.of (laws_eqOrdinal_ct e267) ?_
      conv => whnf
      refine spl (fun g268 => ?_) (fun g268 => ?_)
      · replace h := iteT h g268
        conv => whnf
        refine splF ?_
        conv => whnf
        refine CutK.norm [1, 2, 6, 7, 8, 9, 10, 44] [128, 384, 512, 576, 1099000, 1099001, 1099002] ?_
        conv => whnf
        exact CutK.piece (laws_FnExactFundamentalAt_p8_ct  h) [some 128, some 384, some 512, some 576, some 1099000, some 1099001, some 1099002] [] ⟨⟨rfl, rfl⟩, ⟨rfl, ⟨rfl, rfl, trivial⟩, ⟨rfl, ⟨rfl, rfl⟩, trivial⟩, ⟨rfl, ⟨rfl, rfl⟩, trivial⟩, ⟨rfl, ⟨rfl, rfl⟩, trivial⟩, ⟨rfl, rfl, rows_same⟩, ⟨rfl, rfl, rows_same⟩, ⟨rfl, rfl, rows_same⟩, trivial⟩, rfl, ⟨rfl, rfl⟩, ⟨rfl, rfl⟩, rfl, ⟨rfl, rfl⟩, ⟨rfl, rfl⟩, rfl, trivial⟩
      · replace h := iteF h g268
        conv => whnf
        refine CutK.norm [1, 2, 6, 7, 8, 9, 10, 44] [128, 384, 512, 576, 1099000, 1099001, 1099002] ?_
        conv => whnf
        cases h
        exact Done.of [] [] rfl rfl ⟨⟨rfl, rfl⟩, ⟨rfl, trivial⟩, rfl, trivial⟩
def laws_FnExactFundamentalAt_p6 (k : Nat) (a1 : Rw) (a2 : Int) (o16 : Rw) (o17 : Rw) (v20 : Bool) : Option Bool :=
  (cond v20 ((impl_FundamentalAt k o17 a2).bind fun y272 => (if y272.2 = true then (laws_FnExactFundamentalAt_p7 k a1 a2 o16 o17 y272.1 true true) else (laws_FnExactFundamentalAt_p7 k a1 a2 o16 o17 y272.1 false true))) ((impl_FundamentalAt k o17 a2).bind fun y269 => (if y269.2 = true then (laws_FnExactFundamentalAt_p7 k a1 a2 o16 o17 y269.1 true false) else (laws_FnExactFundamentalAt_p7 k a1 a2 o16 o17 y269.1 false false))))
set_option maxHeartbeats 4000000 in
set_option maxRecDepth 100000 in
theorem laws_FnExactFundamentalAt_p6_ct {k : Nat} {a1 : Rw} {a2 : Int} {o16 : Rw} {o17 : Rw} {v20 : Bool} {r : Bool} (h : laws_FnExactFundamentalAt_p6 k a1 a2 o16 o17 v20 = some r) : X prog 0 (tlF f3 6) (mk 101 [(1, .d (D.int .i64 a2)), (2, .ptr 128 0), (6, .ptr 384 0), (7, .d (D.bool v20)), (8, .ptr 512 0)] [(128, .box 24 [.d (D.sl a1)]), (384, .box 28 [.os 1094000 o16.length]), (512, .box 28 [.os 1094001 o17.length]), (1094000, .arr 77 true o16), (1094001, .arr 77 true o17)]) (finK prog f3 0 (.d (D.bool r)) (⟨[], []⟩)) := by
  rw [laws_FnExactFundamentalAt_p6] at h
  cases v20
  · replace h := condF h
    conv => whnf
    refine Choice.old ?_
    conv => whnf
    refine Take.all (rfl) ?_
    conv => whnf
    obtain ⟨y269, e270, h⟩ := bind_ex h
    refine CallOk.of (impl_FundamentalAt_ct e270) ?_
    conv => whnf
    refine spl (fun g271 => ?_) (fun g271 => ?_)
    · replace h := iteT h g271
      conv => whnf
      exact CutK.piece (laws_FnExactFundamentalAt_p7_ct  h) [some 128, some 384, some 512, some 576, some 1094000, some 1094001, some 2112] [] ⟨⟨rfl, rfl⟩, ⟨rfl, ⟨rfl, rfl, trivial⟩, ⟨rfl, ⟨rfl, rfl⟩, trivial⟩, ⟨rfl, ⟨rfl, rfl⟩, trivial⟩, ⟨rfl, ⟨rfl, rfl⟩, trivial⟩, ⟨rfl, rfl, rows_same⟩, ⟨rfl, rfl, rows_same⟩, ⟨rfl, rfl, rows_same⟩, trivial⟩, rfl, ⟨rfl, rfl⟩, ⟨rfl, rfl⟩, rfl, ⟨rfl, rfl⟩, ⟨rfl, rfl⟩, rfl, trivial⟩
    · replace h := iteF h g271
      conv => whnf
      exact CutK.piece (laws_FnExactFundamentalAt_p7_ct  h) [some 128, some 384, some 512, some 576, some 1094000, some 1094001, some 2112] [] ⟨⟨rfl, rfl⟩, ⟨rfl, ⟨rfl, rfl, trivial⟩, ⟨rfl, ⟨rfl, rfl⟩, trivial⟩, ⟨rfl, ⟨rfl, rfl⟩, trivial⟩, ⟨rfl, ⟨rfl, rfl⟩, trivial⟩, ⟨rfl, rfl, rows_same⟩, ⟨rfl, rfl, rows_same⟩, ⟨rfl, rfl, rows_same⟩, trivial⟩, rfl, ⟨rfl, rfl⟩, ⟨rfl, rfl⟩, rfl, ⟨rfl, rfl⟩, ⟨rfl, rfl⟩, rfl, trivial⟩
  · replace h := condT h
    conv => whnf
    refine Choice.old ?_
    conv => whnf
    refine Take.all (rfl) ?_
    conv => whnf
    obtain ⟨y272, e273, h⟩ := bind_ex h
    refine CallOk.of (impl_FundamentalAt_ct e273) ?_
    conv => whnf
    refine spl (fun g274 => ?_) (fun g274 => ?_)
    · replace h := iteT h g274
      conv => whnf
      exact CutK.piece (laws_FnExactFundamentalAt_p7_ct  h) [some 128, some 384, some 512, some 576, some 1094000, some 1094001, some 2112] [] ⟨⟨rfl, rfl⟩, ⟨rfl, ⟨rfl, rfl, trivial⟩, ⟨rfl, ⟨rfl, rfl⟩, trivial⟩, ⟨rfl, ⟨rfl, rfl⟩, trivial⟩, ⟨rfl, ⟨rfl, rfl⟩, trivial⟩, ⟨rfl, rfl, rows_same⟩, ⟨rfl, rfl, rows_same⟩, ⟨rfl, rfl, rows_same⟩, trivial⟩, rfl, ⟨rfl, rfl⟩, ⟨rfl, rfl⟩, rfl, ⟨rfl, rfl⟩, ⟨rfl, rfl⟩, rfl, trivial⟩
    · replace h := iteF h g274
      conv => whnf
      exact CutK.piece (laws_FnExactFundamentalAt_p7_ct  h) [some 128, some 384, some 512, some 576, some 1094000, some 1094001, some 2112] [] ⟨⟨rfl, rfl⟩, ⟨rfl, ⟨rfl, rfl, trivial⟩, ⟨rfl, ⟨rfl, rfl⟩, trivial⟩, ⟨rfl, ⟨rfl, rfl⟩, trivial⟩, ⟨rfl, ⟨rfl, rfl⟩, trivial⟩, ⟨rfl, rfl, rows_same⟩, ⟨rfl, rfl, rows_same⟩, ⟨rfl, rfl, rows_same⟩, trivial⟩, rfl, ⟨rfl, rfl⟩, ⟨rfl, rfl⟩, rfl, ⟨rfl, rfl⟩, ⟨rfl, rfl⟩, rfl, trivial⟩
def laws_FnExactFundamentalAt_p5 (k : Nat) (a1 : Rw) (a2 : Int) (o12 : Rw) (v13 : Bool) : Option Bool :=
  (cond v13 ((laws_toOrdinal k a1).bind fun y277 => (laws_FnExactFundamentalAt_p6 k a1 a2 o12 y277 true)) ((laws_toOrdinal k a1).bind fun y275 => (laws_FnExactFundamentalAt_p6 k a1 a2 o12 y275 false)))
set_option maxHeartbeats 4000000 in
set_option maxRecDepth 100000 in
theorem laws_FnExactFundamentalAt_p5_ct {k : Nat} {a1 : Rw} {a2 : Int} {o12 : Rw} {v13 : Bool} {r : Bool} (h : laws_FnExactFundamentalAt_p5 k a1 a2 o12 v13 = some r) : X prog 0 (tlF f3 5) (mk 101 [(1, .d (D.int .i64 a2)), (2, .ptr 128 0), (6, .ptr 384 0), (7, .d (D.bool v13))] [(128, .box 24 [.d (D.sl a1)]), (384, .box 28 [.os 1089000 o12.length]), (1089000, .arr 77 true o12)]) (finK prog f3 0 (.d (D.bool r)) (⟨[], []⟩)) := by
  rw [laws_FnExactFundamentalAt_p5] at h
  cases v13
  · replace h := condF h
    conv => whnf
    obtain ⟨y275, e276, h⟩ := bind_ex h
    refine CallOk.of (laws_toOrdinal_ct e276) ?_
    conv => whnf
    exact CutK.piece (laws_FnExactFundamentalAt_p6_ct  h) [some 128, some 384, some 512, some 1089000, some 1856] [] ⟨⟨rfl, rfl⟩, ⟨rfl, ⟨rfl, rfl, trivial⟩, ⟨rfl, ⟨rfl, rfl⟩, trivial⟩, ⟨rfl, ⟨rfl, rfl⟩, trivial⟩, ⟨rfl, rfl, rows_same⟩, ⟨rfl, rfl, rows_same⟩, trivial⟩, rfl, ⟨rfl, rfl⟩, ⟨rfl, rfl⟩, rfl, ⟨rfl, rfl⟩, trivial⟩
  · replace h := condT h
    conv => whnf
    obtain ⟨y277, e278, h⟩ := bind_ex h
    refine CallOk.of (laws_toOrdinal_ct e278) ?_
    conv => whnf
    exact CutK.piece (laws_FnExactFundamentalAt_p6_ct  h) [some 128, some 384, some 512, some 1089000, some 1856] [] ⟨⟨rfl, rfl⟩, ⟨rfl, ⟨rfl, rfl, trivial⟩, ⟨rfl, ⟨rfl, rfl⟩, trivial⟩, ⟨rfl, ⟨rfl, rfl⟩, trivial⟩, ⟨rfl, rfl, rows_same⟩, ⟨rfl, rfl, rows_same⟩, trivial⟩, rfl, ⟨rfl, rfl⟩, ⟨rfl, rfl⟩, rfl, ⟨rfl, rfl⟩, trivial⟩
def laws_FnExactFundamentalAt_p3 (k : Nat) (a1 : Rw) (a2 : Int) (o5 : Int) : Option Bool :=
  (if o5 < (0 : Int) then some true else ((laws_toOrdinal k a1).bind fun y280 => ((spec_FundamentalAt k y280 a2).bind fun y282 => (if y282.2 = true then (laws_FnExactFundamentalAt_p5 k a1 a2 y282.1 true) else (laws_FnExactFundamentalAt_p5 k a1 a2 y282.1 false)))))
set_option maxHeartbeats 4000000 in
set_option maxRecDepth 100000 in
theorem laws_FnExactFundamentalAt_p3_ct {k : Nat} {a1 : Rw} {a2 : Int} {o5 : Int} {r : Bool} (h : laws_FnExactFundamentalAt_p3 k a1 a2 o5 = some r) : X prog 0 (tlF f3 3) (mk 101 [(1, .d (D.int .i64 a2)), (2, .ptr 128 0), (5, .d (D.int .i64 o5))] [(128, .box 24 [.d (D.sl a1)])]) (finK prog f3 0 (.d (D.bool r)) (⟨[], []⟩)) := by
  rw [laws_FnExactFundamentalAt_p3] at h
  conv => whnf
  refine splD (fun g279 => ?_) (fun g279 => ?_)
  · replace h := iteP h g279
    conv => whnf
    cases h
    exact Done.of [] [] rfl rfl ⟨⟨rfl, rfl⟩, ⟨rfl, trivial⟩, rfl, trivial⟩
  · replace h := iteN h g279
    conv => whnf
    obtain ⟨y280, e281, h⟩ := bind_ex h
    refine CallOk.of (laws_toOrdinal_ct e281) ?_
    conv => whnf
    refine Choice.old ?_
    conv => whnf
    refine Take.all (rfl) ?_
    conv => whnf
    obtain ⟨y282, e283, h⟩ := bind_ex h
    refine CallOk.of (spec_FundamentalAt_ct e283) ?_
    conv => whnf
    refine spl (fun g284 => ?_) (fun g284 => ?_)
    · replace h := iteT h g284
      conv => whnf
      exact CutK.piece (laws_FnExactFundamentalAt_p5_ct  h) [some 128, some 384, some 1600] [] ⟨⟨rfl, rfl⟩, ⟨rfl, ⟨rfl, rfl, trivial⟩, ⟨rfl, ⟨rfl, rfl⟩, trivial⟩, ⟨rfl, rfl, rows_same⟩, trivial⟩, rfl, ⟨rfl, rfl⟩, ⟨rfl, rfl⟩, rfl, trivial⟩
    · replace h := iteF h g284
      conv => whnf
      exact CutK.piece (laws_FnExactFundamentalAt_p5_ct  h) [some 128, some 384, some 1600] [] ⟨⟨rfl, rfl⟩, ⟨rfl, ⟨rfl, rfl, trivial⟩, ⟨rfl, ⟨rfl, rfl⟩, trivial⟩, ⟨rfl, rfl, rows_same⟩, trivial⟩, rfl, ⟨rfl, rfl⟩, ⟨rfl, rfl⟩, rfl, trivial⟩
def laws_FnExactFundamentalAt (k : Nat) (a1 : Rw) (a2 : Int) : Option Bool :=
  ((laws_szOrdinal k a1 1048576).bind fun y285 => (laws_FnExactFundamentalAt_p3 k a1 a2 y285))
set_option maxHeartbeats 4000000 in
set_option maxRecDepth 100000 in
theorem laws_FnExactFundamentalAt_ct {k : Nat} {a1 : Rw} {a2 : Int} {r : Bool} (h : laws_FnExactFundamentalAt k a1 a2 = some r) : Ct prog 3 [.agg [.d (D.sl a1)], .d (D.int .i64 a2)] (⟨[], []⟩) (.d (D.bool r)) (⟨[], []⟩) := by
  rw [laws_FnExactFundamentalAt] at h
  refine Ct.of (c := _) mixed func3 ⟨rfl, rfl, rfl⟩ ?_ rfl
  conv => whnf
  obtain ⟨y285, e286, h⟩ := bind_ex h
  refine CallOk.of (laws_szOrdinal_ct e286) ?_
  conv => whnf
  exact CutK.piece (laws_FnExactFundamentalAt_p3_ct  h) [some 128] [] ⟨⟨rfl, rfl⟩, ⟨rfl, ⟨rfl, rfl, trivial⟩, trivial⟩, rfl, ⟨rfl, rfl⟩, rfl, trivial⟩
end
end Go.Proofs.Try
