/- Printed by program (axgen): pure functions, and that the Go functions compute them. -/
import Derived.Test.YthpgpgkigkobbaaProg
import Derived.Test.YthpgpgkigkobbaaAxC
import Derived.KernelRfl
set_option linter.unusedVariables false
set_option linter.unusedSimpArgs false
namespace Go.Proofs.Try
open Go Go.AX
theorem mixed : prog.follows .mixedOrders = true := by kernel_rfl
def cell_si {α : Type} (cs : List D) (K : Rw → Int → Option α) : Option α := match cs with | [.sl a0, .int .i64 a1] => K a0 a1 | _ => none
def row_si {α : Type} (es : Rw) (i : Int) (K : Rw → Int → Option α) : Option α := if 0 ≤ i then (match es[i.toNat]? with | some cs => cell_si cs K | none => none) else none
theorem cell_si_ex {α : Type} {cs : List D} {K : Rw → Int → Option α} {r : α} (h : cell_si cs K = some r) : ∃ a0 a1, cs = [.sl a0, .int .i64 a1] ∧ K a0 a1 = some r := by
  unfold cell_si at h
  split at h
  · exact ⟨_, _, rfl, h⟩
  · cases h
theorem row_si_ex {α : Type} {es : Rw} {i : Int} {K : Rw → Int → Option α} {r : α} (h : row_si es i K = some r) : 0 ≤ i ∧ ∃ a0 a1, es[i.toNat]? = some [.sl a0, .int .i64 a1] ∧ K a0 a1 = some r := by
  unfold row_si at h
  obtain ⟨g, h⟩ := req_ex h
  split at h
  · rename_i cs e
    obtain ⟨a0, a1, rfl, h⟩ := cell_si_ex h
    exact ⟨g, a0, a1, e, h⟩
  · cases h
def cell_sii {α : Type} (cs : List D) (K : Rw → Int → Int → Option α) : Option α := match cs with | [.sl a0, .int .i64 a1, .int .i64 a2] => K a0 a1 a2 | _ => none
def row_sii {α : Type} (es : Rw) (i : Int) (K : Rw → Int → Int → Option α) : Option α := if 0 ≤ i then (match es[i.toNat]? with | some cs => cell_sii cs K | none => none) else none
theorem cell_sii_ex {α : Type} {cs : List D} {K : Rw → Int → Int → Option α} {r : α} (h : cell_sii cs K = some r) : ∃ a0 a1 a2, cs = [.sl a0, .int .i64 a1, .int .i64 a2] ∧ K a0 a1 a2 = some r := by
  unfold cell_sii at h
  split at h
  · exact ⟨_, _, _, rfl, h⟩
  · cases h
theorem row_sii_ex {α : Type} {es : Rw} {i : Int} {K : Rw → Int → Int → Option α} {r : α} (h : row_sii es i K = some r) : 0 ≤ i ∧ ∃ a0 a1 a2, es[i.toNat]? = some [.sl a0, .int .i64 a1, .int .i64 a2] ∧ K a0 a1 a2 = some r := by
  unfold row_sii at h
  obtain ⟨g, h⟩ := req_ex h
  split at h
  · rename_i cs e
    obtain ⟨a0, a1, a2, rfl, h⟩ := cell_sii_ex h
    exact ⟨g, a0, a1, a2, e, h⟩
  · cases h
noncomputable section
def laws_heldSurrealTermS_l0 (rec_laws_heldSurrealTermS : Rw → Int → Option Int) (a1 : Rw) (K0 : Int → Option Int) : Rw → Int → Option Int
  | [], v14 => (K0 v14)
  | cs :: rest, v14 => (cell_sii cs fun x39 x40 x41 => ((rec_laws_heldSurrealTermS x39 v14).bind fun y43 => (if y43 < (0 : Int) then some (-1) else (if x40 = y43 then (if x41 = (IntKind.i64.wrap (y43 + 1)) then (laws_heldSurrealTermS_l0 rec_laws_heldSurrealTermS a1 K0 rest (IntKind.i64.wrap ((IntKind.i64.wrap (y43 + 1)) + 1))) else some (-1)) else some (-1)))))
set_option maxRecDepth 100000 in
theorem laws_heldSurrealTermS_l0_ct {rec_laws_heldSurrealTermS : Rw → Int → Option Int} {a1 : Rw} {K0 : Int → Option Int} (hrec_laws_heldSurrealTermS : ∀ (a1 : Rw) (a2 : Int) (r : Int), rec_laws_heldSurrealTermS a1 a2 = some r → Ct prog 75 [.d (D.sl a1), .d (D.int .i64 a2)] (⟨[], []⟩) (.d (D.int .i64 r)) (⟨[], []⟩)) {r : Int} (hx : a1.length ≤ cap) : ∀ (rest : Rw) (v15n : Nat) (v14 : Int), a1.drop v15n = rest → laws_heldSurrealTermS_l0 rec_laws_heldSurrealTermS a1 K0 rest v14 = some r → LoopOk prog 0 (lp f75 0) (mk 43 [(0, .d (D.sl a1)), (1, .d (D.int .i64 v14)), (5, .d (D.int .i64 (v15n : Int)))] []) (LoopEnd prog f75 0 43 (.d (D.int .i64 r)) (⟨[], []⟩) (fun i ts os => (i = 0 ∧ ∃ v27 : Int, K0 v27 = some r ∧ ts = [(1, .d (D.int .i64 v27))] ∧ os = [])))
  | [], v15n, v14, hd, h => by
      rw [laws_heldSurrealTermS_l0] at h
      have hn := drop_nil hd
      refine LoopOk.step ?_
      conv => whnf
      refine splD (fun g => absurd g hn) (fun _ => ?_)
      conv => whnf
      exact ⟨_, _, [], [], ⟨rfl, _, h, rfl, rfl⟩, ⟨⟨rfl, rfl⟩, ⟨rfl, trivial⟩, rfl, trivial⟩⟩
  | cs :: rest, v15n, v14, hd, h => by
      rw [laws_heldSurrealTermS_l0] at h
      obtain ⟨hrow, hd1, hlt⟩ := drop_cons hd
      refine LoopOk.step ?_
      conv => whnf
      refine splD (fun _ => ?_) (fun g => absurd hlt g)
      conv => whnf
      obtain ⟨x39, x40, x41, e42, h⟩ := cell_sii_ex h
      rw [e42] at hrow
      refine Req.of (Int.natCast_nonneg _) ?_
      refine Row.of _ hrow ?_
      conv => whnf
      obtain ⟨y43, e44, h⟩ := bind_ex h
      refine CallOk.of (hrec_laws_heldSurrealTermS _ _ _ e44) ?_
      conv => whnf
      refine CutK.norm [0, 1, 5] [] ?_
      conv => whnf
      refine splD (fun g45 => ?_) (fun g45 => ?_)
      · replace h := iteP h g45
        conv => whnf
        cases h
        exact Done.of [] [] rfl rfl ⟨⟨rfl, rfl⟩, ⟨rfl, trivial⟩, rfl, trivial⟩
      · replace h := iteN h g45
        conv => whnf
        refine Req.of (Int.natCast_nonneg _) ?_
        refine Row.of _ hrow ?_
        conv => whnf
        refine splN (fun g46 => ?_) (fun g46 => ?_)
        · replace h := iteN h g46
          conv => whnf
          cases h
          exact Done.of [] [] rfl rfl ⟨⟨rfl, rfl⟩, ⟨rfl, trivial⟩, rfl, trivial⟩
        · replace h := iteP h g46
          conv => whnf
          refine Req.of (Int.natCast_nonneg _) ?_
          refine Row.of _ hrow ?_
          conv => whnf
          refine splN (fun g47 => ?_) (fun g47 => ?_)
          · replace h := iteN h g47
            conv => whnf
            cases h
            exact Done.of [] [] rfl rfl ⟨⟨rfl, rfl⟩, ⟨rfl, trivial⟩, rfl, trivial⟩
          · replace h := iteP h g47
            conv => whnf
            refine CutK.norm [0, 1, 5] [] ?_
            conv => whnf
            exact LoopOk.back (laws_heldSurrealTermS_l0_ct hrec_laws_heldSurrealTermS hx rest (v15n + 1) _ hd1 h) [] [] ⟨⟨rfl, rfl⟩, ⟨rfl, trivial⟩, rfl, rfl, i64eq (wrap_up hlt hx), trivial⟩
def laws_heldSurrealTermS_b (rec_laws_heldSurrealTermS : Rw → Int → Option Int) (a1 : Rw) (a2 : Int) : Option Int :=
  (if a1.length ≤ cap then (laws_heldSurrealTermS_l0 rec_laws_heldSurrealTermS a1 (fun (v27 : Int) => some v27) a1 a2) else none)
set_option maxHeartbeats 4000000 in
set_option maxRecDepth 100000 in
theorem laws_heldSurrealTermS_b_ct {rec_laws_heldSurrealTermS : Rw → Int → Option Int} (hrec_laws_heldSurrealTermS : ∀ (a1 : Rw) (a2 : Int) (r : Int), rec_laws_heldSurrealTermS a1 a2 = some r → Ct prog 75 [.d (D.sl a1), .d (D.int .i64 a2)] (⟨[], []⟩) (.d (D.int .i64 r)) (⟨[], []⟩)) {a1 : Rw} {a2 : Int} {r : Int} (h : laws_heldSurrealTermS_b rec_laws_heldSurrealTermS a1 a2 = some r) : Ct prog 75 [.d (D.sl a1), .d (D.int .i64 a2)] (⟨[], []⟩) (.d (D.int .i64 r)) (⟨[], []⟩) := by
  rw [laws_heldSurrealTermS_b] at h
  refine Ct.of (c := _) mixed func75 ⟨rfl, rfl, rfl⟩ ?_ rfl
  conv => whnf
  obtain ⟨g48, h⟩ := req_ex h
  refine LoopOk.into (laws_heldSurrealTermS_l0_ct hrec_laws_heldSurrealTermS g48 _ _ _ rfl h) [] [] ⟨⟨rfl, rfl⟩, ⟨rfl, trivial⟩, rfl, rfl, rfl, trivial⟩ ?_ (fun _ hs => hs)
  rintro i ts os ⟨rfl, v27, h, rfl, rfl⟩
  conv => whnf
  refine CutK.norm [1] [] ?_
  conv => whnf
  cases h
  exact Done.of [] [] rfl rfl ⟨⟨rfl, rfl⟩, ⟨rfl, trivial⟩, rfl, trivial⟩
def laws_heldSurrealTermS : Nat → Rw → Int → Option Int
  | 0, _, _ => none
  | k + 1, a1, a2 => laws_heldSurrealTermS_b (laws_heldSurrealTermS k) a1 a2
theorem laws_heldSurrealTermS_ct' : ∀ (k : Nat) (a1 : Rw) (a2 : Int) (r : Int), laws_heldSurrealTermS k a1 a2 = some r → Ct prog 75 [.d (D.sl a1), .d (D.int .i64 a2)] (⟨[], []⟩) (.d (D.int .i64 r)) (⟨[], []⟩)
  | 0, _, _, _, h => by rw [laws_heldSurrealTermS] at h; cases h
  | k + 1, _, _, _, h => by rw [laws_heldSurrealTermS] at h; exact laws_heldSurrealTermS_b_ct (laws_heldSurrealTermS_ct' k) h
theorem laws_heldSurrealTermS_ct {k : Nat} {a1 : Rw} {a2 : Int} {r : Int} (h : laws_heldSurrealTermS k a1 a2 = some r) : Ct prog 75 [.d (D.sl a1), .d (D.int .i64 a2)] (⟨[], []⟩) (.d (D.int .i64 r)) (⟨[], []⟩) := laws_heldSurrealTermS_ct' k _ _ _ h

def laws_heldSurreal (k : Nat) (a1 : Rw) (a2 : Int) : Option Int :=
  ((laws_heldSurrealTermS k a1 a2).bind fun y3 => (if y3 < (0 : Int) then some (-1) else some y3))
set_option maxHeartbeats 4000000 in
set_option maxRecDepth 100000 in
theorem laws_heldSurreal_ct {k : Nat} {a1 : Rw} {a2 : Int} {r : Int} (h : laws_heldSurreal k a1 a2 = some r) : Ct prog 33 [.agg [.d (D.sl a1)], .d (D.int .i64 a2)] (⟨[], []⟩) (.d (D.int .i64 r)) (⟨[], []⟩) := by
  rw [laws_heldSurreal] at h
  refine Ct.of (c := _) mixed func33 ⟨rfl, rfl, rfl⟩ ?_ rfl
  conv => whnf
  obtain ⟨y3, e4, h⟩ := bind_ex h
  refine CallOk.of (laws_heldSurrealTermS_ct e4) ?_
  conv => whnf
  refine CutK.go ?_
  conv => whnf
  refine splD (fun g5 => ?_) (fun g5 => ?_)
  · replace h := iteP h g5
    conv => whnf
    cases h
    exact Done.of [] [] rfl rfl ⟨⟨rfl, rfl⟩, ⟨rfl, trivial⟩, rfl, trivial⟩
  · replace h := iteN h g5
    conv => whnf
    cases h
    exact Done.of [] [] rfl rfl ⟨⟨rfl, rfl⟩, ⟨rfl, trivial⟩, rfl, trivial⟩

def laws_eqFraction  (a1 : Int) (a2 : Int) (a3 : Int) (a4 : Int) : Option Bool :=
  (if a1 = a3 then (if a2 = a4 then some true else some false) else some false)
set_option maxHeartbeats 4000000 in
set_option maxRecDepth 100000 in
theorem laws_eqFraction_ct  {a1 : Int} {a2 : Int} {a3 : Int} {a4 : Int} {r : Bool} (h : laws_eqFraction a1 a2 a3 a4 = some r) : Ct prog 110 [.agg [.d (D.int .i64 a1), .d (D.int .i64 a2)], .agg [.d (D.int .i64 a3), .d (D.int .i64 a4)]] (⟨[], []⟩) (.d (D.bool r)) (⟨[], []⟩) := by
  rw [laws_eqFraction] at h
  refine Ct.of (c := _) mixed func110 ⟨rfl, rfl, rfl⟩ ?_ rfl
  conv => whnf
  refine splN (fun g5 => ?_) (fun g5 => ?_)
  · replace h := iteN h g5
    conv => whnf
    cases h
    exact Done.of [] [] rfl rfl ⟨⟨rfl, rfl⟩, ⟨rfl, trivial⟩, rfl, trivial⟩
  · replace h := iteP h g5
    conv => whnf
    refine splN (fun g6 => ?_) (fun g6 => ?_)
    · replace h := iteN h g6
      conv => whnf
      cases h
      exact Done.of [] [] rfl rfl ⟨⟨rfl, rfl⟩, ⟨rfl, trivial⟩, rfl, trivial⟩
    · replace h := iteP h g6
      conv => whnf
      cases h
      exact Done.of [] [] rfl rfl ⟨⟨rfl, rfl⟩, ⟨rfl, trivial⟩, rfl, trivial⟩

def laws_eqSurrealTerm (rec_laws_eqSurreal : Rw → Rw → Option Bool) (a1 : Rw) (a2 : Int) (a3 : Int) (a4 : Rw) (a5 : Int) (a6 : Int) : Option Bool :=
  ((rec_laws_eqSurreal a1 a4).bind fun y7 => (if y7 = true then ((laws_eqFraction a2 a3 a5 a6).bind fun y10 => (if y10 = true then some true else some false)) else some false))
set_option maxHeartbeats 4000000 in
set_option maxRecDepth 100000 in
theorem laws_eqSurrealTerm_ct {rec_laws_eqSurreal : Rw → Rw → Option Bool} (hrec_laws_eqSurreal : ∀ (a1 : Rw) (a2 : Rw) (r : Bool), rec_laws_eqSurreal a1 a2 = some r → Ct prog 31 [.agg [.d (D.sl a1)], .agg [.d (D.sl a2)]] (⟨[], []⟩) (.d (D.bool r)) (⟨[], []⟩)) {a1 : Rw} {a2 : Int} {a3 : Int} {a4 : Rw} {a5 : Int} {a6 : Int} {r : Bool} (h : laws_eqSurrealTerm rec_laws_eqSurreal a1 a2 a3 a4 a5 a6 = some r) : Ct prog 105 [.agg [.d (D.sl a1), .d (D.int .i64 a2), .d (D.int .i64 a3)], .agg [.d (D.sl a4), .d (D.int .i64 a5), .d (D.int .i64 a6)]] (⟨[], []⟩) (.d (D.bool r)) (⟨[], []⟩) := by
  rw [laws_eqSurrealTerm] at h
  refine Ct.of (c := _) mixed func105 ⟨rfl, rfl, rfl⟩ ?_ rfl
  conv => whnf
  obtain ⟨y7, e8, h⟩ := bind_ex h
  refine CallOk.of (hrec_laws_eqSurreal _ _ _ e8) ?_
  conv => whnf
  refine spl (fun g9 => ?_) (fun g9 => ?_)
  · replace h := iteT h g9
    conv => whnf
    refine CutK.go ?_
    conv => whnf
    refine CutK.go ?_
    conv => whnf
    obtain ⟨y10, e11, h⟩ := bind_ex h
    refine CallOk.of (laws_eqFraction_ct e11) ?_
    conv => whnf
    refine spl (fun g12 => ?_) (fun g12 => ?_)
    · replace h := iteT h g12
      conv => whnf
      refine CutK.go ?_
      conv => whnf
      refine CutK.go ?_
      conv => whnf
      cases h
      exact Done.of [] [] rfl rfl ⟨⟨rfl, rfl⟩, ⟨rfl, trivial⟩, rfl, trivial⟩
    · replace h := iteF h g12
      conv => whnf
      refine CutK.go ?_
      conv => whnf
      cases h
      exact Done.of [] [] rfl rfl ⟨⟨rfl, rfl⟩, ⟨rfl, trivial⟩, rfl, trivial⟩
  · replace h := iteF h g9
    conv => whnf
    refine CutK.go ?_
    conv => whnf
    cases h
    exact Done.of [] [] rfl rfl ⟨⟨rfl, rfl⟩, ⟨rfl, trivial⟩, rfl, trivial⟩

def laws_eqSurrealTermS_l0 (rec_laws_eqSurreal : Rw → Rw → Option Bool) (a1 : Rw) (a2 : Rw) (K0 : Option Bool) : Rw → Nat → Option Bool
  | [], v18n => (K0)
  | cs :: rest, v18n => (cell_sii cs fun x33 x34 x35 => (row_sii a2 (v18n : Int) fun x37 x38 x39 => ((laws_eqSurrealTerm rec_laws_eqSurreal x33 x34 x35 x37 x38 x39).bind fun y42 => (if y42 = true then (laws_eqSurrealTermS_l0 rec_laws_eqSurreal a1 a2 K0 rest (v18n + 1)) else some false))))
set_option maxRecDepth 100000 in
theorem laws_eqSurrealTermS_l0_ct {rec_laws_eqSurreal : Rw → Rw → Option Bool} {a1 : Rw} {a2 : Rw} {K0 : Option Bool} (hrec_laws_eqSurreal : ∀ (a1 : Rw) (a2 : Rw) (r : Bool), rec_laws_eqSurreal a1 a2 = some r → Ct prog 31 [.agg [.d (D.sl a1)], .agg [.d (D.sl a2)]] (⟨[], []⟩) (.d (D.bool r)) (⟨[], []⟩)) {r : Bool} (hx : a1.length ≤ cap) : ∀ (rest : Rw) (v18n : Nat), a1.drop v18n = rest → laws_eqSurrealTermS_l0 rec_laws_eqSurreal a1 a2 K0 rest v18n = some r → LoopOk prog 0 (lp f73 0) (mk 27 [(0, .d (D.sl a1)), (1, .d (D.sl a2)), (5, .d (D.int .i64 (v18n : Int)))] []) (LoopEnd prog f73 0 27 (.d (D.bool r)) (⟨[], []⟩) (fun i ts os => (i = 0 ∧ K0 = some r ∧ ts = [] ∧ os = [])))
  | [], v18n, hd, h => by
      rw [laws_eqSurrealTermS_l0] at h
      have hn := drop_nil hd
      refine LoopOk.step ?_
      conv => whnf
      refine splD (fun g => absurd g hn) (fun _ => ?_)
      conv => whnf
      exact ⟨_, _, [], [], ⟨rfl, h, rfl, rfl⟩, ⟨⟨rfl, rfl⟩, ⟨rfl, trivial⟩, trivial⟩⟩
  | cs :: rest, v18n, hd, h => by
      rw [laws_eqSurrealTermS_l0] at h
      obtain ⟨hrow, hd1, hlt⟩ := drop_cons hd
      refine LoopOk.step ?_
      conv => whnf
      refine splD (fun _ => ?_) (fun g => absurd hlt g)
      conv => whnf
      obtain ⟨x33, x34, x35, e36, h⟩ := cell_sii_ex h
      rw [e36] at hrow
      refine Req.of (Int.natCast_nonneg _) ?_
      refine Row.of _ hrow ?_
      conv => whnf
      obtain ⟨g41, x37, x38, x39, e40, h⟩ := row_sii_ex h
      refine Req.of g41 ?_
      refine Row.of _ e40 ?_
      conv => whnf
      obtain ⟨y42, e43, h⟩ := bind_ex h
      refine CallOk.of (laws_eqSurrealTerm_ct hrec_laws_eqSurreal e43) ?_
      conv => whnf
      refine spl (fun g44 => ?_) (fun g44 => ?_)
      · replace h := iteT h g44
        conv => whnf
        refine CutK.go ?_
        conv => whnf
        refine CutK.go ?_
        conv => whnf
        exact LoopOk.back (laws_eqSurrealTermS_l0_ct hrec_laws_eqSurreal hx rest (v18n + 1)  hd1 h) [] [] ⟨⟨rfl, rfl⟩, ⟨rfl, trivial⟩, rfl, rfl, i64eq (wrap_up hlt hx), trivial⟩
      · replace h := iteF h g44
        conv => whnf
        refine CutK.go ?_
        conv => whnf
        cases h
        exact Done.of [] [] rfl rfl ⟨⟨rfl, rfl⟩, ⟨rfl, trivial⟩, rfl, trivial⟩
def laws_eqSurrealTermS (rec_laws_eqSurreal : Rw → Rw → Option Bool) (a1 : Rw) (a2 : Rw) : Option Bool :=
  (if (a1.length : Int) = (a2.length : Int) then (if a1.length ≤ cap then (laws_eqSurrealTermS_l0 rec_laws_eqSurreal a1 a2 (some true) a1 0) else none) else some false)
set_option maxHeartbeats 4000000 in
set_option maxRecDepth 100000 in
theorem laws_eqSurrealTermS_ct {rec_laws_eqSurreal : Rw → Rw → Option Bool} (hrec_laws_eqSurreal : ∀ (a1 : Rw) (a2 : Rw) (r : Bool), rec_laws_eqSurreal a1 a2 = some r → Ct prog 31 [.agg [.d (D.sl a1)], .agg [.d (D.sl a2)]] (⟨[], []⟩) (.d (D.bool r)) (⟨[], []⟩)) {a1 : Rw} {a2 : Rw} {r : Bool} (h : laws_eqSurrealTermS rec_laws_eqSurreal a1 a2 = some r) : Ct prog 73 [.d (D.sl a1), .d (D.sl a2)] (⟨[], []⟩) (.d (D.bool r)) (⟨[], []⟩) := by
  rw [laws_eqSurrealTermS] at h
  refine Ct.of (c := _) mixed func73 ⟨rfl, rfl, rfl⟩ ?_ rfl
  conv => whnf
  refine splN (fun g3 => ?_) (fun g3 => ?_)
  · replace h := iteN h g3
    conv => whnf
    cases h
    exact Done.of [] [] rfl rfl ⟨⟨rfl, rfl⟩, ⟨rfl, trivial⟩, rfl, trivial⟩
  · replace h := iteP h g3
    conv => whnf
    obtain ⟨g45, h⟩ := req_ex h
    refine LoopOk.into (laws_eqSurrealTermS_l0_ct hrec_laws_eqSurreal g45 _ _  rfl h) [] [] ⟨⟨rfl, rfl⟩, ⟨rfl, trivial⟩, rfl, rfl, rfl, trivial⟩ ?_ (fun _ hs => hs)
    rintro i ts os ⟨rfl, h, rfl, rfl⟩
    conv => whnf
    refine CutK.go ?_
    conv => whnf
    cases h
    exact Done.of [] [] rfl rfl ⟨⟨rfl, rfl⟩, ⟨rfl, trivial⟩, rfl, trivial⟩

def laws_eqSurreal_b (rec_laws_eqSurreal : Rw → Rw → Option Bool) (a1 : Rw) (a2 : Rw) : Option Bool :=
  ((laws_eqSurrealTermS rec_laws_eqSurreal a1 a2).bind fun y3 => (if y3 = true then some true else some false))
set_option maxHeartbeats 4000000 in
set_option maxRecDepth 100000 in
theorem laws_eqSurreal_b_ct {rec_laws_eqSurreal : Rw → Rw → Option Bool} (hrec_laws_eqSurreal : ∀ (a1 : Rw) (a2 : Rw) (r : Bool), rec_laws_eqSurreal a1 a2 = some r → Ct prog 31 [.agg [.d (D.sl a1)], .agg [.d (D.sl a2)]] (⟨[], []⟩) (.d (D.bool r)) (⟨[], []⟩)) {a1 : Rw} {a2 : Rw} {r : Bool} (h : laws_eqSurreal_b rec_laws_eqSurreal a1 a2 = some r) : Ct prog 31 [.agg [.d (D.sl a1)], .agg [.d (D.sl a2)]] (⟨[], []⟩) (.d (D.bool r)) (⟨[], []⟩) := by
  rw [laws_eqSurreal_b] at h
  refine Ct.of (c := _) mixed func31 ⟨rfl, rfl, rfl⟩ ?_ rfl
  conv => whnf
  obtain ⟨y3, e4, h⟩ := bind_ex h
  refine CallOk.of (laws_eqSurrealTermS_ct hrec_laws_eqSurreal e4) ?_
  conv => whnf
  refine spl (fun g5 => ?_) (fun g5 => ?_)
  · replace h := iteT h g5
    conv => whnf
    refine CutK.go ?_
    conv => whnf
    refine CutK.go ?_
    conv => whnf
    cases h
    exact Done.of [] [] rfl rfl ⟨⟨rfl, rfl⟩, ⟨rfl, trivial⟩, rfl, trivial⟩
  · replace h := iteF h g5
    conv => whnf
    refine CutK.go ?_
    conv => whnf
    cases h
    exact Done.of [] [] rfl rfl ⟨⟨rfl, rfl⟩, ⟨rfl, trivial⟩, rfl, trivial⟩
def laws_eqSurreal : Nat → Rw → Rw → Option Bool
  | 0, _, _ => none
  | k + 1, a1, a2 => laws_eqSurreal_b (laws_eqSurreal k) a1 a2
theorem laws_eqSurreal_ct' : ∀ (k : Nat) (a1 : Rw) (a2 : Rw) (r : Bool), laws_eqSurreal k a1 a2 = some r → Ct prog 31 [.agg [.d (D.sl a1)], .agg [.d (D.sl a2)]] (⟨[], []⟩) (.d (D.bool r)) (⟨[], []⟩)
  | 0, _, _, _, h => by rw [laws_eqSurreal] at h; cases h
  | k + 1, _, _, _, h => by rw [laws_eqSurreal] at h; exact laws_eqSurreal_b_ct (laws_eqSurreal_ct' k) h
theorem laws_eqSurreal_ct {k : Nat} {a1 : Rw} {a2 : Rw} {r : Bool} (h : laws_eqSurreal k a1 a2 = some r) : Ct prog 31 [.agg [.d (D.sl a1)], .agg [.d (D.sl a2)]] (⟨[], []⟩) (.d (D.bool r)) (⟨[], []⟩) := laws_eqSurreal_ct' k _ _ _ h

def laws_toOrdinalTerm (rec_laws_toOrdinal : Rw → Option Rw) (a1 : Rw) (a2 : Int) : Option (Rw × Int) :=
  ((rec_laws_toOrdinal a1).bind fun y3 => some (y3, a2))
set_option maxHeartbeats 4000000 in
set_option maxRecDepth 100000 in
theorem laws_toOrdinalTerm_ct {rec_laws_toOrdinal : Rw → Option Rw} (hrec_laws_toOrdinal : ∀ (a1 : Rw) (r : Rw), rec_laws_toOrdinal a1 = some r → Ct prog 10 [.agg [.d (D.sl a1)]] (⟨[], []⟩) (.agg [.os 8 r.length]) (⟨[], [(77, true, r)]⟩)) {a1 : Rw} {a2 : Int} {r : Rw × Int} (h : laws_toOrdinalTerm rec_laws_toOrdinal a1 a2 = some r) : Ct prog 84 [.agg [.d (D.sl a1), .d (D.int .i64 a2)]] (⟨[], []⟩) (.agg [.os 8 r.1.length, .d (D.int .i64 r.2)]) (⟨[], [(77, true, r.1)]⟩) := by
  rw [laws_toOrdinalTerm] at h
  refine Ct.of (c := _) mixed func84 ⟨rfl, rfl, rfl⟩ ?_ rfl
  conv => whnf
  obtain ⟨y3, e4, h⟩ := bind_ex h
  refine CallOk.of (hrec_laws_toOrdinal _ _ e4) ?_
  conv => whnf
  refine CutK.go ?_
  conv => whnf
  cases h
  exact Done.of [some 384] [] rfl rfl ⟨⟨rfl, rfl⟩, ⟨rfl, ⟨rfl, rfl, rows_same⟩, trivial⟩, ⟨⟨rfl, rfl⟩, rfl, trivial⟩, trivial⟩

def laws_toOrdinalTermS_l0 (rec_laws_toOrdinal : Rw → Option Rw) (a1 : Rw) (K0 : Rw → Option Rw) : Rw → Nat → Rw → Option Rw
  | [], v16n, v15 => (K0 v15)
  | cs :: rest, v16n, v15 => (cell_si cs fun x42 x43 => ((laws_toOrdinalTerm rec_laws_toOrdinal x42 x43).bind fun y45 => (if 0 ≤ (v16n : Int) ∧ (v16n : Int) < (v15.length : Int) then (row_si v15 (v16n : Int) fun x48 x49 => (laws_toOrdinalTermS_l0 rec_laws_toOrdinal a1 K0 rest (v16n + 1) (v15.set (((v16n : Int) : Int).toNat) [D.sl y45.1, D.int .i64 y45.2]))) else none)))
set_option maxRecDepth 100000 in
theorem laws_toOrdinalTermS_l0_ct {rec_laws_toOrdinal : Rw → Option Rw} {a1 : Rw} {K0 : Rw → Option Rw} (hrec_laws_toOrdinal : ∀ (a1 : Rw) (r : Rw), rec_laws_toOrdinal a1 = some r → Ct prog 10 [.agg [.d (D.sl a1)]] (⟨[], []⟩) (.agg [.os 8 r.length]) (⟨[], [(77, true, r)]⟩)) {r : Rw} (hx : a1.length ≤ cap) : ∀ (rest : Rw) (v16n : Nat) (v15 : Rw), a1.drop v16n = rest → laws_toOrdinalTermS_l0 rec_laws_toOrdinal a1 K0 rest v16n v15 = some r → LoopOk prog 0 (lp f40 0) (mk 23 [(0, .d (D.sl a1)), (3, .os 64000 v15.length), (4, .d (D.int .i64 (v16n : Int)))] [(64000, .arr 77 true v15)]) (LoopEnd prog f40 0 23 (.os 8 r.length) (⟨[], [(77, true, r)]⟩) (fun i ts os => (i = 0 ∧ ∃ v29 : Rw, K0 v29 = some r ∧ ts = [(3, .os 67001 v29.length)] ∧ os = [(67001, .arr 77 true v29)])))
  | [], v16n, v15, hd, h => by
      rw [laws_toOrdinalTermS_l0] at h
      have hn := drop_nil hd
      refine LoopOk.step ?_
      conv => whnf
      refine splD (fun g => absurd g hn) (fun _ => ?_)
      conv => whnf
      exact ⟨_, _, [some 64000], [], ⟨rfl, _, h, rfl, rfl⟩, ⟨⟨rfl, rfl⟩, ⟨rfl, ⟨rfl, rfl, rows_same⟩, trivial⟩, ⟨rfl, rfl⟩, trivial⟩⟩
  | cs :: rest, v16n, v15, hd, h => by
      rw [laws_toOrdinalTermS_l0] at h
      obtain ⟨hrow, hd1, hlt⟩ := drop_cons hd
      refine LoopOk.step ?_
      conv => whnf
      refine splD (fun _ => ?_) (fun g => absurd hlt g)
      conv => whnf
      obtain ⟨x42, x43, e44, h⟩ := cell_si_ex h
      rw [e44] at hrow
      refine Req.of (Int.natCast_nonneg _) ?_
      refine Row.of _ hrow ?_
      conv => whnf
      obtain ⟨y45, e46, h⟩ := bind_ex h
      refine CallOk.of (laws_toOrdinalTerm_ct hrec_laws_toOrdinal e46) ?_
      conv => whnf
      obtain ⟨g47, h⟩ := req_ex h
      refine Req.of g47 ?_
      conv => whnf
      refine Take.all (rfl) ?_
      conv => whnf
      obtain ⟨g51, x48, x49, e50, h⟩ := row_si_ex h
      refine Row.of _ e50 ?_
      conv => whnf
      refine CutK.go ?_
      conv => whnf
      exact LoopOk.back (laws_toOrdinalTermS_l0_ct hrec_laws_toOrdinal hx rest (v16n + 1) _ hd1 h) [some 64000] [] ⟨⟨rfl, rfl⟩, ⟨rfl, ⟨rfl, rfl, rows_same⟩, trivial⟩, rfl, ⟨(by first | rfl | exact List.length_append.symm | (simp; done) | omega), rfl⟩, i64eq (wrap_up hlt hx), trivial⟩
def laws_toOrdinalTermS (rec_laws_toOrdinal : Rw → Option Rw) (a1 : Rw) : Option Rw :=
  (if 0 ≤ (a1.length : Int) ∧ (a1.length : Int) ≤ 1099511627776 then (if a1.length ≤ cap then (laws_toOrdinalTermS_l0 rec_laws_toOrdinal a1 (fun (v29 : Rw) => some v29) a1 0 (List.replicate ((a1.length : Int) : Int).toNat [D.sl ([]), D.int .i64 0] : Rw)) else none) else none)
set_option maxHeartbeats 4000000 in
set_option maxRecDepth 100000 in
theorem laws_toOrdinalTermS_ct {rec_laws_toOrdinal : Rw → Option Rw} (hrec_laws_toOrdinal : ∀ (a1 : Rw) (r : Rw), rec_laws_toOrdinal a1 = some r → Ct prog 10 [.agg [.d (D.sl a1)]] (⟨[], []⟩) (.agg [.os 8 r.length]) (⟨[], [(77, true, r)]⟩)) {a1 : Rw} {r : Rw} (h : laws_toOrdinalTermS rec_laws_toOrdinal a1 = some r) : Ct prog 40 [.d (D.sl a1)] (⟨[], []⟩) (.os 8 r.length) (⟨[], [(77, true, r)]⟩) := by
  rw [laws_toOrdinalTermS] at h
  refine Ct.of (c := _) mixed func40 ⟨rfl, rfl, rfl⟩ ?_ rfl
  conv => whnf
  obtain ⟨g2, h⟩ := req_ex h
  refine Req.of (makeRoom (b := 32) (by decide) g2) ?_
  conv => whnf
  obtain ⟨g52, h⟩ := req_ex h
  refine LoopOk.into (laws_toOrdinalTermS_l0_ct hrec_laws_toOrdinal g52 _ _ _ rfl h) [some 448] [] ⟨⟨rfl, rfl⟩, ⟨rfl, ⟨rfl, rfl, rows_same⟩, trivial⟩, rfl, ⟨(by first | rfl | exact List.length_append.symm | (simp; done) | omega), rfl⟩, rfl, trivial⟩ ?_ (fun _ hs => hs)
  rintro i ts os ⟨rfl, v29, h, rfl, rfl⟩
  conv => whnf
  refine CutK.go ?_
  conv => whnf
  cases h
  exact Done.of [some 67001] [] rfl rfl ⟨⟨rfl, rfl⟩, ⟨rfl, ⟨rfl, rfl, rows_same⟩, trivial⟩, ⟨rfl, rfl⟩, trivial⟩

def laws_toOrdinal_b (rec_laws_toOrdinal : Rw → Option Rw) (a1 : Rw) : Option Rw :=
  ((laws_toOrdinalTermS rec_laws_toOrdinal a1).bind fun y2 => some y2)
set_option maxHeartbeats 4000000 in
set_option maxRecDepth 100000 in
theorem laws_toOrdinal_b_ct {rec_laws_toOrdinal : Rw → Option Rw} (hrec_laws_toOrdinal : ∀ (a1 : Rw) (r : Rw), rec_laws_toOrdinal a1 = some r → Ct prog 10 [.agg [.d (D.sl a1)]] (⟨[], []⟩) (.agg [.os 8 r.length]) (⟨[], [(77, true, r)]⟩)) {a1 : Rw} {r : Rw} (h : laws_toOrdinal_b rec_laws_toOrdinal a1 = some r) : Ct prog 10 [.agg [.d (D.sl a1)]] (⟨[], []⟩) (.agg [.os 8 r.length]) (⟨[], [(77, true, r)]⟩) := by
  rw [laws_toOrdinal_b] at h
  refine Ct.of (c := _) mixed func10 ⟨rfl, rfl, rfl⟩ ?_ rfl
  conv => whnf
  obtain ⟨y2, e3, h⟩ := bind_ex h
  refine CallOk.of (laws_toOrdinalTermS_ct hrec_laws_toOrdinal e3) ?_
  conv => whnf
  refine CutK.go ?_
  conv => whnf
  cases h
  exact Done.of [some 384] [] rfl rfl ⟨⟨rfl, rfl⟩, ⟨rfl, ⟨rfl, rfl, rows_same⟩, trivial⟩, ⟨⟨rfl, rfl⟩, trivial⟩, trivial⟩
def laws_toOrdinal : Nat → Rw → Option Rw
  | 0, _ => none
  | k + 1, a1 => laws_toOrdinal_b (laws_toOrdinal k) a1
theorem laws_toOrdinal_ct' : ∀ (k : Nat) (a1 : Rw) (r : Rw), laws_toOrdinal k a1 = some r → Ct prog 10 [.agg [.d (D.sl a1)]] (⟨[], []⟩) (.agg [.os 8 r.length]) (⟨[], [(77, true, r)]⟩)
  | 0, _, _, h => by rw [laws_toOrdinal] at h; cases h
  | k + 1, _, _, h => by rw [laws_toOrdinal] at h; exact laws_toOrdinal_b_ct (laws_toOrdinal_ct' k) h
theorem laws_toOrdinal_ct {k : Nat} {a1 : Rw} {r : Rw} (h : laws_toOrdinal k a1 = some r) : Ct prog 10 [.agg [.d (D.sl a1)]] (⟨[], []⟩) (.agg [.os 8 r.length]) (⟨[], [(77, true, r)]⟩) := laws_toOrdinal_ct' k _ _ h

def impl_in  (a1 : Int) (a2 : Int) (a3 : Int) : Option Bool :=
  (if a2 ≤ a1 then (if a1 ≤ a3 then some true else some false) else some false)
set_option maxHeartbeats 4000000 in
set_option maxRecDepth 100000 in
theorem impl_in_ct  {a1 : Int} {a2 : Int} {a3 : Int} {r : Bool} (h : impl_in a1 a2 a3 = some r) : Ct prog 43 [.d (D.int .i64 a1), .d (D.int .i64 a2), .d (D.int .i64 a3)] (⟨[], []⟩) (.d (D.bool r)) (⟨[], []⟩) := by
  rw [impl_in] at h
  refine Ct.of (c := _) mixed func43 ⟨rfl, rfl, rfl⟩ ?_ rfl
  conv => whnf
  refine splD (fun g4 => ?_) (fun g4 => ?_)
  · replace h := iteP h g4
    conv => whnf
    refine splD (fun g5 => ?_) (fun g5 => ?_)
    · replace h := iteP h g5
      conv => whnf
      cases h
      exact Done.of [] [] rfl rfl ⟨⟨rfl, rfl⟩, ⟨rfl, trivial⟩, rfl, trivial⟩
    · replace h := iteN h g5
      conv => whnf
      cases h
      exact Done.of [] [] rfl rfl ⟨⟨rfl, rfl⟩, ⟨rfl, trivial⟩, rfl, trivial⟩
  · replace h := iteN h g4
    conv => whnf
    cases h
    exact Done.of [] [] rfl rfl ⟨⟨rfl, rfl⟩, ⟨rfl, trivial⟩, rfl, trivial⟩

def impl_compare  (a1 : Int) (a2 : Int) : Option Int :=
  (if a1 < a2 then some (-1) else (if a2 < a1 then some 1 else some 0))
set_option maxHeartbeats 4000000 in
set_option maxRecDepth 100000 in
theorem impl_compare_ct  {a1 : Int} {a2 : Int} {r : Int} (h : impl_compare a1 a2 = some r) : Ct prog 106 [.d (D.int .i64 a1), .d (D.int .i64 a2)] (⟨[], []⟩) (.d (D.int .i64 r)) (⟨[], []⟩) := by
  rw [impl_compare] at h
  refine Ct.of (c := _) mixed func106 ⟨rfl, rfl, rfl⟩ ?_ rfl
  conv => whnf
  refine splD (fun g3 => ?_) (fun g3 => ?_)
  · replace h := iteP h g3
    conv => whnf
    cases h
    exact Done.of [] [] rfl rfl ⟨⟨rfl, rfl⟩, ⟨rfl, trivial⟩, rfl, trivial⟩
  · replace h := iteN h g3
    conv => whnf
    refine splD (fun g4 => ?_) (fun g4 => ?_)
    · replace h := iteP h g4
      conv => whnf
      cases h
      exact Done.of [] [] rfl rfl ⟨⟨rfl, rfl⟩, ⟨rfl, trivial⟩, rfl, trivial⟩
    · replace h := iteN h g4
      conv => whnf
      cases h
      exact Done.of [] [] rfl rfl ⟨⟨rfl, rfl⟩, ⟨rfl, trivial⟩, rfl, trivial⟩

def impl_cmpTerms (rec_impl_cmp : Rw → Rw → Option Int) (a1 : Rw) (a2 : Int) (a3 : Rw) (a4 : Int) : Option Int :=
  ((rec_impl_cmp a1 a3).bind fun y5 => (if y5 = (0 : Int) then ((impl_compare a2 a4).bind fun y8 => some y8) else some y5))
set_option maxHeartbeats 4000000 in
set_option maxRecDepth 100000 in
theorem impl_cmpTerms_ct {rec_impl_cmp : Rw → Rw → Option Int} (hrec_impl_cmp : ∀ (a1 : Rw) (a2 : Rw) (r : Int), rec_impl_cmp a1 a2 = some r → Ct prog 59 [.agg [.d (D.sl a1)], .agg [.d (D.sl a2)]] (⟨[], []⟩) (.d (D.int .i64 r)) (⟨[], []⟩)) {a1 : Rw} {a2 : Int} {a3 : Rw} {a4 : Int} {r : Int} (h : impl_cmpTerms rec_impl_cmp a1 a2 a3 a4 = some r) : Ct prog 94 [.agg [.d (D.sl a1), .d (D.int .i64 a2)], .agg [.d (D.sl a3), .d (D.int .i64 a4)]] (⟨[], []⟩) (.d (D.int .i64 r)) (⟨[], []⟩) := by
  rw [impl_cmpTerms] at h
  refine Ct.of (c := _) mixed func94 ⟨rfl, rfl, rfl⟩ ?_ rfl
  conv => whnf
  obtain ⟨y5, e6, h⟩ := bind_ex h
  refine CallOk.of (hrec_impl_cmp _ _ _ e6) ?_
  conv => whnf
  refine CutK.go ?_
  conv => whnf
  refine splN (fun g7 => ?_) (fun g7 => ?_)
  · replace h := iteN h g7
    conv => whnf
    cases h
    exact Done.of [] [] rfl rfl ⟨⟨rfl, rfl⟩, ⟨rfl, trivial⟩, rfl, trivial⟩
  · replace h := iteP h g7
    conv => whnf
    refine CutK.go ?_
    conv => whnf
    obtain ⟨y8, e9, h⟩ := bind_ex h
    refine CallOk.of (impl_compare_ct e9) ?_
    conv => whnf
    refine CutK.go ?_
    conv => whnf
    cases h
    exact Done.of [] [] rfl rfl ⟨⟨rfl, rfl⟩, ⟨rfl, trivial⟩, rfl, trivial⟩

def slices_CompareFunc__cmpTerms_l0 (rec_impl_cmp : Rw → Rw → Option Int) (a1 : Rw) (a2 : Rw) (K0 : Option Int) : Rw → Nat → Option Int
  | [], v16n => (K0)
  | cs :: rest, v16n => (cell_si cs fun x30 x31 => (if (a2.length : Int) ≤ (v16n : Int) then some 1 else (row_si a2 (v16n : Int) fun x34 x35 => ((impl_cmpTerms rec_impl_cmp x30 x31 x34 x35).bind fun y38 => (if y38 = (0 : Int) then (slices_CompareFunc__cmpTerms_l0 rec_impl_cmp a1 a2 K0 rest (v16n + 1)) else some y38)))))
set_option maxRecDepth 100000 in
theorem slices_CompareFunc__cmpTerms_l0_ct {rec_impl_cmp : Rw → Rw → Option Int} {a1 : Rw} {a2 : Rw} {K0 : Option Int} (hrec_impl_cmp : ∀ (a1 : Rw) (a2 : Rw) (r : Int), rec_impl_cmp a1 a2 = some r → Ct prog 59 [.agg [.d (D.sl a1)], .agg [.d (D.sl a2)]] (⟨[], []⟩) (.d (D.int .i64 r)) (⟨[], []⟩)) {r : Int} (hx : a1.length ≤ cap) : ∀ (rest : Rw) (v16n : Nat), a1.drop v16n = rest → slices_CompareFunc__cmpTerms_l0 rec_impl_cmp a1 a2 K0 rest v16n = some r → LoopOk prog 0 (lp f93 0) (mk 39 [(0, .d (D.sl a1)), (1, .d (D.sl a2)), (2, .fn 94 []), (11, .d (D.sl a1)), (12, .d (D.int .i64 (a1.length : Int))), (13, .d (D.int .i64 (v16n : Int)))] []) (LoopEnd prog f93 0 39 (.d (D.int .i64 r)) (⟨[], []⟩) (fun i ts os => (i = 0 ∧ K0 = some r ∧ ts = [(0, .d (D.sl a1)), (1, .d (D.sl a2))] ∧ os = [])))
  | [], v16n, hd, h => by
      rw [slices_CompareFunc__cmpTerms_l0] at h
      have hn := drop_nil hd
      refine LoopOk.step ?_
      conv => whnf
      refine splD (fun g => absurd g hn) (fun _ => ?_)
      conv => whnf
      exact ⟨_, _, [], [], ⟨rfl, h, rfl, rfl⟩, ⟨⟨rfl, rfl⟩, ⟨rfl, trivial⟩, rfl, rfl, trivial⟩⟩
  | cs :: rest, v16n, hd, h => by
      rw [slices_CompareFunc__cmpTerms_l0] at h
      obtain ⟨hrow, hd1, hlt⟩ := drop_cons hd
      refine LoopOk.step ?_
      conv => whnf
      refine splD (fun _ => ?_) (fun g => absurd hlt g)
      conv => whnf
      obtain ⟨x30, x31, e32, h⟩ := cell_si_ex h
      rw [e32] at hrow
      refine Req.of (Int.natCast_nonneg _) ?_
      refine Row.of _ hrow ?_
      conv => whnf
      refine splD (fun g33 => ?_) (fun g33 => ?_)
      · replace h := iteP h g33
        conv => whnf
        cases h
        exact Done.of [] [] rfl rfl ⟨⟨rfl, rfl⟩, ⟨rfl, trivial⟩, rfl, trivial⟩
      · replace h := iteN h g33
        conv => whnf
        obtain ⟨g37, x34, x35, e36, h⟩ := row_si_ex h
        refine Req.of g37 ?_
        refine Row.of _ e36 ?_
        conv => whnf
        obtain ⟨y38, e39, h⟩ := bind_ex h
        refine CallOk.of (impl_cmpTerms_ct hrec_impl_cmp e39) ?_
        conv => whnf
        refine CutK.norm [0, 1, 2, 10, 11, 12, 13] [] ?_
        conv => whnf
        refine splN (fun g40 => ?_) (fun g40 => ?_)
        · replace h := iteN h g40
          conv => whnf
          cases h
          exact Done.of [] [] rfl rfl ⟨⟨rfl, rfl⟩, ⟨rfl, trivial⟩, rfl, trivial⟩
        · replace h := iteP h g40
          conv => whnf
          refine CutK.norm [0, 1, 2, 11, 12, 13] [] ?_
          conv => whnf
          exact LoopOk.back (slices_CompareFunc__cmpTerms_l0_ct hrec_impl_cmp hx rest (v16n + 1)  hd1 h) [] [] ⟨⟨rfl, rfl⟩, ⟨rfl, trivial⟩, rfl, rfl, ⟨rfl, trivial⟩, rfl, rfl, i64eq (wrap_up hlt hx), trivial⟩
def slices_CompareFunc__cmpTerms (rec_impl_cmp : Rw → Rw → Option Int) (a1 : Rw) (a2 : Rw) : Option Int :=
  (if a1.length ≤ cap then (slices_CompareFunc__cmpTerms_l0 rec_impl_cmp a1 a2 (if (a1.length : Int) < (a2.length : Int) then some (-1) else some 0) a1 0) else none)
set_option maxHeartbeats 4000000 in
set_option maxRecDepth 100000 in
theorem slices_CompareFunc__cmpTerms_ct {rec_impl_cmp : Rw → Rw → Option Int} (hrec_impl_cmp : ∀ (a1 : Rw) (a2 : Rw) (r : Int), rec_impl_cmp a1 a2 = some r → Ct prog 59 [.agg [.d (D.sl a1)], .agg [.d (D.sl a2)]] (⟨[], []⟩) (.d (D.int .i64 r)) (⟨[], []⟩)) {a1 : Rw} {a2 : Rw} {r : Int} (h : slices_CompareFunc__cmpTerms rec_impl_cmp a1 a2 = some r) : Ct prog 93 [.d (D.sl a1), .d (D.sl a2), .fn 94 []] (⟨[], []⟩) (.d (D.int .i64 r)) (⟨[], []⟩) := by
  rw [slices_CompareFunc__cmpTerms] at h
  refine Ct.of (c := _) mixed func93 ⟨rfl, rfl, rfl⟩ ?_ rfl
  conv => whnf
  obtain ⟨g41, h⟩ := req_ex h
  refine LoopOk.into (slices_CompareFunc__cmpTerms_l0_ct hrec_impl_cmp g41 _ _  rfl h) [] [] ⟨⟨rfl, rfl⟩, ⟨rfl, trivial⟩, rfl, rfl, ⟨rfl, trivial⟩, rfl, rfl, rfl, trivial⟩ ?_ (fun _ hs => hs)
  rintro i ts os ⟨rfl, h, rfl, rfl⟩
  conv => whnf
  refine CutK.norm [0, 1] [] ?_
  conv => whnf
  refine splD (fun g42 => ?_) (fun g42 => ?_)
  · replace h := iteP h g42
    conv => whnf
    cases h
    exact Done.of [] [] rfl rfl ⟨⟨rfl, rfl⟩, ⟨rfl, trivial⟩, rfl, trivial⟩
  · replace h := iteN h g42
    conv => whnf
    cases h
    exact Done.of [] [] rfl rfl ⟨⟨rfl, rfl⟩, ⟨rfl, trivial⟩, rfl, trivial⟩

def impl_cmp_b (rec_impl_cmp : Rw → Rw → Option Int) (a1 : Rw) (a2 : Rw) : Option Int :=
  ((slices_CompareFunc__cmpTerms rec_impl_cmp a1 a2).bind fun y3 => some y3)
set_option maxHeartbeats 4000000 in
set_option maxRecDepth 100000 in
theorem impl_cmp_b_ct {rec_impl_cmp : Rw → Rw → Option Int} (hrec_impl_cmp : ∀ (a1 : Rw) (a2 : Rw) (r : Int), rec_impl_cmp a1 a2 = some r → Ct prog 59 [.agg [.d (D.sl a1)], .agg [.d (D.sl a2)]] (⟨[], []⟩) (.d (D.int .i64 r)) (⟨[], []⟩)) {a1 : Rw} {a2 : Rw} {r : Int} (h : impl_cmp_b rec_impl_cmp a1 a2 = some r) : Ct prog 59 [.agg [.d (D.sl a1)], .agg [.d (D.sl a2)]] (⟨[], []⟩) (.d (D.int .i64 r)) (⟨[], []⟩) := by
  rw [impl_cmp_b] at h
  refine Ct.of (c := _) mixed func59 ⟨rfl, rfl, rfl⟩ ?_ rfl
  conv => whnf
  obtain ⟨y3, e4, h⟩ := bind_ex h
  refine CallOk.of (slices_CompareFunc__cmpTerms_ct hrec_impl_cmp e4) ?_
  conv => whnf
  refine CutK.go ?_
  conv => whnf
  cases h
  exact Done.of [] [] rfl rfl ⟨⟨rfl, rfl⟩, ⟨rfl, trivial⟩, rfl, trivial⟩
def impl_cmp : Nat → Rw → Rw → Option Int
  | 0, _, _ => none
  | k + 1, a1, a2 => impl_cmp_b (impl_cmp k) a1 a2
theorem impl_cmp_ct' : ∀ (k : Nat) (a1 : Rw) (a2 : Rw) (r : Int), impl_cmp k a1 a2 = some r → Ct prog 59 [.agg [.d (D.sl a1)], .agg [.d (D.sl a2)]] (⟨[], []⟩) (.d (D.int .i64 r)) (⟨[], []⟩)
  | 0, _, _, _, h => by rw [impl_cmp] at h; cases h
  | k + 1, _, _, _, h => by rw [impl_cmp] at h; exact impl_cmp_b_ct (impl_cmp_ct' k) h
theorem impl_cmp_ct {k : Nat} {a1 : Rw} {a2 : Rw} {r : Int} (h : impl_cmp k a1 a2 = some r) : Ct prog 59 [.agg [.d (D.sl a1)], .agg [.d (D.sl a2)]] (⟨[], []⟩) (.d (D.int .i64 r)) (⟨[], []⟩) := impl_cmp_ct' k _ _ _ h

def impl_ordinalAt_2_p3 (o62 : Int) : Option (Bool × Int) :=
  some (true, o62)
set_option maxHeartbeats 4000000 in
set_option maxRecDepth 100000 in
theorem impl_ordinalAt_2_p3_ct {o62 : Int} {r : Bool × Int} (h : impl_ordinalAt_2_p3 o62 = some r) : X prog 1 (tlF f85 3) (mk 83 [] [(0, .box 3 [.d (D.int .i64 o62)])]) (finK prog f85 1 (.d (D.bool r.1)) (⟨[(3, [.d (D.int .i64 r.2)])], []⟩)) := by
  rw [impl_ordinalAt_2_p3] at h
  conv => whnf
  cases h
  exact Done.of [some 0] [] rfl rfl ⟨⟨rfl, rfl⟩, ⟨rfl, ⟨rfl, rfl, trivial⟩, trivial⟩, rfl, trivial⟩
def impl_ordinalAt_2_l0 (k : Nat) (rec_impl_ordinalAt_2 : Rw → Int → Int → Int → Option (Bool × Int)) (a1 : Rw) (a2 : Int) (a3 : Int) (K0 : Int → Option (Bool × Int)) : Rw → Nat → Int → Option (Bool × Int)
  | [], v77n, v78 => (K0 v78)
  | cs :: rest, v77n, v78 => (cell_si cs fun x120 x121 => (if (60 : Int) < (IntKind.i64.wrap (v78 + 1)) then some (false, IntKind.i64.wrap (v78 + 1)) else ((impl_in x121 1 1000000).bind fun y124 => (if y124 = true then ((rec_impl_ordinalAt_2 x120 x121 (IntKind.i64.wrap (a3 + 1)) (IntKind.i64.wrap (v78 + 1))).bind fun y127 => (if y127.1 = true then (if (0 : Int) < (v77n : Int) then (row_si a1 (IntKind.i64.wrap ((v77n : Int) - 1)) fun x131 x132 => ((impl_cmp k x131 x120).bind fun y135 => (if y135 ≤ (0 : Int) then some (false, y127.2) else (impl_ordinalAt_2_l0 k rec_impl_ordinalAt_2 a1 a2 a3 K0 rest (v77n + 1) y127.2)))) else (impl_ordinalAt_2_l0 k rec_impl_ordinalAt_2 a1 a2 a3 K0 rest (v77n + 1) y127.2)) else some (false, y127.2))) else some (false, IntKind.i64.wrap (v78 + 1))))))
set_option maxRecDepth 100000 in
theorem impl_ordinalAt_2_l0_ct {k : Nat} {rec_impl_ordinalAt_2 : Rw → Int → Int → Int → Option (Bool × Int)} {a1 : Rw} {a2 : Int} {a3 : Int} {K0 : Int → Option (Bool × Int)} (hrec_impl_ordinalAt_2 : ∀ (a1 : Rw) (a2 : Int) (a3 : Int) (a4 : Int) (r : Bool × Int), rec_impl_ordinalAt_2 a1 a2 a3 a4 = some r → Ct prog 85 [.dp [D.sl a1, D.int .i64 a2], .d (D.int .i64 a3), .ptr 0 0] (⟨[(3, [.d (D.int .i64 a4)])], []⟩) (.d (D.bool r.1)) (⟨[(3, [.d (D.int .i64 r.2)])], []⟩)) {r : Bool × Int} (hx : a1.length ≤ cap) : ∀ (rest : Rw) (v77n : Nat) (v78 : Int), a1.drop v77n = rest → impl_ordinalAt_2_l0 k rec_impl_ordinalAt_2 a1 a2 a3 K0 rest v77n v78 = some r → LoopOk prog 1 (lp f85 0) (mk 83 [(0, .dp [D.sl a1, D.int .i64 a2]), (1, .d (D.int .i64 a3)), (2, .ptr 0 0), (26, .d (D.int .i64 (a1.length : Int))), (27, .d (D.int .i64 (v77n : Int)))] [(0, .box 3 [.d (D.int .i64 v78)])]) (LoopEnd prog f85 1 83 (.d (D.bool r.1)) (⟨[(3, [.d (D.int .i64 r.2)])], []⟩) (fun i ts os => (i = 0 ∧ ∃ v99 : Int, K0 v99 = some r ∧ ts = [] ∧ os = [(0, .box 3 [.d (D.int .i64 v99)])])))
  | [], v77n, v78, hd, h => by
      rw [impl_ordinalAt_2_l0] at h
      have hn := drop_nil hd
      refine LoopOk.step ?_
      conv => whnf
      refine splD (fun g => absurd g hn) (fun _ => ?_)
      conv => whnf
      exact ⟨_, _, [some 0], [], ⟨rfl, _, h, rfl, rfl⟩, ⟨⟨rfl, rfl⟩, ⟨rfl, ⟨rfl, rfl, trivial⟩, trivial⟩, trivial⟩⟩
  | cs :: rest, v77n, v78, hd, h => by
      rw [impl_ordinalAt_2_l0] at h
      obtain ⟨hrow, hd1, hlt⟩ := drop_cons hd
      refine LoopOk.step ?_
      conv => whnf
      refine splD (fun _ => ?_) (fun g => absurd hlt g)
      conv => whnf
      obtain ⟨x120, x121, e122, h⟩ := cell_si_ex h
      rw [e122] at hrow
      refine Req.of (Int.natCast_nonneg _) ?_
      refine Row.of _ hrow ?_
      conv => whnf
      refine splD (fun g123 => ?_) (fun g123 => ?_)
      · replace h := iteP h g123
        conv => whnf
        refine CutK.norm [0, 1, 2, 7, 8, 26, 27, 62] [0] ?_
        conv => whnf
        cases h
        exact Done.of [some 0] [] rfl rfl ⟨⟨rfl, rfl⟩, ⟨rfl, ⟨rfl, rfl, trivial⟩, trivial⟩, rfl, trivial⟩
      · replace h := iteN h g123
        conv => whnf
        obtain ⟨y124, e125, h⟩ := bind_ex h
        refine CallOk.of (impl_in_ct e125) ?_
        conv => whnf
        refine spl (fun g126 => ?_) (fun g126 => ?_)
        · replace h := iteT h g126
          conv => whnf
          obtain ⟨y127, e128, h⟩ := bind_ex h
          refine CallOk.of (hrec_impl_ordinalAt_2 _ _ _ _ _ e128) ?_
          conv => whnf
          refine spl (fun g129 => ?_) (fun g129 => ?_)
          · replace h := iteT h g129
            conv => whnf
            refine CutK.norm [0, 1, 2, 7, 8, 26, 27, 62] [0] ?_
            conv => whnf
            refine CutK.norm [0, 1, 2, 7, 8, 26, 27] [0] ?_
            conv => whnf
            refine splD (fun g130 => ?_) (fun g130 => ?_)
            · replace h := iteP h g130
              conv => whnf
              obtain ⟨g134, x131, x132, e133, h⟩ := row_si_ex h
              refine Req.of g134 ?_
              refine Row.of _ e133 ?_
              conv => whnf
              obtain ⟨y135, e136, h⟩ := bind_ex h
              refine CallOk.of (impl_cmp_ct e136) ?_
              conv => whnf
              refine splD (fun g137 => ?_) (fun g137 => ?_)
              · replace h := iteP h g137
                conv => whnf
                refine CutK.norm [0, 1, 2, 26, 27, 81] [0] ?_
                conv => whnf
                cases h
                exact Done.of [some 0] [] rfl rfl ⟨⟨rfl, rfl⟩, ⟨rfl, ⟨rfl, rfl, trivial⟩, trivial⟩, rfl, trivial⟩
              · replace h := iteN h g137
                conv => whnf
                refine CutK.norm [0, 1, 2, 26, 27, 81] [0] ?_
                conv => whnf
                refine CutK.norm [0, 1, 2, 26, 27] [0] ?_
                conv => whnf
                exact LoopOk.back (impl_ordinalAt_2_l0_ct hrec_impl_ordinalAt_2 hx rest (v77n + 1) _ hd1 h) [some 0] [] ⟨⟨rfl, rfl⟩, ⟨rfl, ⟨rfl, rfl, trivial⟩, trivial⟩, rfl, rfl, ⟨rfl, rfl⟩, rfl, i64eq (wrap_up hlt hx), trivial⟩
            · replace h := iteN h g130
              conv => whnf
              refine CutK.norm [0, 1, 2, 26, 27, 81] [0] ?_
              conv => whnf
              refine CutK.norm [0, 1, 2, 26, 27] [0] ?_
              conv => whnf
              exact LoopOk.back (impl_ordinalAt_2_l0_ct hrec_impl_ordinalAt_2 hx rest (v77n + 1) _ hd1 h) [some 0] [] ⟨⟨rfl, rfl⟩, ⟨rfl, ⟨rfl, rfl, trivial⟩, trivial⟩, rfl, rfl, ⟨rfl, rfl⟩, rfl, i64eq (wrap_up hlt hx), trivial⟩
          · replace h := iteF h g129
            conv => whnf
            refine CutK.norm [0, 1, 2, 7, 8, 26, 27, 62] [0] ?_
            conv => whnf
            cases h
            exact Done.of [some 0] [] rfl rfl ⟨⟨rfl, rfl⟩, ⟨rfl, ⟨rfl, rfl, trivial⟩, trivial⟩, rfl, trivial⟩
        · replace h := iteF h g126
          conv => whnf
          refine CutK.norm [0, 1, 2, 7, 8, 26, 27, 62] [0] ?_
          conv => whnf
          cases h
          exact Done.of [some 0] [] rfl rfl ⟨⟨rfl, rfl⟩, ⟨rfl, ⟨rfl, rfl, trivial⟩, trivial⟩, rfl, trivial⟩
def impl_ordinalAt_2_b (k : Nat) (rec_impl_ordinalAt_2 : Rw → Int → Int → Int → Option (Bool × Int)) (a1 : Rw) (a2 : Int) (a3 : Int) (a4 : Int) : Option (Bool × Int) :=
  (if (60 : Int) < (IntKind.i64.wrap (a4 + 1)) then some (false, IntKind.i64.wrap (a4 + 1)) else (if (6 : Int) < a3 then some (false, IntKind.i64.wrap (a4 + 1)) else (if a1.length ≤ cap then (impl_ordinalAt_2_l0 k rec_impl_ordinalAt_2 a1 a2 a3 (fun (v99 : Int) => (impl_ordinalAt_2_p3 v99)) a1 0 (IntKind.i64.wrap (a4 + 1))) else none)))
set_option maxHeartbeats 4000000 in
set_option maxRecDepth 100000 in
theorem impl_ordinalAt_2_b_ct {k : Nat} {rec_impl_ordinalAt_2 : Rw → Int → Int → Int → Option (Bool × Int)} (hrec_impl_ordinalAt_2 : ∀ (a1 : Rw) (a2 : Int) (a3 : Int) (a4 : Int) (r : Bool × Int), rec_impl_ordinalAt_2 a1 a2 a3 a4 = some r → Ct prog 85 [.dp [D.sl a1, D.int .i64 a2], .d (D.int .i64 a3), .ptr 0 0] (⟨[(3, [.d (D.int .i64 a4)])], []⟩) (.d (D.bool r.1)) (⟨[(3, [.d (D.int .i64 r.2)])], []⟩)) {a1 : Rw} {a2 : Int} {a3 : Int} {a4 : Int} {r : Bool × Int} (h : impl_ordinalAt_2_b k rec_impl_ordinalAt_2 a1 a2 a3 a4 = some r) : Ct prog 85 [.dp [D.sl a1, D.int .i64 a2], .d (D.int .i64 a3), .ptr 0 0] (⟨[(3, [.d (D.int .i64 a4)])], []⟩) (.d (D.bool r.1)) (⟨[(3, [.d (D.int .i64 r.2)])], []⟩) := by
  rw [impl_ordinalAt_2_b] at h
  refine Ct.of (c := _) mixed func85 ⟨rfl, rfl, rfl⟩ ?_ rfl
  conv => whnf
  refine splD (fun g63 => ?_) (fun g63 => ?_)
  · replace h := iteP h g63
    conv => whnf
    cases h
    exact Done.of [some 0] [] rfl rfl ⟨⟨rfl, rfl⟩, ⟨rfl, ⟨rfl, rfl, trivial⟩, trivial⟩, rfl, trivial⟩
  · replace h := iteN h g63
    conv => whnf
    refine splD (fun g64 => ?_) (fun g64 => ?_)
    · replace h := iteP h g64
      conv => whnf
      cases h
      exact Done.of [some 0] [] rfl rfl ⟨⟨rfl, rfl⟩, ⟨rfl, ⟨rfl, rfl, trivial⟩, trivial⟩, rfl, trivial⟩
    · replace h := iteN h g64
      conv => whnf
      obtain ⟨g138, h⟩ := req_ex h
      refine LoopOk.into (impl_ordinalAt_2_l0_ct hrec_impl_ordinalAt_2 g138 _ _ _ rfl h) [some 0] [] ⟨⟨rfl, rfl⟩, ⟨rfl, ⟨rfl, rfl, trivial⟩, trivial⟩, rfl, rfl, ⟨rfl, rfl⟩, rfl, rfl, trivial⟩ ?_ (fun _ hs => hs)
      rintro i ts os ⟨rfl, v99, h, rfl, rfl⟩
      conv => whnf
      exact CutK.piece (impl_ordinalAt_2_p3_ct  h) [some 0] [] ⟨⟨rfl, rfl⟩, ⟨rfl, ⟨rfl, rfl, trivial⟩, trivial⟩, trivial⟩
def impl_ordinalAt_2 : Nat → Rw → Int → Int → Int → Option (Bool × Int)
  | 0, _, _, _, _ => none
  | k + 1, a1, a2, a3, a4 => impl_ordinalAt_2_b k (impl_ordinalAt_2 k) a1 a2 a3 a4
theorem impl_ordinalAt_2_ct' : ∀ (k : Nat) (a1 : Rw) (a2 : Int) (a3 : Int) (a4 : Int) (r : Bool × Int), impl_ordinalAt_2 k a1 a2 a3 a4 = some r → Ct prog 85 [.dp [D.sl a1, D.int .i64 a2], .d (D.int .i64 a3), .ptr 0 0] (⟨[(3, [.d (D.int .i64 a4)])], []⟩) (.d (D.bool r.1)) (⟨[(3, [.d (D.int .i64 r.2)])], []⟩)
  | 0, _, _, _, _, _, h => by rw [impl_ordinalAt_2] at h; cases h
  | k + 1, _, _, _, _, _, h => by rw [impl_ordinalAt_2] at h; exact impl_ordinalAt_2_b_ct (impl_ordinalAt_2_ct' k) h
theorem impl_ordinalAt_2_ct {k : Nat} {a1 : Rw} {a2 : Int} {a3 : Int} {a4 : Int} {r : Bool × Int} (h : impl_ordinalAt_2 k a1 a2 a3 a4 = some r) : Ct prog 85 [.dp [D.sl a1, D.int .i64 a2], .d (D.int .i64 a3), .ptr 0 0] (⟨[(3, [.d (D.int .i64 a4)])], []⟩) (.d (D.bool r.1)) (⟨[(3, [.d (D.int .i64 r.2)])], []⟩) := impl_ordinalAt_2_ct' k _ _ _ _ _ h

def impl_ordinalAt_p3 (a1 : Rw) (o61 : Int) : Option (Bool × Rw × Int) :=
  some (true, a1, o61)
set_option maxHeartbeats 4000000 in
set_option maxRecDepth 100000 in
theorem impl_ordinalAt_p3_ct {a1 : Rw} {o61 : Int} {r : Bool × Rw × Int} (h : impl_ordinalAt_p3 a1 o61 = some r) : X prog 2 (tlF f85 3) (mk 83 [] [(0, .box 28 [.d (D.sl a1)]), (64, .box 3 [.d (D.int .i64 o61)])]) (finK prog f85 2 (.d (D.bool r.1)) (⟨[(28, [.d (D.sl r.2.1)]), (3, [.d (D.int .i64 r.2.2)])], []⟩)) := by
  rw [impl_ordinalAt_p3] at h
  conv => whnf
  cases h
  exact Done.of [some 0, some 64] [] rfl rfl ⟨⟨rfl, rfl⟩, ⟨rfl, ⟨rfl, rfl, trivial⟩, ⟨rfl, rfl, trivial⟩, trivial⟩, rfl, trivial⟩
def impl_ordinalAt_l0 (k : Nat) (a1 : Rw) (a2 : Int) (K0 : Int → Option (Bool × Rw × Int)) : Rw → Nat → Int → Option (Bool × Rw × Int)
  | [], v76n, v77 => (K0 v77)
  | cs :: rest, v76n, v77 => (cell_si cs fun x119 x120 => (if (60 : Int) < (IntKind.i64.wrap (v77 + 1)) then some (false, a1, IntKind.i64.wrap (v77 + 1)) else ((impl_in x120 1 1000000).bind fun y123 => (if y123 = true then ((impl_ordinalAt_2 k x119 x120 (IntKind.i64.wrap (a2 + 1)) (IntKind.i64.wrap (v77 + 1))).bind fun y126 => (if y126.1 = true then (if (0 : Int) < (v76n : Int) then (row_si a1 (IntKind.i64.wrap ((v76n : Int) - 1)) fun x130 x131 => ((impl_cmp k x130 x119).bind fun y134 => (if y134 ≤ (0 : Int) then some (false, a1, y126.2) else (impl_ordinalAt_l0 k a1 a2 K0 rest (v76n + 1) y126.2)))) else (impl_ordinalAt_l0 k a1 a2 K0 rest (v76n + 1) y126.2)) else some (false, a1, y126.2))) else some (false, a1, IntKind.i64.wrap (v77 + 1))))))
set_option maxRecDepth 100000 in
theorem impl_ordinalAt_l0_ct {k : Nat} {a1 : Rw} {a2 : Int} {K0 : Int → Option (Bool × Rw × Int)} {r : Bool × Rw × Int} (hx : a1.length ≤ cap) : ∀ (rest : Rw) (v76n : Nat) (v77 : Int), a1.drop v76n = rest → impl_ordinalAt_l0 k a1 a2 K0 rest v76n v77 = some r → LoopOk prog 2 (lp f85 0) (mk 83 [(0, .ptr 0 0), (1, .d (D.int .i64 a2)), (2, .ptr 64 0), (26, .d (D.int .i64 (a1.length : Int))), (27, .d (D.int .i64 (v76n : Int)))] [(0, .box 28 [.d (D.sl a1)]), (64, .box 3 [.d (D.int .i64 v77)])]) (LoopEnd prog f85 2 83 (.d (D.bool r.1)) (⟨[(28, [.d (D.sl r.2.1)]), (3, [.d (D.int .i64 r.2.2)])], []⟩) (fun i ts os => (i = 0 ∧ ∃ v98 : Int, K0 v98 = some r ∧ ts = [] ∧ os = [(0, .box 28 [.d (D.sl a1)]), (64, .box 3 [.d (D.int .i64 v98)])])))
  | [], v76n, v77, hd, h => by
      rw [impl_ordinalAt_l0] at h
      have hn := drop_nil hd
      refine LoopOk.step ?_
      conv => whnf
      refine splD (fun g => absurd g hn) (fun _ => ?_)
      conv => whnf
      exact ⟨_, _, [some 0, some 64], [], ⟨rfl, _, h, rfl, rfl⟩, ⟨⟨rfl, rfl⟩, ⟨rfl, ⟨rfl, rfl, trivial⟩, ⟨rfl, rfl, trivial⟩, trivial⟩, trivial⟩⟩
  | cs :: rest, v76n, v77, hd, h => by
      rw [impl_ordinalAt_l0] at h
      obtain ⟨hrow, hd1, hlt⟩ := drop_cons hd
      refine LoopOk.step ?_
      conv => whnf
      refine splD (fun _ => ?_) (fun g => absurd hlt g)
      conv => whnf
      obtain ⟨x119, x120, e121, h⟩ := cell_si_ex h
      rw [e121] at hrow
      refine Req.of (Int.natCast_nonneg _) ?_
      refine Row.of _ hrow ?_
      conv => whnf
      refine splD (fun g122 => ?_) (fun g122 => ?_)
      · replace h := iteP h g122
        conv => whnf
        refine CutK.norm [0, 1, 2, 7, 8, 26, 27, 62] [0, 64] ?_
        conv => whnf
        cases h
        exact Done.of [some 0, some 64] [] rfl rfl ⟨⟨rfl, rfl⟩, ⟨rfl, ⟨rfl, rfl, trivial⟩, ⟨rfl, rfl, trivial⟩, trivial⟩, rfl, trivial⟩
      · replace h := iteN h g122
        conv => whnf
        obtain ⟨y123, e124, h⟩ := bind_ex h
        refine CallOk.of (impl_in_ct e124) ?_
        conv => whnf
        refine spl (fun g125 => ?_) (fun g125 => ?_)
        · replace h := iteT h g125
          conv => whnf
          obtain ⟨y126, e127, h⟩ := bind_ex h
          refine CallOk.of (impl_ordinalAt_2_ct e127) ?_
          conv => whnf
          refine spl (fun g128 => ?_) (fun g128 => ?_)
          · replace h := iteT h g128
            conv => whnf
            refine CutK.norm [0, 1, 2, 7, 8, 26, 27, 62] [0, 64] ?_
            conv => whnf
            refine CutK.norm [0, 1, 2, 7, 8, 26, 27] [0, 64] ?_
            conv => whnf
            refine splD (fun g129 => ?_) (fun g129 => ?_)
            · replace h := iteP h g129
              conv => whnf
              obtain ⟨g133, x130, x131, e132, h⟩ := row_si_ex h
              refine Req.of g133 ?_
              refine Row.of _ e132 ?_
              conv => whnf
              obtain ⟨y134, e135, h⟩ := bind_ex h
              refine CallOk.of (impl_cmp_ct e135) ?_
              conv => whnf
              refine splD (fun g136 => ?_) (fun g136 => ?_)
              · replace h := iteP h g136
                conv => whnf
                refine CutK.norm [0, 1, 2, 26, 27, 81] [0, 64] ?_
                conv => whnf
                cases h
                exact Done.of [some 0, some 64] [] rfl rfl ⟨⟨rfl, rfl⟩, ⟨rfl, ⟨rfl, rfl, trivial⟩, ⟨rfl, rfl, trivial⟩, trivial⟩, rfl, trivial⟩
              · replace h := iteN h g136
                conv => whnf
                refine CutK.norm [0, 1, 2, 26, 27, 81] [0, 64] ?_
                conv => whnf
                refine CutK.norm [0, 1, 2, 26, 27] [0, 64] ?_
                conv => whnf
                exact LoopOk.back (impl_ordinalAt_l0_ct hx rest (v76n + 1) _ hd1 h) [some 0, some 64] [] ⟨⟨rfl, rfl⟩, ⟨rfl, ⟨rfl, rfl, trivial⟩, ⟨rfl, rfl, trivial⟩, trivial⟩, ⟨rfl, rfl⟩, rfl, ⟨rfl, rfl⟩, rfl, i64eq (wrap_up hlt hx), trivial⟩
            · replace h := iteN h g129
              conv => whnf
              refine CutK.norm [0, 1, 2, 26, 27, 81] [0, 64] ?_
              conv => whnf
              refine CutK.norm [0, 1, 2, 26, 27] [0, 64] ?_
              conv => whnf
              exact LoopOk.back (impl_ordinalAt_l0_ct hx rest (v76n + 1) _ hd1 h) [some 0, some 64] [] ⟨⟨rfl, rfl⟩, ⟨rfl, ⟨rfl, rfl, trivial⟩, ⟨rfl, rfl, trivial⟩, trivial⟩, ⟨rfl, rfl⟩, rfl, ⟨rfl, rfl⟩, rfl, i64eq (wrap_up hlt hx), trivial⟩
          · replace h := iteF h g128
            conv => whnf
            refine CutK.norm [0, 1, 2, 7, 8, 26, 27, 62] [0, 64] ?_
            conv => whnf
            cases h
            exact Done.of [some 0, some 64] [] rfl rfl ⟨⟨rfl, rfl⟩, ⟨rfl, ⟨rfl, rfl, trivial⟩, ⟨rfl, rfl, trivial⟩, trivial⟩, rfl, trivial⟩
        · replace h := iteF h g125
          conv => whnf
          refine CutK.norm [0, 1, 2, 7, 8, 26, 27, 62] [0, 64] ?_
          conv => whnf
          cases h
          exact Done.of [some 0, some 64] [] rfl rfl ⟨⟨rfl, rfl⟩, ⟨rfl, ⟨rfl, rfl, trivial⟩, ⟨rfl, rfl, trivial⟩, trivial⟩, rfl, trivial⟩
def impl_ordinalAt (k : Nat) (a1 : Rw) (a2 : Int) (a3 : Int) : Option (Bool × Rw × Int) :=
  (if (60 : Int) < (IntKind.i64.wrap (a3 + 1)) then some (false, a1, IntKind.i64.wrap (a3 + 1)) else (if (6 : Int) < a2 then some (false, a1, IntKind.i64.wrap (a3 + 1)) else (if a1.length ≤ cap then (impl_ordinalAt_l0 k a1 a2 (fun (v98 : Int) => (impl_ordinalAt_p3 a1 v98)) a1 0 (IntKind.i64.wrap (a3 + 1))) else none)))
set_option maxHeartbeats 4000000 in
set_option maxRecDepth 100000 in
theorem impl_ordinalAt_ct {k : Nat} {a1 : Rw} {a2 : Int} {a3 : Int} {r : Bool × Rw × Int} (h : impl_ordinalAt k a1 a2 a3 = some r) : Ct prog 85 [.ptr 0 0, .d (D.int .i64 a2), .ptr 64 0] (⟨[(28, [.d (D.sl a1)]), (3, [.d (D.int .i64 a3)])], []⟩) (.d (D.bool r.1)) (⟨[(28, [.d (D.sl r.2.1)]), (3, [.d (D.int .i64 r.2.2)])], []⟩) := by
  rw [impl_ordinalAt] at h
  refine Ct.of (c := _) mixed func85 ⟨rfl, rfl, rfl⟩ ?_ rfl
  conv => whnf
  refine splD (fun g62 => ?_) (fun g62 => ?_)
  · replace h := iteP h g62
    conv => whnf
    cases h
    exact Done.of [some 0, some 64] [] rfl rfl ⟨⟨rfl, rfl⟩, ⟨rfl, ⟨rfl, rfl, trivial⟩, ⟨rfl, rfl, trivial⟩, trivial⟩, rfl, trivial⟩
  · replace h := iteN h g62
    conv => whnf
    refine splD (fun g63 => ?_) (fun g63 => ?_)
    · replace h := iteP h g63
      conv => whnf
      cases h
      exact Done.of [some 0, some 64] [] rfl rfl ⟨⟨rfl, rfl⟩, ⟨rfl, ⟨rfl, rfl, trivial⟩, ⟨rfl, rfl, trivial⟩, trivial⟩, rfl, trivial⟩
    · replace h := iteN h g63
      conv => whnf
      obtain ⟨g137, h⟩ := req_ex h
      refine LoopOk.into (impl_ordinalAt_l0_ct  g137 _ _ _ rfl h) [some 0, some 64] [] ⟨⟨rfl, rfl⟩, ⟨rfl, ⟨rfl, rfl, trivial⟩, ⟨rfl, rfl, trivial⟩, trivial⟩, ⟨rfl, rfl⟩, rfl, ⟨rfl, rfl⟩, rfl, rfl, trivial⟩ ?_ (fun _ hs => hs)
      rintro i ts os ⟨rfl, v98, h, rfl, rfl⟩
      conv => whnf
      exact CutK.piece (impl_ordinalAt_p3_ct  h) [some 0, some 64] [] ⟨⟨rfl, rfl⟩, ⟨rfl, ⟨rfl, rfl, trivial⟩, ⟨rfl, rfl, trivial⟩, trivial⟩, trivial⟩

def impl_IsOrdinal (k : Nat) (a1 : Rw) : Option Bool :=
  ((impl_ordinalAt k a1 0 0).bind fun y2 => (if y2.1 = true then some true else some false))
set_option maxHeartbeats 4000000 in
set_option maxRecDepth 100000 in
theorem impl_IsOrdinal_ct {k : Nat} {a1 : Rw} {r : Bool} (h : impl_IsOrdinal k a1 = some r) : Ct prog 41 [.agg [.d (D.sl a1)]] (⟨[], []⟩) (.d (D.bool r)) (⟨[], []⟩) := by
  rw [impl_IsOrdinal] at h
  refine Ct.of (c := _) mixed func41 ⟨rfl, rfl, rfl⟩ ?_ rfl
  conv => whnf
  obtain ⟨y2, e3, h⟩ := bind_ex h
  refine CallOk.of (impl_ordinalAt_ct e3) ?_
  conv => whnf
  refine spl (fun g4 => ?_) (fun g4 => ?_)
  · replace h := iteT h g4
    conv => whnf
    refine CutK.go ?_
    conv => whnf
    cases h
    exact Done.of [] [] rfl rfl ⟨⟨rfl, rfl⟩, ⟨rfl, trivial⟩, rfl, trivial⟩
  · replace h := iteF h g4
    conv => whnf
    refine CutK.go ?_
    conv => whnf
    cases h
    exact Done.of [] [] rfl rfl ⟨⟨rfl, rfl⟩, ⟨rfl, trivial⟩, rfl, trivial⟩

def impl_whole  (a1 : Int) : Option (Int × Int) :=
  some (a1, 1)
set_option maxHeartbeats 4000000 in
set_option maxRecDepth 100000 in
theorem impl_whole_ct  {a1 : Int} {r : Int × Int} (h : impl_whole a1 = some r) : Ct prog 104 [.d (D.int .i64 a1)] (⟨[], []⟩) (.agg [.d (D.int .i64 r.1), .d (D.int .i64 r.2)]) (⟨[], []⟩) := by
  rw [impl_whole] at h
  refine Ct.of (c := _) mixed func104 ⟨rfl, rfl, rfl⟩ ?_ rfl
  conv => whnf
  cases h
  exact Done.of [] [] rfl rfl ⟨⟨rfl, rfl⟩, ⟨rfl, trivial⟩, ⟨rfl, rfl, trivial⟩, trivial⟩

def impl_fromOrdinal_l0 (rec_impl_fromOrdinal : Rw → Option Rw) (a1 : Rw) (K0 : Rw → Option Rw) : Rw → Rw → Option Rw
  | [], v12 => (K0 v12)
  | cs :: rest, v12 => (cell_si cs fun x34 x35 => ((rec_impl_fromOrdinal x34).bind fun y37 => ((impl_whole x35).bind fun y39 => (if v12.length + 1 ≤ cap then (impl_fromOrdinal_l0 rec_impl_fromOrdinal a1 K0 rest (v12 ++ ([[D.sl y37, D.int .i64 y39.1, D.int .i64 y39.2]]))) else none))))
set_option maxRecDepth 100000 in
theorem impl_fromOrdinal_l0_ct {rec_impl_fromOrdinal : Rw → Option Rw} {a1 : Rw} {K0 : Rw → Option Rw} (hrec_impl_fromOrdinal : ∀ (a1 : Rw) (r : Rw), rec_impl_fromOrdinal a1 = some r → Ct prog 72 [.agg [.d (D.sl a1)]] (⟨[], []⟩) (.agg [.os 8 r.length]) (⟨[], [(109, true, r)]⟩)) {r : Rw} (hx : a1.length ≤ cap) : ∀ (rest : Rw) (v11n : Nat) (v12 : Rw), a1.drop v11n = rest → impl_fromOrdinal_l0 rec_impl_fromOrdinal a1 K0 rest v12 = some r → LoopOk prog 0 (lp f72 0) (mk 28 [(2, .ptr 128 0), (3, .ptr 192 0), (8, .d (D.sl a1)), (9, .d (D.int .i64 (a1.length : Int))), (10, .d (D.int .i64 (v11n : Int)))] [(128, .box 49 [.es]), (192, .box 49 [.os 64000 v12.length]), (64000, .arr 109 true v12)]) (LoopEnd prog f72 0 28 (.agg [.os 8 r.length]) (⟨[], [(109, true, r)]⟩) (fun i ts os => (i = 0 ∧ ∃ v23 : Rw, K0 v23 = some r ∧ ts = [(2, .ptr 128 0), (3, .ptr 192 0)] ∧ os = [(128, .box 49 [.es]), (192, .box 49 [.os 67001 v23.length]), (67001, .arr 109 true v23)])))
  | [], v11n, v12, hd, h => by
      rw [impl_fromOrdinal_l0] at h
      have hn := drop_nil hd
      refine LoopOk.step ?_
      conv => whnf
      refine splD (fun g => absurd g hn) (fun _ => ?_)
      conv => whnf
      exact ⟨_, _, [some 128, some 192, some 64000], [], ⟨rfl, _, h, rfl, rfl⟩, ⟨⟨rfl, rfl⟩, ⟨rfl, ⟨rfl, trivial, trivial⟩, ⟨rfl, ⟨rfl, rfl⟩, trivial⟩, ⟨rfl, rfl, rows_same⟩, trivial⟩, ⟨rfl, rfl⟩, ⟨rfl, rfl⟩, trivial⟩⟩
  | cs :: rest, v11n, v12, hd, h => by
      rw [impl_fromOrdinal_l0] at h
      obtain ⟨hrow, hd1, hlt⟩ := drop_cons hd
      refine LoopOk.step ?_
      conv => whnf
      refine splD (fun _ => ?_) (fun g => absurd hlt g)
      conv => whnf
      obtain ⟨x34, x35, e36, h⟩ := cell_si_ex h
      rw [e36] at hrow
      refine Req.of (Int.natCast_nonneg _) ?_
      refine Row.of _ hrow ?_
      conv => whnf
      obtain ⟨y37, e38, h⟩ := bind_ex h
      refine CallOk.of (hrec_impl_fromOrdinal _ _ e38) ?_
      conv => whnf
      obtain ⟨y39, e40, h⟩ := bind_ex h
      refine CallOk.of (impl_whole_ct e40) ?_
      conv => whnf
      refine Take.all (rfl) ?_
      conv => whnf
      refine Take.all (rfl) ?_
      conv => whnf
      refine Take.all (by first | rfl | exact List.length_append.symm | (simp; done) | omega) ?_
      conv => whnf
      obtain ⟨g41, h⟩ := req_ex h
      refine Req.of (room (b := 40) (by decide) g41 (wide1 rfl wide0)) ?_
      conv => whnf
      refine CutK.go ?_
      conv => whnf
      exact LoopOk.back (impl_fromOrdinal_l0_ct hrec_impl_fromOrdinal hx rest (v11n + 1) _ hd1 h) [some 128, some 192, some 1536] [] ⟨⟨rfl, rfl⟩, ⟨rfl, ⟨rfl, trivial, trivial⟩, ⟨rfl, ⟨(by first | rfl | exact List.length_append.symm | (simp; done) | omega), rfl⟩, trivial⟩, ⟨rfl, rfl, rows_same⟩, trivial⟩, ⟨rfl, rfl⟩, ⟨rfl, rfl⟩, rfl, rfl, i64eq (wrap_up hlt hx), trivial⟩
def impl_fromOrdinal_b (rec_impl_fromOrdinal : Rw → Option Rw) (a1 : Rw) : Option Rw :=
  (if a1.length ≤ cap then (impl_fromOrdinal_l0 rec_impl_fromOrdinal a1 (fun (v23 : Rw) => some v23) a1 ([] : Rw)) else none)
set_option maxHeartbeats 4000000 in
set_option maxRecDepth 100000 in
theorem impl_fromOrdinal_b_ct {rec_impl_fromOrdinal : Rw → Option Rw} (hrec_impl_fromOrdinal : ∀ (a1 : Rw) (r : Rw), rec_impl_fromOrdinal a1 = some r → Ct prog 72 [.agg [.d (D.sl a1)]] (⟨[], []⟩) (.agg [.os 8 r.length]) (⟨[], [(109, true, r)]⟩)) {a1 : Rw} {r : Rw} (h : impl_fromOrdinal_b rec_impl_fromOrdinal a1 = some r) : Ct prog 72 [.agg [.d (D.sl a1)]] (⟨[], []⟩) (.agg [.os 8 r.length]) (⟨[], [(109, true, r)]⟩) := by
  rw [impl_fromOrdinal_b] at h
  refine Ct.of (c := _) mixed func72 ⟨rfl, rfl, rfl⟩ ?_ rfl
  conv => whnf
  obtain ⟨g42, h⟩ := req_ex h
  refine LoopOk.into (impl_fromOrdinal_l0_ct hrec_impl_fromOrdinal g42 _ _ _ rfl h) [some 128, some 192, none] [] ⟨⟨rfl, rfl⟩, ⟨rfl, ⟨rfl, trivial, trivial⟩, ⟨rfl, ⟨rfl, rfl⟩, trivial⟩, rfl, trivial⟩, ⟨rfl, rfl⟩, ⟨rfl, rfl⟩, rfl, rfl, rfl, trivial⟩ ?_ (fun _ hs => hs)
  rintro i ts os ⟨rfl, v23, h, rfl, rfl⟩
  conv => whnf
  refine CutK.go ?_
  conv => whnf
  cases h
  exact Done.of [some 67001] [] rfl rfl ⟨⟨rfl, rfl⟩, ⟨rfl, ⟨rfl, rfl, rows_same⟩, trivial⟩, ⟨⟨rfl, rfl⟩, trivial⟩, trivial⟩
def impl_fromOrdinal : Nat → Rw → Option Rw
  | 0, _ => none
  | k + 1, a1 => impl_fromOrdinal_b (impl_fromOrdinal k) a1
theorem impl_fromOrdinal_ct' : ∀ (k : Nat) (a1 : Rw) (r : Rw), impl_fromOrdinal k a1 = some r → Ct prog 72 [.agg [.d (D.sl a1)]] (⟨[], []⟩) (.agg [.os 8 r.length]) (⟨[], [(109, true, r)]⟩)
  | 0, _, _, h => by rw [impl_fromOrdinal] at h; cases h
  | k + 1, _, _, h => by rw [impl_fromOrdinal] at h; exact impl_fromOrdinal_b_ct (impl_fromOrdinal_ct' k) h
theorem impl_fromOrdinal_ct {k : Nat} {a1 : Rw} {r : Rw} (h : impl_fromOrdinal k a1 = some r) : Ct prog 72 [.agg [.d (D.sl a1)]] (⟨[], []⟩) (.agg [.os 8 r.length]) (⟨[], [(109, true, r)]⟩) := impl_fromOrdinal_ct' k _ _ h

def impl_size  (a1 : Int) : Option Int :=
  some (if a1 < (IntKind.i64.wrap (0 - a1)) then IntKind.i64.wrap (0 - a1) else a1)
set_option maxHeartbeats 4000000 in
set_option maxRecDepth 100000 in
theorem impl_size_ct  {a1 : Int} {r : Int} (h : impl_size a1 = some r) : Ct prog 115 [.d (D.int .i64 a1)] (⟨[], []⟩) (.d (D.int .i64 r)) (⟨[], []⟩) := by
  rw [impl_size] at h
  refine Ct.of (c := _) mixed func115 ⟨rfl, rfl, rfl⟩ ?_ rfl
  conv => whnf
  cases h
  exact Done.of [] [] rfl rfl ⟨⟨rfl, rfl⟩, ⟨rfl, trivial⟩, rfl, trivial⟩

def impl_gcd_l0 (K0 : Int → Option Int) : Nat → Int → Int → Option Int
  | 0, _, _ => none
  | n + 1, v5, v6 => (if v6 = (0 : Int) then (K0 v5) else (if v6 ≠ 0 then (impl_gcd_l0 K0 n v6 (v5.tmod v6)) else none))
set_option maxRecDepth 100000 in
theorem impl_gcd_l0_ct {K0 : Int → Option Int} {r : Int} : ∀ (n : Nat) (v5 : Int) (v6 : Int), impl_gcd_l0 K0 n v5 v6 = some r → LoopOk prog 0 (lp f113 0) (mk 13 [(0, .d (D.int .i64 v5)), (1, .d (D.int .i64 v6))] []) (LoopEnd prog f113 0 13 (.d (D.int .i64 r)) (⟨[], []⟩) (fun i ts os => (i = 0 ∧ ∃ v9 : Int, K0 v9 = some r ∧ ts = [(0, .d (D.int .i64 v9))] ∧ os = [])))
  | 0, _, _, h => by
      rw [impl_gcd_l0] at h; cases h
  | n + 1, v5, v6, h => by
      rw [impl_gcd_l0] at h
      refine LoopOk.step ?_
      conv => whnf
      refine splN (fun g12 => ?_) (fun g12 => ?_)
      · replace h := iteN h g12
        conv => whnf
        obtain ⟨g13, h⟩ := req_ex h
        refine Req.of g13 ?_
        conv => whnf
        exact LoopOk.back (impl_gcd_l0_ct  n _ _ h) [] [] ⟨⟨rfl, rfl⟩, ⟨rfl, trivial⟩, rfl, rfl, trivial⟩
      · replace h := iteP h g12
        conv => whnf
        exact ⟨_, _, [], [], ⟨rfl, _, h, rfl, rfl⟩, ⟨⟨rfl, rfl⟩, ⟨rfl, trivial⟩, rfl, trivial⟩⟩
def impl_gcd (k : Nat) (a1 : Int) (a2 : Int) : Option Int :=
  (impl_gcd_l0 (fun (v9 : Int) => ((impl_size v9).bind fun y14 => some y14)) k a1 a2)
set_option maxHeartbeats 4000000 in
set_option maxRecDepth 100000 in
theorem impl_gcd_ct {k : Nat} {a1 : Int} {a2 : Int} {r : Int} (h : impl_gcd k a1 a2 = some r) : Ct prog 113 [.d (D.int .i64 a1), .d (D.int .i64 a2)] (⟨[], []⟩) (.d (D.int .i64 r)) (⟨[], []⟩) := by
  rw [impl_gcd] at h
  refine Ct.of (c := _) mixed func113 ⟨rfl, rfl, rfl⟩ ?_ rfl
  conv => whnf
  refine LoopOk.into (impl_gcd_l0_ct  _ _ _ h) [] [] ⟨⟨rfl, rfl⟩, ⟨rfl, trivial⟩, rfl, rfl, trivial⟩ ?_ (fun _ hs => hs)
  rintro i ts os ⟨rfl, v9, h, rfl, rfl⟩
  conv => whnf
  refine CutK.go ?_
  conv => whnf
  obtain ⟨y14, e15, h⟩ := bind_ex h
  refine CallOk.of (impl_size_ct e15) ?_
  conv => whnf
  refine CutK.go ?_
  conv => whnf
  cases h
  exact Done.of [] [] rfl rfl ⟨⟨rfl, rfl⟩, ⟨rfl, trivial⟩, rfl, trivial⟩

def impl_IsFraction (k : Nat) (a1 : Int) (a2 : Int) : Option Bool :=
  ((impl_in a2 1 1000000).bind fun y3 => (if y3 = true then ((impl_in a1 (-1000000) 1000000).bind fun y6 => (if y6 = true then ((impl_gcd k a1 a2).bind fun y9 => (if y9 = (1 : Int) then some true else some false)) else some false)) else some false))
set_option maxHeartbeats 4000000 in
set_option maxRecDepth 100000 in
theorem impl_IsFraction_ct {k : Nat} {a1 : Int} {a2 : Int} {r : Bool} (h : impl_IsFraction k a1 a2 = some r) : Ct prog 111 [.agg [.d (D.int .i64 a1), .d (D.int .i64 a2)]] (⟨[], []⟩) (.d (D.bool r)) (⟨[], []⟩) := by
  rw [impl_IsFraction] at h
  refine Ct.of (c := _) mixed func111 ⟨rfl, rfl, rfl⟩ ?_ rfl
  conv => whnf
  obtain ⟨y3, e4, h⟩ := bind_ex h
  refine CallOk.of (impl_in_ct e4) ?_
  conv => whnf
  refine spl (fun g5 => ?_) (fun g5 => ?_)
  · replace h := iteT h g5
    conv => whnf
    obtain ⟨y6, e7, h⟩ := bind_ex h
    refine CallOk.of (impl_in_ct e7) ?_
    conv => whnf
    refine spl (fun g8 => ?_) (fun g8 => ?_)
    · replace h := iteT h g8
      conv => whnf
      obtain ⟨y9, e10, h⟩ := bind_ex h
      refine CallOk.of (impl_gcd_ct e10) ?_
      conv => whnf
      refine splD (fun g11 => ?_) (fun g11 => ?_)
      · replace h := iteP h g11
        conv => whnf
        refine CutK.go ?_
        conv => whnf
        cases h
        exact Done.of [] [] rfl rfl ⟨⟨rfl, rfl⟩, ⟨rfl, trivial⟩, rfl, trivial⟩
      · replace h := iteN h g11
        conv => whnf
        refine CutK.go ?_
        conv => whnf
        cases h
        exact Done.of [] [] rfl rfl ⟨⟨rfl, rfl⟩, ⟨rfl, trivial⟩, rfl, trivial⟩
    · replace h := iteF h g8
      conv => whnf
      refine CutK.go ?_
      conv => whnf
      cases h
      exact Done.of [] [] rfl rfl ⟨⟨rfl, rfl⟩, ⟨rfl, trivial⟩, rfl, trivial⟩
  · replace h := iteF h g5
    conv => whnf
    refine CutK.go ?_
    conv => whnf
    cases h
    exact Done.of [] [] rfl rfl ⟨⟨rfl, rfl⟩, ⟨rfl, trivial⟩, rfl, trivial⟩

def impl_cmpFractions  (a1 : Int) (a2 : Int) (a3 : Int) (a4 : Int) : Option Int :=
  ((impl_compare (IntKind.i64.wrap (a1 * a4)) (IntKind.i64.wrap (a3 * a2))).bind fun y5 => some y5)
set_option maxHeartbeats 4000000 in
set_option maxRecDepth 100000 in
theorem impl_cmpFractions_ct  {a1 : Int} {a2 : Int} {a3 : Int} {a4 : Int} {r : Int} (h : impl_cmpFractions a1 a2 a3 a4 = some r) : Ct prog 114 [.agg [.d (D.int .i64 a1), .d (D.int .i64 a2)], .agg [.d (D.int .i64 a3), .d (D.int .i64 a4)]] (⟨[], []⟩) (.d (D.int .i64 r)) (⟨[], []⟩) := by
  rw [impl_cmpFractions] at h
  refine Ct.of (c := _) mixed func114 ⟨rfl, rfl, rfl⟩ ?_ rfl
  conv => whnf
  obtain ⟨y5, e6, h⟩ := bind_ex h
  refine CallOk.of (impl_compare_ct e6) ?_
  conv => whnf
  refine CutK.go ?_
  conv => whnf
  cases h
  exact Done.of [] [] rfl rfl ⟨⟨rfl, rfl⟩, ⟨rfl, trivial⟩, rfl, trivial⟩

def impl_order_p2  : Option Int :=
  some 0
set_option maxHeartbeats 4000000 in
set_option maxRecDepth 100000 in
theorem impl_order_p2_ct  {r : Int} (h : impl_order_p2 = some r) : X prog 0 (tlF f112 2) (mk 86 [] []) (finK prog f112 0 (.d (D.int .i64 r)) (⟨[], []⟩)) := by
  rw [impl_order_p2] at h
  conv => whnf
  cases h
  exact Done.of [] [] rfl rfl ⟨⟨rfl, rfl⟩, ⟨rfl, trivial⟩, rfl, trivial⟩
def impl_order_l0 (rec_impl_order : Rw → Rw → Option Int) (a1 : Rw) (a2 : Rw) (K0 : Option Int) : Nat → Int → Option Int
  | 0, _ => none
  | n + 1, v211 => (if v211 < (a1.length : Int) then (if v211 = (a1.length : Int) then (row_sii a2 v211 fun x359 x360 x361 => ((impl_compare x360 0).bind fun y364 => some (IntKind.i64.wrap (0 - y364)))) else (if v211 = (a2.length : Int) then (row_sii a1 v211 fun x367 x368 x369 => ((impl_compare x368 0).bind fun y372 => some y372)) else (row_sii a1 v211 fun x374 x375 x376 => (row_sii a2 v211 fun x379 x380 x381 => ((rec_impl_order x374 x379).bind fun y384 => (if y384 = (1 : Int) then ((impl_compare x375 0).bind fun y387 => some y387) else (if y384 = ((-1) : Int) then ((impl_compare x380 0).bind fun y390 => some (IntKind.i64.wrap (0 - y390))) else ((impl_cmpFractions x375 x376 x380 x381).bind fun y392 => (if y392 = (0 : Int) then (impl_order_l0 rec_impl_order a1 a2 K0 n (IntKind.i64.wrap (v211 + 1))) else some y392))))))))) else (if v211 < (a2.length : Int) then (if v211 = (a1.length : Int) then (row_sii a2 v211 fun x397 x398 x399 => ((impl_compare x398 0).bind fun y402 => some (IntKind.i64.wrap (0 - y402)))) else (if v211 = (a2.length : Int) then (row_sii a1 v211 fun x405 x406 x407 => ((impl_compare x406 0).bind fun y410 => some y410)) else (row_sii a1 v211 fun x412 x413 x414 => (row_sii a2 v211 fun x417 x418 x419 => ((rec_impl_order x412 x417).bind fun y422 => (if y422 = (1 : Int) then ((impl_compare x413 0).bind fun y425 => some y425) else (if y422 = ((-1) : Int) then ((impl_compare x418 0).bind fun y428 => some (IntKind.i64.wrap (0 - y428))) else ((impl_cmpFractions x413 x414 x418 x419).bind fun y430 => (if y430 = (0 : Int) then (impl_order_l0 rec_impl_order a1 a2 K0 n (IntKind.i64.wrap (v211 + 1))) else some y430))))))))) else (K0)))
set_option maxRecDepth 100000 in
theorem impl_order_l0_ct {rec_impl_order : Rw → Rw → Option Int} {a1 : Rw} {a2 : Rw} {K0 : Option Int} (hrec_impl_order : ∀ (a1 : Rw) (a2 : Rw) (r : Int), rec_impl_order a1 a2 = some r → Ct prog 112 [.agg [.d (D.sl a1)], .agg [.d (D.sl a2)]] (⟨[], []⟩) (.d (D.int .i64 r)) (⟨[], []⟩)) {r : Int} : ∀ (n : Nat) (v211 : Int), impl_order_l0 rec_impl_order a1 a2 K0 n v211 = some r → LoopOk prog 0 (lp f112 0) (mk 86 [(2, .ptr 128 0), (3, .ptr 192 0), (5, .d (D.int .i64 v211))] [(128, .box 49 [.d (D.sl a1)]), (192, .box 49 [.d (D.sl a2)])]) (LoopEnd prog f112 0 86 (.d (D.int .i64 r)) (⟨[], []⟩) (fun i ts os => (i = 0 ∧ K0 = some r ∧ ts = [] ∧ os = [])))
  | 0, _, h => by
      rw [impl_order_l0] at h; cases h
  | n + 1, v211, h => by
      rw [impl_order_l0] at h
      refine LoopOk.step ?_
      conv => whnf
      refine splD (fun g357 => ?_) (fun g357 => ?_)
      · replace h := iteP h g357
        conv => whnf
        refine splD (fun g358 => ?_) (fun g358 => ?_)
        · replace h := iteP h g358
          conv => whnf
          obtain ⟨g363, x359, x360, x361, e362, h⟩ := row_sii_ex h
          refine Req.of g363 ?_
          refine Row.of _ e362 ?_
          conv => whnf
          obtain ⟨y364, e365, h⟩ := bind_ex h
          refine CallOk.of (impl_compare_ct e365) ?_
          conv => whnf
          refine CutK.norm [4] [] ?_
          conv => whnf
          cases h
          exact Done.of [] [] rfl rfl ⟨⟨rfl, rfl⟩, ⟨rfl, trivial⟩, rfl, trivial⟩
        · replace h := iteN h g358
          conv => whnf
          refine CutK.norm [2, 3, 5] [128, 192] ?_
          conv => whnf
          refine splD (fun g366 => ?_) (fun g366 => ?_)
          · replace h := iteP h g366
            conv => whnf
            obtain ⟨g371, x367, x368, x369, e370, h⟩ := row_sii_ex h
            refine Req.of g371 ?_
            refine Row.of _ e370 ?_
            conv => whnf
            obtain ⟨y372, e373, h⟩ := bind_ex h
            refine CallOk.of (impl_compare_ct e373) ?_
            conv => whnf
            refine CutK.norm [4] [] ?_
            conv => whnf
            cases h
            exact Done.of [] [] rfl rfl ⟨⟨rfl, rfl⟩, ⟨rfl, trivial⟩, rfl, trivial⟩
          · replace h := iteN h g366
            conv => whnf
            refine CutK.norm [2, 3, 5] [128, 192] ?_
            conv => whnf
            obtain ⟨g378, x374, x375, x376, e377, h⟩ := row_sii_ex h
            refine Req.of g378 ?_
            refine Row.of _ e377 ?_
            conv => whnf
            obtain ⟨g383, x379, x380, x381, e382, h⟩ := row_sii_ex h
            refine Req.of g383 ?_
            refine Row.of _ e382 ?_
            conv => whnf
            obtain ⟨y384, e385, h⟩ := bind_ex h
            refine CallOk.of (hrec_impl_order _ _ _ e385) ?_
            conv => whnf
            refine CutK.norm [2, 3, 5, 6, 7, 64] [128, 192, 384, 448] ?_
            conv => whnf
            refine splD (fun g386 => ?_) (fun g386 => ?_)
            · replace h := iteP h g386
              conv => whnf
              obtain ⟨y387, e388, h⟩ := bind_ex h
              refine CallOk.of (impl_compare_ct e388) ?_
              conv => whnf
              refine CutK.norm [4] [] ?_
              conv => whnf
              cases h
              exact Done.of [] [] rfl rfl ⟨⟨rfl, rfl⟩, ⟨rfl, trivial⟩, rfl, trivial⟩
            · replace h := iteN h g386
              conv => whnf
              refine splD (fun g389 => ?_) (fun g389 => ?_)
              · replace h := iteP h g389
                conv => whnf
                obtain ⟨y390, e391, h⟩ := bind_ex h
                refine CallOk.of (impl_compare_ct e391) ?_
                conv => whnf
                refine CutK.norm [4] [] ?_
                conv => whnf
                cases h
                exact Done.of [] [] rfl rfl ⟨⟨rfl, rfl⟩, ⟨rfl, trivial⟩, rfl, trivial⟩
              · replace h := iteN h g389
                conv => whnf
                refine CutK.norm [2, 3, 5, 6, 7] [128, 192, 384, 448] ?_
                conv => whnf
                obtain ⟨y392, e393, h⟩ := bind_ex h
                refine CallOk.of (impl_cmpFractions_ct e393) ?_
                conv => whnf
                refine CutK.norm [2, 3, 5, 8] [128, 192] ?_
                conv => whnf
                refine splN (fun g394 => ?_) (fun g394 => ?_)
                · replace h := iteN h g394
                  conv => whnf
                  cases h
                  exact Done.of [] [] rfl rfl ⟨⟨rfl, rfl⟩, ⟨rfl, trivial⟩, rfl, trivial⟩
                · replace h := iteP h g394
                  conv => whnf
                  refine CutK.norm [2, 3, 5] [128, 192] ?_
                  conv => whnf
                  exact LoopOk.back (impl_order_l0_ct hrec_impl_order n _ h) [some 128, some 192] [] ⟨⟨rfl, rfl⟩, ⟨rfl, ⟨rfl, rfl, trivial⟩, ⟨rfl, rfl, trivial⟩, trivial⟩, ⟨rfl, rfl⟩, ⟨rfl, rfl⟩, rfl, trivial⟩
      · replace h := iteN h g357
        conv => whnf
        refine splD (fun g395 => ?_) (fun g395 => ?_)
        · replace h := iteP h g395
          conv => whnf
          refine splD (fun g396 => ?_) (fun g396 => ?_)
          · replace h := iteP h g396
            conv => whnf
            obtain ⟨g401, x397, x398, x399, e400, h⟩ := row_sii_ex h
            refine Req.of g401 ?_
            refine Row.of _ e400 ?_
            conv => whnf
            obtain ⟨y402, e403, h⟩ := bind_ex h
            refine CallOk.of (impl_compare_ct e403) ?_
            conv => whnf
            refine CutK.norm [4] [] ?_
            conv => whnf
            cases h
            exact Done.of [] [] rfl rfl ⟨⟨rfl, rfl⟩, ⟨rfl, trivial⟩, rfl, trivial⟩
          · replace h := iteN h g396
            conv => whnf
            refine CutK.norm [2, 3, 5] [128, 192] ?_
            conv => whnf
            refine splD (fun g404 => ?_) (fun g404 => ?_)
            · replace h := iteP h g404
              conv => whnf
              obtain ⟨g409, x405, x406, x407, e408, h⟩ := row_sii_ex h
              refine Req.of g409 ?_
              refine Row.of _ e408 ?_
              conv => whnf
              obtain ⟨y410, e411, h⟩ := bind_ex h
              refine CallOk.of (impl_compare_ct e411) ?_
              conv => whnf
              refine CutK.norm [4] [] ?_
              conv => whnf
              cases h
              exact Done.of [] [] rfl rfl ⟨⟨rfl, rfl⟩, ⟨rfl, trivial⟩, rfl, trivial⟩
            · replace h := iteN h g404
              conv => whnf
              refine CutK.norm [2, 3, 5] [128, 192] ?_
              conv => whnf
              obtain ⟨g416, x412, x413, x414, e415, h⟩ := row_sii_ex h
              refine Req.of g416 ?_
              refine Row.of _ e415 ?_
              conv => whnf
              obtain ⟨g421, x417, x418, x419, e420, h⟩ := row_sii_ex h
              refine Req.of g421 ?_
              refine Row.of _ e420 ?_
              conv => whnf
              obtain ⟨y422, e423, h⟩ := bind_ex h
              refine CallOk.of (hrec_impl_order _ _ _ e423) ?_
              conv => whnf
              refine CutK.norm [2, 3, 5, 6, 7, 64] [128, 192, 384, 448] ?_
              conv => whnf
              refine splD (fun g424 => ?_) (fun g424 => ?_)
              · replace h := iteP h g424
                conv => whnf
                obtain ⟨y425, e426, h⟩ := bind_ex h
                refine CallOk.of (impl_compare_ct e426) ?_
                conv => whnf
                refine CutK.norm [4] [] ?_
                conv => whnf
                cases h
                exact Done.of [] [] rfl rfl ⟨⟨rfl, rfl⟩, ⟨rfl, trivial⟩, rfl, trivial⟩
              · replace h := iteN h g424
                conv => whnf
                refine splD (fun g427 => ?_) (fun g427 => ?_)
                · replace h := iteP h g427
                  conv => whnf
                  obtain ⟨y428, e429, h⟩ := bind_ex h
                  refine CallOk.of (impl_compare_ct e429) ?_
                  conv => whnf
                  refine CutK.norm [4] [] ?_
                  conv => whnf
                  cases h
                  exact Done.of [] [] rfl rfl ⟨⟨rfl, rfl⟩, ⟨rfl, trivial⟩, rfl, trivial⟩
                · replace h := iteN h g427
                  conv => whnf
                  refine CutK.norm [2, 3, 5, 6, 7] [128, 192, 384, 448] ?_
                  conv => whnf
                  obtain ⟨y430, e431, h⟩ := bind_ex h
                  refine CallOk.of (impl_cmpFractions_ct e431) ?_
                  conv => whnf
                  refine CutK.norm [2, 3, 5, 8] [128, 192] ?_
                  conv => whnf
                  refine splN (fun g432 => ?_) (fun g432 => ?_)
                  · replace h := iteN h g432
                    conv => whnf
                    cases h
                    exact Done.of [] [] rfl rfl ⟨⟨rfl, rfl⟩, ⟨rfl, trivial⟩, rfl, trivial⟩
                  · replace h := iteP h g432
                    conv => whnf
                    refine CutK.norm [2, 3, 5] [128, 192] ?_
                    conv => whnf
                    exact LoopOk.back (impl_order_l0_ct hrec_impl_order n _ h) [some 128, some 192] [] ⟨⟨rfl, rfl⟩, ⟨rfl, ⟨rfl, rfl, trivial⟩, ⟨rfl, rfl, trivial⟩, trivial⟩, ⟨rfl, rfl⟩, ⟨rfl, rfl⟩, rfl, trivial⟩
        · replace h := iteN h g395
          conv => whnf
          exact ⟨_, _, [], [], ⟨rfl, h, rfl, rfl⟩, ⟨⟨rfl, rfl⟩, ⟨rfl, trivial⟩, trivial⟩⟩
def impl_order_b (k : Nat) (rec_impl_order : Rw → Rw → Option Int) (a1 : Rw) (a2 : Rw) : Option Int :=
  (impl_order_l0 rec_impl_order a1 a2 (impl_order_p2) k 0)
set_option maxHeartbeats 4000000 in
set_option maxRecDepth 100000 in
theorem impl_order_b_ct {k : Nat} {rec_impl_order : Rw → Rw → Option Int} (hrec_impl_order : ∀ (a1 : Rw) (a2 : Rw) (r : Int), rec_impl_order a1 a2 = some r → Ct prog 112 [.agg [.d (D.sl a1)], .agg [.d (D.sl a2)]] (⟨[], []⟩) (.d (D.int .i64 r)) (⟨[], []⟩)) {a1 : Rw} {a2 : Rw} {r : Int} (h : impl_order_b k rec_impl_order a1 a2 = some r) : Ct prog 112 [.agg [.d (D.sl a1)], .agg [.d (D.sl a2)]] (⟨[], []⟩) (.d (D.int .i64 r)) (⟨[], []⟩) := by
  rw [impl_order_b] at h
  refine Ct.of (c := _) mixed func112 ⟨rfl, rfl, rfl⟩ ?_ rfl
  conv => whnf
  refine LoopOk.into (impl_order_l0_ct hrec_impl_order _ _ h) [some 128, some 192] [] ⟨⟨rfl, rfl⟩, ⟨rfl, ⟨rfl, rfl, trivial⟩, ⟨rfl, rfl, trivial⟩, trivial⟩, ⟨rfl, rfl⟩, ⟨rfl, rfl⟩, rfl, trivial⟩ ?_ (fun _ hs => hs)
  rintro i ts os ⟨rfl, h, rfl, rfl⟩
  conv => whnf
  exact CutK.piece (impl_order_p2_ct  h) [] [] ⟨⟨rfl, rfl⟩, ⟨rfl, trivial⟩, trivial⟩
def impl_order : Nat → Rw → Rw → Option Int
  | 0, _, _ => none
  | k + 1, a1, a2 => impl_order_b k (impl_order k) a1 a2
theorem impl_order_ct' : ∀ (k : Nat) (a1 : Rw) (a2 : Rw) (r : Int), impl_order k a1 a2 = some r → Ct prog 112 [.agg [.d (D.sl a1)], .agg [.d (D.sl a2)]] (⟨[], []⟩) (.d (D.int .i64 r)) (⟨[], []⟩)
  | 0, _, _, _, h => by rw [impl_order] at h; cases h
  | k + 1, _, _, _, h => by rw [impl_order] at h; exact impl_order_b_ct (impl_order_ct' k) h
theorem impl_order_ct {k : Nat} {a1 : Rw} {a2 : Rw} {r : Int} (h : impl_order k a1 a2 = some r) : Ct prog 112 [.agg [.d (D.sl a1)], .agg [.d (D.sl a2)]] (⟨[], []⟩) (.d (D.int .i64 r)) (⟨[], []⟩) := impl_order_ct' k _ _ _ h

def impl_surrealAt_2_p3 (o71 : Int) : Option (Bool × Int) :=
  some (true, o71)
set_option maxHeartbeats 4000000 in
set_option maxRecDepth 100000 in
theorem impl_surrealAt_2_p3_ct {o71 : Int} {r : Bool × Int} (h : impl_surrealAt_2_p3 o71 = some r) : X prog 1 (tlF f109 3) (mk 91 [] [(0, .box 3 [.d (D.int .i64 o71)])]) (finK prog f109 1 (.d (D.bool r.1)) (⟨[(3, [.d (D.int .i64 r.2)])], []⟩)) := by
  rw [impl_surrealAt_2_p3] at h
  conv => whnf
  cases h
  exact Done.of [some 0] [] rfl rfl ⟨⟨rfl, rfl⟩, ⟨rfl, ⟨rfl, rfl, trivial⟩, trivial⟩, rfl, trivial⟩
def impl_surrealAt_2_l0 (k : Nat) (rec_impl_surrealAt_2 : Rw → Int → Int → Int → Int → Option (Bool × Int)) (a1 : Rw) (a2 : Int) (a3 : Int) (a4 : Int) (K0 : Int → Option (Bool × Int)) : Rw → Nat → Int → Option (Bool × Int)
  | [], v88n, v89 => (K0 v89)
  | cs :: rest, v88n, v89 => (cell_sii cs fun x137 x138 x139 => (if (60 : Int) < (IntKind.i64.wrap (v89 + 1)) then some (false, IntKind.i64.wrap (v89 + 1)) else ((impl_IsFraction k x138 x139).bind fun y142 => (if y142 = true then (if x138 = (0 : Int) then some (false, IntKind.i64.wrap (v89 + 1)) else ((rec_impl_surrealAt_2 x137 x138 x139 (IntKind.i64.wrap (a4 + 1)) (IntKind.i64.wrap (v89 + 1))).bind fun y146 => (if y146.1 = true then (if (0 : Int) < (v88n : Int) then (row_sii a1 (IntKind.i64.wrap ((v88n : Int) - 1)) fun x150 x151 x152 => ((impl_order k x150 x137).bind fun y155 => (if y155 ≤ (0 : Int) then some (false, y146.2) else (impl_surrealAt_2_l0 k rec_impl_surrealAt_2 a1 a2 a3 a4 K0 rest (v88n + 1) y146.2)))) else (impl_surrealAt_2_l0 k rec_impl_surrealAt_2 a1 a2 a3 a4 K0 rest (v88n + 1) y146.2)) else some (false, y146.2)))) else some (false, IntKind.i64.wrap (v89 + 1))))))
set_option maxRecDepth 100000 in
theorem impl_surrealAt_2_l0_ct {k : Nat} {rec_impl_surrealAt_2 : Rw → Int → Int → Int → Int → Option (Bool × Int)} {a1 : Rw} {a2 : Int} {a3 : Int} {a4 : Int} {K0 : Int → Option (Bool × Int)} (hrec_impl_surrealAt_2 : ∀ (a1 : Rw) (a2 : Int) (a3 : Int) (a4 : Int) (a5 : Int) (r : Bool × Int), rec_impl_surrealAt_2 a1 a2 a3 a4 a5 = some r → Ct prog 109 [.dp [D.sl a1, D.int .i64 a2, D.int .i64 a3], .d (D.int .i64 a4), .ptr 0 0] (⟨[(3, [.d (D.int .i64 a5)])], []⟩) (.d (D.bool r.1)) (⟨[(3, [.d (D.int .i64 r.2)])], []⟩)) {r : Bool × Int} (hx : a1.length ≤ cap) : ∀ (rest : Rw) (v88n : Nat) (v89 : Int), a1.drop v88n = rest → impl_surrealAt_2_l0 k rec_impl_surrealAt_2 a1 a2 a3 a4 K0 rest v88n v89 = some r → LoopOk prog 1 (lp f109 0) (mk 91 [(0, .dp [D.sl a1, D.int .i64 a2, D.int .i64 a3]), (1, .d (D.int .i64 a4)), (2, .ptr 0 0), (26, .d (D.int .i64 (a1.length : Int))), (27, .d (D.int .i64 (v88n : Int)))] [(0, .box 3 [.d (D.int .i64 v89)])]) (LoopEnd prog f109 1 91 (.d (D.bool r.1)) (⟨[(3, [.d (D.int .i64 r.2)])], []⟩) (fun i ts os => (i = 0 ∧ ∃ v113 : Int, K0 v113 = some r ∧ ts = [] ∧ os = [(0, .box 3 [.d (D.int .i64 v113)])])))
  | [], v88n, v89, hd, h => by
      rw [impl_surrealAt_2_l0] at h
      have hn := drop_nil hd
      refine LoopOk.step ?_
      conv => whnf
      refine splD (fun g => absurd g hn) (fun _ => ?_)
      conv => whnf
      exact ⟨_, _, [some 0], [], ⟨rfl, _, h, rfl, rfl⟩, ⟨⟨rfl, rfl⟩, ⟨rfl, ⟨rfl, rfl, trivial⟩, trivial⟩, trivial⟩⟩
  | cs :: rest, v88n, v89, hd, h => by
      rw [impl_surrealAt_2_l0] at h
      obtain ⟨hrow, hd1, hlt⟩ := drop_cons hd
      refine LoopOk.step ?_
      conv => whnf
      refine splD (fun _ => ?_) (fun g => absurd hlt g)
      conv => whnf
      obtain ⟨x137, x138, x139, e140, h⟩ := cell_sii_ex h
      rw [e140] at hrow
      refine Req.of (Int.natCast_nonneg _) ?_
      refine Row.of _ hrow ?_
      conv => whnf
      refine splD (fun g141 => ?_) (fun g141 => ?_)
      · replace h := iteP h g141
        conv => whnf
        refine CutK.norm [0, 1, 2, 7, 8, 26, 27, 70] [0] ?_
        conv => whnf
        cases h
        exact Done.of [some 0] [] rfl rfl ⟨⟨rfl, rfl⟩, ⟨rfl, ⟨rfl, rfl, trivial⟩, trivial⟩, rfl, trivial⟩
      · replace h := iteN h g141
        conv => whnf
        obtain ⟨y142, e143, h⟩ := bind_ex h
        refine CallOk.of (impl_IsFraction_ct e143) ?_
        conv => whnf
        refine spl (fun g144 => ?_) (fun g144 => ?_)
        · replace h := iteT h g144
          conv => whnf
          refine splD (fun g145 => ?_) (fun g145 => ?_)
          · replace h := iteP h g145
            conv => whnf
            refine CutK.norm [0, 1, 2, 7, 8, 26, 27, 70] [0] ?_
            conv => whnf
            cases h
            exact Done.of [some 0] [] rfl rfl ⟨⟨rfl, rfl⟩, ⟨rfl, ⟨rfl, rfl, trivial⟩, trivial⟩, rfl, trivial⟩
          · replace h := iteN h g145
            conv => whnf
            obtain ⟨y146, e147, h⟩ := bind_ex h
            refine CallOk.of (hrec_impl_surrealAt_2 _ _ _ _ _ _ e147) ?_
            conv => whnf
            refine spl (fun g148 => ?_) (fun g148 => ?_)
            · replace h := iteT h g148
              conv => whnf
              refine CutK.norm [0, 1, 2, 7, 8, 26, 27, 70] [0] ?_
              conv => whnf
              refine CutK.norm [0, 1, 2, 7, 8, 26, 27] [0] ?_
              conv => whnf
              refine splD (fun g149 => ?_) (fun g149 => ?_)
              · replace h := iteP h g149
                conv => whnf
                obtain ⟨g154, x150, x151, x152, e153, h⟩ := row_sii_ex h
                refine Req.of g154 ?_
                refine Row.of _ e153 ?_
                conv => whnf
                obtain ⟨y155, e156, h⟩ := bind_ex h
                refine CallOk.of (impl_order_ct e156) ?_
                conv => whnf
                refine splD (fun g157 => ?_) (fun g157 => ?_)
                · replace h := iteP h g157
                  conv => whnf
                  refine CutK.norm [0, 1, 2, 26, 27, 89] [0] ?_
                  conv => whnf
                  cases h
                  exact Done.of [some 0] [] rfl rfl ⟨⟨rfl, rfl⟩, ⟨rfl, ⟨rfl, rfl, trivial⟩, trivial⟩, rfl, trivial⟩
                · replace h := iteN h g157
                  conv => whnf
                  refine CutK.norm [0, 1, 2, 26, 27, 89] [0] ?_
                  conv => whnf
                  refine CutK.norm [0, 1, 2, 26, 27] [0] ?_
                  conv => whnf
                  exact LoopOk.back (impl_surrealAt_2_l0_ct hrec_impl_surrealAt_2 hx rest (v88n + 1) _ hd1 h) [some 0] [] ⟨⟨rfl, rfl⟩, ⟨rfl, ⟨rfl, rfl, trivial⟩, trivial⟩, rfl, rfl, ⟨rfl, rfl⟩, rfl, i64eq (wrap_up hlt hx), trivial⟩
              · replace h := iteN h g149
                conv => whnf
                refine CutK.norm [0, 1, 2, 26, 27, 89] [0] ?_
                conv => whnf
                refine CutK.norm [0, 1, 2, 26, 27] [0] ?_
                conv => whnf
                exact LoopOk.back (impl_surrealAt_2_l0_ct hrec_impl_surrealAt_2 hx rest (v88n + 1) _ hd1 h) [some 0] [] ⟨⟨rfl, rfl⟩, ⟨rfl, ⟨rfl, rfl, trivial⟩, trivial⟩, rfl, rfl, ⟨rfl, rfl⟩, rfl, i64eq (wrap_up hlt hx), trivial⟩
            · replace h := iteF h g148
              conv => whnf
              refine CutK.norm [0, 1, 2, 7, 8, 26, 27, 70] [0] ?_
              conv => whnf
              cases h
              exact Done.of [some 0] [] rfl rfl ⟨⟨rfl, rfl⟩, ⟨rfl, ⟨rfl, rfl, trivial⟩, trivial⟩, rfl, trivial⟩
        · replace h := iteF h g144
          conv => whnf
          refine CutK.norm [0, 1, 2, 7, 8, 26, 27, 70] [0] ?_
          conv => whnf
          cases h
          exact Done.of [some 0] [] rfl rfl ⟨⟨rfl, rfl⟩, ⟨rfl, ⟨rfl, rfl, trivial⟩, trivial⟩, rfl, trivial⟩
def impl_surrealAt_2_b (k : Nat) (rec_impl_surrealAt_2 : Rw → Int → Int → Int → Int → Option (Bool × Int)) (a1 : Rw) (a2 : Int) (a3 : Int) (a4 : Int) (a5 : Int) : Option (Bool × Int) :=
  (if (60 : Int) < (IntKind.i64.wrap (a5 + 1)) then some (false, IntKind.i64.wrap (a5 + 1)) else (if (6 : Int) < a4 then some (false, IntKind.i64.wrap (a5 + 1)) else (if a1.length ≤ cap then (impl_surrealAt_2_l0 k rec_impl_surrealAt_2 a1 a2 a3 a4 (fun (v113 : Int) => (impl_surrealAt_2_p3 v113)) a1 0 (IntKind.i64.wrap (a5 + 1))) else none)))
set_option maxHeartbeats 4000000 in
set_option maxRecDepth 100000 in
theorem impl_surrealAt_2_b_ct {k : Nat} {rec_impl_surrealAt_2 : Rw → Int → Int → Int → Int → Option (Bool × Int)} (hrec_impl_surrealAt_2 : ∀ (a1 : Rw) (a2 : Int) (a3 : Int) (a4 : Int) (a5 : Int) (r : Bool × Int), rec_impl_surrealAt_2 a1 a2 a3 a4 a5 = some r → Ct prog 109 [.dp [D.sl a1, D.int .i64 a2, D.int .i64 a3], .d (D.int .i64 a4), .ptr 0 0] (⟨[(3, [.d (D.int .i64 a5)])], []⟩) (.d (D.bool r.1)) (⟨[(3, [.d (D.int .i64 r.2)])], []⟩)) {a1 : Rw} {a2 : Int} {a3 : Int} {a4 : Int} {a5 : Int} {r : Bool × Int} (h : impl_surrealAt_2_b k rec_impl_surrealAt_2 a1 a2 a3 a4 a5 = some r) : Ct prog 109 [.dp [D.sl a1, D.int .i64 a2, D.int .i64 a3], .d (D.int .i64 a4), .ptr 0 0] (⟨[(3, [.d (D.int .i64 a5)])], []⟩) (.d (D.bool r.1)) (⟨[(3, [.d (D.int .i64 r.2)])], []⟩) := by
  rw [impl_surrealAt_2_b] at h
  refine Ct.of (c := _) mixed func109 ⟨rfl, rfl, rfl⟩ ?_ rfl
  conv => whnf
  refine splD (fun g72 => ?_) (fun g72 => ?_)
  · replace h := iteP h g72
    conv => whnf
    cases h
    exact Done.of [some 0] [] rfl rfl ⟨⟨rfl, rfl⟩, ⟨rfl, ⟨rfl, rfl, trivial⟩, trivial⟩, rfl, trivial⟩
  · replace h := iteN h g72
    conv => whnf
    refine splD (fun g73 => ?_) (fun g73 => ?_)
    · replace h := iteP h g73
      conv => whnf
      cases h
      exact Done.of [some 0] [] rfl rfl ⟨⟨rfl, rfl⟩, ⟨rfl, ⟨rfl, rfl, trivial⟩, trivial⟩, rfl, trivial⟩
    · replace h := iteN h g73
      conv => whnf
      obtain ⟨g158, h⟩ := req_ex h
      refine LoopOk.into (impl_surrealAt_2_l0_ct hrec_impl_surrealAt_2 g158 _ _ _ rfl h) [some 0] [] ⟨⟨rfl, rfl⟩, ⟨rfl, ⟨rfl, rfl, trivial⟩, trivial⟩, rfl, rfl, ⟨rfl, rfl⟩, rfl, rfl, trivial⟩ ?_ (fun _ hs => hs)
      rintro i ts os ⟨rfl, v113, h, rfl, rfl⟩
      conv => whnf
      exact CutK.piece (impl_surrealAt_2_p3_ct  h) [some 0] [] ⟨⟨rfl, rfl⟩, ⟨rfl, ⟨rfl, rfl, trivial⟩, trivial⟩, trivial⟩
def impl_surrealAt_2 : Nat → Rw → Int → Int → Int → Int → Option (Bool × Int)
  | 0, _, _, _, _, _ => none
  | k + 1, a1, a2, a3, a4, a5 => impl_surrealAt_2_b k (impl_surrealAt_2 k) a1 a2 a3 a4 a5
theorem impl_surrealAt_2_ct' : ∀ (k : Nat) (a1 : Rw) (a2 : Int) (a3 : Int) (a4 : Int) (a5 : Int) (r : Bool × Int), impl_surrealAt_2 k a1 a2 a3 a4 a5 = some r → Ct prog 109 [.dp [D.sl a1, D.int .i64 a2, D.int .i64 a3], .d (D.int .i64 a4), .ptr 0 0] (⟨[(3, [.d (D.int .i64 a5)])], []⟩) (.d (D.bool r.1)) (⟨[(3, [.d (D.int .i64 r.2)])], []⟩)
  | 0, _, _, _, _, _, _, h => by rw [impl_surrealAt_2] at h; cases h
  | k + 1, _, _, _, _, _, _, h => by rw [impl_surrealAt_2] at h; exact impl_surrealAt_2_b_ct (impl_surrealAt_2_ct' k) h
theorem impl_surrealAt_2_ct {k : Nat} {a1 : Rw} {a2 : Int} {a3 : Int} {a4 : Int} {a5 : Int} {r : Bool × Int} (h : impl_surrealAt_2 k a1 a2 a3 a4 a5 = some r) : Ct prog 109 [.dp [D.sl a1, D.int .i64 a2, D.int .i64 a3], .d (D.int .i64 a4), .ptr 0 0] (⟨[(3, [.d (D.int .i64 a5)])], []⟩) (.d (D.bool r.1)) (⟨[(3, [.d (D.int .i64 r.2)])], []⟩) := impl_surrealAt_2_ct' k _ _ _ _ _ _ h

def impl_surrealAt_p3 (a1 : Rw) (o69 : Int) : Option (Bool × Rw × Int) :=
  some (true, a1, o69)
set_option maxHeartbeats 4000000 in
set_option maxRecDepth 100000 in
theorem impl_surrealAt_p3_ct {a1 : Rw} {o69 : Int} {r : Bool × Rw × Int} (h : impl_surrealAt_p3 a1 o69 = some r) : X prog 2 (tlF f109 3) (mk 91 [] [(0, .box 49 [.d (D.sl a1)]), (64, .box 3 [.d (D.int .i64 o69)])]) (finK prog f109 2 (.d (D.bool r.1)) (⟨[(49, [.d (D.sl r.2.1)]), (3, [.d (D.int .i64 r.2.2)])], []⟩)) := by
  rw [impl_surrealAt_p3] at h
  conv => whnf
  cases h
  exact Done.of [some 0, some 64] [] rfl rfl ⟨⟨rfl, rfl⟩, ⟨rfl, ⟨rfl, rfl, trivial⟩, ⟨rfl, rfl, trivial⟩, trivial⟩, rfl, trivial⟩
def impl_surrealAt_l0 (k : Nat) (a1 : Rw) (a2 : Int) (K0 : Int → Option (Bool × Rw × Int)) : Rw → Nat → Int → Option (Bool × Rw × Int)
  | [], v86n, v87 => (K0 v87)
  | cs :: rest, v86n, v87 => (cell_sii cs fun x135 x136 x137 => (if (60 : Int) < (IntKind.i64.wrap (v87 + 1)) then some (false, a1, IntKind.i64.wrap (v87 + 1)) else ((impl_IsFraction k x136 x137).bind fun y140 => (if y140 = true then (if x136 = (0 : Int) then some (false, a1, IntKind.i64.wrap (v87 + 1)) else ((impl_surrealAt_2 k x135 x136 x137 (IntKind.i64.wrap (a2 + 1)) (IntKind.i64.wrap (v87 + 1))).bind fun y144 => (if y144.1 = true then (if (0 : Int) < (v86n : Int) then (row_sii a1 (IntKind.i64.wrap ((v86n : Int) - 1)) fun x148 x149 x150 => ((impl_order k x148 x135).bind fun y153 => (if y153 ≤ (0 : Int) then some (false, a1, y144.2) else (impl_surrealAt_l0 k a1 a2 K0 rest (v86n + 1) y144.2)))) else (impl_surrealAt_l0 k a1 a2 K0 rest (v86n + 1) y144.2)) else some (false, a1, y144.2)))) else some (false, a1, IntKind.i64.wrap (v87 + 1))))))
set_option maxRecDepth 100000 in
theorem impl_surrealAt_l0_ct {k : Nat} {a1 : Rw} {a2 : Int} {K0 : Int → Option (Bool × Rw × Int)} {r : Bool × Rw × Int} (hx : a1.length ≤ cap) : ∀ (rest : Rw) (v86n : Nat) (v87 : Int), a1.drop v86n = rest → impl_surrealAt_l0 k a1 a2 K0 rest v86n v87 = some r → LoopOk prog 2 (lp f109 0) (mk 91 [(0, .ptr 0 0), (1, .d (D.int .i64 a2)), (2, .ptr 64 0), (26, .d (D.int .i64 (a1.length : Int))), (27, .d (D.int .i64 (v86n : Int)))] [(0, .box 49 [.d (D.sl a1)]), (64, .box 3 [.d (D.int .i64 v87)])]) (LoopEnd prog f109 2 91 (.d (D.bool r.1)) (⟨[(49, [.d (D.sl r.2.1)]), (3, [.d (D.int .i64 r.2.2)])], []⟩) (fun i ts os => (i = 0 ∧ ∃ v111 : Int, K0 v111 = some r ∧ ts = [] ∧ os = [(0, .box 49 [.d (D.sl a1)]), (64, .box 3 [.d (D.int .i64 v111)])])))
  | [], v86n, v87, hd, h => by
      rw [impl_surrealAt_l0] at h
      have hn := drop_nil hd
      refine LoopOk.step ?_
      conv => whnf
      refine splD (fun g => absurd g hn) (fun _ => ?_)
      conv => whnf
      exact ⟨_, _, [some 0, some 64], [], ⟨rfl, _, h, rfl, rfl⟩, ⟨⟨rfl, rfl⟩, ⟨rfl, ⟨rfl, rfl, trivial⟩, ⟨rfl, rfl, trivial⟩, trivial⟩, trivial⟩⟩
  | cs :: rest, v86n, v87, hd, h => by
      rw [impl_surrealAt_l0] at h
      obtain ⟨hrow, hd1, hlt⟩ := drop_cons hd
      refine LoopOk.step ?_
      conv => whnf
      refine splD (fun _ => ?_) (fun g => absurd hlt g)
      conv => whnf
      obtain ⟨x135, x136, x137, e138, h⟩ := cell_sii_ex h
      rw [e138] at hrow
      refine Req.of (Int.natCast_nonneg _) ?_
      refine Row.of _ hrow ?_
      conv => whnf
      refine splD (fun g139 => ?_) (fun g139 => ?_)
      · replace h := iteP h g139
        conv => whnf
        refine CutK.norm [0, 1, 2, 7, 8, 26, 27, 70] [0, 64] ?_
        conv => whnf
        cases h
        exact Done.of [some 0, some 64] [] rfl rfl ⟨⟨rfl, rfl⟩, ⟨rfl, ⟨rfl, rfl, trivial⟩, ⟨rfl, rfl, trivial⟩, trivial⟩, rfl, trivial⟩
      · replace h := iteN h g139
        conv => whnf
        obtain ⟨y140, e141, h⟩ := bind_ex h
        refine CallOk.of (impl_IsFraction_ct e141) ?_
        conv => whnf
        refine spl (fun g142 => ?_) (fun g142 => ?_)
        · replace h := iteT h g142
          conv => whnf
          refine splD (fun g143 => ?_) (fun g143 => ?_)
          · replace h := iteP h g143
            conv => whnf
            refine CutK.norm [0, 1, 2, 7, 8, 26, 27, 70] [0, 64] ?_
            conv => whnf
            cases h
            exact Done.of [some 0, some 64] [] rfl rfl ⟨⟨rfl, rfl⟩, ⟨rfl, ⟨rfl, rfl, trivial⟩, ⟨rfl, rfl, trivial⟩, trivial⟩, rfl, trivial⟩
          · replace h := iteN h g143
            conv => whnf
            obtain ⟨y144, e145, h⟩ := bind_ex h
            refine CallOk.of (impl_surrealAt_2_ct e145) ?_
            conv => whnf
            refine spl (fun g146 => ?_) (fun g146 => ?_)
            · replace h := iteT h g146
              conv => whnf
              refine CutK.norm [0, 1, 2, 7, 8, 26, 27, 70] [0, 64] ?_
              conv => whnf
              refine CutK.norm [0, 1, 2, 7, 8, 26, 27] [0, 64] ?_
              conv => whnf
              refine splD (fun g147 => ?_) (fun g147 => ?_)
              · replace h := iteP h g147
                conv => whnf
                obtain ⟨g152, x148, x149, x150, e151, h⟩ := row_sii_ex h
                refine Req.of g152 ?_
                refine Row.of _ e151 ?_
                conv => whnf
                obtain ⟨y153, e154, h⟩ := bind_ex h
                refine CallOk.of (impl_order_ct e154) ?_
                conv => whnf
                refine splD (fun g155 => ?_) (fun g155 => ?_)
                · replace h := iteP h g155
                  conv => whnf
                  refine CutK.norm [0, 1, 2, 26, 27, 89] [0, 64] ?_
                  conv => whnf
                  cases h
                  exact Done.of [some 0, some 64] [] rfl rfl ⟨⟨rfl, rfl⟩, ⟨rfl, ⟨rfl, rfl, trivial⟩, ⟨rfl, rfl, trivial⟩, trivial⟩, rfl, trivial⟩
                · replace h := iteN h g155
                  conv => whnf
                  refine CutK.norm [0, 1, 2, 26, 27, 89] [0, 64] ?_
                  conv => whnf
                  refine CutK.norm [0, 1, 2, 26, 27] [0, 64] ?_
                  conv => whnf
                  exact LoopOk.back (impl_surrealAt_l0_ct hx rest (v86n + 1) _ hd1 h) [some 0, some 64] [] ⟨⟨rfl, rfl⟩, ⟨rfl, ⟨rfl, rfl, trivial⟩, ⟨rfl, rfl, trivial⟩, trivial⟩, ⟨rfl, rfl⟩, rfl, ⟨rfl, rfl⟩, rfl, i64eq (wrap_up hlt hx), trivial⟩
              · replace h := iteN h g147
                conv => whnf
                refine CutK.norm [0, 1, 2, 26, 27, 89] [0, 64] ?_
                conv => whnf
                refine CutK.norm [0, 1, 2, 26, 27] [0, 64] ?_
                conv => whnf
                exact LoopOk.back (impl_surrealAt_l0_ct hx rest (v86n + 1) _ hd1 h) [some 0, some 64] [] ⟨⟨rfl, rfl⟩, ⟨rfl, ⟨rfl, rfl, trivial⟩, ⟨rfl, rfl, trivial⟩, trivial⟩, ⟨rfl, rfl⟩, rfl, ⟨rfl, rfl⟩, rfl, i64eq (wrap_up hlt hx), trivial⟩
            · replace h := iteF h g146
              conv => whnf
              refine CutK.norm [0, 1, 2, 7, 8, 26, 27, 70] [0, 64] ?_
              conv => whnf
              cases h
              exact Done.of [some 0, some 64] [] rfl rfl ⟨⟨rfl, rfl⟩, ⟨rfl, ⟨rfl, rfl, trivial⟩, ⟨rfl, rfl, trivial⟩, trivial⟩, rfl, trivial⟩
        · replace h := iteF h g142
          conv => whnf
          refine CutK.norm [0, 1, 2, 7, 8, 26, 27, 70] [0, 64] ?_
          conv => whnf
          cases h
          exact Done.of [some 0, some 64] [] rfl rfl ⟨⟨rfl, rfl⟩, ⟨rfl, ⟨rfl, rfl, trivial⟩, ⟨rfl, rfl, trivial⟩, trivial⟩, rfl, trivial⟩
def impl_surrealAt (k : Nat) (a1 : Rw) (a2 : Int) (a3 : Int) : Option (Bool × Rw × Int) :=
  (if (60 : Int) < (IntKind.i64.wrap (a3 + 1)) then some (false, a1, IntKind.i64.wrap (a3 + 1)) else (if (6 : Int) < a2 then some (false, a1, IntKind.i64.wrap (a3 + 1)) else (if a1.length ≤ cap then (impl_surrealAt_l0 k a1 a2 (fun (v111 : Int) => (impl_surrealAt_p3 a1 v111)) a1 0 (IntKind.i64.wrap (a3 + 1))) else none)))
set_option maxHeartbeats 4000000 in
set_option maxRecDepth 100000 in
theorem impl_surrealAt_ct {k : Nat} {a1 : Rw} {a2 : Int} {a3 : Int} {r : Bool × Rw × Int} (h : impl_surrealAt k a1 a2 a3 = some r) : Ct prog 109 [.ptr 0 0, .d (D.int .i64 a2), .ptr 64 0] (⟨[(49, [.d (D.sl a1)]), (3, [.d (D.int .i64 a3)])], []⟩) (.d (D.bool r.1)) (⟨[(49, [.d (D.sl r.2.1)]), (3, [.d (D.int .i64 r.2.2)])], []⟩) := by
  rw [impl_surrealAt] at h
  refine Ct.of (c := _) mixed func109 ⟨rfl, rfl, rfl⟩ ?_ rfl
  conv => whnf
  refine splD (fun g70 => ?_) (fun g70 => ?_)
  · replace h := iteP h g70
    conv => whnf
    cases h
    exact Done.of [some 0, some 64] [] rfl rfl ⟨⟨rfl, rfl⟩, ⟨rfl, ⟨rfl, rfl, trivial⟩, ⟨rfl, rfl, trivial⟩, trivial⟩, rfl, trivial⟩
  · replace h := iteN h g70
    conv => whnf
    refine splD (fun g71 => ?_) (fun g71 => ?_)
    · replace h := iteP h g71
      conv => whnf
      cases h
      exact Done.of [some 0, some 64] [] rfl rfl ⟨⟨rfl, rfl⟩, ⟨rfl, ⟨rfl, rfl, trivial⟩, ⟨rfl, rfl, trivial⟩, trivial⟩, rfl, trivial⟩
    · replace h := iteN h g71
      conv => whnf
      obtain ⟨g156, h⟩ := req_ex h
      refine LoopOk.into (impl_surrealAt_l0_ct  g156 _ _ _ rfl h) [some 0, some 64] [] ⟨⟨rfl, rfl⟩, ⟨rfl, ⟨rfl, rfl, trivial⟩, ⟨rfl, rfl, trivial⟩, trivial⟩, ⟨rfl, rfl⟩, rfl, ⟨rfl, rfl⟩, rfl, rfl, trivial⟩ ?_ (fun _ hs => hs)
      rintro i ts os ⟨rfl, v111, h, rfl, rfl⟩
      conv => whnf
      exact CutK.piece (impl_surrealAt_p3_ct  h) [some 0, some 64] [] ⟨⟨rfl, rfl⟩, ⟨rfl, ⟨rfl, rfl, trivial⟩, ⟨rfl, rfl, trivial⟩, trivial⟩, trivial⟩

def impl_IsSurreal (k : Nat) (a1 : Rw) : Option Bool :=
  ((impl_surrealAt k a1 0 0).bind fun y2 => (if y2.1 = true then some true else some false))
set_option maxHeartbeats 4000000 in
set_option maxRecDepth 100000 in
theorem impl_IsSurreal_ct {k : Nat} {a1 : Rw} {r : Bool} (h : impl_IsSurreal k a1 = some r) : Ct prog 102 [.agg [.d (D.sl a1)]] (⟨[], []⟩) (.d (D.bool r)) (⟨[], []⟩) := by
  rw [impl_IsSurreal] at h
  refine Ct.of (c := _) mixed func102 ⟨rfl, rfl, rfl⟩ ?_ rfl
  conv => whnf
  obtain ⟨y2, e3, h⟩ := bind_ex h
  refine CallOk.of (impl_surrealAt_ct e3) ?_
  conv => whnf
  refine spl (fun g4 => ?_) (fun g4 => ?_)
  · replace h := iteT h g4
    conv => whnf
    refine CutK.go ?_
    conv => whnf
    cases h
    exact Done.of [] [] rfl rfl ⟨⟨rfl, rfl⟩, ⟨rfl, trivial⟩, rfl, trivial⟩
  · replace h := iteF h g4
    conv => whnf
    refine CutK.go ?_
    conv => whnf
    cases h
    exact Done.of [] [] rfl rfl ⟨⟨rfl, rfl⟩, ⟨rfl, trivial⟩, rfl, trivial⟩

def impl_cloneSurreal_l0 (rec_impl_cloneSurreal : Rw → Option Rw) (a1 : Rw) (K0 : Rw → Option Rw) : Rw → Rw → Option Rw
  | [], v11 => (K0 v11)
  | cs :: rest, v11 => (cell_sii cs fun x31 x32 x33 => ((rec_impl_cloneSurreal x31).bind fun y35 => (if v11.length + 1 ≤ cap then (impl_cloneSurreal_l0 rec_impl_cloneSurreal a1 K0 rest (v11 ++ ([[D.sl y35, D.int .i64 x32, D.int .i64 x33]]))) else none)))
set_option maxRecDepth 100000 in
theorem impl_cloneSurreal_l0_ct {rec_impl_cloneSurreal : Rw → Option Rw} {a1 : Rw} {K0 : Rw → Option Rw} (hrec_impl_cloneSurreal : ∀ (a1 : Rw) (r : Rw), rec_impl_cloneSurreal a1 = some r → Ct prog 103 [.agg [.d (D.sl a1)]] (⟨[], []⟩) (.agg [.os 8 r.length]) (⟨[], [(109, true, r)]⟩)) {r : Rw} (hx : a1.length ≤ cap) : ∀ (rest : Rw) (v10n : Nat) (v11 : Rw), a1.drop v10n = rest → impl_cloneSurreal_l0 rec_impl_cloneSurreal a1 K0 rest v11 = some r → LoopOk prog 0 (lp f103 0) (mk 27 [(2, .ptr 128 0), (3, .ptr 192 0), (8, .d (D.sl a1)), (9, .d (D.int .i64 (a1.length : Int))), (10, .d (D.int .i64 (v10n : Int)))] [(128, .box 49 [.es]), (192, .box 49 [.os 64000 v11.length]), (64000, .arr 109 true v11)]) (LoopEnd prog f103 0 27 (.agg [.os 8 r.length]) (⟨[], [(109, true, r)]⟩) (fun i ts os => (i = 0 ∧ ∃ v21 : Rw, K0 v21 = some r ∧ ts = [(2, .ptr 128 0), (3, .ptr 192 0)] ∧ os = [(128, .box 49 [.es]), (192, .box 49 [.os 67001 v21.length]), (67001, .arr 109 true v21)])))
  | [], v10n, v11, hd, h => by
      rw [impl_cloneSurreal_l0] at h
      have hn := drop_nil hd
      refine LoopOk.step ?_
      conv => whnf
      refine splD (fun g => absurd g hn) (fun _ => ?_)
      conv => whnf
      exact ⟨_, _, [some 128, some 192, some 64000], [], ⟨rfl, _, h, rfl, rfl⟩, ⟨⟨rfl, rfl⟩, ⟨rfl, ⟨rfl, trivial, trivial⟩, ⟨rfl, ⟨rfl, rfl⟩, trivial⟩, ⟨rfl, rfl, rows_same⟩, trivial⟩, ⟨rfl, rfl⟩, ⟨rfl, rfl⟩, trivial⟩⟩
  | cs :: rest, v10n, v11, hd, h => by
      rw [impl_cloneSurreal_l0] at h
      obtain ⟨hrow, hd1, hlt⟩ := drop_cons hd
      refine LoopOk.step ?_
      conv => whnf
      refine splD (fun _ => ?_) (fun g => absurd hlt g)
      conv => whnf
      obtain ⟨x31, x32, x33, e34, h⟩ := cell_sii_ex h
      rw [e34] at hrow
      refine Req.of (Int.natCast_nonneg _) ?_
      refine Row.of _ hrow ?_
      conv => whnf
      obtain ⟨y35, e36, h⟩ := bind_ex h
      refine CallOk.of (hrec_impl_cloneSurreal _ _ e36) ?_
      conv => whnf
      refine Take.all (rfl) ?_
      conv => whnf
      refine Take.all (rfl) ?_
      conv => whnf
      refine Take.all (by first | rfl | exact List.length_append.symm | (simp; done) | omega) ?_
      conv => whnf
      obtain ⟨g37, h⟩ := req_ex h
      refine Req.of (room (b := 40) (by decide) g37 (wide1 rfl wide0)) ?_
      conv => whnf
      refine CutK.go ?_
      conv => whnf
      exact LoopOk.back (impl_cloneSurreal_l0_ct hrec_impl_cloneSurreal hx rest (v10n + 1) _ hd1 h) [some 128, some 192, some 1472] [] ⟨⟨rfl, rfl⟩, ⟨rfl, ⟨rfl, trivial, trivial⟩, ⟨rfl, ⟨(by first | rfl | exact List.length_append.symm | (simp; done) | omega), rfl⟩, trivial⟩, ⟨rfl, rfl, rows_same⟩, trivial⟩, ⟨rfl, rfl⟩, ⟨rfl, rfl⟩, rfl, rfl, i64eq (wrap_up hlt hx), trivial⟩
def impl_cloneSurreal_b (rec_impl_cloneSurreal : Rw → Option Rw) (a1 : Rw) : Option Rw :=
  (if a1.length ≤ cap then (impl_cloneSurreal_l0 rec_impl_cloneSurreal a1 (fun (v21 : Rw) => some v21) a1 ([] : Rw)) else none)
set_option maxHeartbeats 4000000 in
set_option maxRecDepth 100000 in
theorem impl_cloneSurreal_b_ct {rec_impl_cloneSurreal : Rw → Option Rw} (hrec_impl_cloneSurreal : ∀ (a1 : Rw) (r : Rw), rec_impl_cloneSurreal a1 = some r → Ct prog 103 [.agg [.d (D.sl a1)]] (⟨[], []⟩) (.agg [.os 8 r.length]) (⟨[], [(109, true, r)]⟩)) {a1 : Rw} {r : Rw} (h : impl_cloneSurreal_b rec_impl_cloneSurreal a1 = some r) : Ct prog 103 [.agg [.d (D.sl a1)]] (⟨[], []⟩) (.agg [.os 8 r.length]) (⟨[], [(109, true, r)]⟩) := by
  rw [impl_cloneSurreal_b] at h
  refine Ct.of (c := _) mixed func103 ⟨rfl, rfl, rfl⟩ ?_ rfl
  conv => whnf
  obtain ⟨g38, h⟩ := req_ex h
  refine LoopOk.into (impl_cloneSurreal_l0_ct hrec_impl_cloneSurreal g38 _ _ _ rfl h) [some 128, some 192, none] [] ⟨⟨rfl, rfl⟩, ⟨rfl, ⟨rfl, trivial, trivial⟩, ⟨rfl, ⟨rfl, rfl⟩, trivial⟩, rfl, trivial⟩, ⟨rfl, rfl⟩, ⟨rfl, rfl⟩, rfl, rfl, rfl, trivial⟩ ?_ (fun _ hs => hs)
  rintro i ts os ⟨rfl, v21, h, rfl, rfl⟩
  conv => whnf
  refine CutK.go ?_
  conv => whnf
  cases h
  exact Done.of [some 67001] [] rfl rfl ⟨⟨rfl, rfl⟩, ⟨rfl, ⟨rfl, rfl, rows_same⟩, trivial⟩, ⟨⟨rfl, rfl⟩, trivial⟩, trivial⟩
def impl_cloneSurreal : Nat → Rw → Option Rw
  | 0, _ => none
  | k + 1, a1 => impl_cloneSurreal_b (impl_cloneSurreal k) a1
theorem impl_cloneSurreal_ct' : ∀ (k : Nat) (a1 : Rw) (r : Rw), impl_cloneSurreal k a1 = some r → Ct prog 103 [.agg [.d (D.sl a1)]] (⟨[], []⟩) (.agg [.os 8 r.length]) (⟨[], [(109, true, r)]⟩)
  | 0, _, _, h => by rw [impl_cloneSurreal] at h; cases h
  | k + 1, _, _, h => by rw [impl_cloneSurreal] at h; exact impl_cloneSurreal_b_ct (impl_cloneSurreal_ct' k) h
theorem impl_cloneSurreal_ct {k : Nat} {a1 : Rw} {r : Rw} (h : impl_cloneSurreal k a1 = some r) : Ct prog 103 [.agg [.d (D.sl a1)]] (⟨[], []⟩) (.agg [.os 8 r.length]) (⟨[], [(109, true, r)]⟩) := impl_cloneSurreal_ct' k _ _ h

def impl_toldSurreal (k : Nat) (a1 : Rw) (a2 : Bool) : Option (Rw × Bool) :=
  (cond a2 ((impl_IsSurreal k a1).bind fun y3 => (if y3 = true then ((impl_cloneSurreal k a1).bind fun y6 => some (y6, true)) else some (([] : Rw), false))) (some (([] : Rw), false)))
set_option maxHeartbeats 4000000 in
set_option maxRecDepth 100000 in
theorem impl_toldSurreal_ct {k : Nat} {a1 : Rw} {a2 : Bool} {r : Rw × Bool} (h : impl_toldSurreal k a1 a2 = some r) : Ct prog 71 [.agg [.d (D.sl a1)], .d (D.bool a2)] (⟨[], []⟩) (.tup [.agg [.os 8 r.1.length], .d (D.bool r.2)]) (⟨[], [(109, true, r.1)]⟩) := by
  rw [impl_toldSurreal] at h
  refine Ct.of (c := _) mixed func71 ⟨rfl, rfl, rfl⟩ ?_ rfl
  cases a2
  · replace h := condF h
    conv => whnf
    refine CutK.go ?_
    conv => whnf
    cases h
    exact Done.of [none] [] rfl rfl ⟨⟨rfl, rfl⟩, ⟨rfl, rfl, trivial⟩, ⟨⟨⟨rfl, rfl⟩, trivial⟩, rfl, trivial⟩, trivial⟩
  · replace h := condT h
    conv => whnf
    obtain ⟨y3, e4, h⟩ := bind_ex h
    refine CallOk.of (impl_IsSurreal_ct e4) ?_
    conv => whnf
    refine spl (fun g5 => ?_) (fun g5 => ?_)
    · replace h := iteT h g5
      conv => whnf
      refine CutK.go ?_
      conv => whnf
      refine CutK.go ?_
      conv => whnf
      obtain ⟨y6, e7, h⟩ := bind_ex h
      refine CallOk.of (impl_cloneSurreal_ct e7) ?_
      conv => whnf
      refine CutK.go ?_
      conv => whnf
      cases h
      exact Done.of [some 960] [] rfl rfl ⟨⟨rfl, rfl⟩, ⟨rfl, ⟨rfl, rfl, rows_same⟩, trivial⟩, ⟨⟨⟨rfl, rfl⟩, trivial⟩, rfl, trivial⟩, trivial⟩
    · replace h := iteF h g5
      conv => whnf
      refine CutK.go ?_
      conv => whnf
      cases h
      exact Done.of [none] [] rfl rfl ⟨⟨rfl, rfl⟩, ⟨rfl, rfl, trivial⟩, ⟨⟨⟨rfl, rfl⟩, trivial⟩, rfl, trivial⟩, trivial⟩

def impl_FromOrdinal (k : Nat) (a1 : Rw) : Option (Rw × Bool) :=
  ((impl_IsOrdinal k a1).bind fun y2 => (if y2 = true then ((impl_fromOrdinal k a1).bind fun y5 => ((impl_toldSurreal k y5 true).bind fun y7 => (if y7.2 = true then some (y7.1, true) else some (y7.1, false)))) else some (([] : Rw), false)))
set_option maxHeartbeats 4000000 in
set_option maxRecDepth 100000 in
theorem impl_FromOrdinal_ct {k : Nat} {a1 : Rw} {r : Rw × Bool} (h : impl_FromOrdinal k a1 = some r) : Ct prog 30 [.agg [.d (D.sl a1)]] (⟨[], []⟩) (.tup [.agg [.os 8 r.1.length], .d (D.bool r.2)]) (⟨[], [(109, true, r.1)]⟩) := by
  rw [impl_FromOrdinal] at h
  refine Ct.of (c := _) mixed func30 ⟨rfl, rfl, rfl⟩ ?_ rfl
  conv => whnf
  obtain ⟨y2, e3, h⟩ := bind_ex h
  refine CallOk.of (impl_IsOrdinal_ct e3) ?_
  conv => whnf
  refine spl (fun g4 => ?_) (fun g4 => ?_)
  · replace h := iteT h g4
    conv => whnf
    refine CutK.go ?_
    conv => whnf
    refine CutK.go ?_
    conv => whnf
    obtain ⟨y5, e6, h⟩ := bind_ex h
    refine CallOk.of (impl_fromOrdinal_ct e6) ?_
    conv => whnf
    refine Take.all (rfl) ?_
    conv => whnf
    obtain ⟨y7, e8, h⟩ := bind_ex h
    refine CallOk.of (impl_toldSurreal_ct e8) ?_
    conv => whnf
    refine spl (fun g9 => ?_) (fun g9 => ?_)
    · replace h := iteT h g9
      conv => whnf
      refine CutK.go ?_
      conv => whnf
      cases h
      exact Done.of [some 640] [] rfl rfl ⟨⟨rfl, rfl⟩, ⟨rfl, ⟨rfl, rfl, rows_same⟩, trivial⟩, ⟨⟨⟨rfl, rfl⟩, trivial⟩, rfl, trivial⟩, trivial⟩
    · replace h := iteF h g9
      conv => whnf
      refine CutK.go ?_
      conv => whnf
      cases h
      exact Done.of [some 640] [] rfl rfl ⟨⟨rfl, rfl⟩, ⟨rfl, ⟨rfl, rfl, rows_same⟩, trivial⟩, ⟨⟨⟨rfl, rfl⟩, trivial⟩, rfl, trivial⟩, trivial⟩
  · replace h := iteF h g4
    conv => whnf
    refine CutK.go ?_
    conv => whnf
    cases h
    exact Done.of [none] [] rfl rfl ⟨⟨rfl, rfl⟩, ⟨rfl, rfl, trivial⟩, ⟨⟨⟨rfl, rfl⟩, trivial⟩, rfl, trivial⟩, trivial⟩

def laws_markSurrealTermS_2_l0 (a1 : Int) (K0 : Option Int) : Nat → Option Int
  | 0 => none
  | n + 1 => (K0)
set_option maxRecDepth 100000 in
theorem laws_markSurrealTermS_2_l0_ct {a1 : Int} {K0 : Option Int} {r : Int} : ∀ (n : Nat), laws_markSurrealTermS_2_l0 a1 K0 n = some r → LoopOk prog 0 (lp f74 0) (mk 37 [(0, .d (.sl [])), (1, .d (D.int .i64 a1)), (5, .d (D.int .i64 0))] []) (LoopEnd prog f74 0 37 (.d (D.int .i64 r)) (⟨[], []⟩) (fun i ts os => (i = 0 ∧ K0 = some r ∧ ts = [(1, .d (D.int .i64 a1))] ∧ os = [])))
  | 0, h => by
      rw [laws_markSurrealTermS_2_l0] at h; cases h
  | n + 1, h => by
      rw [laws_markSurrealTermS_2_l0] at h
      refine LoopOk.step ?_
      conv => whnf
      refine splD (fun g => absurd g (by decide)) (fun _ => ?_)
      conv => whnf
      exact ⟨_, _, [], [], ⟨rfl, h, rfl, rfl⟩, ⟨⟨rfl, rfl⟩, ⟨rfl, trivial⟩, rfl, trivial⟩⟩
def laws_markSurrealTermS_2 (k : Nat) (a1 : Int) : Option Int :=
  (laws_markSurrealTermS_2_l0 a1 (some a1) k)
set_option maxHeartbeats 4000000 in
set_option maxRecDepth 100000 in
theorem laws_markSurrealTermS_2_ct {k : Nat} {a1 : Int} {r : Int} (h : laws_markSurrealTermS_2 k a1 = some r) : Ct prog 74 [.d (.sl []), .d (D.int .i64 a1)] (⟨[], []⟩) (.d (D.int .i64 r)) (⟨[], []⟩) := by
  rw [laws_markSurrealTermS_2] at h
  refine Ct.of (c := _) mixed func74 ⟨rfl, rfl, rfl⟩ ?_ rfl
  conv => whnf
  refine LoopOk.into (laws_markSurrealTermS_2_l0_ct  _  h) [] [] ⟨⟨rfl, rfl⟩, ⟨rfl, trivial⟩, rfl, rfl, rfl, trivial⟩ ?_ (fun _ hs => hs)
  rintro i ts os ⟨rfl, h, rfl, rfl⟩
  conv => whnf
  refine CutK.norm [1] [] ?_
  conv => whnf
  cases h
  exact Done.of [] [] rfl rfl ⟨⟨rfl, rfl⟩, ⟨rfl, trivial⟩, rfl, trivial⟩

def laws_markSurreal_2 (k : Nat) (a1 : Int) : Option Int :=
  ((laws_markSurrealTermS_2 k a1).bind fun y2 => some y2)
set_option maxHeartbeats 4000000 in
set_option maxRecDepth 100000 in
theorem laws_markSurreal_2_ct {k : Nat} {a1 : Int} {r : Int} (h : laws_markSurreal_2 k a1 = some r) : Ct prog 32 [.agg [.d (.sl [])], .d (D.int .i64 a1)] (⟨[], []⟩) (.d (D.int .i64 r)) (⟨[], []⟩) := by
  rw [laws_markSurreal_2] at h
  refine Ct.of (c := _) mixed func32 ⟨rfl, rfl, rfl⟩ ?_ rfl
  conv => whnf
  obtain ⟨y2, e3, h⟩ := bind_ex h
  refine CallOk.of (laws_markSurrealTermS_2_ct e3) ?_
  conv => whnf
  refine CutK.go ?_
  conv => whnf
  cases h
  exact Done.of [] [] rfl rfl ⟨⟨rfl, rfl⟩, ⟨rfl, trivial⟩, rfl, trivial⟩

def laws_markSurrealTermS_l0 (rec_laws_markSurrealTermS : Rw → Int → Option (Int × Rw)) (K0 : Int → Rw → Option (Int × Rw)) : Nat → Rw → Int → Int → Option (Int × Rw)
  | 0, _, _, _ => none
  | n + 1, v22, v23, v24 => (if v24 < (v22.length : Int) then (if 0 ≤ v24 ∧ v24 < (v22.length : Int) then (row_sii v22 v24 fun x67 x68 x69 => ((rec_laws_markSurrealTermS x67 v23).bind fun y72 => (row_sii (v22.set ((v24 : Int).toNat) [D.sl y72.2, D.int .i64 x68, D.int .i64 x69]) v24 fun x74 x75 x76 => (row_sii ((v22.set ((v24 : Int).toNat) [D.sl y72.2, D.int .i64 x68, D.int .i64 x69]).set ((v24 : Int).toNat) [D.sl x74, D.int .i64 y72.1, D.int .i64 x76]) v24 fun x79 x80 x81 => (laws_markSurrealTermS_l0 rec_laws_markSurrealTermS K0 n (((v22.set ((v24 : Int).toNat) [D.sl y72.2, D.int .i64 x68, D.int .i64 x69]).set ((v24 : Int).toNat) [D.sl x74, D.int .i64 y72.1, D.int .i64 x76]).set ((v24 : Int).toNat) [D.sl x79, D.int .i64 x80, D.int .i64 (IntKind.i64.wrap (y72.1 + 1))]) (IntKind.i64.wrap ((IntKind.i64.wrap (y72.1 + 1)) + 1)) (IntKind.i64.wrap (v24 + 1))))))) else none) else (K0 v23 v22))
set_option maxRecDepth 100000 in
theorem laws_markSurrealTermS_l0_ct {rec_laws_markSurrealTermS : Rw → Int → Option (Int × Rw)} {K0 : Int → Rw → Option (Int × Rw)} {T : TypeId} (hrec_laws_markSurrealTermS : ∀ (a1 : Rw) (a2 : Int) (r : Int × Rw), rec_laws_markSurrealTermS a1 a2 = some r → CtM prog 74 false [.int .i64 a2] a1 (.int .i64 r.1) r.2) {r : Int × Rw} : ∀ (n : Nat) (v22 : Rw) (v23 : Int) (v24 : Int), laws_markSurrealTermS_l0 rec_laws_markSurrealTermS K0 n v22 v23 v24 = some r → LoopOk prog 1 (lp f74 0) (mk 37 [(0, .os 0 v22.length), (1, .d (D.int .i64 v23)), (5, .d (D.int .i64 v24))] [(0, .arr T true v22)]) (LoopEndM 1 37 (fun i ts os => (i = 0 ∧ ∃ v44 : Int, ∃ v45 : Rw, K0 v44 v45 = some r ∧ ts = [(1, .d (D.int .i64 v44))] ∧ os = [(0, .arr T true v45)])))
  | 0, _, _, _, h => by
      rw [laws_markSurrealTermS_l0] at h; cases h
  | n + 1, v22, v23, v24, h => by
      rw [laws_markSurrealTermS_l0] at h
      refine LoopOk.step ?_
      conv => whnf
      refine splD (fun g65 => ?_) (fun g65 => ?_)
      · replace h := iteP h g65
        conv => whnf
        obtain ⟨g66, h⟩ := req_ex h
        refine Req.of g66 ?_
        conv => whnf
        obtain ⟨g71, x67, x68, x69, e70, h⟩ := row_sii_ex h
        refine Row.of _ e70 ?_
        conv => whnf
        obtain ⟨y72, e73, h⟩ := bind_ex h
        refine MarkOk.of (hrec_laws_markSurrealTermS _ _ _ e73) ?_
        conv => whnf
        refine CutK.norm [0, 1, 5] [0] ?_
        conv => whnf
        refine Req.of g66 ?_
        conv => whnf
        obtain ⟨g78, x74, x75, x76, e77, h⟩ := row_sii_ex h
        refine Row.of _ e77 ?_
        conv => whnf
        refine Req.of g66 ?_
        conv => whnf
        obtain ⟨g83, x79, x80, x81, e82, h⟩ := row_sii_ex h
        refine Row.of _ e82 ?_
        conv => whnf
        refine CutK.norm [0, 1, 5] [0] ?_
        conv => whnf
        exact LoopOk.back (laws_markSurrealTermS_l0_ct hrec_laws_markSurrealTermS n _ _ _ h) [some 0] [] ⟨⟨rfl, rfl⟩, ⟨rfl, ⟨rfl, rfl, rows_same⟩, trivial⟩, ⟨(by first | rfl | exact List.length_append.symm | (simp; done) | omega), rfl⟩, rfl, rfl, trivial⟩
      · replace h := iteN h g65
        conv => whnf
        exact ⟨_, _, [some 0], [], ⟨rfl, _, _, h, rfl, rfl⟩, ⟨⟨rfl, rfl⟩, ⟨rfl, ⟨rfl, rfl, rows_same⟩, trivial⟩, rfl, trivial⟩⟩
def laws_markSurrealTermS_b (k : Nat) (rec_laws_markSurrealTermS : Rw → Int → Option (Int × Rw)) (a1 : Rw) (a2 : Int) : Option (Int × Rw) :=
  (if a1.isEmpty = true then ((laws_markSurrealTermS_2 k a2).bind fun y => some (y, ([] : Rw))) else (laws_markSurrealTermS_l0 rec_laws_markSurrealTermS (fun (v44 : Int) (v45 : Rw) => (if v45.length = a1.length then some (v44, v45) else none)) k a1 a2 0))
set_option maxHeartbeats 4000000 in
set_option maxRecDepth 100000 in
theorem laws_markSurrealTermS_b_ct {k : Nat} {rec_laws_markSurrealTermS : Rw → Int → Option (Int × Rw)} (hrec_laws_markSurrealTermS : ∀ (a1 : Rw) (a2 : Int) (r : Int × Rw), rec_laws_markSurrealTermS a1 a2 = some r → CtM prog 74 false [.int .i64 a2] a1 (.int .i64 r.1) r.2) {a1 : Rw} {a2 : Int} {r : Int × Rw} (h : laws_markSurrealTermS_b k rec_laws_markSurrealTermS a1 a2 = some r) : CtM prog 74 false [.int .i64 a2] a1 (.int .i64 r.1) r.2 := by
  rw [laws_markSurrealTermS_b] at h
  refine CtM.of (c := _) mixed func74 ⟨rfl, rfl, rfl⟩ rfl (fun hne T => ?_) (fun h0 => ?_)
  · replace h := iteF h (by cases a1 with | nil => exact absurd rfl hne | cons _ _ => rfl)
    conv => whnf
    refine LoopOk.intoM (laws_markSurrealTermS_l0_ct hrec_laws_markSurrealTermS _ _ _ _ h) [some 0] [] ⟨⟨rfl, rfl⟩, ⟨rfl, ⟨rfl, rfl, rows_same⟩, trivial⟩, ⟨rfl, rfl⟩, rfl, rfl, trivial⟩ ?_
    rintro i ts os ⟨rfl, v44, v45, h, rfl, rfl⟩
    conv => whnf
    refine CutK.norm [1] [0] ?_
    conv => whnf
    obtain ⟨g84, h⟩ := req_ex h
    cases h
    exact DoneM.of [some 0] [] rfl g84 ⟨⟨rfl, rfl⟩, ⟨rfl, ⟨rfl, rfl, rows_same⟩, trivial⟩, rfl, trivial⟩
  · subst h0
    replace h := iteT h rfl
    obtain ⟨y, e, h⟩ := bind_ex h
    cases h
    exact ⟨rfl, laws_markSurrealTermS_2_ct e⟩
def laws_markSurrealTermS : Nat → Rw → Int → Option (Int × Rw)
  | 0, _, _ => none
  | k + 1, a1, a2 => laws_markSurrealTermS_b k (laws_markSurrealTermS k) a1 a2
theorem laws_markSurrealTermS_ct' : ∀ (k : Nat) (a1 : Rw) (a2 : Int) (r : Int × Rw), laws_markSurrealTermS k a1 a2 = some r → CtM prog 74 false [.int .i64 a2] a1 (.int .i64 r.1) r.2
  | 0, _, _, _, h => by rw [laws_markSurrealTermS] at h; cases h
  | k + 1, _, _, _, h => by rw [laws_markSurrealTermS] at h; exact laws_markSurrealTermS_b_ct (laws_markSurrealTermS_ct' k) h
theorem laws_markSurrealTermS_ct {k : Nat} {a1 : Rw} {a2 : Int} {r : Int × Rw} (h : laws_markSurrealTermS k a1 a2 = some r) : CtM prog 74 false [.int .i64 a2] a1 (.int .i64 r.1) r.2 := laws_markSurrealTermS_ct' k _ _ _ h

def laws_markSurreal (k : Nat) (a1 : Rw) (a2 : Int) : Option (Int × Rw) :=
  (if a1.isEmpty = true then ((laws_markSurreal_2 k a2).bind fun y => some (y, ([] : Rw))) else ((laws_markSurrealTermS k a1 a2).bind fun y3 => (if y3.2.length = a1.length then some (y3.1, y3.2) else none)))
set_option maxHeartbeats 4000000 in
set_option maxRecDepth 100000 in
theorem laws_markSurreal_ct {k : Nat} {a1 : Rw} {a2 : Int} {r : Int × Rw} (h : laws_markSurreal k a1 a2 = some r) : CtM prog 32 true [.int .i64 a2] a1 (.int .i64 r.1) r.2 := by
  rw [laws_markSurreal] at h
  refine CtM.of (c := _) mixed func32 ⟨rfl, rfl, rfl⟩ rfl (fun hne T => ?_) (fun h0 => ?_)
  · replace h := iteF h (by cases a1 with | nil => exact absurd rfl hne | cons _ _ => rfl)
    conv => whnf
    refine Choice.new ?_
    conv => whnf
    refine Req.of (rfl) ?_
    conv => whnf
    obtain ⟨y3, e4, h⟩ := bind_ex h
    refine MarkOk.of (laws_markSurrealTermS_ct e4) ?_
    conv => whnf
    refine CutK.go ?_
    conv => whnf
    obtain ⟨g5, h⟩ := req_ex h
    cases h
    exact DoneM.of [some 0] [] rfl g5 ⟨⟨rfl, rfl⟩, ⟨rfl, ⟨rfl, rfl, rows_same⟩, trivial⟩, rfl, trivial⟩
  · subst h0
    replace h := iteT h rfl
    obtain ⟨y, e, h⟩ := bind_ex h
    cases h
    exact ⟨rfl, laws_markSurreal_2_ct e⟩

def laws_markOrdinalTermS_2_l0 (a1 : Int) (K0 : Option Int) : Nat → Option Int
  | 0 => none
  | n + 1 => (K0)
set_option maxRecDepth 100000 in
theorem laws_markOrdinalTermS_2_l0_ct {a1 : Int} {K0 : Option Int} {r : Int} : ∀ (n : Nat), laws_markOrdinalTermS_2_l0 a1 K0 n = some r → LoopOk prog 0 (lp f47 0) (mk 28 [(0, .d (.sl [])), (1, .d (D.int .i64 a1)), (5, .d (D.int .i64 0))] []) (LoopEnd prog f47 0 28 (.d (D.int .i64 r)) (⟨[], []⟩) (fun i ts os => (i = 0 ∧ K0 = some r ∧ ts = [(1, .d (D.int .i64 a1))] ∧ os = [])))
  | 0, h => by
      rw [laws_markOrdinalTermS_2_l0] at h; cases h
  | n + 1, h => by
      rw [laws_markOrdinalTermS_2_l0] at h
      refine LoopOk.step ?_
      conv => whnf
      refine splD (fun g => absurd g (by decide)) (fun _ => ?_)
      conv => whnf
      exact ⟨_, _, [], [], ⟨rfl, h, rfl, rfl⟩, ⟨⟨rfl, rfl⟩, ⟨rfl, trivial⟩, rfl, trivial⟩⟩
def laws_markOrdinalTermS_2 (k : Nat) (a1 : Int) : Option Int :=
  (laws_markOrdinalTermS_2_l0 a1 (some a1) k)
set_option maxHeartbeats 4000000 in
set_option maxRecDepth 100000 in
theorem laws_markOrdinalTermS_2_ct {k : Nat} {a1 : Int} {r : Int} (h : laws_markOrdinalTermS_2 k a1 = some r) : Ct prog 47 [.d (.sl []), .d (D.int .i64 a1)] (⟨[], []⟩) (.d (D.int .i64 r)) (⟨[], []⟩) := by
  rw [laws_markOrdinalTermS_2] at h
  refine Ct.of (c := _) mixed func47 ⟨rfl, rfl, rfl⟩ ?_ rfl
  conv => whnf
  refine LoopOk.into (laws_markOrdinalTermS_2_l0_ct  _  h) [] [] ⟨⟨rfl, rfl⟩, ⟨rfl, trivial⟩, rfl, rfl, rfl, trivial⟩ ?_ (fun _ hs => hs)
  rintro i ts os ⟨rfl, h, rfl, rfl⟩
  conv => whnf
  refine CutK.go ?_
  conv => whnf
  cases h
  exact Done.of [] [] rfl rfl ⟨⟨rfl, rfl⟩, ⟨rfl, trivial⟩, rfl, trivial⟩

def laws_markOrdinal_2 (k : Nat) (a1 : Int) : Option Int :=
  ((laws_markOrdinalTermS_2 k a1).bind fun y2 => some y2)
set_option maxHeartbeats 4000000 in
set_option maxRecDepth 100000 in
theorem laws_markOrdinal_2_ct {k : Nat} {a1 : Int} {r : Int} (h : laws_markOrdinal_2 k a1 = some r) : Ct prog 13 [.agg [.d (.sl [])], .d (D.int .i64 a1)] (⟨[], []⟩) (.d (D.int .i64 r)) (⟨[], []⟩) := by
  rw [laws_markOrdinal_2] at h
  refine Ct.of (c := _) mixed func13 ⟨rfl, rfl, rfl⟩ ?_ rfl
  conv => whnf
  obtain ⟨y2, e3, h⟩ := bind_ex h
  refine CallOk.of (laws_markOrdinalTermS_2_ct e3) ?_
  conv => whnf
  refine CutK.go ?_
  conv => whnf
  cases h
  exact Done.of [] [] rfl rfl ⟨⟨rfl, rfl⟩, ⟨rfl, trivial⟩, rfl, trivial⟩

def laws_markOrdinalTermS_l0 (rec_laws_markOrdinalTermS : Rw → Int → Option (Int × Rw)) (K0 : Int → Rw → Option (Int × Rw)) : Nat → Rw → Int → Int → Option (Int × Rw)
  | 0, _, _, _ => none
  | n + 1, v15, v16, v17 => (if v17 < (v15.length : Int) then (if 0 ≤ v17 ∧ v17 < (v15.length : Int) then (row_si v15 v17 fun x46 x47 => ((rec_laws_markOrdinalTermS x46 v16).bind fun y50 => (row_si (v15.set ((v17 : Int).toNat) [D.sl y50.2, D.int .i64 x47]) v17 fun x52 x53 => (laws_markOrdinalTermS_l0 rec_laws_markOrdinalTermS K0 n ((v15.set ((v17 : Int).toNat) [D.sl y50.2, D.int .i64 x47]).set ((v17 : Int).toNat) [D.sl x52, D.int .i64 y50.1]) (IntKind.i64.wrap (y50.1 + 1)) (IntKind.i64.wrap (v17 + 1)))))) else none) else (K0 v16 v15))
set_option maxRecDepth 100000 in
theorem laws_markOrdinalTermS_l0_ct {rec_laws_markOrdinalTermS : Rw → Int → Option (Int × Rw)} {K0 : Int → Rw → Option (Int × Rw)} {T : TypeId} (hrec_laws_markOrdinalTermS : ∀ (a1 : Rw) (a2 : Int) (r : Int × Rw), rec_laws_markOrdinalTermS a1 a2 = some r → CtM prog 47 false [.int .i64 a2] a1 (.int .i64 r.1) r.2) {r : Int × Rw} : ∀ (n : Nat) (v15 : Rw) (v16 : Int) (v17 : Int), laws_markOrdinalTermS_l0 rec_laws_markOrdinalTermS K0 n v15 v16 v17 = some r → LoopOk prog 1 (lp f47 0) (mk 28 [(0, .os 0 v15.length), (1, .d (D.int .i64 v16)), (5, .d (D.int .i64 v17))] [(0, .arr T true v15)]) (LoopEndM 1 28 (fun i ts os => (i = 0 ∧ ∃ v30 : Int, ∃ v31 : Rw, K0 v30 v31 = some r ∧ ts = [(1, .d (D.int .i64 v30))] ∧ os = [(0, .arr T true v31)])))
  | 0, _, _, _, h => by
      rw [laws_markOrdinalTermS_l0] at h; cases h
  | n + 1, v15, v16, v17, h => by
      rw [laws_markOrdinalTermS_l0] at h
      refine LoopOk.step ?_
      conv => whnf
      refine splD (fun g44 => ?_) (fun g44 => ?_)
      · replace h := iteP h g44
        conv => whnf
        obtain ⟨g45, h⟩ := req_ex h
        refine Req.of g45 ?_
        conv => whnf
        obtain ⟨g49, x46, x47, e48, h⟩ := row_si_ex h
        refine Row.of _ e48 ?_
        conv => whnf
        obtain ⟨y50, e51, h⟩ := bind_ex h
        refine MarkOk.of (hrec_laws_markOrdinalTermS _ _ _ e51) ?_
        conv => whnf
        refine CutK.go ?_
        conv => whnf
        refine Req.of g45 ?_
        conv => whnf
        obtain ⟨g55, x52, x53, e54, h⟩ := row_si_ex h
        refine Row.of _ e54 ?_
        conv => whnf
        refine CutK.go ?_
        conv => whnf
        exact LoopOk.back (laws_markOrdinalTermS_l0_ct hrec_laws_markOrdinalTermS n _ _ _ h) [some 0] [] ⟨⟨rfl, rfl⟩, ⟨rfl, ⟨rfl, rfl, rows_same⟩, trivial⟩, ⟨(by first | rfl | exact List.length_append.symm | (simp; done) | omega), rfl⟩, rfl, rfl, trivial⟩
      · replace h := iteN h g44
        conv => whnf
        exact ⟨_, _, [some 0], [], ⟨rfl, _, _, h, rfl, rfl⟩, ⟨⟨rfl, rfl⟩, ⟨rfl, ⟨rfl, rfl, rows_same⟩, trivial⟩, rfl, trivial⟩⟩
def laws_markOrdinalTermS_b (k : Nat) (rec_laws_markOrdinalTermS : Rw → Int → Option (Int × Rw)) (a1 : Rw) (a2 : Int) : Option (Int × Rw) :=
  (if a1.isEmpty = true then ((laws_markOrdinalTermS_2 k a2).bind fun y => some (y, ([] : Rw))) else (laws_markOrdinalTermS_l0 rec_laws_markOrdinalTermS (fun (v30 : Int) (v31 : Rw) => (if v31.length = a1.length then some (v30, v31) else none)) k a1 a2 0))
set_option maxHeartbeats 4000000 in
set_option maxRecDepth 100000 in
theorem laws_markOrdinalTermS_b_ct {k : Nat} {rec_laws_markOrdinalTermS : Rw → Int → Option (Int × Rw)} (hrec_laws_markOrdinalTermS : ∀ (a1 : Rw) (a2 : Int) (r : Int × Rw), rec_laws_markOrdinalTermS a1 a2 = some r → CtM prog 47 false [.int .i64 a2] a1 (.int .i64 r.1) r.2) {a1 : Rw} {a2 : Int} {r : Int × Rw} (h : laws_markOrdinalTermS_b k rec_laws_markOrdinalTermS a1 a2 = some r) : CtM prog 47 false [.int .i64 a2] a1 (.int .i64 r.1) r.2 := by
  rw [laws_markOrdinalTermS_b] at h
  refine CtM.of (c := _) mixed func47 ⟨rfl, rfl, rfl⟩ rfl (fun hne T => ?_) (fun h0 => ?_)
  · replace h := iteF h (by cases a1 with | nil => exact absurd rfl hne | cons _ _ => rfl)
    conv => whnf
    refine LoopOk.intoM (laws_markOrdinalTermS_l0_ct hrec_laws_markOrdinalTermS _ _ _ _ h) [some 0] [] ⟨⟨rfl, rfl⟩, ⟨rfl, ⟨rfl, rfl, rows_same⟩, trivial⟩, ⟨rfl, rfl⟩, rfl, rfl, trivial⟩ ?_
    rintro i ts os ⟨rfl, v30, v31, h, rfl, rfl⟩
    conv => whnf
    refine CutK.go ?_
    conv => whnf
    obtain ⟨g56, h⟩ := req_ex h
    cases h
    exact DoneM.of [some 0] [] rfl g56 ⟨⟨rfl, rfl⟩, ⟨rfl, ⟨rfl, rfl, rows_same⟩, trivial⟩, rfl, trivial⟩
  · subst h0
    replace h := iteT h rfl
    obtain ⟨y, e, h⟩ := bind_ex h
    cases h
    exact ⟨rfl, laws_markOrdinalTermS_2_ct e⟩
def laws_markOrdinalTermS : Nat → Rw → Int → Option (Int × Rw)
  | 0, _, _ => none
  | k + 1, a1, a2 => laws_markOrdinalTermS_b k (laws_markOrdinalTermS k) a1 a2
theorem laws_markOrdinalTermS_ct' : ∀ (k : Nat) (a1 : Rw) (a2 : Int) (r : Int × Rw), laws_markOrdinalTermS k a1 a2 = some r → CtM prog 47 false [.int .i64 a2] a1 (.int .i64 r.1) r.2
  | 0, _, _, _, h => by rw [laws_markOrdinalTermS] at h; cases h
  | k + 1, _, _, _, h => by rw [laws_markOrdinalTermS] at h; exact laws_markOrdinalTermS_b_ct (laws_markOrdinalTermS_ct' k) h
theorem laws_markOrdinalTermS_ct {k : Nat} {a1 : Rw} {a2 : Int} {r : Int × Rw} (h : laws_markOrdinalTermS k a1 a2 = some r) : CtM prog 47 false [.int .i64 a2] a1 (.int .i64 r.1) r.2 := laws_markOrdinalTermS_ct' k _ _ _ h

def laws_markOrdinal (k : Nat) (a1 : Rw) (a2 : Int) : Option (Int × Rw) :=
  (if a1.isEmpty = true then ((laws_markOrdinal_2 k a2).bind fun y => some (y, ([] : Rw))) else ((laws_markOrdinalTermS k a1 a2).bind fun y3 => (if y3.2.length = a1.length then some (y3.1, y3.2) else none)))
set_option maxHeartbeats 4000000 in
set_option maxRecDepth 100000 in
theorem laws_markOrdinal_ct {k : Nat} {a1 : Rw} {a2 : Int} {r : Int × Rw} (h : laws_markOrdinal k a1 a2 = some r) : CtM prog 13 true [.int .i64 a2] a1 (.int .i64 r.1) r.2 := by
  rw [laws_markOrdinal] at h
  refine CtM.of (c := _) mixed func13 ⟨rfl, rfl, rfl⟩ rfl (fun hne T => ?_) (fun h0 => ?_)
  · replace h := iteF h (by cases a1 with | nil => exact absurd rfl hne | cons _ _ => rfl)
    conv => whnf
    refine Choice.new ?_
    conv => whnf
    refine Req.of (rfl) ?_
    conv => whnf
    obtain ⟨y3, e4, h⟩ := bind_ex h
    refine MarkOk.of (laws_markOrdinalTermS_ct e4) ?_
    conv => whnf
    refine CutK.go ?_
    conv => whnf
    obtain ⟨g5, h⟩ := req_ex h
    cases h
    exact DoneM.of [some 0] [] rfl g5 ⟨⟨rfl, rfl⟩, ⟨rfl, ⟨rfl, rfl, rows_same⟩, trivial⟩, rfl, trivial⟩
  · subst h0
    replace h := iteT h rfl
    obtain ⟨y, e, h⟩ := bind_ex h
    cases h
    exact ⟨rfl, laws_markOrdinal_2_ct e⟩

def laws_eqOrdinalTerm (rec_laws_eqOrdinal : Rw → Rw → Option Bool) (a1 : Rw) (a2 : Int) (a3 : Rw) (a4 : Int) : Option Bool :=
  ((rec_laws_eqOrdinal a1 a3).bind fun y5 => (if y5 = true then (if a2 = a4 then some true else some false) else some false))
set_option maxHeartbeats 4000000 in
set_option maxRecDepth 100000 in
theorem laws_eqOrdinalTerm_ct {rec_laws_eqOrdinal : Rw → Rw → Option Bool} (hrec_laws_eqOrdinal : ∀ (a1 : Rw) (a2 : Rw) (r : Bool), rec_laws_eqOrdinal a1 a2 = some r → Ct prog 12 [.agg [.d (D.sl a1)], .agg [.d (D.sl a2)]] (⟨[], []⟩) (.d (D.bool r)) (⟨[], []⟩)) {a1 : Rw} {a2 : Int} {a3 : Rw} {a4 : Int} {r : Bool} (h : laws_eqOrdinalTerm rec_laws_eqOrdinal a1 a2 a3 a4 = some r) : Ct prog 88 [.agg [.d (D.sl a1), .d (D.int .i64 a2)], .agg [.d (D.sl a3), .d (D.int .i64 a4)]] (⟨[], []⟩) (.d (D.bool r)) (⟨[], []⟩) := by
  rw [laws_eqOrdinalTerm] at h
  refine Ct.of (c := _) mixed func88 ⟨rfl, rfl, rfl⟩ ?_ rfl
  conv => whnf
  obtain ⟨y5, e6, h⟩ := bind_ex h
  refine CallOk.of (hrec_laws_eqOrdinal _ _ _ e6) ?_
  conv => whnf
  refine spl (fun g7 => ?_) (fun g7 => ?_)
  · replace h := iteT h g7
    conv => whnf
    refine CutK.go ?_
    conv => whnf
    refine CutK.go ?_
    conv => whnf
    refine splN (fun g8 => ?_) (fun g8 => ?_)
    · replace h := iteN h g8
      conv => whnf
      cases h
      exact Done.of [] [] rfl rfl ⟨⟨rfl, rfl⟩, ⟨rfl, trivial⟩, rfl, trivial⟩
    · replace h := iteP h g8
      conv => whnf
      cases h
      exact Done.of [] [] rfl rfl ⟨⟨rfl, rfl⟩, ⟨rfl, trivial⟩, rfl, trivial⟩
  · replace h := iteF h g7
    conv => whnf
    refine CutK.go ?_
    conv => whnf
    cases h
    exact Done.of [] [] rfl rfl ⟨⟨rfl, rfl⟩, ⟨rfl, trivial⟩, rfl, trivial⟩

def laws_eqOrdinalTermS_l0 (rec_laws_eqOrdinal : Rw → Rw → Option Bool) (a1 : Rw) (a2 : Rw) (K0 : Option Bool) : Rw → Nat → Option Bool
  | [], v16n => (K0)
  | cs :: rest, v16n => (cell_si cs fun x29 x30 => (row_si a2 (v16n : Int) fun x32 x33 => ((laws_eqOrdinalTerm rec_laws_eqOrdinal x29 x30 x32 x33).bind fun y36 => (if y36 = true then (laws_eqOrdinalTermS_l0 rec_laws_eqOrdinal a1 a2 K0 rest (v16n + 1)) else some false))))
set_option maxRecDepth 100000 in
theorem laws_eqOrdinalTermS_l0_ct {rec_laws_eqOrdinal : Rw → Rw → Option Bool} {a1 : Rw} {a2 : Rw} {K0 : Option Bool} (hrec_laws_eqOrdinal : ∀ (a1 : Rw) (a2 : Rw) (r : Bool), rec_laws_eqOrdinal a1 a2 = some r → Ct prog 12 [.agg [.d (D.sl a1)], .agg [.d (D.sl a2)]] (⟨[], []⟩) (.d (D.bool r)) (⟨[], []⟩)) {r : Bool} (hx : a1.length ≤ cap) : ∀ (rest : Rw) (v16n : Nat), a1.drop v16n = rest → laws_eqOrdinalTermS_l0 rec_laws_eqOrdinal a1 a2 K0 rest v16n = some r → LoopOk prog 0 (lp f46 0) (mk 27 [(0, .d (D.sl a1)), (1, .d (D.sl a2)), (5, .d (D.int .i64 (v16n : Int)))] []) (LoopEnd prog f46 0 27 (.d (D.bool r)) (⟨[], []⟩) (fun i ts os => (i = 0 ∧ K0 = some r ∧ ts = [] ∧ os = [])))
  | [], v16n, hd, h => by
      rw [laws_eqOrdinalTermS_l0] at h
      have hn := drop_nil hd
      refine LoopOk.step ?_
      conv => whnf
      refine splD (fun g => absurd g hn) (fun _ => ?_)
      conv => whnf
      exact ⟨_, _, [], [], ⟨rfl, h, rfl, rfl⟩, ⟨⟨rfl, rfl⟩, ⟨rfl, trivial⟩, trivial⟩⟩
  | cs :: rest, v16n, hd, h => by
      rw [laws_eqOrdinalTermS_l0] at h
      obtain ⟨hrow, hd1, hlt⟩ := drop_cons hd
      refine LoopOk.step ?_
      conv => whnf
      refine splD (fun _ => ?_) (fun g => absurd hlt g)
      conv => whnf
      obtain ⟨x29, x30, e31, h⟩ := cell_si_ex h
      rw [e31] at hrow
      refine Req.of (Int.natCast_nonneg _) ?_
      refine Row.of _ hrow ?_
      conv => whnf
      obtain ⟨g35, x32, x33, e34, h⟩ := row_si_ex h
      refine Req.of g35 ?_
      refine Row.of _ e34 ?_
      conv => whnf
      obtain ⟨y36, e37, h⟩ := bind_ex h
      refine CallOk.of (laws_eqOrdinalTerm_ct hrec_laws_eqOrdinal e37) ?_
      conv => whnf
      refine spl (fun g38 => ?_) (fun g38 => ?_)
      · replace h := iteT h g38
        conv => whnf
        refine CutK.go ?_
        conv => whnf
        refine CutK.go ?_
        conv => whnf
        exact LoopOk.back (laws_eqOrdinalTermS_l0_ct hrec_laws_eqOrdinal hx rest (v16n + 1)  hd1 h) [] [] ⟨⟨rfl, rfl⟩, ⟨rfl, trivial⟩, rfl, rfl, i64eq (wrap_up hlt hx), trivial⟩
      · replace h := iteF h g38
        conv => whnf
        refine CutK.go ?_
        conv => whnf
        cases h
        exact Done.of [] [] rfl rfl ⟨⟨rfl, rfl⟩, ⟨rfl, trivial⟩, rfl, trivial⟩
def laws_eqOrdinalTermS (rec_laws_eqOrdinal : Rw → Rw → Option Bool) (a1 : Rw) (a2 : Rw) : Option Bool :=
  (if (a1.length : Int) = (a2.length : Int) then (if a1.length ≤ cap then (laws_eqOrdinalTermS_l0 rec_laws_eqOrdinal a1 a2 (some true) a1 0) else none) else some false)
set_option maxHeartbeats 4000000 in
set_option maxRecDepth 100000 in
theorem laws_eqOrdinalTermS_ct {rec_laws_eqOrdinal : Rw → Rw → Option Bool} (hrec_laws_eqOrdinal : ∀ (a1 : Rw) (a2 : Rw) (r : Bool), rec_laws_eqOrdinal a1 a2 = some r → Ct prog 12 [.agg [.d (D.sl a1)], .agg [.d (D.sl a2)]] (⟨[], []⟩) (.d (D.bool r)) (⟨[], []⟩)) {a1 : Rw} {a2 : Rw} {r : Bool} (h : laws_eqOrdinalTermS rec_laws_eqOrdinal a1 a2 = some r) : Ct prog 46 [.d (D.sl a1), .d (D.sl a2)] (⟨[], []⟩) (.d (D.bool r)) (⟨[], []⟩) := by
  rw [laws_eqOrdinalTermS] at h
  refine Ct.of (c := _) mixed func46 ⟨rfl, rfl, rfl⟩ ?_ rfl
  conv => whnf
  refine splN (fun g3 => ?_) (fun g3 => ?_)
  · replace h := iteN h g3
    conv => whnf
    cases h
    exact Done.of [] [] rfl rfl ⟨⟨rfl, rfl⟩, ⟨rfl, trivial⟩, rfl, trivial⟩
  · replace h := iteP h g3
    conv => whnf
    obtain ⟨g39, h⟩ := req_ex h
    refine LoopOk.into (laws_eqOrdinalTermS_l0_ct hrec_laws_eqOrdinal g39 _ _  rfl h) [] [] ⟨⟨rfl, rfl⟩, ⟨rfl, trivial⟩, rfl, rfl, rfl, trivial⟩ ?_ (fun _ hs => hs)
    rintro i ts os ⟨rfl, h, rfl, rfl⟩
    conv => whnf
    refine CutK.go ?_
    conv => whnf
    cases h
    exact Done.of [] [] rfl rfl ⟨⟨rfl, rfl⟩, ⟨rfl, trivial⟩, rfl, trivial⟩

def laws_eqOrdinal_b (rec_laws_eqOrdinal : Rw → Rw → Option Bool) (a1 : Rw) (a2 : Rw) : Option Bool :=
  ((laws_eqOrdinalTermS rec_laws_eqOrdinal a1 a2).bind fun y3 => (if y3 = true then some true else some false))
set_option maxHeartbeats 4000000 in
set_option maxRecDepth 100000 in
theorem laws_eqOrdinal_b_ct {rec_laws_eqOrdinal : Rw → Rw → Option Bool} (hrec_laws_eqOrdinal : ∀ (a1 : Rw) (a2 : Rw) (r : Bool), rec_laws_eqOrdinal a1 a2 = some r → Ct prog 12 [.agg [.d (D.sl a1)], .agg [.d (D.sl a2)]] (⟨[], []⟩) (.d (D.bool r)) (⟨[], []⟩)) {a1 : Rw} {a2 : Rw} {r : Bool} (h : laws_eqOrdinal_b rec_laws_eqOrdinal a1 a2 = some r) : Ct prog 12 [.agg [.d (D.sl a1)], .agg [.d (D.sl a2)]] (⟨[], []⟩) (.d (D.bool r)) (⟨[], []⟩) := by
  rw [laws_eqOrdinal_b] at h
  refine Ct.of (c := _) mixed func12 ⟨rfl, rfl, rfl⟩ ?_ rfl
  conv => whnf
  obtain ⟨y3, e4, h⟩ := bind_ex h
  refine CallOk.of (laws_eqOrdinalTermS_ct hrec_laws_eqOrdinal e4) ?_
  conv => whnf
  refine spl (fun g5 => ?_) (fun g5 => ?_)
  · replace h := iteT h g5
    conv => whnf
    refine CutK.go ?_
    conv => whnf
    refine CutK.go ?_
    conv => whnf
    cases h
    exact Done.of [] [] rfl rfl ⟨⟨rfl, rfl⟩, ⟨rfl, trivial⟩, rfl, trivial⟩
  · replace h := iteF h g5
    conv => whnf
    refine CutK.go ?_
    conv => whnf
    cases h
    exact Done.of [] [] rfl rfl ⟨⟨rfl, rfl⟩, ⟨rfl, trivial⟩, rfl, trivial⟩
def laws_eqOrdinal : Nat → Rw → Rw → Option Bool
  | 0, _, _ => none
  | k + 1, a1, a2 => laws_eqOrdinal_b (laws_eqOrdinal k) a1 a2
theorem laws_eqOrdinal_ct' : ∀ (k : Nat) (a1 : Rw) (a2 : Rw) (r : Bool), laws_eqOrdinal k a1 a2 = some r → Ct prog 12 [.agg [.d (D.sl a1)], .agg [.d (D.sl a2)]] (⟨[], []⟩) (.d (D.bool r)) (⟨[], []⟩)
  | 0, _, _, _, h => by rw [laws_eqOrdinal] at h; cases h
  | k + 1, _, _, _, h => by rw [laws_eqOrdinal] at h; exact laws_eqOrdinal_b_ct (laws_eqOrdinal_ct' k) h
theorem laws_eqOrdinal_ct {k : Nat} {a1 : Rw} {a2 : Rw} {r : Bool} (h : laws_eqOrdinal k a1 a2 = some r) : Ct prog 12 [.agg [.d (D.sl a1)], .agg [.d (D.sl a2)]] (⟨[], []⟩) (.d (D.bool r)) (⟨[], []⟩) := laws_eqOrdinal_ct' k _ _ _ h

def spec_odLeft_l0 (rec_spec_odLeft : Rw → Int → Int → Option Int) (a1 : Rw) (a2 : Int) (K0 : Int → Option Int) : Rw → Int → Option Int
  | [], v13 => (K0 v13)
  | cs :: rest, v13 => (cell_si cs fun x34 x35 => (if v13 < (0 : Int) then some (-1) else (if a2 = (0 : Int) then some (-1) else ((rec_spec_odLeft x34 (IntKind.i64.wrap (a2 - 1)) (IntKind.i64.wrap (v13 - 1))).bind fun y39 => (spec_odLeft_l0 rec_spec_odLeft a1 a2 K0 rest y39)))))
set_option maxRecDepth 100000 in
theorem spec_odLeft_l0_ct {rec_spec_odLeft : Rw → Int → Int → Option Int} {a1 : Rw} {a2 : Int} {K0 : Int → Option Int} (hrec_spec_odLeft : ∀ (a1 : Rw) (a2 : Int) (a3 : Int) (r : Int), rec_spec_odLeft a1 a2 a3 = some r → Ct prog 77 [.agg [.d (D.sl a1)], .d (D.int .i64 a2), .d (D.int .i64 a3)] (⟨[], []⟩) (.d (D.int .i64 r)) (⟨[], []⟩)) {r : Int} (hx : a1.length ≤ cap) : ∀ (rest : Rw) (v14n : Nat) (v13 : Int), a1.drop v14n = rest → spec_odLeft_l0 rec_spec_odLeft a1 a2 K0 rest v13 = some r → LoopOk prog 0 (lp f77 0) (mk 33 [(1, .d (D.int .i64 a2)), (2, .d (D.int .i64 v13)), (12, .d (D.sl a1)), (13, .d (D.int .i64 (a1.length : Int))), (14, .d (D.int .i64 (v14n : Int)))] []) (LoopEnd prog f77 0 33 (.d (D.int .i64 r)) (⟨[], []⟩) (fun i ts os => (i = 0 ∧ ∃ v24 : Int, K0 v24 = some r ∧ ts = [(2, .d (D.int .i64 v24))] ∧ os = [])))
  | [], v14n, v13, hd, h => by
      rw [spec_odLeft_l0] at h
      have hn := drop_nil hd
      refine LoopOk.step ?_
      conv => whnf
      refine splD (fun g => absurd g hn) (fun _ => ?_)
      conv => whnf
      exact ⟨_, _, [], [], ⟨rfl, _, h, rfl, rfl⟩, ⟨⟨rfl, rfl⟩, ⟨rfl, trivial⟩, rfl, trivial⟩⟩
  | cs :: rest, v14n, v13, hd, h => by
      rw [spec_odLeft_l0] at h
      obtain ⟨hrow, hd1, hlt⟩ := drop_cons hd
      refine LoopOk.step ?_
      conv => whnf
      refine splD (fun _ => ?_) (fun g => absurd hlt g)
      conv => whnf
      obtain ⟨x34, x35, e36, h⟩ := cell_si_ex h
      rw [e36] at hrow
      refine Req.of (Int.natCast_nonneg _) ?_
      refine Row.of _ hrow ?_
      conv => whnf
      refine splD (fun g37 => ?_) (fun g37 => ?_)
      · replace h := iteP h g37
        conv => whnf
        cases h
        exact Done.of [] [] rfl rfl ⟨⟨rfl, rfl⟩, ⟨rfl, trivial⟩, rfl, trivial⟩
      · replace h := iteN h g37
        conv => whnf
        refine splD (fun g38 => ?_) (fun g38 => ?_)
        · replace h := iteP h g38
          conv => whnf
          cases h
          exact Done.of [] [] rfl rfl ⟨⟨rfl, rfl⟩, ⟨rfl, trivial⟩, rfl, trivial⟩
        · replace h := iteN h g38
          conv => whnf
          obtain ⟨y39, e40, h⟩ := bind_ex h
          refine CallOk.of (hrec_spec_odLeft _ _ _ _ e40) ?_
          conv => whnf
          refine CutK.norm [1, 2, 12, 13, 14] [] ?_
          conv => whnf
          exact LoopOk.back (spec_odLeft_l0_ct hrec_spec_odLeft hx rest (v14n + 1) _ hd1 h) [] [] ⟨⟨rfl, rfl⟩, ⟨rfl, trivial⟩, rfl, rfl, rfl, rfl, i64eq (wrap_up hlt hx), trivial⟩
def spec_odLeft_b (rec_spec_odLeft : Rw → Int → Int → Option Int) (a1 : Rw) (a2 : Int) (a3 : Int) : Option Int :=
  (if a1.length ≤ cap then (spec_odLeft_l0 rec_spec_odLeft a1 a2 (fun (v24 : Int) => some v24) a1 (IntKind.i64.wrap (a3 - 1))) else none)
set_option maxHeartbeats 4000000 in
set_option maxRecDepth 100000 in
theorem spec_odLeft_b_ct {rec_spec_odLeft : Rw → Int → Int → Option Int} (hrec_spec_odLeft : ∀ (a1 : Rw) (a2 : Int) (a3 : Int) (r : Int), rec_spec_odLeft a1 a2 a3 = some r → Ct prog 77 [.agg [.d (D.sl a1)], .d (D.int .i64 a2), .d (D.int .i64 a3)] (⟨[], []⟩) (.d (D.int .i64 r)) (⟨[], []⟩)) {a1 : Rw} {a2 : Int} {a3 : Int} {r : Int} (h : spec_odLeft_b rec_spec_odLeft a1 a2 a3 = some r) : Ct prog 77 [.agg [.d (D.sl a1)], .d (D.int .i64 a2), .d (D.int .i64 a3)] (⟨[], []⟩) (.d (D.int .i64 r)) (⟨[], []⟩) := by
  rw [spec_odLeft_b] at h
  refine Ct.of (c := _) mixed func77 ⟨rfl, rfl, rfl⟩ ?_ rfl
  conv => whnf
  obtain ⟨g41, h⟩ := req_ex h
  refine LoopOk.into (spec_odLeft_l0_ct hrec_spec_odLeft g41 _ _ _ rfl h) [] [] ⟨⟨rfl, rfl⟩, ⟨rfl, trivial⟩, rfl, rfl, rfl, rfl, rfl, trivial⟩ ?_ (fun _ hs => hs)
  rintro i ts os ⟨rfl, v24, h, rfl, rfl⟩
  conv => whnf
  refine CutK.norm [2] [] ?_
  conv => whnf
  cases h
  exact Done.of [] [] rfl rfl ⟨⟨rfl, rfl⟩, ⟨rfl, trivial⟩, rfl, trivial⟩
def spec_odLeft : Nat → Rw → Int → Int → Option Int
  | 0, _, _, _ => none
  | k + 1, a1, a2, a3 => spec_odLeft_b (spec_odLeft k) a1 a2 a3
theorem spec_odLeft_ct' : ∀ (k : Nat) (a1 : Rw) (a2 : Int) (a3 : Int) (r : Int), spec_odLeft k a1 a2 a3 = some r → Ct prog 77 [.agg [.d (D.sl a1)], .d (D.int .i64 a2), .d (D.int .i64 a3)] (⟨[], []⟩) (.d (D.int .i64 r)) (⟨[], []⟩)
  | 0, _, _, _, _, h => by rw [spec_odLeft] at h; cases h
  | k + 1, _, _, _, _, h => by rw [spec_odLeft] at h; exact spec_odLeft_b_ct (spec_odLeft_ct' k) h
theorem spec_odLeft_ct {k : Nat} {a1 : Rw} {a2 : Int} {a3 : Int} {r : Int} (h : spec_odLeft k a1 a2 a3 = some r) : Ct prog 77 [.agg [.d (D.sl a1)], .d (D.int .i64 a2), .d (D.int .i64 a3)] (⟨[], []⟩) (.d (D.int .i64 r)) (⟨[], []⟩) := spec_odLeft_ct' k _ _ _ _ h

def spec_l1In  (a1 : Int) (a2 : Int) (a3 : Int) : Option Bool :=
  (if a2 ≤ a1 then (if a1 ≤ a3 then some true else some false) else some false)
set_option maxHeartbeats 4000000 in
set_option maxRecDepth 100000 in
theorem spec_l1In_ct  {a1 : Int} {a2 : Int} {a3 : Int} {r : Bool} (h : spec_l1In a1 a2 a3 = some r) : Ct prog 37 [.d (D.int .i64 a1), .d (D.int .i64 a2), .d (D.int .i64 a3)] (⟨[], []⟩) (.d (D.bool r)) (⟨[], []⟩) := by
  rw [spec_l1In] at h
  refine Ct.of (c := _) mixed func37 ⟨rfl, rfl, rfl⟩ ?_ rfl
  conv => whnf
  refine splD (fun g4 => ?_) (fun g4 => ?_)
  · replace h := iteP h g4
    conv => whnf
    refine splD (fun g5 => ?_) (fun g5 => ?_)
    · replace h := iteP h g5
      conv => whnf
      cases h
      exact Done.of [] [] rfl rfl ⟨⟨rfl, rfl⟩, ⟨rfl, trivial⟩, rfl, trivial⟩
    · replace h := iteN h g5
      conv => whnf
      cases h
      exact Done.of [] [] rfl rfl ⟨⟨rfl, rfl⟩, ⟨rfl, trivial⟩, rfl, trivial⟩
  · replace h := iteN h g4
    conv => whnf
    cases h
    exact Done.of [] [] rfl rfl ⟨⟨rfl, rfl⟩, ⟨rfl, trivial⟩, rfl, trivial⟩

def spec_l1Sign  (a1 : Int) : Option Int :=
  (if (0 : Int) < a1 then some 1 else (if a1 < (0 : Int) then some (-1) else some 0))
set_option maxHeartbeats 4000000 in
set_option maxRecDepth 100000 in
theorem spec_l1Sign_ct  {a1 : Int} {r : Int} (h : spec_l1Sign a1 = some r) : Ct prog 107 [.d (D.int .i64 a1)] (⟨[], []⟩) (.d (D.int .i64 r)) (⟨[], []⟩) := by
  rw [spec_l1Sign] at h
  refine Ct.of (c := _) mixed func107 ⟨rfl, rfl, rfl⟩ ?_ rfl
  conv => whnf
  refine splD (fun g2 => ?_) (fun g2 => ?_)
  · replace h := iteP h g2
    conv => whnf
    cases h
    exact Done.of [] [] rfl rfl ⟨⟨rfl, rfl⟩, ⟨rfl, trivial⟩, rfl, trivial⟩
  · replace h := iteN h g2
    conv => whnf
    refine splD (fun g3 => ?_) (fun g3 => ?_)
    · replace h := iteP h g3
      conv => whnf
      cases h
      exact Done.of [] [] rfl rfl ⟨⟨rfl, rfl⟩, ⟨rfl, trivial⟩, rfl, trivial⟩
    · replace h := iteN h g3
      conv => whnf
      cases h
      exact Done.of [] [] rfl rfl ⟨⟨rfl, rfl⟩, ⟨rfl, trivial⟩, rfl, trivial⟩

def spec_odCmp_p2 (a1 : Rw) (a2 : Rw) : Option Int :=
  (if (a1.length : Int) < (a2.length : Int) then some (-1) else some 0)
set_option maxHeartbeats 4000000 in
set_option maxRecDepth 100000 in
theorem spec_odCmp_p2_ct {a1 : Rw} {a2 : Rw} {r : Int} (h : spec_odCmp_p2 a1 a2 = some r) : X prog 0 (tlF f97 2) (mk 60 [(2, .ptr 128 0), (3, .ptr 192 0)] [(128, .box 28 [.d (D.sl a1)]), (192, .box 28 [.d (D.sl a2)])]) (finK prog f97 0 (.d (D.int .i64 r)) (⟨[], []⟩)) := by
  rw [spec_odCmp_p2] at h
  conv => whnf
  refine splD (fun g37 => ?_) (fun g37 => ?_)
  · replace h := iteP h g37
    conv => whnf
    cases h
    exact Done.of [] [] rfl rfl ⟨⟨rfl, rfl⟩, ⟨rfl, trivial⟩, rfl, trivial⟩
  · replace h := iteN h g37
    conv => whnf
    cases h
    exact Done.of [] [] rfl rfl ⟨⟨rfl, rfl⟩, ⟨rfl, trivial⟩, rfl, trivial⟩
def spec_odCmp_l0 (rec_spec_odCmp : Rw → Rw → Option Int) (a1 : Rw) (a2 : Rw) (K0 : Option Int) : Rw → Nat → Option Int
  | [], v54n => (K0)
  | cs :: rest, v54n => (cell_si cs fun x71 x72 => (if (v54n : Int) = (a2.length : Int) then some 1 else (row_si a2 (v54n : Int) fun x75 x76 => ((rec_spec_odCmp x71 x75).bind fun y79 => (if y79 = (0 : Int) then (if x72 = x76 then (spec_odCmp_l0 rec_spec_odCmp a1 a2 K0 rest (v54n + 1)) else ((spec_l1Sign (IntKind.i64.wrap (x72 - x76))).bind fun y83 => some y83)) else some y79)))))
set_option maxRecDepth 100000 in
theorem spec_odCmp_l0_ct {rec_spec_odCmp : Rw → Rw → Option Int} {a1 : Rw} {a2 : Rw} {K0 : Option Int} (hrec_spec_odCmp : ∀ (a1 : Rw) (a2 : Rw) (r : Int), rec_spec_odCmp a1 a2 = some r → Ct prog 97 [.agg [.d (D.sl a1)], .agg [.d (D.sl a2)]] (⟨[], []⟩) (.d (D.int .i64 r)) (⟨[], []⟩)) {r : Int} (hx : a1.length ≤ cap) : ∀ (rest : Rw) (v54n : Nat), a1.drop v54n = rest → spec_odCmp_l0 rec_spec_odCmp a1 a2 K0 rest v54n = some r → LoopOk prog 0 (lp f97 0) (mk 60 [(2, .ptr 128 0), (3, .ptr 192 0), (9, .d (D.sl a1)), (10, .d (D.int .i64 (a1.length : Int))), (11, .d (D.int .i64 (v54n : Int)))] [(128, .box 28 [.d (D.sl a1)]), (192, .box 28 [.d (D.sl a2)])]) (LoopEnd prog f97 0 60 (.d (D.int .i64 r)) (⟨[], []⟩) (fun i ts os => (i = 0 ∧ K0 = some r ∧ ts = [(2, .ptr 128 0), (3, .ptr 192 0)] ∧ os = [(128, .box 28 [.d (D.sl a1)]), (192, .box 28 [.d (D.sl a2)])])))
  | [], v54n, hd, h => by
      rw [spec_odCmp_l0] at h
      have hn := drop_nil hd
      refine LoopOk.step ?_
      conv => whnf
      refine splD (fun g => absurd g hn) (fun _ => ?_)
      conv => whnf
      exact ⟨_, _, [some 128, some 192], [], ⟨rfl, h, rfl, rfl⟩, ⟨⟨rfl, rfl⟩, ⟨rfl, ⟨rfl, rfl, trivial⟩, ⟨rfl, rfl, trivial⟩, trivial⟩, ⟨rfl, rfl⟩, ⟨rfl, rfl⟩, trivial⟩⟩
  | cs :: rest, v54n, hd, h => by
      rw [spec_odCmp_l0] at h
      obtain ⟨hrow, hd1, hlt⟩ := drop_cons hd
      refine LoopOk.step ?_
      conv => whnf
      refine splD (fun _ => ?_) (fun g => absurd hlt g)
      conv => whnf
      obtain ⟨x71, x72, e73, h⟩ := cell_si_ex h
      rw [e73] at hrow
      refine Req.of (Int.natCast_nonneg _) ?_
      refine Row.of _ hrow ?_
      conv => whnf
      refine splD (fun g74 => ?_) (fun g74 => ?_)
      · replace h := iteP h g74
        conv => whnf
        cases h
        exact Done.of [] [] rfl rfl ⟨⟨rfl, rfl⟩, ⟨rfl, trivial⟩, rfl, trivial⟩
      · replace h := iteN h g74
        conv => whnf
        obtain ⟨g78, x75, x76, e77, h⟩ := row_si_ex h
        refine Req.of g78 ?_
        refine Row.of _ e77 ?_
        conv => whnf
        obtain ⟨y79, e80, h⟩ := bind_ex h
        refine CallOk.of (hrec_spec_odCmp _ _ _ e80) ?_
        conv => whnf
        refine CutK.norm [2, 3, 5, 6, 7, 9, 10, 11] [128, 192, 384] ?_
        conv => whnf
        refine splN (fun g81 => ?_) (fun g81 => ?_)
        · replace h := iteN h g81
          conv => whnf
          cases h
          exact Done.of [] [] rfl rfl ⟨⟨rfl, rfl⟩, ⟨rfl, trivial⟩, rfl, trivial⟩
        · replace h := iteP h g81
          conv => whnf
          refine CutK.norm [2, 3, 5, 6, 9, 10, 11] [128, 192, 384] ?_
          conv => whnf
          refine Req.of g78 ?_
          refine Row.of _ e77 ?_
          conv => whnf
          refine splN (fun g82 => ?_) (fun g82 => ?_)
          · replace h := iteN h g82
            conv => whnf
            refine Req.of g78 ?_
            refine Row.of _ e77 ?_
            conv => whnf
            obtain ⟨y83, e84, h⟩ := bind_ex h
            refine CallOk.of (spec_l1Sign_ct e84) ?_
            conv => whnf
            refine CutK.norm [4] [] ?_
            conv => whnf
            cases h
            exact Done.of [] [] rfl rfl ⟨⟨rfl, rfl⟩, ⟨rfl, trivial⟩, rfl, trivial⟩
          · replace h := iteP h g82
            conv => whnf
            refine CutK.norm [2, 3, 9, 10, 11] [128, 192] ?_
            conv => whnf
            exact LoopOk.back (spec_odCmp_l0_ct hrec_spec_odCmp hx rest (v54n + 1)  hd1 h) [some 128, some 192] [] ⟨⟨rfl, rfl⟩, ⟨rfl, ⟨rfl, rfl, trivial⟩, ⟨rfl, rfl, trivial⟩, trivial⟩, ⟨rfl, rfl⟩, ⟨rfl, rfl⟩, rfl, rfl, i64eq (wrap_up hlt hx), trivial⟩
def spec_odCmp_b (rec_spec_odCmp : Rw → Rw → Option Int) (a1 : Rw) (a2 : Rw) : Option Int :=
  (if a1.length ≤ cap then (spec_odCmp_l0 rec_spec_odCmp a1 a2 (spec_odCmp_p2 a1 a2) a1 0) else none)
set_option maxHeartbeats 4000000 in
set_option maxRecDepth 100000 in
theorem spec_odCmp_b_ct {rec_spec_odCmp : Rw → Rw → Option Int} (hrec_spec_odCmp : ∀ (a1 : Rw) (a2 : Rw) (r : Int), rec_spec_odCmp a1 a2 = some r → Ct prog 97 [.agg [.d (D.sl a1)], .agg [.d (D.sl a2)]] (⟨[], []⟩) (.d (D.int .i64 r)) (⟨[], []⟩)) {a1 : Rw} {a2 : Rw} {r : Int} (h : spec_odCmp_b rec_spec_odCmp a1 a2 = some r) : Ct prog 97 [.agg [.d (D.sl a1)], .agg [.d (D.sl a2)]] (⟨[], []⟩) (.d (D.int .i64 r)) (⟨[], []⟩) := by
  rw [spec_odCmp_b] at h
  refine Ct.of (c := _) mixed func97 ⟨rfl, rfl, rfl⟩ ?_ rfl
  conv => whnf
  obtain ⟨g85, h⟩ := req_ex h
  refine LoopOk.into (spec_odCmp_l0_ct hrec_spec_odCmp g85 _ _  rfl h) [some 128, some 192] [] ⟨⟨rfl, rfl⟩, ⟨rfl, ⟨rfl, rfl, trivial⟩, ⟨rfl, rfl, trivial⟩, trivial⟩, ⟨rfl, rfl⟩, ⟨rfl, rfl⟩, rfl, rfl, rfl, trivial⟩ ?_ (fun _ hs => hs)
  rintro i ts os ⟨rfl, h, rfl, rfl⟩
  conv => whnf
  exact CutK.piece (spec_odCmp_p2_ct  h) [some 128, some 192] [] ⟨⟨rfl, rfl⟩, ⟨rfl, ⟨rfl, rfl, trivial⟩, ⟨rfl, rfl, trivial⟩, trivial⟩, ⟨rfl, rfl⟩, ⟨rfl, rfl⟩, trivial⟩
def spec_odCmp : Nat → Rw → Rw → Option Int
  | 0, _, _ => none
  | k + 1, a1, a2 => spec_odCmp_b (spec_odCmp k) a1 a2
theorem spec_odCmp_ct' : ∀ (k : Nat) (a1 : Rw) (a2 : Rw) (r : Int), spec_odCmp k a1 a2 = some r → Ct prog 97 [.agg [.d (D.sl a1)], .agg [.d (D.sl a2)]] (⟨[], []⟩) (.d (D.int .i64 r)) (⟨[], []⟩)
  | 0, _, _, _, h => by rw [spec_odCmp] at h; cases h
  | k + 1, _, _, _, h => by rw [spec_odCmp] at h; exact spec_odCmp_b_ct (spec_odCmp_ct' k) h
theorem spec_odCmp_ct {k : Nat} {a1 : Rw} {a2 : Rw} {r : Int} (h : spec_odCmp k a1 a2 = some r) : Ct prog 97 [.agg [.d (D.sl a1)], .agg [.d (D.sl a2)]] (⟨[], []⟩) (.d (D.int .i64 r)) (⟨[], []⟩) := spec_odCmp_ct' k _ _ _ h

def spec_odForm_p3  : Option Bool :=
  some true
set_option maxHeartbeats 4000000 in
set_option maxRecDepth 100000 in
theorem spec_odForm_p3_ct  {r : Bool} (h : spec_odForm_p3 = some r) : X prog 0 (tlF f78 3) (mk 47 [] []) (finK prog f78 0 (.d (D.bool r)) (⟨[], []⟩)) := by
  rw [spec_odForm_p3] at h
  conv => whnf
  cases h
  exact Done.of [] [] rfl rfl ⟨⟨rfl, rfl⟩, ⟨rfl, trivial⟩, rfl, trivial⟩
def spec_odForm_l0 (k : Nat) (rec_spec_odForm : Rw → Int → Option Bool) (a1 : Rw) (a2 : Int) (K0 : Option Bool) : Rw → Nat → Option Bool
  | [], v47n => (K0)
  | cs :: rest, v47n => (cell_si cs fun x67 x68 => ((spec_l1In x68 1 1000000).bind fun y70 => (if y70 = true then ((rec_spec_odForm x67 (IntKind.i64.wrap (a2 - 1))).bind fun y73 => (if y73 = true then (if (0 : Int) < (v47n : Int) then (row_si a1 (IntKind.i64.wrap ((v47n : Int) - 1)) fun x77 x78 => ((spec_odCmp k x77 x67).bind fun y81 => (if y81 ≤ (0 : Int) then some false else (spec_odForm_l0 k rec_spec_odForm a1 a2 K0 rest (v47n + 1))))) else (spec_odForm_l0 k rec_spec_odForm a1 a2 K0 rest (v47n + 1))) else some false)) else some false)))
set_option maxRecDepth 100000 in
theorem spec_odForm_l0_ct {k : Nat} {rec_spec_odForm : Rw → Int → Option Bool} {a1 : Rw} {a2 : Int} {K0 : Option Bool} (hrec_spec_odForm : ∀ (a1 : Rw) (a2 : Int) (r : Bool), rec_spec_odForm a1 a2 = some r → Ct prog 78 [.agg [.d (D.sl a1)], .d (D.int .i64 a2)] (⟨[], []⟩) (.d (D.bool r)) (⟨[], []⟩)) {r : Bool} (hx : a1.length ≤ cap) : ∀ (rest : Rw) (v47n : Nat), a1.drop v47n = rest → spec_odForm_l0 k rec_spec_odForm a1 a2 K0 rest v47n = some r → LoopOk prog 0 (lp f78 0) (mk 47 [(1, .d (D.int .i64 a2)), (2, .ptr 128 0), (10, .d (D.sl a1)), (11, .d (D.int .i64 (a1.length : Int))), (12, .d (D.int .i64 (v47n : Int)))] [(128, .box 28 [.d (D.sl a1)])]) (LoopEnd prog f78 0 47 (.d (D.bool r)) (⟨[], []⟩) (fun i ts os => (i = 0 ∧ K0 = some r ∧ ts = [] ∧ os = [])))
  | [], v47n, hd, h => by
      rw [spec_odForm_l0] at h
      have hn := drop_nil hd
      refine LoopOk.step ?_
      conv => whnf
      refine splD (fun g => absurd g hn) (fun _ => ?_)
      conv => whnf
      exact ⟨_, _, [], [], ⟨rfl, h, rfl, rfl⟩, ⟨⟨rfl, rfl⟩, ⟨rfl, trivial⟩, trivial⟩⟩
  | cs :: rest, v47n, hd, h => by
      rw [spec_odForm_l0] at h
      obtain ⟨hrow, hd1, hlt⟩ := drop_cons hd
      refine LoopOk.step ?_
      conv => whnf
      refine splD (fun _ => ?_) (fun g => absurd hlt g)
      conv => whnf
      obtain ⟨x67, x68, e69, h⟩ := cell_si_ex h
      rw [e69] at hrow
      refine Req.of (Int.natCast_nonneg _) ?_
      refine Row.of _ hrow ?_
      conv => whnf
      obtain ⟨y70, e71, h⟩ := bind_ex h
      refine CallOk.of (spec_l1In_ct e71) ?_
      conv => whnf
      refine spl (fun g72 => ?_) (fun g72 => ?_)
      · replace h := iteT h g72
        conv => whnf
        obtain ⟨y73, e74, h⟩ := bind_ex h
        refine CallOk.of (hrec_spec_odForm _ _ _ e74) ?_
        conv => whnf
        refine spl (fun g75 => ?_) (fun g75 => ?_)
        · replace h := iteT h g75
          conv => whnf
          refine splD (fun g76 => ?_) (fun g76 => ?_)
          · replace h := iteP h g76
            conv => whnf
            obtain ⟨g80, x77, x78, e79, h⟩ := row_si_ex h
            refine Req.of g80 ?_
            refine Row.of _ e79 ?_
            conv => whnf
            obtain ⟨y81, e82, h⟩ := bind_ex h
            refine CallOk.of (spec_odCmp_ct e82) ?_
            conv => whnf
            refine splD (fun g83 => ?_) (fun g83 => ?_)
            · replace h := iteP h g83
              conv => whnf
              refine CutK.norm [1, 2, 10, 11, 12, 45] [128] ?_
              conv => whnf
              cases h
              exact Done.of [] [] rfl rfl ⟨⟨rfl, rfl⟩, ⟨rfl, trivial⟩, rfl, trivial⟩
            · replace h := iteN h g83
              conv => whnf
              refine CutK.norm [1, 2, 10, 11, 12, 45] [128] ?_
              conv => whnf
              refine CutK.norm [1, 2, 10, 11, 12] [128] ?_
              conv => whnf
              exact LoopOk.back (spec_odForm_l0_ct hrec_spec_odForm hx rest (v47n + 1)  hd1 h) [some 128] [] ⟨⟨rfl, rfl⟩, ⟨rfl, ⟨rfl, rfl, trivial⟩, trivial⟩, rfl, ⟨rfl, rfl⟩, rfl, rfl, i64eq (wrap_up hlt hx), trivial⟩
          · replace h := iteN h g76
            conv => whnf
            refine CutK.norm [1, 2, 10, 11, 12, 45] [128] ?_
            conv => whnf
            refine CutK.norm [1, 2, 10, 11, 12] [128] ?_
            conv => whnf
            exact LoopOk.back (spec_odForm_l0_ct hrec_spec_odForm hx rest (v47n + 1)  hd1 h) [some 128] [] ⟨⟨rfl, rfl⟩, ⟨rfl, ⟨rfl, rfl, trivial⟩, trivial⟩, rfl, ⟨rfl, rfl⟩, rfl, rfl, i64eq (wrap_up hlt hx), trivial⟩
        · replace h := iteF h g75
          conv => whnf
          refine CutK.norm [1, 2, 10, 11, 12, 45] [128] ?_
          conv => whnf
          cases h
          exact Done.of [] [] rfl rfl ⟨⟨rfl, rfl⟩, ⟨rfl, trivial⟩, rfl, trivial⟩
      · replace h := iteF h g72
        conv => whnf
        refine CutK.norm [1, 2, 10, 11, 12, 45] [128] ?_
        conv => whnf
        cases h
        exact Done.of [] [] rfl rfl ⟨⟨rfl, rfl⟩, ⟨rfl, trivial⟩, rfl, trivial⟩
def spec_odForm_b (k : Nat) (rec_spec_odForm : Rw → Int → Option Bool) (a1 : Rw) (a2 : Int) : Option Bool :=
  (if a2 < (0 : Int) then some false else (if a1.length ≤ cap then (spec_odForm_l0 k rec_spec_odForm a1 a2 (spec_odForm_p3) a1 0) else none))
set_option maxHeartbeats 4000000 in
set_option maxRecDepth 100000 in
theorem spec_odForm_b_ct {k : Nat} {rec_spec_odForm : Rw → Int → Option Bool} (hrec_spec_odForm : ∀ (a1 : Rw) (a2 : Int) (r : Bool), rec_spec_odForm a1 a2 = some r → Ct prog 78 [.agg [.d (D.sl a1)], .d (D.int .i64 a2)] (⟨[], []⟩) (.d (D.bool r)) (⟨[], []⟩)) {a1 : Rw} {a2 : Int} {r : Bool} (h : spec_odForm_b k rec_spec_odForm a1 a2 = some r) : Ct prog 78 [.agg [.d (D.sl a1)], .d (D.int .i64 a2)] (⟨[], []⟩) (.d (D.bool r)) (⟨[], []⟩) := by
  rw [spec_odForm_b] at h
  refine Ct.of (c := _) mixed func78 ⟨rfl, rfl, rfl⟩ ?_ rfl
  conv => whnf
  refine splD (fun g35 => ?_) (fun g35 => ?_)
  · replace h := iteP h g35
    conv => whnf
    cases h
    exact Done.of [] [] rfl rfl ⟨⟨rfl, rfl⟩, ⟨rfl, trivial⟩, rfl, trivial⟩
  · replace h := iteN h g35
    conv => whnf
    obtain ⟨g84, h⟩ := req_ex h
    refine LoopOk.into (spec_odForm_l0_ct hrec_spec_odForm g84 _ _  rfl h) [some 128] [] ⟨⟨rfl, rfl⟩, ⟨rfl, ⟨rfl, rfl, trivial⟩, trivial⟩, rfl, ⟨rfl, rfl⟩, rfl, rfl, rfl, trivial⟩ ?_ (fun _ hs => hs)
    rintro i ts os ⟨rfl, h, rfl, rfl⟩
    conv => whnf
    exact CutK.piece (spec_odForm_p3_ct  h) [] [] ⟨⟨rfl, rfl⟩, ⟨rfl, trivial⟩, trivial⟩
def spec_odForm : Nat → Rw → Int → Option Bool
  | 0, _, _ => none
  | k + 1, a1, a2 => spec_odForm_b k (spec_odForm k) a1 a2
theorem spec_odForm_ct' : ∀ (k : Nat) (a1 : Rw) (a2 : Int) (r : Bool), spec_odForm k a1 a2 = some r → Ct prog 78 [.agg [.d (D.sl a1)], .d (D.int .i64 a2)] (⟨[], []⟩) (.d (D.bool r)) (⟨[], []⟩)
  | 0, _, _, _, h => by rw [spec_odForm] at h; cases h
  | k + 1, _, _, _, h => by rw [spec_odForm] at h; exact spec_odForm_b_ct (spec_odForm_ct' k) h
theorem spec_odForm_ct {k : Nat} {a1 : Rw} {a2 : Int} {r : Bool} (h : spec_odForm k a1 a2 = some r) : Ct prog 78 [.agg [.d (D.sl a1)], .d (D.int .i64 a2)] (⟨[], []⟩) (.d (D.bool r)) (⟨[], []⟩) := spec_odForm_ct' k _ _ _ h

def spec_odGood (k : Nat) (a1 : Rw) : Option Bool :=
  ((spec_odLeft k a1 6 60).bind fun y2 => (if (0 : Int) ≤ y2 then ((spec_odForm k a1 6).bind fun y5 => (if y5 = true then some true else some false)) else some false))
set_option maxHeartbeats 4000000 in
set_option maxRecDepth 100000 in
theorem spec_odGood_ct {k : Nat} {a1 : Rw} {r : Bool} (h : spec_odGood k a1 = some r) : Ct prog 35 [.agg [.d (D.sl a1)]] (⟨[], []⟩) (.d (D.bool r)) (⟨[], []⟩) := by
  rw [spec_odGood] at h
  refine Ct.of (c := _) mixed func35 ⟨rfl, rfl, rfl⟩ ?_ rfl
  conv => whnf
  obtain ⟨y2, e3, h⟩ := bind_ex h
  refine CallOk.of (spec_odLeft_ct e3) ?_
  conv => whnf
  refine splD (fun g4 => ?_) (fun g4 => ?_)
  · replace h := iteP h g4
    conv => whnf
    obtain ⟨y5, e6, h⟩ := bind_ex h
    refine CallOk.of (spec_odForm_ct e6) ?_
    conv => whnf
    refine spl (fun g7 => ?_) (fun g7 => ?_)
    · replace h := iteT h g7
      conv => whnf
      refine CutK.go ?_
      conv => whnf
      cases h
      exact Done.of [] [] rfl rfl ⟨⟨rfl, rfl⟩, ⟨rfl, trivial⟩, rfl, trivial⟩
    · replace h := iteF h g7
      conv => whnf
      refine CutK.go ?_
      conv => whnf
      cases h
      exact Done.of [] [] rfl rfl ⟨⟨rfl, rfl⟩, ⟨rfl, trivial⟩, rfl, trivial⟩
  · replace h := iteN h g4
    conv => whnf
    refine CutK.go ?_
    conv => whnf
    cases h
    exact Done.of [] [] rfl rfl ⟨⟨rfl, rfl⟩, ⟨rfl, trivial⟩, rfl, trivial⟩

def spec_shInt  (a1 : Int) : Option (Int × Int) :=
  some (a1, 1)
set_option maxHeartbeats 4000000 in
set_option maxRecDepth 100000 in
theorem spec_shInt_ct  {a1 : Int} {r : Int × Int} (h : spec_shInt a1 = some r) : Ct prog 101 [.d (D.int .i64 a1)] (⟨[], []⟩) (.agg [.d (D.int .i64 r.1), .d (D.int .i64 r.2)]) (⟨[], []⟩) := by
  rw [spec_shInt] at h
  refine Ct.of (c := _) mixed func101 ⟨rfl, rfl, rfl⟩ ?_ rfl
  conv => whnf
  cases h
  exact Done.of [] [] rfl rfl ⟨⟨rfl, rfl⟩, ⟨rfl, trivial⟩, ⟨rfl, rfl, trivial⟩, trivial⟩

def spec_suFrom_l0 (rec_spec_suFrom : Rw → Option Rw) (a1 : Rw) (K0 : Rw → Option Rw) : Rw → Rw → Option Rw
  | [], v12 => (K0 v12)
  | cs :: rest, v12 => (cell_si cs fun x34 x35 => ((rec_spec_suFrom x34).bind fun y37 => ((spec_shInt x35).bind fun y39 => (if v12.length + 1 ≤ cap then (spec_suFrom_l0 rec_spec_suFrom a1 K0 rest (v12 ++ ([[D.sl y37, D.int .i64 y39.1, D.int .i64 y39.2]]))) else none))))
set_option maxRecDepth 100000 in
theorem spec_suFrom_l0_ct {rec_spec_suFrom : Rw → Option Rw} {a1 : Rw} {K0 : Rw → Option Rw} (hrec_spec_suFrom : ∀ (a1 : Rw) (r : Rw), rec_spec_suFrom a1 = some r → Ct prog 70 [.agg [.d (D.sl a1)]] (⟨[], []⟩) (.agg [.os 8 r.length]) (⟨[], [(109, true, r)]⟩)) {r : Rw} (hx : a1.length ≤ cap) : ∀ (rest : Rw) (v11n : Nat) (v12 : Rw), a1.drop v11n = rest → spec_suFrom_l0 rec_spec_suFrom a1 K0 rest v12 = some r → LoopOk prog 0 (lp f70 0) (mk 28 [(2, .ptr 128 0), (3, .ptr 192 0), (8, .d (D.sl a1)), (9, .d (D.int .i64 (a1.length : Int))), (10, .d (D.int .i64 (v11n : Int)))] [(128, .box 49 [.es]), (192, .box 49 [.os 64000 v12.length]), (64000, .arr 109 true v12)]) (LoopEnd prog f70 0 28 (.agg [.os 8 r.length]) (⟨[], [(109, true, r)]⟩) (fun i ts os => (i = 0 ∧ ∃ v23 : Rw, K0 v23 = some r ∧ ts = [(2, .ptr 128 0), (3, .ptr 192 0)] ∧ os = [(128, .box 49 [.es]), (192, .box 49 [.os 67001 v23.length]), (67001, .arr 109 true v23)])))
  | [], v11n, v12, hd, h => by
      rw [spec_suFrom_l0] at h
      have hn := drop_nil hd
      refine LoopOk.step ?_
      conv => whnf
      refine splD (fun g => absurd g hn) (fun _ => ?_)
      conv => whnf
      exact ⟨_, _, [some 128, some 192, some 64000], [], ⟨rfl, _, h, rfl, rfl⟩, ⟨⟨rfl, rfl⟩, ⟨rfl, ⟨rfl, trivial, trivial⟩, ⟨rfl, ⟨rfl, rfl⟩, trivial⟩, ⟨rfl, rfl, rows_same⟩, trivial⟩, ⟨rfl, rfl⟩, ⟨rfl, rfl⟩, trivial⟩⟩
  | cs :: rest, v11n, v12, hd, h => by
      rw [spec_suFrom_l0] at h
      obtain ⟨hrow, hd1, hlt⟩ := drop_cons hd
      refine LoopOk.step ?_
      conv => whnf
      refine splD (fun _ => ?_) (fun g => absurd hlt g)
      conv => whnf
      obtain ⟨x34, x35, e36, h⟩ := cell_si_ex h
      rw [e36] at hrow
      refine Req.of (Int.natCast_nonneg _) ?_
      refine Row.of _ hrow ?_
      conv => whnf
      obtain ⟨y37, e38, h⟩ := bind_ex h
      refine CallOk.of (hrec_spec_suFrom _ _ e38) ?_
      conv => whnf
      obtain ⟨y39, e40, h⟩ := bind_ex h
      refine CallOk.of (spec_shInt_ct e40) ?_
      conv => whnf
      refine Take.all (rfl) ?_
      conv => whnf
      refine Take.all (rfl) ?_
      conv => whnf
      refine Take.all (by first | rfl | exact List.length_append.symm | (simp; done) | omega) ?_
      conv => whnf
      obtain ⟨g41, h⟩ := req_ex h
      refine Req.of (room (b := 40) (by decide) g41 (wide1 rfl wide0)) ?_
      conv => whnf
      refine CutK.go ?_
      conv => whnf
      exact LoopOk.back (spec_suFrom_l0_ct hrec_spec_suFrom hx rest (v11n + 1) _ hd1 h) [some 128, some 192, some 1536] [] ⟨⟨rfl, rfl⟩, ⟨rfl, ⟨rfl, trivial, trivial⟩, ⟨rfl, ⟨(by first | rfl | exact List.length_append.symm | (simp; done) | omega), rfl⟩, trivial⟩, ⟨rfl, rfl, rows_same⟩, trivial⟩, ⟨rfl, rfl⟩, ⟨rfl, rfl⟩, rfl, rfl, i64eq (wrap_up hlt hx), trivial⟩
def spec_suFrom_b (rec_spec_suFrom : Rw → Option Rw) (a1 : Rw) : Option Rw :=
  (if a1.length ≤ cap then (spec_suFrom_l0 rec_spec_suFrom a1 (fun (v23 : Rw) => some v23) a1 ([] : Rw)) else none)
set_option maxHeartbeats 4000000 in
set_option maxRecDepth 100000 in
theorem spec_suFrom_b_ct {rec_spec_suFrom : Rw → Option Rw} (hrec_spec_suFrom : ∀ (a1 : Rw) (r : Rw), rec_spec_suFrom a1 = some r → Ct prog 70 [.agg [.d (D.sl a1)]] (⟨[], []⟩) (.agg [.os 8 r.length]) (⟨[], [(109, true, r)]⟩)) {a1 : Rw} {r : Rw} (h : spec_suFrom_b rec_spec_suFrom a1 = some r) : Ct prog 70 [.agg [.d (D.sl a1)]] (⟨[], []⟩) (.agg [.os 8 r.length]) (⟨[], [(109, true, r)]⟩) := by
  rw [spec_suFrom_b] at h
  refine Ct.of (c := _) mixed func70 ⟨rfl, rfl, rfl⟩ ?_ rfl
  conv => whnf
  obtain ⟨g42, h⟩ := req_ex h
  refine LoopOk.into (spec_suFrom_l0_ct hrec_spec_suFrom g42 _ _ _ rfl h) [some 128, some 192, none] [] ⟨⟨rfl, rfl⟩, ⟨rfl, ⟨rfl, trivial, trivial⟩, ⟨rfl, ⟨rfl, rfl⟩, trivial⟩, rfl, trivial⟩, ⟨rfl, rfl⟩, ⟨rfl, rfl⟩, rfl, rfl, rfl, trivial⟩ ?_ (fun _ hs => hs)
  rintro i ts os ⟨rfl, v23, h, rfl, rfl⟩
  conv => whnf
  refine CutK.go ?_
  conv => whnf
  cases h
  exact Done.of [some 67001] [] rfl rfl ⟨⟨rfl, rfl⟩, ⟨rfl, ⟨rfl, rfl, rows_same⟩, trivial⟩, ⟨⟨rfl, rfl⟩, trivial⟩, trivial⟩
def spec_suFrom : Nat → Rw → Option Rw
  | 0, _ => none
  | k + 1, a1 => spec_suFrom_b (spec_suFrom k) a1
theorem spec_suFrom_ct' : ∀ (k : Nat) (a1 : Rw) (r : Rw), spec_suFrom k a1 = some r → Ct prog 70 [.agg [.d (D.sl a1)]] (⟨[], []⟩) (.agg [.os 8 r.length]) (⟨[], [(109, true, r)]⟩)
  | 0, _, _, h => by rw [spec_suFrom] at h; cases h
  | k + 1, _, _, h => by rw [spec_suFrom] at h; exact spec_suFrom_b_ct (spec_suFrom_ct' k) h
theorem spec_suFrom_ct {k : Nat} {a1 : Rw} {r : Rw} (h : spec_suFrom k a1 = some r) : Ct prog 70 [.agg [.d (D.sl a1)]] (⟨[], []⟩) (.agg [.os 8 r.length]) (⟨[], [(109, true, r)]⟩) := spec_suFrom_ct' k _ _ h

def spec_FromOrdinal (k : Nat) (a1 : Rw) : Option (Rw × Bool) :=
  ((spec_odGood k a1).bind fun y2 => (if y2 = true then ((spec_suFrom k a1).bind fun y5 => some (y5, true)) else some (([] : Rw), false)))
set_option maxHeartbeats 4000000 in
set_option maxRecDepth 100000 in
theorem spec_FromOrdinal_ct {k : Nat} {a1 : Rw} {r : Rw × Bool} (h : spec_FromOrdinal k a1 = some r) : Ct prog 29 [.agg [.d (D.sl a1)]] (⟨[], []⟩) (.tup [.agg [.os 8 r.1.length], .d (D.bool r.2)]) (⟨[], [(109, true, r.1)]⟩) := by
  rw [spec_FromOrdinal] at h
  refine Ct.of (c := _) mixed func29 ⟨rfl, rfl, rfl⟩ ?_ rfl
  conv => whnf
  obtain ⟨y2, e3, h⟩ := bind_ex h
  refine CallOk.of (spec_odGood_ct e3) ?_
  conv => whnf
  refine spl (fun g4 => ?_) (fun g4 => ?_)
  · replace h := iteT h g4
    conv => whnf
    refine CutK.go ?_
    conv => whnf
    refine CutK.go ?_
    conv => whnf
    obtain ⟨y5, e6, h⟩ := bind_ex h
    refine CallOk.of (spec_suFrom_ct e6) ?_
    conv => whnf
    refine CutK.go ?_
    conv => whnf
    cases h
    exact Done.of [some 576] [] rfl rfl ⟨⟨rfl, rfl⟩, ⟨rfl, ⟨rfl, rfl, rows_same⟩, trivial⟩, ⟨⟨⟨rfl, rfl⟩, trivial⟩, rfl, trivial⟩, trivial⟩
  · replace h := iteF h g4
    conv => whnf
    refine CutK.go ?_
    conv => whnf
    cases h
    exact Done.of [none] [] rfl rfl ⟨⟨rfl, rfl⟩, ⟨rfl, rfl, trivial⟩, ⟨⟨⟨rfl, rfl⟩, trivial⟩, rfl, trivial⟩, trivial⟩

def laws_szOrdinalTerm (rec_laws_szOrdinal : Rw → Int → Option Int) (a1 : Rw) (a2 : Int) (a3 : Int) : Option Int :=
  ((rec_laws_szOrdinal a1 a3).bind fun y4 => (if y4 < (0 : Int) then some (-1) else some y4))
set_option maxHeartbeats 4000000 in
set_option maxRecDepth 100000 in
theorem laws_szOrdinalTerm_ct {rec_laws_szOrdinal : Rw → Int → Option Int} (hrec_laws_szOrdinal : ∀ (a1 : Rw) (a2 : Int) (r : Int), rec_laws_szOrdinal a1 a2 = some r → Ct prog 8 [.agg [.d (D.sl a1)], .d (D.int .i64 a2)] (⟨[], []⟩) (.d (D.int .i64 r)) (⟨[], []⟩)) {a1 : Rw} {a2 : Int} {a3 : Int} {r : Int} (h : laws_szOrdinalTerm rec_laws_szOrdinal a1 a2 a3 = some r) : Ct prog 76 [.agg [.d (D.sl a1), .d (D.int .i64 a2)], .d (D.int .i64 a3)] (⟨[], []⟩) (.d (D.int .i64 r)) (⟨[], []⟩) := by
  rw [laws_szOrdinalTerm] at h
  refine Ct.of (c := _) mixed func76 ⟨rfl, rfl, rfl⟩ ?_ rfl
  conv => whnf
  obtain ⟨y4, e5, h⟩ := bind_ex h
  refine CallOk.of (hrec_laws_szOrdinal _ _ _ e5) ?_
  conv => whnf
  refine CutK.go ?_
  conv => whnf
  refine splD (fun g6 => ?_) (fun g6 => ?_)
  · replace h := iteP h g6
    conv => whnf
    cases h
    exact Done.of [] [] rfl rfl ⟨⟨rfl, rfl⟩, ⟨rfl, trivial⟩, rfl, trivial⟩
  · replace h := iteN h g6
    conv => whnf
    cases h
    exact Done.of [] [] rfl rfl ⟨⟨rfl, rfl⟩, ⟨rfl, trivial⟩, rfl, trivial⟩

def laws_szOrdinalTermS_l0 (rec_laws_szOrdinal : Rw → Int → Option Int) (a1 : Rw) (K0 : Int → Option Int) : Rw → Int → Option Int
  | [], v12 => (K0 v12)
  | cs :: rest, v12 => (cell_si cs fun x31 x32 => ((laws_szOrdinalTerm rec_laws_szOrdinal x31 x32 v12).bind fun y34 => (if y34 < (0 : Int) then some (-1) else (laws_szOrdinalTermS_l0 rec_laws_szOrdinal a1 K0 rest y34))))
set_option maxRecDepth 100000 in
theorem laws_szOrdinalTermS_l0_ct {rec_laws_szOrdinal : Rw → Int → Option Int} {a1 : Rw} {K0 : Int → Option Int} (hrec_laws_szOrdinal : ∀ (a1 : Rw) (a2 : Int) (r : Int), rec_laws_szOrdinal a1 a2 = some r → Ct prog 8 [.agg [.d (D.sl a1)], .d (D.int .i64 a2)] (⟨[], []⟩) (.d (D.int .i64 r)) (⟨[], []⟩)) {r : Int} (hx : a1.length ≤ cap) : ∀ (rest : Rw) (v13n : Nat) (v12 : Int), a1.drop v13n = rest → laws_szOrdinalTermS_l0 rec_laws_szOrdinal a1 K0 rest v12 = some r → LoopOk prog 0 (lp f34 0) (mk 27 [(0, .d (D.sl a1)), (1, .d (D.int .i64 v12)), (5, .d (D.int .i64 (v13n : Int)))] []) (LoopEnd prog f34 0 27 (.d (D.int .i64 r)) (⟨[], []⟩) (fun i ts os => (i = 0 ∧ ∃ v22 : Int, K0 v22 = some r ∧ ts = [(1, .d (D.int .i64 v22))] ∧ os = [])))
  | [], v13n, v12, hd, h => by
      rw [laws_szOrdinalTermS_l0] at h
      have hn := drop_nil hd
      refine LoopOk.step ?_
      conv => whnf
      refine splD (fun g => absurd g hn) (fun _ => ?_)
      conv => whnf
      exact ⟨_, _, [], [], ⟨rfl, _, h, rfl, rfl⟩, ⟨⟨rfl, rfl⟩, ⟨rfl, trivial⟩, rfl, trivial⟩⟩
  | cs :: rest, v13n, v12, hd, h => by
      rw [laws_szOrdinalTermS_l0] at h
      obtain ⟨hrow, hd1, hlt⟩ := drop_cons hd
      refine LoopOk.step ?_
      conv => whnf
      refine splD (fun _ => ?_) (fun g => absurd hlt g)
      conv => whnf
      obtain ⟨x31, x32, e33, h⟩ := cell_si_ex h
      rw [e33] at hrow
      refine Req.of (Int.natCast_nonneg _) ?_
      refine Row.of _ hrow ?_
      conv => whnf
      obtain ⟨y34, e35, h⟩ := bind_ex h
      refine CallOk.of (laws_szOrdinalTerm_ct hrec_laws_szOrdinal e35) ?_
      conv => whnf
      refine CutK.go ?_
      conv => whnf
      refine splD (fun g36 => ?_) (fun g36 => ?_)
      · replace h := iteP h g36
        conv => whnf
        cases h
        exact Done.of [] [] rfl rfl ⟨⟨rfl, rfl⟩, ⟨rfl, trivial⟩, rfl, trivial⟩
      · replace h := iteN h g36
        conv => whnf
        refine CutK.go ?_
        conv => whnf
        exact LoopOk.back (laws_szOrdinalTermS_l0_ct hrec_laws_szOrdinal hx rest (v13n + 1) _ hd1 h) [] [] ⟨⟨rfl, rfl⟩, ⟨rfl, trivial⟩, rfl, rfl, i64eq (wrap_up hlt hx), trivial⟩
def laws_szOrdinalTermS (rec_laws_szOrdinal : Rw → Int → Option Int) (a1 : Rw) (a2 : Int) : Option Int :=
  (if (IntKind.i64.wrap (a2 - (a1.length : Int))) < (0 : Int) then some (-1) else (if a1.length ≤ cap then (laws_szOrdinalTermS_l0 rec_laws_szOrdinal a1 (fun (v22 : Int) => some v22) a1 (IntKind.i64.wrap (a2 - (a1.length : Int)))) else none))
set_option maxHeartbeats 4000000 in
set_option maxRecDepth 100000 in
theorem laws_szOrdinalTermS_ct {rec_laws_szOrdinal : Rw → Int → Option Int} (hrec_laws_szOrdinal : ∀ (a1 : Rw) (a2 : Int) (r : Int), rec_laws_szOrdinal a1 a2 = some r → Ct prog 8 [.agg [.d (D.sl a1)], .d (D.int .i64 a2)] (⟨[], []⟩) (.d (D.int .i64 r)) (⟨[], []⟩)) {a1 : Rw} {a2 : Int} {r : Int} (h : laws_szOrdinalTermS rec_laws_szOrdinal a1 a2 = some r) : Ct prog 34 [.d (D.sl a1), .d (D.int .i64 a2)] (⟨[], []⟩) (.d (D.int .i64 r)) (⟨[], []⟩) := by
  rw [laws_szOrdinalTermS] at h
  refine Ct.of (c := _) mixed func34 ⟨rfl, rfl, rfl⟩ ?_ rfl
  conv => whnf
  refine splD (fun g3 => ?_) (fun g3 => ?_)
  · replace h := iteP h g3
    conv => whnf
    cases h
    exact Done.of [] [] rfl rfl ⟨⟨rfl, rfl⟩, ⟨rfl, trivial⟩, rfl, trivial⟩
  · replace h := iteN h g3
    conv => whnf
    obtain ⟨g37, h⟩ := req_ex h
    refine LoopOk.into (laws_szOrdinalTermS_l0_ct hrec_laws_szOrdinal g37 _ _ _ rfl h) [] [] ⟨⟨rfl, rfl⟩, ⟨rfl, trivial⟩, rfl, rfl, rfl, trivial⟩ ?_ (fun _ hs => hs)
    rintro i ts os ⟨rfl, v22, h, rfl, rfl⟩
    conv => whnf
    refine CutK.go ?_
    conv => whnf
    cases h
    exact Done.of [] [] rfl rfl ⟨⟨rfl, rfl⟩, ⟨rfl, trivial⟩, rfl, trivial⟩

def laws_szOrdinal_b (rec_laws_szOrdinal : Rw → Int → Option Int) (a1 : Rw) (a2 : Int) : Option Int :=
  ((laws_szOrdinalTermS rec_laws_szOrdinal a1 a2).bind fun y3 => (if y3 < (0 : Int) then some (-1) else some y3))
set_option maxHeartbeats 4000000 in
set_option maxRecDepth 100000 in
theorem laws_szOrdinal_b_ct {rec_laws_szOrdinal : Rw → Int → Option Int} (hrec_laws_szOrdinal : ∀ (a1 : Rw) (a2 : Int) (r : Int), rec_laws_szOrdinal a1 a2 = some r → Ct prog 8 [.agg [.d (D.sl a1)], .d (D.int .i64 a2)] (⟨[], []⟩) (.d (D.int .i64 r)) (⟨[], []⟩)) {a1 : Rw} {a2 : Int} {r : Int} (h : laws_szOrdinal_b rec_laws_szOrdinal a1 a2 = some r) : Ct prog 8 [.agg [.d (D.sl a1)], .d (D.int .i64 a2)] (⟨[], []⟩) (.d (D.int .i64 r)) (⟨[], []⟩) := by
  rw [laws_szOrdinal_b] at h
  refine Ct.of (c := _) mixed func8 ⟨rfl, rfl, rfl⟩ ?_ rfl
  conv => whnf
  obtain ⟨y3, e4, h⟩ := bind_ex h
  refine CallOk.of (laws_szOrdinalTermS_ct hrec_laws_szOrdinal e4) ?_
  conv => whnf
  refine CutK.go ?_
  conv => whnf
  refine splD (fun g5 => ?_) (fun g5 => ?_)
  · replace h := iteP h g5
    conv => whnf
    cases h
    exact Done.of [] [] rfl rfl ⟨⟨rfl, rfl⟩, ⟨rfl, trivial⟩, rfl, trivial⟩
  · replace h := iteN h g5
    conv => whnf
    cases h
    exact Done.of [] [] rfl rfl ⟨⟨rfl, rfl⟩, ⟨rfl, trivial⟩, rfl, trivial⟩
def laws_szOrdinal : Nat → Rw → Int → Option Int
  | 0, _, _ => none
  | k + 1, a1, a2 => laws_szOrdinal_b (laws_szOrdinal k) a1 a2
theorem laws_szOrdinal_ct' : ∀ (k : Nat) (a1 : Rw) (a2 : Int) (r : Int), laws_szOrdinal k a1 a2 = some r → Ct prog 8 [.agg [.d (D.sl a1)], .d (D.int .i64 a2)] (⟨[], []⟩) (.d (D.int .i64 r)) (⟨[], []⟩)
  | 0, _, _, _, h => by rw [laws_szOrdinal] at h; cases h
  | k + 1, _, _, _, h => by rw [laws_szOrdinal] at h; exact laws_szOrdinal_b_ct (laws_szOrdinal_ct' k) h
theorem laws_szOrdinal_ct {k : Nat} {a1 : Rw} {a2 : Int} {r : Int} (h : laws_szOrdinal k a1 a2 = some r) : Ct prog 8 [.agg [.d (D.sl a1)], .d (D.int .i64 a2)] (⟨[], []⟩) (.d (D.int .i64 r)) (⟨[], []⟩) := laws_szOrdinal_ct' k _ _ _ h

def laws_FnExactFromOrdinal_p22 (o164 : Int) (o165 : Int) : Option Bool :=
  (if o165 < (0 : Int) then some false else (if o165 = o164 then some true else some false))
set_option maxHeartbeats 4000000 in
set_option maxRecDepth 100000 in
theorem laws_FnExactFromOrdinal_p22_ct {o164 : Int} {o165 : Int} {r : Bool} (h : laws_FnExactFromOrdinal_p22 o164 o165 = some r) : X prog 0 (tlF f7 22) (mk 96 [(10, .d (D.int .i64 o164)), (11, .d (D.int .i64 o165))] []) (finK prog f7 0 (.d (D.bool r)) (⟨[], []⟩)) := by
  rw [laws_FnExactFromOrdinal_p22] at h
  conv => whnf
  refine splD (fun g168 => ?_) (fun g168 => ?_)
  · replace h := iteP h g168
    conv => whnf
    cases h
    exact Done.of [] [] rfl rfl ⟨⟨rfl, rfl⟩, ⟨rfl, trivial⟩, rfl, trivial⟩
  · replace h := iteN h g168
    conv => whnf
    refine splN (fun g169 => ?_) (fun g169 => ?_)
    · replace h := iteN h g169
      conv => whnf
      cases h
      exact Done.of [] [] rfl rfl ⟨⟨rfl, rfl⟩, ⟨rfl, trivial⟩, rfl, trivial⟩
    · replace h := iteP h g169
      conv => whnf
      cases h
      exact Done.of [] [] rfl rfl ⟨⟨rfl, rfl⟩, ⟨rfl, trivial⟩, rfl, trivial⟩
def laws_FnExactFromOrdinal_p20 (k : Nat) (o151 : Int) (o152 : Rw) : Option Bool :=
  ((laws_heldSurreal k o152 1).bind fun y170 => (laws_FnExactFromOrdinal_p22 o151 y170))
set_option maxHeartbeats 4000000 in
set_option maxRecDepth 100000 in
theorem laws_FnExactFromOrdinal_p20_ct {k : Nat} {o151 : Int} {o152 : Rw} {r : Bool} (h : laws_FnExactFromOrdinal_p20 k o151 o152 = some r) : X prog 0 (tlF f7 20) (mk 96 [(7, .ptr 448 0), (10, .d (D.int .i64 o151))] [(448, .box 49 [.os 1164000 o152.length]), (1164000, .arr 109 true o152)]) (finK prog f7 0 (.d (D.bool r)) (⟨[], []⟩)) := by
  rw [laws_FnExactFromOrdinal_p20] at h
  conv => whnf
  refine Choice.old ?_
  conv => whnf
  refine Take.all (rfl) ?_
  conv => whnf
  obtain ⟨y170, e171, h⟩ := bind_ex h
  refine CallOk.of (laws_heldSurreal_ct e171) ?_
  conv => whnf
  exact CutK.piece (laws_FnExactFromOrdinal_p22_ct  h) [] [] ⟨⟨rfl, rfl⟩, ⟨rfl, trivial⟩, rfl, rfl, trivial⟩
def laws_FnExactFromOrdinal_p19 (k : Nat) (o135 : Int) (o136 : Rw) (o137 : Rw) (o138 : Rw) (v139 : Bool) (v147 : Bool) : Option Bool :=
  (cond v139 (cond v147 ((laws_eqSurreal k o138 o136).bind fun y181 => (if y181 = true then (laws_FnExactFromOrdinal_p20 k o135 o137) else some false)) ((laws_eqSurreal k o138 o136).bind fun y178 => (if y178 = true then some false else some false))) (cond v147 ((laws_eqSurreal k o138 o136).bind fun y175 => (if y175 = true then some false else some false)) ((laws_eqSurreal k o138 o136).bind fun y172 => (if y172 = true then (laws_FnExactFromOrdinal_p20 k o135 o137) else some false))))
set_option maxHeartbeats 4000000 in
set_option maxRecDepth 100000 in
theorem laws_FnExactFromOrdinal_p19_ct {k : Nat} {o135 : Int} {o136 : Rw} {o137 : Rw} {o138 : Rw} {v139 : Bool} {v147 : Bool} {r : Bool} (h : laws_FnExactFromOrdinal_p19 k o135 o136 o137 o138 v139 v147 = some r) : X prog 0 (tlF f7 19) (mk 96 [(4, .ptr 256 0), (5, .d (D.bool v147)), (7, .ptr 448 0), (10, .d (D.int .i64 o135)), (12, .ptr 768 0), (13, .d (D.bool v139))] [(256, .box 49 [.os 1159000 o136.length]), (448, .box 49 [.os 1159001 o137.length]), (768, .box 49 [.os 1159002 o138.length]), (1159000, .arr 109 true o136), (1159001, .arr 109 true o137), (1159002, .arr 109 true o138)]) (finK prog f7 0 (.d (D.bool r)) (⟨[], []⟩)) := by
  rw [laws_FnExactFromOrdinal_p19] at h
  cases v139
  · replace h := condF h
    cases v147
    · replace h := condF h
      conv => whnf
      refine Take.all (rfl) ?_
      conv => whnf
      refine Take.all (rfl) ?_
      conv => whnf
      obtain ⟨y172, e173, h⟩ := bind_ex h
      refine CallOk.of (laws_eqSurreal_ct e173) ?_
      conv => whnf
      refine spl (fun g174 => ?_) (fun g174 => ?_)
      · replace h := iteT h g174
        conv => whnf
        refine splF ?_
        conv => whnf
        refine CutK.norm [7, 10, 87] [448, 1159001] ?_
        conv => whnf
        exact CutK.piece (laws_FnExactFromOrdinal_p20_ct  h) [some 448, some 1159001] [] ⟨⟨rfl, rfl⟩, ⟨rfl, ⟨rfl, ⟨rfl, rfl⟩, trivial⟩, ⟨rfl, rfl, rows_same⟩, trivial⟩, ⟨rfl, rfl⟩, rfl, trivial⟩
      · replace h := iteF h g174
        conv => whnf
        refine CutK.norm [7, 10, 87] [448, 1159001] ?_
        conv => whnf
        cases h
        exact Done.of [] [] rfl rfl ⟨⟨rfl, rfl⟩, ⟨rfl, trivial⟩, rfl, trivial⟩
    · replace h := condT h
      conv => whnf
      refine Take.all (rfl) ?_
      conv => whnf
      refine Take.all (rfl) ?_
      conv => whnf
      obtain ⟨y175, e176, h⟩ := bind_ex h
      refine CallOk.of (laws_eqSurreal_ct e176) ?_
      conv => whnf
      refine spl (fun g177 => ?_) (fun g177 => ?_)
      · replace h := iteT h g177
        conv => whnf
        refine splT ?_
        conv => whnf
        refine CutK.norm [7, 10, 87] [448, 1159001] ?_
        conv => whnf
        cases h
        exact Done.of [] [] rfl rfl ⟨⟨rfl, rfl⟩, ⟨rfl, trivial⟩, rfl, trivial⟩
      · replace h := iteF h g177
        conv => whnf
        refine CutK.norm [7, 10, 87] [448, 1159001] ?_
        conv => whnf
        cases h
        exact Done.of [] [] rfl rfl ⟨⟨rfl, rfl⟩, ⟨rfl, trivial⟩, rfl, trivial⟩
  · replace h := condT h
    cases v147
    · replace h := condF h
      conv => whnf
      refine Take.all (rfl) ?_
      conv => whnf
      refine Take.all (rfl) ?_
      conv => whnf
      obtain ⟨y178, e179, h⟩ := bind_ex h
      refine CallOk.of (laws_eqSurreal_ct e179) ?_
      conv => whnf
      refine spl (fun g180 => ?_) (fun g180 => ?_)
      · replace h := iteT h g180
        conv => whnf
        refine splT ?_
        conv => whnf
        refine CutK.norm [7, 10, 87] [448, 1159001] ?_
        conv => whnf
        cases h
        exact Done.of [] [] rfl rfl ⟨⟨rfl, rfl⟩, ⟨rfl, trivial⟩, rfl, trivial⟩
      · replace h := iteF h g180
        conv => whnf
        refine CutK.norm [7, 10, 87] [448, 1159001] ?_
        conv => whnf
        cases h
        exact Done.of [] [] rfl rfl ⟨⟨rfl, rfl⟩, ⟨rfl, trivial⟩, rfl, trivial⟩
    · replace h := condT h
      conv => whnf
      refine Take.all (rfl) ?_
      conv => whnf
      refine Take.all (rfl) ?_
      conv => whnf
      obtain ⟨y181, e182, h⟩ := bind_ex h
      refine CallOk.of (laws_eqSurreal_ct e182) ?_
      conv => whnf
      refine spl (fun g183 => ?_) (fun g183 => ?_)
      · replace h := iteT h g183
        conv => whnf
        refine splF ?_
        conv => whnf
        refine CutK.norm [7, 10, 87] [448, 1159001] ?_
        conv => whnf
        exact CutK.piece (laws_FnExactFromOrdinal_p20_ct  h) [some 448, some 1159001] [] ⟨⟨rfl, rfl⟩, ⟨rfl, ⟨rfl, ⟨rfl, rfl⟩, trivial⟩, ⟨rfl, rfl, rows_same⟩, trivial⟩, ⟨rfl, rfl⟩, rfl, trivial⟩
      · replace h := iteF h g183
        conv => whnf
        refine CutK.norm [7, 10, 87] [448, 1159001] ?_
        conv => whnf
        cases h
        exact Done.of [] [] rfl rfl ⟨⟨rfl, rfl⟩, ⟨rfl, trivial⟩, rfl, trivial⟩
def laws_FnExactFromOrdinal_p16 (k : Nat) (a1 : Rw) (o121 : Int) (o122 : Int) (o123 : Rw) (o124 : Rw) (v127 : Bool) : Option Bool :=
  (cond v127 (if o122 < (0 : Int) then some false else (if o122 = o121 then ((laws_toOrdinal k a1).bind fun y193 => ((impl_FromOrdinal k y193).bind fun y195 => (if y195.2 = true then (laws_FnExactFromOrdinal_p19 k o121 o123 o124 y195.1 true true) else (laws_FnExactFromOrdinal_p19 k o121 o123 o124 y195.1 false true)))) else some false)) (if o122 < (0 : Int) then some false else (if o122 = o121 then ((laws_toOrdinal k a1).bind fun y186 => ((impl_FromOrdinal k y186).bind fun y188 => (if y188.2 = true then (laws_FnExactFromOrdinal_p19 k o121 o123 o124 y188.1 true false) else (laws_FnExactFromOrdinal_p19 k o121 o123 o124 y188.1 false false)))) else some false)))
set_option maxHeartbeats 4000000 in
set_option maxRecDepth 100000 in
theorem laws_FnExactFromOrdinal_p16_ct {k : Nat} {a1 : Rw} {o121 : Int} {o122 : Int} {o123 : Rw} {o124 : Rw} {v127 : Bool} {r : Bool} (h : laws_FnExactFromOrdinal_p16 k a1 o121 o122 o123 o124 v127 = some r) : X prog 0 (tlF f7 16) (mk 96 [(1, .ptr 64 0), (4, .ptr 256 0), (5, .d (D.bool v127)), (7, .ptr 448 0), (10, .d (D.int .i64 o121)), (11, .d (D.int .i64 o122))] [(64, .box 24 [.d (D.sl a1)]), (256, .box 49 [.os 1144000 o123.length]), (448, .box 49 [.os 1144001 o124.length]), (1144000, .arr 109 true o123), (1144001, .arr 109 true o124)]) (finK prog f7 0 (.d (D.bool r)) (⟨[], []⟩)) := by
  rw [laws_FnExactFromOrdinal_p16] at h
  cases v127
  · replace h := condF h
    conv => whnf
    refine splD (fun g184 => ?_) (fun g184 => ?_)
    · replace h := iteP h g184
      conv => whnf
      cases h
      exact Done.of [] [] rfl rfl ⟨⟨rfl, rfl⟩, ⟨rfl, trivial⟩, rfl, trivial⟩
    · replace h := iteN h g184
      conv => whnf
      refine splN (fun g185 => ?_) (fun g185 => ?_)
      · replace h := iteN h g185
        conv => whnf
        cases h
        exact Done.of [] [] rfl rfl ⟨⟨rfl, rfl⟩, ⟨rfl, trivial⟩, rfl, trivial⟩
      · replace h := iteP h g185
        conv => whnf
        obtain ⟨y186, e187, h⟩ := bind_ex h
        refine CallOk.of (laws_toOrdinal_ct e187) ?_
        conv => whnf
        refine Take.all (rfl) ?_
        conv => whnf
        obtain ⟨y188, e189, h⟩ := bind_ex h
        refine CallOk.of (impl_FromOrdinal_ct e189) ?_
        conv => whnf
        refine spl (fun g190 => ?_) (fun g190 => ?_)
        · replace h := iteT h g190
          conv => whnf
          exact CutK.piece (laws_FnExactFromOrdinal_p19_ct  h) [some 256, some 448, some 768, some 1144000, some 1144001, some 4864] [] ⟨⟨rfl, rfl⟩, ⟨rfl, ⟨rfl, ⟨rfl, rfl⟩, trivial⟩, ⟨rfl, ⟨rfl, rfl⟩, trivial⟩, ⟨rfl, ⟨rfl, rfl⟩, trivial⟩, ⟨rfl, rfl, rows_same⟩, ⟨rfl, rfl, rows_same⟩, ⟨rfl, rfl, rows_same⟩, trivial⟩, ⟨rfl, rfl⟩, rfl, ⟨rfl, rfl⟩, rfl, ⟨rfl, rfl⟩, rfl, trivial⟩
        · replace h := iteF h g190
          conv => whnf
          exact CutK.piece (laws_FnExactFromOrdinal_p19_ct  h) [some 256, some 448, some 768, some 1144000, some 1144001, some 4864] [] ⟨⟨rfl, rfl⟩, ⟨rfl, ⟨rfl, ⟨rfl, rfl⟩, trivial⟩, ⟨rfl, ⟨rfl, rfl⟩, trivial⟩, ⟨rfl, ⟨rfl, rfl⟩, trivial⟩, ⟨rfl, rfl, rows_same⟩, ⟨rfl, rfl, rows_same⟩, ⟨rfl, rfl, rows_same⟩, trivial⟩, ⟨rfl, rfl⟩, rfl, ⟨rfl, rfl⟩, rfl, ⟨rfl, rfl⟩, rfl, trivial⟩
  · replace h := condT h
    conv => whnf
    refine splD (fun g191 => ?_) (fun g191 => ?_)
    · replace h := iteP h g191
      conv => whnf
      cases h
      exact Done.of [] [] rfl rfl ⟨⟨rfl, rfl⟩, ⟨rfl, trivial⟩, rfl, trivial⟩
    · replace h := iteN h g191
      conv => whnf
      refine splN (fun g192 => ?_) (fun g192 => ?_)
      · replace h := iteN h g192
        conv => whnf
        cases h
        exact Done.of [] [] rfl rfl ⟨⟨rfl, rfl⟩, ⟨rfl, trivial⟩, rfl, trivial⟩
      · replace h := iteP h g192
        conv => whnf
        obtain ⟨y193, e194, h⟩ := bind_ex h
        refine CallOk.of (laws_toOrdinal_ct e194) ?_
        conv => whnf
        refine Take.all (rfl) ?_
        conv => whnf
        obtain ⟨y195, e196, h⟩ := bind_ex h
        refine CallOk.of (impl_FromOrdinal_ct e196) ?_
        conv => whnf
        refine spl (fun g197 => ?_) (fun g197 => ?_)
        · replace h := iteT h g197
          conv => whnf
          exact CutK.piece (laws_FnExactFromOrdinal_p19_ct  h) [some 256, some 448, some 768, some 1144000, some 1144001, some 4864] [] ⟨⟨rfl, rfl⟩, ⟨rfl, ⟨rfl, ⟨rfl, rfl⟩, trivial⟩, ⟨rfl, ⟨rfl, rfl⟩, trivial⟩, ⟨rfl, ⟨rfl, rfl⟩, trivial⟩, ⟨rfl, rfl, rows_same⟩, ⟨rfl, rfl, rows_same⟩, ⟨rfl, rfl, rows_same⟩, trivial⟩, ⟨rfl, rfl⟩, rfl, ⟨rfl, rfl⟩, rfl, ⟨rfl, rfl⟩, rfl, trivial⟩
        · replace h := iteF h g197
          conv => whnf
          exact CutK.piece (laws_FnExactFromOrdinal_p19_ct  h) [some 256, some 448, some 768, some 1144000, some 1144001, some 4864] [] ⟨⟨rfl, rfl⟩, ⟨rfl, ⟨rfl, ⟨rfl, rfl⟩, trivial⟩, ⟨rfl, ⟨rfl, rfl⟩, trivial⟩, ⟨rfl, ⟨rfl, rfl⟩, trivial⟩, ⟨rfl, rfl, rows_same⟩, ⟨rfl, rfl, rows_same⟩, ⟨rfl, rfl, rows_same⟩, trivial⟩, ⟨rfl, rfl⟩, rfl, ⟨rfl, rfl⟩, rfl, ⟨rfl, rfl⟩, rfl, trivial⟩
def laws_FnExactFromOrdinal_p14 (k : Nat) (a1 : Rw) (o112 : Int) (o113 : Rw) (o114 : Rw) (v118 : Bool) : Option Bool :=
  (cond v118 ((laws_heldSurreal k o114 1).bind fun y200 => (laws_FnExactFromOrdinal_p16 k a1 o112 y200 o113 o114 true)) ((laws_heldSurreal k o114 1).bind fun y198 => (laws_FnExactFromOrdinal_p16 k a1 o112 y198 o113 o114 false)))
set_option maxHeartbeats 4000000 in
set_option maxRecDepth 100000 in
theorem laws_FnExactFromOrdinal_p14_ct {k : Nat} {a1 : Rw} {o112 : Int} {o113 : Rw} {o114 : Rw} {v118 : Bool} {r : Bool} (h : laws_FnExactFromOrdinal_p14 k a1 o112 o113 o114 v118 = some r) : X prog 0 (tlF f7 14) (mk 96 [(1, .ptr 64 0), (4, .ptr 256 0), (5, .d (D.bool v118)), (7, .ptr 448 0), (10, .d (D.int .i64 o112))] [(64, .box 24 [.d (D.sl a1)]), (256, .box 49 [.os 1134000 o113.length]), (448, .box 49 [.os 1134001 o114.length]), (1134000, .arr 109 true o113), (1134001, .arr 109 true o114)]) (finK prog f7 0 (.d (D.bool r)) (⟨[], []⟩)) := by
  rw [laws_FnExactFromOrdinal_p14] at h
  cases v118
  · replace h := condF h
    conv => whnf
    refine Choice.old ?_
    conv => whnf
    refine Take.all (rfl) ?_
    conv => whnf
    obtain ⟨y198, e199, h⟩ := bind_ex h
    refine CallOk.of (laws_heldSurreal_ct e199) ?_
    conv => whnf
    exact CutK.piece (laws_FnExactFromOrdinal_p16_ct  h) [some 64, some 256, some 448, some 1134000, some 1134001] [] ⟨⟨rfl, rfl⟩, ⟨rfl, ⟨rfl, rfl, trivial⟩, ⟨rfl, ⟨rfl, rfl⟩, trivial⟩, ⟨rfl, ⟨rfl, rfl⟩, trivial⟩, ⟨rfl, rfl, rows_same⟩, ⟨rfl, rfl, rows_same⟩, trivial⟩, ⟨rfl, rfl⟩, ⟨rfl, rfl⟩, rfl, ⟨rfl, rfl⟩, rfl, rfl, trivial⟩
  · replace h := condT h
    conv => whnf
    refine Choice.old ?_
    conv => whnf
    refine Take.all (rfl) ?_
    conv => whnf
    obtain ⟨y200, e201, h⟩ := bind_ex h
    refine CallOk.of (laws_heldSurreal_ct e201) ?_
    conv => whnf
    exact CutK.piece (laws_FnExactFromOrdinal_p16_ct  h) [some 64, some 256, some 448, some 1134000, some 1134001] [] ⟨⟨rfl, rfl⟩, ⟨rfl, ⟨rfl, rfl, trivial⟩, ⟨rfl, ⟨rfl, rfl⟩, trivial⟩, ⟨rfl, ⟨rfl, rfl⟩, trivial⟩, ⟨rfl, rfl, rows_same⟩, ⟨rfl, rfl, rows_same⟩, trivial⟩, ⟨rfl, rfl⟩, ⟨rfl, rfl⟩, rfl, ⟨rfl, rfl⟩, rfl, rfl, trivial⟩
def laws_FnExactFromOrdinal_p12 (k : Nat) (a1 : Rw) (o94 : Rw) (o95 : Rw) (v108 : Bool) : Option Bool :=
  (cond v108 ((laws_markSurreal k o95 1).bind fun y205 => (if y205.2.length = o95.length then (laws_FnExactFromOrdinal_p14 k a1 y205.1 o94 y205.2 true) else none)) ((laws_markSurreal k o95 1).bind fun y202 => (if y202.2.length = o95.length then (laws_FnExactFromOrdinal_p14 k a1 y202.1 o94 y202.2 false) else none)))
set_option maxHeartbeats 4000000 in
set_option maxRecDepth 100000 in
theorem laws_FnExactFromOrdinal_p12_ct {k : Nat} {a1 : Rw} {o94 : Rw} {o95 : Rw} {v108 : Bool} {r : Bool} (h : laws_FnExactFromOrdinal_p12 k a1 o94 o95 v108 = some r) : X prog 0 (tlF f7 12) (mk 96 [(1, .ptr 64 0), (4, .ptr 256 0), (5, .d (D.bool v108)), (7, .ptr 448 0)] [(64, .box 24 [.d (D.sl a1)]), (256, .box 49 [.os 1124000 o94.length]), (448, .box 49 [.os 1124001 o95.length]), (1124000, .arr 109 true o94), (1124001, .arr 109 true o95)]) (finK prog f7 0 (.d (D.bool r)) (⟨[], []⟩)) := by
  rw [laws_FnExactFromOrdinal_p12] at h
  cases v108
  · replace h := condF h
    conv => whnf
    refine Choice.new ?_
    conv => whnf
    refine Req.of (rfl) ?_
    conv => whnf
    obtain ⟨y202, e203, h⟩ := bind_ex h
    refine MarkOk.of (laws_markSurreal_ct e203) ?_
    conv => whnf
    obtain ⟨g204, h⟩ := req_ex h
    exact CutK.piece (laws_FnExactFromOrdinal_p14_ct  h) [some 64, some 256, some 448, some 1124000, some 1124001] [] ⟨⟨rfl, rfl⟩, ⟨rfl, ⟨rfl, rfl, trivial⟩, ⟨rfl, ⟨rfl, rfl⟩, trivial⟩, ⟨rfl, ⟨(by first | rfl | exact List.length_append.symm | (simp; done) | omega), rfl⟩, trivial⟩, ⟨rfl, rfl, rows_same⟩, ⟨rfl, rfl, rows_same⟩, trivial⟩, ⟨rfl, rfl⟩, ⟨rfl, rfl⟩, rfl, ⟨rfl, rfl⟩, rfl, trivial⟩
  · replace h := condT h
    conv => whnf
    refine Choice.new ?_
    conv => whnf
    refine Req.of (rfl) ?_
    conv => whnf
    obtain ⟨y205, e206, h⟩ := bind_ex h
    refine MarkOk.of (laws_markSurreal_ct e206) ?_
    conv => whnf
    obtain ⟨g207, h⟩ := req_ex h
    exact CutK.piece (laws_FnExactFromOrdinal_p14_ct  h) [some 64, some 256, some 448, some 1124000, some 1124001] [] ⟨⟨rfl, rfl⟩, ⟨rfl, ⟨rfl, rfl, trivial⟩, ⟨rfl, ⟨rfl, rfl⟩, trivial⟩, ⟨rfl, ⟨(by first | rfl | exact List.length_append.symm | (simp; done) | omega), rfl⟩, trivial⟩, ⟨rfl, rfl, rows_same⟩, ⟨rfl, rfl, rows_same⟩, trivial⟩, ⟨rfl, rfl⟩, ⟨rfl, rfl⟩, rfl, ⟨rfl, rfl⟩, rfl, trivial⟩
def laws_FnExactFromOrdinal_p11 (k : Nat) (a1 : Rw) (o76 : Int) (o77 : Rw) (o78 : Rw) (v82 : Bool) (v86 : Bool) : Option Bool :=
  (cond v82 (cond v86 (if o76 < (0 : Int) then some false else ((laws_eqSurreal k o78 o77).bind fun y221 => (if y221 = true then (laws_FnExactFromOrdinal_p12 k a1 o77 o78 true) else some false))) (if o76 < (0 : Int) then some false else ((laws_eqSurreal k o78 o77).bind fun y217 => (if y217 = true then some false else some false)))) (cond v86 (if o76 < (0 : Int) then some false else ((laws_eqSurreal k o78 o77).bind fun y213 => (if y213 = true then some false else some false))) (if o76 < (0 : Int) then some false else ((laws_eqSurreal k o78 o77).bind fun y209 => (if y209 = true then (laws_FnExactFromOrdinal_p12 k a1 o77 o78 false) else some false)))))
set_option maxHeartbeats 4000000 in
set_option maxRecDepth 100000 in
theorem laws_FnExactFromOrdinal_p11_ct {k : Nat} {a1 : Rw} {o76 : Int} {o77 : Rw} {o78 : Rw} {v82 : Bool} {v86 : Bool} {r : Bool} (h : laws_FnExactFromOrdinal_p11 k a1 o76 o77 o78 v82 v86 = some r) : X prog 0 (tlF f7 11) (mk 96 [(1, .ptr 64 0), (4, .ptr 256 0), (5, .d (D.bool v82)), (7, .ptr 448 0), (8, .d (D.bool v86)), (9, .d (D.int .i64 o76))] [(64, .box 24 [.d (D.sl a1)]), (256, .box 49 [.os 1119000 o77.length]), (448, .box 49 [.os 1119001 o78.length]), (1119000, .arr 109 true o77), (1119001, .arr 109 true o78)]) (finK prog f7 0 (.d (D.bool r)) (⟨[], []⟩)) := by
  rw [laws_FnExactFromOrdinal_p11] at h
  cases v82
  · replace h := condF h
    cases v86
    · replace h := condF h
      conv => whnf
      refine splD (fun g208 => ?_) (fun g208 => ?_)
      · replace h := iteP h g208
        conv => whnf
        refine CutK.norm [1, 4, 5, 7, 61] [64, 256, 448, 1119000, 1119001] ?_
        conv => whnf
        cases h
        exact Done.of [] [] rfl rfl ⟨⟨rfl, rfl⟩, ⟨rfl, trivial⟩, rfl, trivial⟩
      · replace h := iteN h g208
        conv => whnf
        refine Take.all (rfl) ?_
        conv => whnf
        refine Take.all (rfl) ?_
        conv => whnf
        obtain ⟨y209, e210, h⟩ := bind_ex h
        refine CallOk.of (laws_eqSurreal_ct e210) ?_
        conv => whnf
        refine spl (fun g211 => ?_) (fun g211 => ?_)
        · replace h := iteT h g211
          conv => whnf
          refine splF ?_
          conv => whnf
          refine CutK.norm [1, 4, 5, 7, 61] [64, 256, 448, 1119000, 1119001] ?_
          conv => whnf
          exact CutK.piece (laws_FnExactFromOrdinal_p12_ct  h) [some 64, some 256, some 448, some 1119000, some 1119001] [] ⟨⟨rfl, rfl⟩, ⟨rfl, ⟨rfl, rfl, trivial⟩, ⟨rfl, ⟨rfl, rfl⟩, trivial⟩, ⟨rfl, ⟨rfl, rfl⟩, trivial⟩, ⟨rfl, rfl, rows_same⟩, ⟨rfl, rfl, rows_same⟩, trivial⟩, ⟨rfl, rfl⟩, ⟨rfl, rfl⟩, rfl, ⟨rfl, rfl⟩, trivial⟩
        · replace h := iteF h g211
          conv => whnf
          refine CutK.norm [1, 4, 5, 7, 61] [64, 256, 448, 1119000, 1119001] ?_
          conv => whnf
          cases h
          exact Done.of [] [] rfl rfl ⟨⟨rfl, rfl⟩, ⟨rfl, trivial⟩, rfl, trivial⟩
    · replace h := condT h
      conv => whnf
      refine splD (fun g212 => ?_) (fun g212 => ?_)
      · replace h := iteP h g212
        conv => whnf
        refine CutK.norm [1, 4, 5, 7, 61] [64, 256, 448, 1119000, 1119001] ?_
        conv => whnf
        cases h
        exact Done.of [] [] rfl rfl ⟨⟨rfl, rfl⟩, ⟨rfl, trivial⟩, rfl, trivial⟩
      · replace h := iteN h g212
        conv => whnf
        refine Take.all (rfl) ?_
        conv => whnf
        refine Take.all (rfl) ?_
        conv => whnf
        obtain ⟨y213, e214, h⟩ := bind_ex h
        refine CallOk.of (laws_eqSurreal_ct e214) ?_
        conv => whnf
        refine spl (fun g215 => ?_) (fun g215 => ?_)
        · replace h := iteT h g215
          conv => whnf
          refine splT ?_
          conv => whnf
          refine CutK.norm [1, 4, 5, 7, 61] [64, 256, 448, 1119000, 1119001] ?_
          conv => whnf
          cases h
          exact Done.of [] [] rfl rfl ⟨⟨rfl, rfl⟩, ⟨rfl, trivial⟩, rfl, trivial⟩
        · replace h := iteF h g215
          conv => whnf
          refine CutK.norm [1, 4, 5, 7, 61] [64, 256, 448, 1119000, 1119001] ?_
          conv => whnf
          cases h
          exact Done.of [] [] rfl rfl ⟨⟨rfl, rfl⟩, ⟨rfl, trivial⟩, rfl, trivial⟩
  · replace h := condT h
    cases v86
    · replace h := condF h
      conv => whnf
      refine splD (fun g216 => ?_) (fun g216 => ?_)
      · replace h := iteP h g216
        conv => whnf
        refine CutK.norm [1, 4, 5, 7, 61] [64, 256, 448, 1119000, 1119001] ?_
        conv => whnf
        cases h
        exact Done.of [] [] rfl rfl ⟨⟨rfl, rfl⟩, ⟨rfl, trivial⟩, rfl, trivial⟩
      · replace h := iteN h g216
        conv => whnf
        refine Take.all (rfl) ?_
        conv => whnf
        refine Take.all (rfl) ?_
        conv => whnf
        obtain ⟨y217, e218, h⟩ := bind_ex h
        refine CallOk.of (laws_eqSurreal_ct e218) ?_
        conv => whnf
        refine spl (fun g219 => ?_) (fun g219 => ?_)
        · replace h := iteT h g219
          conv => whnf
          refine splT ?_
          conv => whnf
          refine CutK.norm [1, 4, 5, 7, 61] [64, 256, 448, 1119000, 1119001] ?_
          conv => whnf
          cases h
          exact Done.of [] [] rfl rfl ⟨⟨rfl, rfl⟩, ⟨rfl, trivial⟩, rfl, trivial⟩
        · replace h := iteF h g219
          conv => whnf
          refine CutK.norm [1, 4, 5, 7, 61] [64, 256, 448, 1119000, 1119001] ?_
          conv => whnf
          cases h
          exact Done.of [] [] rfl rfl ⟨⟨rfl, rfl⟩, ⟨rfl, trivial⟩, rfl, trivial⟩
    · replace h := condT h
      conv => whnf
      refine splD (fun g220 => ?_) (fun g220 => ?_)
      · replace h := iteP h g220
        conv => whnf
        refine CutK.norm [1, 4, 5, 7, 61] [64, 256, 448, 1119000, 1119001] ?_
        conv => whnf
        cases h
        exact Done.of [] [] rfl rfl ⟨⟨rfl, rfl⟩, ⟨rfl, trivial⟩, rfl, trivial⟩
      · replace h := iteN h g220
        conv => whnf
        refine Take.all (rfl) ?_
        conv => whnf
        refine Take.all (rfl) ?_
        conv => whnf
        obtain ⟨y221, e222, h⟩ := bind_ex h
        refine CallOk.of (laws_eqSurreal_ct e222) ?_
        conv => whnf
        refine spl (fun g223 => ?_) (fun g223 => ?_)
        · replace h := iteT h g223
          conv => whnf
          refine splF ?_
          conv => whnf
          refine CutK.norm [1, 4, 5, 7, 61] [64, 256, 448, 1119000, 1119001] ?_
          conv => whnf
          exact CutK.piece (laws_FnExactFromOrdinal_p12_ct  h) [some 64, some 256, some 448, some 1119000, some 1119001] [] ⟨⟨rfl, rfl⟩, ⟨rfl, ⟨rfl, rfl, trivial⟩, ⟨rfl, ⟨rfl, rfl⟩, trivial⟩, ⟨rfl, ⟨rfl, rfl⟩, trivial⟩, ⟨rfl, rfl, rows_same⟩, ⟨rfl, rfl, rows_same⟩, trivial⟩, ⟨rfl, rfl⟩, ⟨rfl, rfl⟩, rfl, ⟨rfl, rfl⟩, trivial⟩
        · replace h := iteF h g223
          conv => whnf
          refine CutK.norm [1, 4, 5, 7, 61] [64, 256, 448, 1119000, 1119001] ?_
          conv => whnf
          cases h
          exact Done.of [] [] rfl rfl ⟨⟨rfl, rfl⟩, ⟨rfl, trivial⟩, rfl, trivial⟩
def laws_FnExactFromOrdinal_p9 (k : Nat) (a1 : Rw) (o53 : Rw) (o54 : Rw) (o55 : Rw) (v61 : Bool) (v67 : Bool) : Option Bool :=
  (cond v61 (cond v67 ((laws_markOrdinal k o54 1).bind fun y233 => (if y233.2.length = o54.length then (laws_FnExactFromOrdinal_p11 k a1 y233.1 o53 o55 true true) else none)) ((laws_markOrdinal k o54 1).bind fun y230 => (if y230.2.length = o54.length then (laws_FnExactFromOrdinal_p11 k a1 y230.1 o53 o55 false true) else none))) (cond v67 ((laws_markOrdinal k o54 1).bind fun y227 => (if y227.2.length = o54.length then (laws_FnExactFromOrdinal_p11 k a1 y227.1 o53 o55 true false) else none)) ((laws_markOrdinal k o54 1).bind fun y224 => (if y224.2.length = o54.length then (laws_FnExactFromOrdinal_p11 k a1 y224.1 o53 o55 false false) else none))))
set_option maxHeartbeats 4000000 in
set_option maxRecDepth 100000 in
theorem laws_FnExactFromOrdinal_p9_ct {k : Nat} {a1 : Rw} {o53 : Rw} {o54 : Rw} {o55 : Rw} {v61 : Bool} {v67 : Bool} {r : Bool} (h : laws_FnExactFromOrdinal_p9 k a1 o53 o54 o55 v61 v67 = some r) : X prog 0 (tlF f7 9) (mk 96 [(1, .ptr 64 0), (4, .ptr 256 0), (5, .d (D.bool v67)), (6, .ptr 384 0), (7, .ptr 448 0), (8, .d (D.bool v61))] [(64, .box 24 [.d (D.sl a1)]), (256, .box 49 [.os 1109000 o53.length]), (384, .box 28 [.os 1109001 o54.length]), (448, .box 49 [.os 1109002 o55.length]), (1109000, .arr 109 true o53), (1109001, .arr 77 true o54), (1109002, .arr 109 true o55)]) (finK prog f7 0 (.d (D.bool r)) (⟨[], []⟩)) := by
  rw [laws_FnExactFromOrdinal_p9] at h
  cases v61
  · replace h := condF h
    cases v67
    · replace h := condF h
      conv => whnf
      refine Choice.new ?_
      conv => whnf
      refine Req.of (rfl) ?_
      conv => whnf
      obtain ⟨y224, e225, h⟩ := bind_ex h
      refine MarkOk.of (laws_markOrdinal_ct e225) ?_
      conv => whnf
      obtain ⟨g226, h⟩ := req_ex h
      exact CutK.piece (laws_FnExactFromOrdinal_p11_ct  h) [some 64, some 256, some 448, some 1109000, some 1109002] [] ⟨⟨rfl, rfl⟩, ⟨rfl, ⟨rfl, rfl, trivial⟩, ⟨rfl, ⟨rfl, rfl⟩, trivial⟩, ⟨rfl, ⟨rfl, rfl⟩, trivial⟩, ⟨rfl, rfl, rows_same⟩, ⟨rfl, rfl, rows_same⟩, trivial⟩, ⟨rfl, rfl⟩, ⟨rfl, rfl⟩, rfl, ⟨rfl, rfl⟩, rfl, rfl, trivial⟩
    · replace h := condT h
      conv => whnf
      refine Choice.new ?_
      conv => whnf
      refine Req.of (rfl) ?_
      conv => whnf
      obtain ⟨y227, e228, h⟩ := bind_ex h
      refine MarkOk.of (laws_markOrdinal_ct e228) ?_
      conv => whnf
      obtain ⟨g229, h⟩ := req_ex h
      exact CutK.piece (laws_FnExactFromOrdinal_p11_ct  h) [some 64, some 256, some 448, some 1109000, some 1109002] [] ⟨⟨rfl, rfl⟩, ⟨rfl, ⟨rfl, rfl, trivial⟩, ⟨rfl, ⟨rfl, rfl⟩, trivial⟩, ⟨rfl, ⟨rfl, rfl⟩, trivial⟩, ⟨rfl, rfl, rows_same⟩, ⟨rfl, rfl, rows_same⟩, trivial⟩, ⟨rfl, rfl⟩, ⟨rfl, rfl⟩, rfl, ⟨rfl, rfl⟩, rfl, rfl, trivial⟩
  · replace h := condT h
    cases v67
    · replace h := condF h
      conv => whnf
      refine Choice.new ?_
      conv => whnf
      refine Req.of (rfl) ?_
      conv => whnf
      obtain ⟨y230, e231, h⟩ := bind_ex h
      refine MarkOk.of (laws_markOrdinal_ct e231) ?_
      conv => whnf
      obtain ⟨g232, h⟩ := req_ex h
      exact CutK.piece (laws_FnExactFromOrdinal_p11_ct  h) [some 64, some 256, some 448, some 1109000, some 1109002] [] ⟨⟨rfl, rfl⟩, ⟨rfl, ⟨rfl, rfl, trivial⟩, ⟨rfl, ⟨rfl, rfl⟩, trivial⟩, ⟨rfl, ⟨rfl, rfl⟩, trivial⟩, ⟨rfl, rfl, rows_same⟩, ⟨rfl, rfl, rows_same⟩, trivial⟩, ⟨rfl, rfl⟩, ⟨rfl, rfl⟩, rfl, ⟨rfl, rfl⟩, rfl, rfl, trivial⟩
    · replace h := condT h
      conv => whnf
      refine Choice.new ?_
      conv => whnf
      refine Req.of (rfl) ?_
      conv => whnf
      obtain ⟨y233, e234, h⟩ := bind_ex h
      refine MarkOk.of (laws_markOrdinal_ct e234) ?_
      conv => whnf
      obtain ⟨g235, h⟩ := req_ex h
      exact CutK.piece (laws_FnExactFromOrdinal_p11_ct  h) [some 64, some 256, some 448, some 1109000, some 1109002] [] ⟨⟨rfl, rfl⟩, ⟨rfl, ⟨rfl, rfl, trivial⟩, ⟨rfl, ⟨rfl, rfl⟩, trivial⟩, ⟨rfl, ⟨rfl, rfl⟩, trivial⟩, ⟨rfl, rfl, rows_same⟩, ⟨rfl, rfl, rows_same⟩, trivial⟩, ⟨rfl, rfl⟩, ⟨rfl, rfl⟩, rfl, ⟨rfl, rfl⟩, rfl, rfl, trivial⟩
def laws_FnExactFromOrdinal_p8 (k : Nat) (a1 : Rw) (o34 : Rw) (o35 : Rw) (o36 : Rw) (v46 : Bool) (v47 : Bool) : Option Bool :=
  (cond v46 (cond v47 ((laws_toOrdinal k a1).bind fun y251 => ((laws_eqOrdinal k o35 y251).bind fun y253 => (if y253 = true then (laws_FnExactFromOrdinal_p9 k a1 o34 o35 o36 true true) else some false))) ((laws_toOrdinal k a1).bind fun y246 => ((laws_eqOrdinal k o35 y246).bind fun y248 => (if y248 = true then (laws_FnExactFromOrdinal_p9 k a1 o34 o35 o36 false true) else some false)))) (cond v47 ((laws_toOrdinal k a1).bind fun y241 => ((laws_eqOrdinal k o35 y241).bind fun y243 => (if y243 = true then (laws_FnExactFromOrdinal_p9 k a1 o34 o35 o36 true false) else some false))) ((laws_toOrdinal k a1).bind fun y236 => ((laws_eqOrdinal k o35 y236).bind fun y238 => (if y238 = true then (laws_FnExactFromOrdinal_p9 k a1 o34 o35 o36 false false) else some false)))))
set_option maxHeartbeats 4000000 in
set_option maxRecDepth 100000 in
theorem laws_FnExactFromOrdinal_p8_ct {k : Nat} {a1 : Rw} {o34 : Rw} {o35 : Rw} {o36 : Rw} {v46 : Bool} {v47 : Bool} {r : Bool} (h : laws_FnExactFromOrdinal_p8 k a1 o34 o35 o36 v46 v47 = some r) : X prog 0 (tlF f7 8) (mk 96 [(1, .ptr 64 0), (4, .ptr 256 0), (5, .d (D.bool v46)), (6, .ptr 384 0), (7, .ptr 448 0), (8, .d (D.bool v47))] [(64, .box 24 [.d (D.sl a1)]), (256, .box 49 [.os 1104000 o34.length]), (384, .box 28 [.os 1104001 o35.length]), (448, .box 49 [.os 1104002 o36.length]), (1104000, .arr 109 true o34), (1104001, .arr 77 true o35), (1104002, .arr 109 true o36)]) (finK prog f7 0 (.d (D.bool r)) (⟨[], []⟩)) := by
  rw [laws_FnExactFromOrdinal_p8] at h
  cases v46
  · replace h := condF h
    cases v47
    · replace h := condF h
      conv => whnf
      obtain ⟨y236, e237, h⟩ := bind_ex h
      refine CallOk.of (laws_toOrdinal_ct e237) ?_
      conv => whnf
      refine Take.all (rfl) ?_
      conv => whnf
      refine Take.all (rfl) ?_
      conv => whnf
      obtain ⟨y238, e239, h⟩ := bind_ex h
      refine CallOk.of (laws_eqOrdinal_ct e239) ?_
      conv => whnf
      refine spl (fun g240 => ?_) (fun g240 => ?_)
      · replace h := iteT h g240
        conv => whnf
        refine CutK.norm [1, 4, 5, 6, 7, 8, 45] [64, 256, 384, 448, 1104000, 1104001, 1104002] ?_
        conv => whnf
        exact CutK.piece (laws_FnExactFromOrdinal_p9_ct  h) [some 64, some 256, some 384, some 448, some 1104000, some 1104001, some 1104002] [] ⟨⟨rfl, rfl⟩, ⟨rfl, ⟨rfl, rfl, trivial⟩, ⟨rfl, ⟨rfl, rfl⟩, trivial⟩, ⟨rfl, ⟨rfl, rfl⟩, trivial⟩, ⟨rfl, ⟨rfl, rfl⟩, trivial⟩, ⟨rfl, rfl, rows_same⟩, ⟨rfl, rfl, rows_same⟩, ⟨rfl, rfl, rows_same⟩, trivial⟩, ⟨rfl, rfl⟩, ⟨rfl, rfl⟩, rfl, ⟨rfl, rfl⟩, ⟨rfl, rfl⟩, rfl, trivial⟩
      · replace h := iteF h g240
        conv => whnf
        refine CutK.norm [1, 4, 5, 6, 7, 8, 45] [64, 256, 384, 448, 1104000, 1104001, 1104002] ?_
        conv => whnf
        cases h
        exact Done.of [] [] rfl rfl ⟨⟨rfl, rfl⟩, ⟨rfl, trivial⟩, rfl, trivial⟩
    · replace h := condT h
      conv => whnf
      obtain ⟨y241, e242, h⟩ := bind_ex h
      refine CallOk.of (laws_toOrdinal_ct e242) ?_
      conv => whnf
      refine Take.all (rfl) ?_
      conv => whnf
      refine Take.all (rfl) ?_
      conv => whnf
      obtain ⟨y243, e244, h⟩ := bind_ex h
      refine CallOk.of (laws_eqOrdinal_ct e244) ?_
      conv => whnf
      refine spl (fun g245 => ?_) (fun g245 => ?_)
      · replace h := iteT h g245
        conv => whnf
        refine CutK.norm [1, 4, 5, 6, 7, 8, 45] [64, 256, 384, 448, 1104000, 1104001, 1104002] ?_
        conv => whnf
        exact CutK.piece (laws_FnExactFromOrdinal_p9_ct  h) [some 64, some 256, some 384, some 448, some 1104000, some 1104001, some 1104002] [] ⟨⟨rfl, rfl⟩, ⟨rfl, ⟨rfl, rfl, trivial⟩, ⟨rfl, ⟨rfl, rfl⟩, trivial⟩, ⟨rfl, ⟨rfl, rfl⟩, trivial⟩, ⟨rfl, ⟨rfl, rfl⟩, trivial⟩, ⟨rfl, rfl, rows_same⟩, ⟨rfl, rfl, rows_same⟩, ⟨rfl, rfl, rows_same⟩, trivial⟩, ⟨rfl, rfl⟩, ⟨rfl, rfl⟩, rfl, ⟨rfl, rfl⟩, ⟨rfl, rfl⟩, rfl, trivial⟩
      · replace h := iteF h g245
        conv => whnf
        refine CutK.norm [1, 4, 5, 6, 7, 8, 45] [64, 256, 384, 448, 1104000, 1104001, 1104002] ?_
        conv => whnf
        cases h
        exact Done.of [] [] rfl rfl ⟨⟨rfl, rfl⟩, ⟨rfl, trivial⟩, rfl, trivial⟩
  · replace h := condT h
    cases v47
    · replace h := condF h
      conv => whnf
      obtain ⟨y246, e247, h⟩ := bind_ex h
      refine CallOk.of (laws_toOrdinal_ct e247) ?_
      conv => whnf
      refine Take.all (rfl) ?_
      conv => whnf
      refine Take.all (rfl) ?_
      conv => whnf
      obtain ⟨y248, e249, h⟩ := bind_ex h
      refine CallOk.of (laws_eqOrdinal_ct e249) ?_
      conv => whnf
      refine spl (fun g250 => ?_) (fun g250 => ?_)
      · replace h := iteT h g250
        conv => whnf
        refine CutK.norm [1, 4, 5, 6, 7, 8, 45] [64, 256, 384, 448, 1104000, 1104001, 1104002] ?_
        conv => whnf
        exact CutK.piece (laws_FnExactFromOrdinal_p9_ct  h) [some 64, some 256, some 384, some 448, some 1104000, some 1104001, some 1104002] [] ⟨⟨rfl, rfl⟩, ⟨rfl, ⟨rfl, rfl, trivial⟩, ⟨rfl, ⟨rfl, rfl⟩, trivial⟩, ⟨rfl, ⟨rfl, rfl⟩, trivial⟩, ⟨rfl, ⟨rfl, rfl⟩, trivial⟩, ⟨rfl, rfl, rows_same⟩, ⟨rfl, rfl, rows_same⟩, ⟨rfl, rfl, rows_same⟩, trivial⟩, ⟨rfl, rfl⟩, ⟨rfl, rfl⟩, rfl, ⟨rfl, rfl⟩, ⟨rfl, rfl⟩, rfl, trivial⟩
      · replace h := iteF h g250
        conv => whnf
        refine CutK.norm [1, 4, 5, 6, 7, 8, 45] [64, 256, 384, 448, 1104000, 1104001, 1104002] ?_
        conv => whnf
        cases h
        exact Done.of [] [] rfl rfl ⟨⟨rfl, rfl⟩, ⟨rfl, trivial⟩, rfl, trivial⟩
    · replace h := condT h
      conv => whnf
      obtain ⟨y251, e252, h⟩ := bind_ex h
      refine CallOk.of (laws_toOrdinal_ct e252) ?_
      conv => whnf
      refine Take.all (rfl) ?_
      conv => whnf
      refine Take.all (rfl) ?_
      conv => whnf
      obtain ⟨y253, e254, h⟩ := bind_ex h
      refine CallOk.of (laws_eqOrdinal_ct e254) ?_
      conv => whnf
      refine spl (fun g255 => ?_) (fun g255 => ?_)
      · replace h := iteT h g255
        conv => whnf
        refine CutK.norm [1, 4, 5, 6, 7, 8, 45] [64, 256, 384, 448, 1104000, 1104001, 1104002] ?_
        conv => whnf
        exact CutK.piece (laws_FnExactFromOrdinal_p9_ct  h) [some 64, some 256, some 384, some 448, some 1104000, some 1104001, some 1104002] [] ⟨⟨rfl, rfl⟩, ⟨rfl, ⟨rfl, rfl, trivial⟩, ⟨rfl, ⟨rfl, rfl⟩, trivial⟩, ⟨rfl, ⟨rfl, rfl⟩, trivial⟩, ⟨rfl, ⟨rfl, rfl⟩, trivial⟩, ⟨rfl, rfl, rows_same⟩, ⟨rfl, rfl, rows_same⟩, ⟨rfl, rfl, rows_same⟩, trivial⟩, ⟨rfl, rfl⟩, ⟨rfl, rfl⟩, rfl, ⟨rfl, rfl⟩, ⟨rfl, rfl⟩, rfl, trivial⟩
      · replace h := iteF h g255
        conv => whnf
        refine CutK.norm [1, 4, 5, 6, 7, 8, 45] [64, 256, 384, 448, 1104000, 1104001, 1104002] ?_
        conv => whnf
        cases h
        exact Done.of [] [] rfl rfl ⟨⟨rfl, rfl⟩, ⟨rfl, trivial⟩, rfl, trivial⟩
def laws_FnExactFromOrdinal_p7 (k : Nat) (a1 : Rw) (o23 : Rw) (o24 : Rw) (o25 : Rw) (v26 : Bool) (v30 : Bool) : Option Bool :=
  (cond v26 (cond v30 ((laws_eqSurreal k o25 o23).bind fun y265 => (if y265 = true then (laws_FnExactFromOrdinal_p8 k a1 o23 o24 o25 true true) else some false)) ((laws_eqSurreal k o25 o23).bind fun y262 => (if y262 = true then some false else some false))) (cond v30 ((laws_eqSurreal k o25 o23).bind fun y259 => (if y259 = true then some false else some false)) ((laws_eqSurreal k o25 o23).bind fun y256 => (if y256 = true then (laws_FnExactFromOrdinal_p8 k a1 o23 o24 o25 false false) else some false))))
set_option maxHeartbeats 4000000 in
set_option maxRecDepth 100000 in
theorem laws_FnExactFromOrdinal_p7_ct {k : Nat} {a1 : Rw} {o23 : Rw} {o24 : Rw} {o25 : Rw} {v26 : Bool} {v30 : Bool} {r : Bool} (h : laws_FnExactFromOrdinal_p7 k a1 o23 o24 o25 v26 v30 = some r) : X prog 0 (tlF f7 7) (mk 96 [(1, .ptr 64 0), (4, .ptr 256 0), (5, .d (D.bool v30)), (6, .ptr 384 0), (7, .ptr 448 0), (8, .d (D.bool v26))] [(64, .box 24 [.d (D.sl a1)]), (256, .box 49 [.os 1099000 o23.length]), (384, .box 28 [.os 1099001 o24.length]), (448, .box 49 [.os 1099002 o25.length]), (1099000, .arr 109 true o23), (1099001, .arr 77 true o24), (1099002, .arr 109 true o25)]) (finK prog f7 0 (.d (D.bool r)) (⟨[], []⟩)) := by
  rw [laws_FnExactFromOrdinal_p7] at h
  cases v26
  · replace h := condF h
    cases v30
    · replace h := condF h
      conv => whnf
      refine Take.all (rfl) ?_
      conv => whnf
      refine Take.all (rfl) ?_
      conv => whnf
      obtain ⟨y256, e257, h⟩ := bind_ex h
      refine CallOk.of (laws_eqSurreal_ct e257) ?_
      conv => whnf
      refine spl (fun g258 => ?_) (fun g258 => ?_)
      · replace h := iteT h g258
        conv => whnf
        refine splF ?_
        conv => whnf
        refine CutK.norm [1, 4, 5, 6, 7, 8, 40] [64, 256, 384, 448, 1099000, 1099001, 1099002] ?_
        conv => whnf
        exact CutK.piece (laws_FnExactFromOrdinal_p8_ct  h) [some 64, some 256, some 384, some 448, some 1099000, some 1099001, some 1099002] [] ⟨⟨rfl, rfl⟩, ⟨rfl, ⟨rfl, rfl, trivial⟩, ⟨rfl, ⟨rfl, rfl⟩, trivial⟩, ⟨rfl, ⟨rfl, rfl⟩, trivial⟩, ⟨rfl, ⟨rfl, rfl⟩, trivial⟩, ⟨rfl, rfl, rows_same⟩, ⟨rfl, rfl, rows_same⟩, ⟨rfl, rfl, rows_same⟩, trivial⟩, ⟨rfl, rfl⟩, ⟨rfl, rfl⟩, rfl, ⟨rfl, rfl⟩, ⟨rfl, rfl⟩, rfl, trivial⟩
      · replace h := iteF h g258
        conv => whnf
        refine CutK.norm [1, 4, 5, 6, 7, 8, 40] [64, 256, 384, 448, 1099000, 1099001, 1099002] ?_
        conv => whnf
        cases h
        exact Done.of [] [] rfl rfl ⟨⟨rfl, rfl⟩, ⟨rfl, trivial⟩, rfl, trivial⟩
    · replace h := condT h
      conv => whnf
      refine Take.all (rfl) ?_
      conv => whnf
      refine Take.all (rfl) ?_
      conv => whnf
      obtain ⟨y259, e260, h⟩ := bind_ex h
      refine CallOk.of (laws_eqSurreal_ct e260) ?_
      conv => whnf
      refine spl (fun g261 => ?_) (fun g261 => ?_)
      · replace h := iteT h g261
        conv => whnf
        refine splT ?_
        conv => whnf
        refine CutK.norm [1, 4, 5, 6, 7, 8, 40] [64, 256, 384, 448, 1099000, 1099001, 1099002] ?_
        conv => whnf
        cases h
        exact Done.of [] [] rfl rfl ⟨⟨rfl, rfl⟩, ⟨rfl, trivial⟩, rfl, trivial⟩
      · replace h := iteF h g261
        conv => whnf
        refine CutK.norm [1, 4, 5, 6, 7, 8, 40] [64, 256, 384, 448, 1099000, 1099001, 1099002] ?_
        conv => whnf
        cases h
        exact Done.of [] [] rfl rfl ⟨⟨rfl, rfl⟩, ⟨rfl, trivial⟩, rfl, trivial⟩
  · replace h := condT h
    cases v30
    · replace h := condF h
      conv => whnf
      refine Take.all (rfl) ?_
      conv => whnf
      refine Take.all (rfl) ?_
      conv => whnf
      obtain ⟨y262, e263, h⟩ := bind_ex h
      refine CallOk.of (laws_eqSurreal_ct e263) ?_
      conv => whnf
      refine spl (fun g264 => ?_) (fun g264 => ?_)
      · replace h := iteT h g264
        conv => whnf
        refine splT ?_
        conv => whnf
        refine CutK.norm [1, 4, 5, 6, 7, 8, 40] [64, 256, 384, 448, 1099000, 1099001, 1099002] ?_
        conv => whnf
        cases h
        exact Done.of [] [] rfl rfl ⟨⟨rfl, rfl⟩, ⟨rfl, trivial⟩, rfl, trivial⟩
      · replace h := iteF h g264
        conv => whnf
        refine CutK.norm [1, 4, 5, 6, 7, 8, 40] [64, 256, 384, 448, 1099000, 1099001, 1099002] ?_
        conv => whnf
        cases h
        exact Done.of [] [] rfl rfl ⟨⟨rfl, rfl⟩, ⟨rfl, trivial⟩, rfl, trivial⟩
    · replace h := condT h
      conv => whnf
      refine Take.all (rfl) ?_
      conv => whnf
      refine Take.all (rfl) ?_
      conv => whnf
      obtain ⟨y265, e266, h⟩ := bind_ex h
      refine CallOk.of (laws_eqSurreal_ct e266) ?_
      conv => whnf
      refine spl (fun g267 => ?_) (fun g267 => ?_)
      · replace h := iteT h g267
        conv => whnf
        refine splF ?_
        conv => whnf
        refine CutK.norm [1, 4, 5, 6, 7, 8, 40] [64, 256, 384, 448, 1099000, 1099001, 1099002] ?_
        conv => whnf
        exact CutK.piece (laws_FnExactFromOrdinal_p8_ct  h) [some 64, some 256, some 384, some 448, some 1099000, some 1099001, some 1099002] [] ⟨⟨rfl, rfl⟩, ⟨rfl, ⟨rfl, rfl, trivial⟩, ⟨rfl, ⟨rfl, rfl⟩, trivial⟩, ⟨rfl, ⟨rfl, rfl⟩, trivial⟩, ⟨rfl, ⟨rfl, rfl⟩, trivial⟩, ⟨rfl, rfl, rows_same⟩, ⟨rfl, rfl, rows_same⟩, ⟨rfl, rfl, rows_same⟩, trivial⟩, ⟨rfl, rfl⟩, ⟨rfl, rfl⟩, rfl, ⟨rfl, rfl⟩, ⟨rfl, rfl⟩, rfl, trivial⟩
      · replace h := iteF h g267
        conv => whnf
        refine CutK.norm [1, 4, 5, 6, 7, 8, 40] [64, 256, 384, 448, 1099000, 1099001, 1099002] ?_
        conv => whnf
        cases h
        exact Done.of [] [] rfl rfl ⟨⟨rfl, rfl⟩, ⟨rfl, trivial⟩, rfl, trivial⟩
def laws_FnExactFromOrdinal_p6 (k : Nat) (a1 : Rw) (o15 : Rw) (o16 : Rw) (v19 : Bool) : Option Bool :=
  (cond v19 ((impl_FromOrdinal k o16).bind fun y271 => (if y271.2 = true then (laws_FnExactFromOrdinal_p7 k a1 o15 o16 y271.1 true true) else (laws_FnExactFromOrdinal_p7 k a1 o15 o16 y271.1 false true))) ((impl_FromOrdinal k o16).bind fun y268 => (if y268.2 = true then (laws_FnExactFromOrdinal_p7 k a1 o15 o16 y268.1 true false) else (laws_FnExactFromOrdinal_p7 k a1 o15 o16 y268.1 false false))))
set_option maxHeartbeats 4000000 in
set_option maxRecDepth 100000 in
theorem laws_FnExactFromOrdinal_p6_ct {k : Nat} {a1 : Rw} {o15 : Rw} {o16 : Rw} {v19 : Bool} {r : Bool} (h : laws_FnExactFromOrdinal_p6 k a1 o15 o16 v19 = some r) : X prog 0 (tlF f7 6) (mk 96 [(1, .ptr 64 0), (4, .ptr 256 0), (5, .d (D.bool v19)), (6, .ptr 384 0)] [(64, .box 24 [.d (D.sl a1)]), (256, .box 49 [.os 1094000 o15.length]), (384, .box 28 [.os 1094001 o16.length]), (1094000, .arr 109 true o15), (1094001, .arr 77 true o16)]) (finK prog f7 0 (.d (D.bool r)) (⟨[], []⟩)) := by
  rw [laws_FnExactFromOrdinal_p6] at h
  cases v19
  · replace h := condF h
    conv => whnf
    refine Take.all (rfl) ?_
    conv => whnf
    obtain ⟨y268, e269, h⟩ := bind_ex h
    refine CallOk.of (impl_FromOrdinal_ct e269) ?_
    conv => whnf
    refine spl (fun g270 => ?_) (fun g270 => ?_)
    · replace h := iteT h g270
      conv => whnf
      exact CutK.piece (laws_FnExactFromOrdinal_p7_ct  h) [some 64, some 256, some 384, some 448, some 1094000, some 1094001, some 1856] [] ⟨⟨rfl, rfl⟩, ⟨rfl, ⟨rfl, rfl, trivial⟩, ⟨rfl, ⟨rfl, rfl⟩, trivial⟩, ⟨rfl, ⟨rfl, rfl⟩, trivial⟩, ⟨rfl, ⟨rfl, rfl⟩, trivial⟩, ⟨rfl, rfl, rows_same⟩, ⟨rfl, rfl, rows_same⟩, ⟨rfl, rfl, rows_same⟩, trivial⟩, ⟨rfl, rfl⟩, ⟨rfl, rfl⟩, rfl, ⟨rfl, rfl⟩, ⟨rfl, rfl⟩, rfl, trivial⟩
    · replace h := iteF h g270
      conv => whnf
      exact CutK.piece (laws_FnExactFromOrdinal_p7_ct  h) [some 64, some 256, some 384, some 448, some 1094000, some 1094001, some 1856] [] ⟨⟨rfl, rfl⟩, ⟨rfl, ⟨rfl, rfl, trivial⟩, ⟨rfl, ⟨rfl, rfl⟩, trivial⟩, ⟨rfl, ⟨rfl, rfl⟩, trivial⟩, ⟨rfl, ⟨rfl, rfl⟩, trivial⟩, ⟨rfl, rfl, rows_same⟩, ⟨rfl, rfl, rows_same⟩, ⟨rfl, rfl, rows_same⟩, trivial⟩, ⟨rfl, rfl⟩, ⟨rfl, rfl⟩, rfl, ⟨rfl, rfl⟩, ⟨rfl, rfl⟩, rfl, trivial⟩
  · replace h := condT h
    conv => whnf
    refine Take.all (rfl) ?_
    conv => whnf
    obtain ⟨y271, e272, h⟩ := bind_ex h
    refine CallOk.of (impl_FromOrdinal_ct e272) ?_
    conv => whnf
    refine spl (fun g273 => ?_) (fun g273 => ?_)
    · replace h := iteT h g273
      conv => whnf
      exact CutK.piece (laws_FnExactFromOrdinal_p7_ct  h) [some 64, some 256, some 384, some 448, some 1094000, some 1094001, some 1856] [] ⟨⟨rfl, rfl⟩, ⟨rfl, ⟨rfl, rfl, trivial⟩, ⟨rfl, ⟨rfl, rfl⟩, trivial⟩, ⟨rfl, ⟨rfl, rfl⟩, trivial⟩, ⟨rfl, ⟨rfl, rfl⟩, trivial⟩, ⟨rfl, rfl, rows_same⟩, ⟨rfl, rfl, rows_same⟩, ⟨rfl, rfl, rows_same⟩, trivial⟩, ⟨rfl, rfl⟩, ⟨rfl, rfl⟩, rfl, ⟨rfl, rfl⟩, ⟨rfl, rfl⟩, rfl, trivial⟩
    · replace h := iteF h g273
      conv => whnf
      exact CutK.piece (laws_FnExactFromOrdinal_p7_ct  h) [some 64, some 256, some 384, some 448, some 1094000, some 1094001, some 1856] [] ⟨⟨rfl, rfl⟩, ⟨rfl, ⟨rfl, rfl, trivial⟩, ⟨rfl, ⟨rfl, rfl⟩, trivial⟩, ⟨rfl, ⟨rfl, rfl⟩, trivial⟩, ⟨rfl, ⟨rfl, rfl⟩, trivial⟩, ⟨rfl, rfl, rows_same⟩, ⟨rfl, rfl, rows_same⟩, ⟨rfl, rfl, rows_same⟩, trivial⟩, ⟨rfl, rfl⟩, ⟨rfl, rfl⟩, rfl, ⟨rfl, rfl⟩, ⟨rfl, rfl⟩, rfl, trivial⟩
def laws_FnExactFromOrdinal_p5 (k : Nat) (a1 : Rw) (o11 : Rw) (v12 : Bool) : Option Bool :=
  (cond v12 ((laws_toOrdinal k a1).bind fun y276 => (laws_FnExactFromOrdinal_p6 k a1 o11 y276 true)) ((laws_toOrdinal k a1).bind fun y274 => (laws_FnExactFromOrdinal_p6 k a1 o11 y274 false)))
set_option maxHeartbeats 4000000 in
set_option maxRecDepth 100000 in
theorem laws_FnExactFromOrdinal_p5_ct {k : Nat} {a1 : Rw} {o11 : Rw} {v12 : Bool} {r : Bool} (h : laws_FnExactFromOrdinal_p5 k a1 o11 v12 = some r) : X prog 0 (tlF f7 5) (mk 96 [(1, .ptr 64 0), (4, .ptr 256 0), (5, .d (D.bool v12))] [(64, .box 24 [.d (D.sl a1)]), (256, .box 49 [.os 1089000 o11.length]), (1089000, .arr 109 true o11)]) (finK prog f7 0 (.d (D.bool r)) (⟨[], []⟩)) := by
  rw [laws_FnExactFromOrdinal_p5] at h
  cases v12
  · replace h := condF h
    conv => whnf
    obtain ⟨y274, e275, h⟩ := bind_ex h
    refine CallOk.of (laws_toOrdinal_ct e275) ?_
    conv => whnf
    exact CutK.piece (laws_FnExactFromOrdinal_p6_ct  h) [some 64, some 256, some 384, some 1089000, some 1664] [] ⟨⟨rfl, rfl⟩, ⟨rfl, ⟨rfl, rfl, trivial⟩, ⟨rfl, ⟨rfl, rfl⟩, trivial⟩, ⟨rfl, ⟨rfl, rfl⟩, trivial⟩, ⟨rfl, rfl, rows_same⟩, ⟨rfl, rfl, rows_same⟩, trivial⟩, ⟨rfl, rfl⟩, ⟨rfl, rfl⟩, rfl, ⟨rfl, rfl⟩, trivial⟩
  · replace h := condT h
    conv => whnf
    obtain ⟨y276, e277, h⟩ := bind_ex h
    refine CallOk.of (laws_toOrdinal_ct e277) ?_
    conv => whnf
    exact CutK.piece (laws_FnExactFromOrdinal_p6_ct  h) [some 64, some 256, some 384, some 1089000, some 1664] [] ⟨⟨rfl, rfl⟩, ⟨rfl, ⟨rfl, rfl, trivial⟩, ⟨rfl, ⟨rfl, rfl⟩, trivial⟩, ⟨rfl, ⟨rfl, rfl⟩, trivial⟩, ⟨rfl, rfl, rows_same⟩, ⟨rfl, rfl, rows_same⟩, trivial⟩, ⟨rfl, rfl⟩, ⟨rfl, rfl⟩, rfl, ⟨rfl, rfl⟩, trivial⟩
def laws_FnExactFromOrdinal_p3 (k : Nat) (a1 : Rw) (o4 : Int) : Option Bool :=
  (if o4 < (0 : Int) then some true else ((laws_toOrdinal k a1).bind fun y279 => ((spec_FromOrdinal k y279).bind fun y281 => (if y281.2 = true then (laws_FnExactFromOrdinal_p5 k a1 y281.1 true) else (laws_FnExactFromOrdinal_p5 k a1 y281.1 false)))))
set_option maxHeartbeats 4000000 in
set_option maxRecDepth 100000 in
theorem laws_FnExactFromOrdinal_p3_ct {k : Nat} {a1 : Rw} {o4 : Int} {r : Bool} (h : laws_FnExactFromOrdinal_p3 k a1 o4 = some r) : X prog 0 (tlF f7 3) (mk 96 [(1, .ptr 64 0), (3, .d (D.int .i64 o4))] [(64, .box 24 [.d (D.sl a1)])]) (finK prog f7 0 (.d (D.bool r)) (⟨[], []⟩)) := by
  rw [laws_FnExactFromOrdinal_p3] at h
  conv => whnf
  refine splD (fun g278 => ?_) (fun g278 => ?_)
  · replace h := iteP h g278
    conv => whnf
    cases h
    exact Done.of [] [] rfl rfl ⟨⟨rfl, rfl⟩, ⟨rfl, trivial⟩, rfl, trivial⟩
  · replace h := iteN h g278
    conv => whnf
    obtain ⟨y279, e280, h⟩ := bind_ex h
    refine CallOk.of (laws_toOrdinal_ct e280) ?_
    conv => whnf
    refine Take.all (rfl) ?_
    conv => whnf
    obtain ⟨y281, e282, h⟩ := bind_ex h
    refine CallOk.of (spec_FromOrdinal_ct e282) ?_
    conv => whnf
    refine spl (fun g283 => ?_) (fun g283 => ?_)
    · replace h := iteT h g283
      conv => whnf
      exact CutK.piece (laws_FnExactFromOrdinal_p5_ct  h) [some 64, some 256, some 1408] [] ⟨⟨rfl, rfl⟩, ⟨rfl, ⟨rfl, rfl, trivial⟩, ⟨rfl, ⟨rfl, rfl⟩, trivial⟩, ⟨rfl, rfl, rows_same⟩, trivial⟩, ⟨rfl, rfl⟩, ⟨rfl, rfl⟩, rfl, trivial⟩
    · replace h := iteF h g283
      conv => whnf
      exact CutK.piece (laws_FnExactFromOrdinal_p5_ct  h) [some 64, some 256, some 1408] [] ⟨⟨rfl, rfl⟩, ⟨rfl, ⟨rfl, rfl, trivial⟩, ⟨rfl, ⟨rfl, rfl⟩, trivial⟩, ⟨rfl, rfl, rows_same⟩, trivial⟩, ⟨rfl, rfl⟩, ⟨rfl, rfl⟩, rfl, trivial⟩
def laws_FnExactFromOrdinal (k : Nat) (a1 : Rw) : Option Bool :=
  ((laws_szOrdinal k a1 1048576).bind fun y284 => (laws_FnExactFromOrdinal_p3 k a1 y284))
set_option maxHeartbeats 4000000 in
set_option maxRecDepth 100000 in
theorem laws_FnExactFromOrdinal_ct {k : Nat} {a1 : Rw} {r : Bool} (h : laws_FnExactFromOrdinal k a1 = some r) : Ct prog 7 [.agg [.d (D.sl a1)]] (⟨[], []⟩) (.d (D.bool r)) (⟨[], []⟩) := by
  rw [laws_FnExactFromOrdinal] at h
  refine Ct.of (c := _) mixed func7 ⟨rfl, rfl, rfl⟩ ?_ rfl
  conv => whnf
  obtain ⟨y284, e285, h⟩ := bind_ex h
  refine CallOk.of (laws_szOrdinal_ct e285) ?_
  conv => whnf
  exact CutK.piece (laws_FnExactFromOrdinal_p3_ct  h) [some 64] [] ⟨⟨rfl, rfl⟩, ⟨rfl, ⟨rfl, rfl, trivial⟩, trivial⟩, ⟨rfl, rfl⟩, rfl, trivial⟩
end
end Go.Proofs.Try
