/- Printed by program (axgen): pure functions, and that the Go functions compute them. -/
import Derived.Test.YtnphoocghfgjcaaProg
import Derived.Test.YtnphoocghfgjcaaAxC
import Derived.KernelRfl
set_option linter.unusedVariables false
set_option linter.unusedSimpArgs false
namespace Go.Proofs.Try
open Go Go.AX
theorem mixed : prog.follows .mixedOrders = true := by kernel_rfl
def cell_sii {α : Type} (cs : List D) (K : Rw → Int → Int → Option α) : Option α := match cs with | [.sl a0, .int .i64 a1, .int .i64 a2] => K a0 a1 a2 | _ => none
def row_sii {α : Type} (es : Rw) (i : Int) (K : Rw → Int → Int → Option α) : Option α := if 0 ≤ i then (match es[i.toNat]? with | some cs => cell_sii cs K | none => none) else none
theorem cell_sii_ex {α : Type} {cs : List D} {K : Rw → Int → Int → Option α} {r : α} (h : cell_sii cs K = some r) : ∃ a0 a1 a2, cs = [.sl a0, .int .i64 a1, .int .i64 a2] ∧ K a0 a1 a2 = some r := by
  unfold cell_sii at h
  split at h
  · exact ⟨_, _, _, rfl, h⟩
  · cases h
theorem row_sii_ex {α : Type} {es : Rw} {i : Int} {K : Rw → Int → Int → Option α} {r : α} (h : row_sii es i K = some r) : 0 ≤ i ∧ ∃ a0 a1 a2, es[i.toNat]? = some [.sl a0, .int .i64 a1, .int .i64 a2] ∧ K a0 a1 a2 = some r := by
  unfold row_sii at h
  obtain ⟨g, h⟩ := req_ex h
  split at h
  · rename_i cs e
    obtain ⟨a0, a1, a2, rfl, h⟩ := cell_sii_ex h
    exact ⟨g, a0, a1, a2, e, h⟩
  · cases h
noncomputable section
def laws_heldSurrealTermS_l0 (rec_laws_heldSurrealTermS : Rw → Int → Option Int) (a1 : Rw) (K0 : Int → Option Int) : Rw → Int → Option Int
  | [], v14 => (K0 v14)
  | cs :: rest, v14 => (cell_sii cs fun x39 x40 x41 => ((rec_laws_heldSurrealTermS x39 v14).bind fun y43 => (if y43 < (0 : Int) then some (-1) else (if x40 = y43 then (if x41 = (IntKind.i64.wrap (y43 + 1)) then (laws_heldSurrealTermS_l0 rec_laws_heldSurrealTermS a1 K0 rest (IntKind.i64.wrap ((IntKind.i64.wrap (y43 + 1)) + 1))) else some (-1)) else some (-1)))))
set_option maxRecDepth 100000 in
theorem laws_heldSurrealTermS_l0_ct {rec_laws_heldSurrealTermS : Rw → Int → Option Int} {a1 : Rw} {K0 : Int → Option Int} (hrec_laws_heldSurrealTermS : ∀ (a1 : Rw) (a2 : Int) (r : Int), rec_laws_heldSurrealTermS a1 a2 = some r → Ct prog 70 [.d (D.sl a1), .d (D.int .i64 a2)] (⟨[], []⟩) (.d (D.int .i64 r)) (⟨[], []⟩)) {r : Int} (hx : a1.length ≤ cap) : ∀ (rest : Rw) (v15n : Nat) (v14 : Int), a1.drop v15n = rest → laws_heldSurrealTermS_l0 rec_laws_heldSurrealTermS a1 K0 rest v14 = some r → LoopOk prog 0 (lp f70 0) (mk 43 [(0, .d (D.sl a1)), (1, .d (D.int .i64 v14)), (5, .d (D.int .i64 (v15n : Int)))] []) (LoopEnd prog f70 0 43 (.d (D.int .i64 r)) (⟨[], []⟩) (fun i ts os => (i = 0 ∧ ∃ v27 : Int, K0 v27 = some r ∧ ts = [(1, .d (D.int .i64 v27))] ∧ os = [])))
  | [], v15n, v14, hd, h => by
      rw [laws_heldSurrealTermS_l0] at h
      have hn := drop_nil hd
      refine LoopOk.step ?_
      conv => whnf
      refine splD (fun g => absurd g hn) (fun _ => ?_)
      conv => whnf
      exact ⟨_, _, [], [], ⟨rfl, _, h, rfl, rfl⟩, ⟨⟨rfl, rfl⟩, ⟨rfl, trivial⟩, rfl, trivial⟩⟩
  | cs :: rest, v15n, v14, hd, h => by
      rw [laws_heldSurrealTermS_l0] at h
      obtain ⟨hrow, hd1, hlt⟩ := drop_cons hd
      refine LoopOk.step ?_
      conv => whnf
      refine splD (fun _ => ?_) (fun g => absurd hlt g)
      conv => whnf
      obtain ⟨x39, x40, x41, e42, h⟩ := cell_sii_ex h
      rw [e42] at hrow
      refine Req.of (Int.natCast_nonneg _) ?_
      refine Row.of _ hrow ?_
      conv => whnf
      obtain ⟨y43, e44, h⟩ := bind_ex h
      refine CallOk.of (hrec_laws_heldSurrealTermS _ _ _ e44) ?_
      conv => whnf
      refine CutK.norm [0, 1, 5] [] ?_
      conv => whnf
      refine splD (fun g45 => ?_) (fun g45 => ?_)
      · replace h := iteP h g45
        conv => whnf
        cases h
        exact Done.of [] [] rfl rfl ⟨⟨rfl, rfl⟩, ⟨rfl, trivial⟩, rfl, trivial⟩
      · replace h := iteN h g45
        conv => whnf
        refine Req.of (Int.natCast_nonneg _) ?_
        refine Row.of _ hrow ?_
        conv => whnf
        refine splN (fun g46 => ?_) (fun g46 => ?_)
        · replace h := iteN h g46
          conv => whnf
          cases h
          exact Done.of [] [] rfl rfl ⟨⟨rfl, rfl⟩, ⟨rfl, trivial⟩, rfl, trivial⟩
        · replace h := iteP h g46
          conv => whnf
          refine Req.of (Int.natCast_nonneg _) ?_
          refine Row.of _ hrow ?_
          conv => whnf
          refine splN (fun g47 => ?_) (fun g47 => ?_)
          · replace h := iteN h g47
            conv => whnf
            cases h
            exact Done.of [] [] rfl rfl ⟨⟨rfl, rfl⟩, ⟨rfl, trivial⟩, rfl, trivial⟩
          · replace h := iteP h g47
            conv => whnf
            refine CutK.norm [0, 1, 5] [] ?_
            conv => whnf
            exact LoopOk.back (laws_heldSurrealTermS_l0_ct hrec_laws_heldSurrealTermS hx rest (v15n + 1) _ hd1 h) [] [] ⟨⟨rfl, rfl⟩, ⟨rfl, trivial⟩, rfl, rfl, i64eq (wrap_up hlt hx), trivial⟩
def laws_heldSurrealTermS_b (rec_laws_heldSurrealTermS : Rw → Int → Option Int) (a1 : Rw) (a2 : Int) : Option Int :=
  (if a1.length ≤ cap then (laws_heldSurrealTermS_l0 rec_laws_heldSurrealTermS a1 (fun (v27 : Int) => some v27) a1 a2) else none)
set_option maxHeartbeats 4000000 in
set_option maxRecDepth 100000 in
theorem laws_heldSurrealTermS_b_ct {rec_laws_heldSurrealTermS : Rw → Int → Option Int} (hrec_laws_heldSurrealTermS : ∀ (a1 : Rw) (a2 : Int) (r : Int), rec_laws_heldSurrealTermS a1 a2 = some r → Ct prog 70 [.d (D.sl a1), .d (D.int .i64 a2)] (⟨[], []⟩) (.d (D.int .i64 r)) (⟨[], []⟩)) {a1 : Rw} {a2 : Int} {r : Int} (h : laws_heldSurrealTermS_b rec_laws_heldSurrealTermS a1 a2 = some r) : Ct prog 70 [.d (D.sl a1), .d (D.int .i64 a2)] (⟨[], []⟩) (.d (D.int .i64 r)) (⟨[], []⟩) := by
  rw [laws_heldSurrealTermS_b] at h
  refine Ct.of (c := _) mixed func70 ⟨rfl, rfl, rfl⟩ ?_ rfl
  conv => whnf
  obtain ⟨g48, h⟩ := req_ex h
  refine LoopOk.into (laws_heldSurrealTermS_l0_ct hrec_laws_heldSurrealTermS g48 _ _ _ rfl h) [] [] ⟨⟨rfl, rfl⟩, ⟨rfl, trivial⟩, rfl, rfl, rfl, trivial⟩ ?_ (fun _ hs => hs)
  rintro i ts os ⟨rfl, v27, h, rfl, rfl⟩
  conv => whnf
  refine CutK.norm [1] [] ?_
  conv => whnf
  cases h
  exact Done.of [] [] rfl rfl ⟨⟨rfl, rfl⟩, ⟨rfl, trivial⟩, rfl, trivial⟩
def laws_heldSurrealTermS : Nat → Rw → Int → Option Int
  | 0, _, _ => none
  | k + 1, a1, a2 => laws_heldSurrealTermS_b (laws_heldSurrealTermS k) a1 a2
theorem laws_heldSurrealTermS_ct' : ∀ (k : Nat) (a1 : Rw) (a2 : Int) (r : Int), laws_heldSurrealTermS k a1 a2 = some r → Ct prog 70 [.d (D.sl a1), .d (D.int .i64 a2)] (⟨[], []⟩) (.d (D.int .i64 r)) (⟨[], []⟩)
  | 0, _, _, _, h => by rw [laws_heldSurrealTermS] at h; cases h
  | k + 1, _, _, _, h => by rw [laws_heldSurrealTermS] at h; exact laws_heldSurrealTermS_b_ct (laws_heldSurrealTermS_ct' k) h
theorem laws_heldSurrealTermS_ct {k : Nat} {a1 : Rw} {a2 : Int} {r : Int} (h : laws_heldSurrealTermS k a1 a2 = some r) : Ct prog 70 [.d (D.sl a1), .d (D.int .i64 a2)] (⟨[], []⟩) (.d (D.int .i64 r)) (⟨[], []⟩) := laws_heldSurrealTermS_ct' k _ _ _ h

def laws_heldSurreal (k : Nat) (a1 : Rw) (a2 : Int) : Option Int :=
  ((laws_heldSurrealTermS k a1 a2).bind fun y3 => (if y3 < (0 : Int) then some (-1) else some y3))
set_option maxHeartbeats 4000000 in
set_option maxRecDepth 100000 in
theorem laws_heldSurreal_ct {k : Nat} {a1 : Rw} {a2 : Int} {r : Int} (h : laws_heldSurreal k a1 a2 = some r) : Ct prog 26 [.agg [.d (D.sl a1)], .d (D.int .i64 a2)] (⟨[], []⟩) (.d (D.int .i64 r)) (⟨[], []⟩) := by
  rw [laws_heldSurreal] at h
  refine Ct.of (c := _) mixed func26 ⟨rfl, rfl, rfl⟩ ?_ rfl
  conv => whnf
  obtain ⟨y3, e4, h⟩ := bind_ex h
  refine CallOk.of (laws_heldSurrealTermS_ct e4) ?_
  conv => whnf
  refine CutK.go ?_
  conv => whnf
  refine splD (fun g5 => ?_) (fun g5 => ?_)
  · replace h := iteP h g5
    conv => whnf
    cases h
    exact Done.of [] [] rfl rfl ⟨⟨rfl, rfl⟩, ⟨rfl, trivial⟩, rfl, trivial⟩
  · replace h := iteN h g5
    conv => whnf
    cases h
    exact Done.of [] [] rfl rfl ⟨⟨rfl, rfl⟩, ⟨rfl, trivial⟩, rfl, trivial⟩

def laws_eqFraction  (a1 : Int) (a2 : Int) (a3 : Int) (a4 : Int) : Option Bool :=
  (if a1 = a3 then (if a2 = a4 then some true else some false) else some false)
set_option maxHeartbeats 4000000 in
set_option maxRecDepth 100000 in
theorem laws_eqFraction_ct  {a1 : Int} {a2 : Int} {a3 : Int} {a4 : Int} {r : Bool} (h : laws_eqFraction a1 a2 a3 a4 = some r) : Ct prog 181 [.agg [.d (D.int .i64 a1), .d (D.int .i64 a2)], .agg [.d (D.int .i64 a3), .d (D.int .i64 a4)]] (⟨[], []⟩) (.d (D.bool r)) (⟨[], []⟩) := by
  rw [laws_eqFraction] at h
  refine Ct.of (c := _) mixed func181 ⟨rfl, rfl, rfl⟩ ?_ rfl
  conv => whnf
  refine splN (fun g5 => ?_) (fun g5 => ?_)
  · replace h := iteN h g5
    conv => whnf
    cases h
    exact Done.of [] [] rfl rfl ⟨⟨rfl, rfl⟩, ⟨rfl, trivial⟩, rfl, trivial⟩
  · replace h := iteP h g5
    conv => whnf
    refine splN (fun g6 => ?_) (fun g6 => ?_)
    · replace h := iteN h g6
      conv => whnf
      cases h
      exact Done.of [] [] rfl rfl ⟨⟨rfl, rfl⟩, ⟨rfl, trivial⟩, rfl, trivial⟩
    · replace h := iteP h g6
      conv => whnf
      cases h
      exact Done.of [] [] rfl rfl ⟨⟨rfl, rfl⟩, ⟨rfl, trivial⟩, rfl, trivial⟩

def laws_eqSurrealTerm (rec_laws_eqSurreal : Rw → Rw → Option Bool) (a1 : Rw) (a2 : Int) (a3 : Int) (a4 : Rw) (a5 : Int) (a6 : Int) : Option Bool :=
  ((rec_laws_eqSurreal a1 a4).bind fun y7 => (if y7 = true then ((laws_eqFraction a2 a3 a5 a6).bind fun y10 => (if y10 = true then some true else some false)) else some false))
set_option maxHeartbeats 4000000 in
set_option maxRecDepth 100000 in
theorem laws_eqSurrealTerm_ct {rec_laws_eqSurreal : Rw → Rw → Option Bool} (hrec_laws_eqSurreal : ∀ (a1 : Rw) (a2 : Rw) (r : Bool), rec_laws_eqSurreal a1 a2 = some r → Ct prog 20 [.agg [.d (D.sl a1)], .agg [.d (D.sl a2)]] (⟨[], []⟩) (.d (D.bool r)) (⟨[], []⟩)) {a1 : Rw} {a2 : Int} {a3 : Int} {a4 : Rw} {a5 : Int} {a6 : Int} {r : Bool} (h : laws_eqSurrealTerm rec_laws_eqSurreal a1 a2 a3 a4 a5 a6 = some r) : Ct prog 124 [.agg [.d (D.sl a1), .d (D.int .i64 a2), .d (D.int .i64 a3)], .agg [.d (D.sl a4), .d (D.int .i64 a5), .d (D.int .i64 a6)]] (⟨[], []⟩) (.d (D.bool r)) (⟨[], []⟩) := by
  rw [laws_eqSurrealTerm] at h
  refine Ct.of (c := _) mixed func124 ⟨rfl, rfl, rfl⟩ ?_ rfl
  conv => whnf
  obtain ⟨y7, e8, h⟩ := bind_ex h
  refine CallOk.of (hrec_laws_eqSurreal _ _ _ e8) ?_
  conv => whnf
  refine spl (fun g9 => ?_) (fun g9 => ?_)
  · replace h := iteT h g9
    conv => whnf
    refine CutK.go ?_
    conv => whnf
    refine CutK.go ?_
    conv => whnf
    obtain ⟨y10, e11, h⟩ := bind_ex h
    refine CallOk.of (laws_eqFraction_ct e11) ?_
    conv => whnf
    refine spl (fun g12 => ?_) (fun g12 => ?_)
    · replace h := iteT h g12
      conv => whnf
      refine CutK.go ?_
      conv => whnf
      refine CutK.go ?_
      conv => whnf
      cases h
      exact Done.of [] [] rfl rfl ⟨⟨rfl, rfl⟩, ⟨rfl, trivial⟩, rfl, trivial⟩
    · replace h := iteF h g12
      conv => whnf
      refine CutK.go ?_
      conv => whnf
      cases h
      exact Done.of [] [] rfl rfl ⟨⟨rfl, rfl⟩, ⟨rfl, trivial⟩, rfl, trivial⟩
  · replace h := iteF h g9
    conv => whnf
    refine CutK.go ?_
    conv => whnf
    cases h
    exact Done.of [] [] rfl rfl ⟨⟨rfl, rfl⟩, ⟨rfl, trivial⟩, rfl, trivial⟩

def laws_eqSurrealTermS_l0 (rec_laws_eqSurreal : Rw → Rw → Option Bool) (a1 : Rw) (a2 : Rw) (K0 : Option Bool) : Rw → Nat → Option Bool
  | [], v18n => (K0)
  | cs :: rest, v18n => (cell_sii cs fun x33 x34 x35 => (row_sii a2 (v18n : Int) fun x37 x38 x39 => ((laws_eqSurrealTerm rec_laws_eqSurreal x33 x34 x35 x37 x38 x39).bind fun y42 => (if y42 = true then (laws_eqSurrealTermS_l0 rec_laws_eqSurreal a1 a2 K0 rest (v18n + 1)) else some false))))
set_option maxRecDepth 100000 in
theorem laws_eqSurrealTermS_l0_ct {rec_laws_eqSurreal : Rw → Rw → Option Bool} {a1 : Rw} {a2 : Rw} {K0 : Option Bool} (hrec_laws_eqSurreal : ∀ (a1 : Rw) (a2 : Rw) (r : Bool), rec_laws_eqSurreal a1 a2 = some r → Ct prog 20 [.agg [.d (D.sl a1)], .agg [.d (D.sl a2)]] (⟨[], []⟩) (.d (D.bool r)) (⟨[], []⟩)) {r : Bool} (hx : a1.length ≤ cap) : ∀ (rest : Rw) (v18n : Nat), a1.drop v18n = rest → laws_eqSurrealTermS_l0 rec_laws_eqSurreal a1 a2 K0 rest v18n = some r → LoopOk prog 0 (lp f62 0) (mk 27 [(0, .d (D.sl a1)), (1, .d (D.sl a2)), (5, .d (D.int .i64 (v18n : Int)))] []) (LoopEnd prog f62 0 27 (.d (D.bool r)) (⟨[], []⟩) (fun i ts os => (i = 0 ∧ K0 = some r ∧ ts = [] ∧ os = [])))
  | [], v18n, hd, h => by
      rw [laws_eqSurrealTermS_l0] at h
      have hn := drop_nil hd
      refine LoopOk.step ?_
      conv => whnf
      refine splD (fun g => absurd g hn) (fun _ => ?_)
      conv => whnf
      exact ⟨_, _, [], [], ⟨rfl, h, rfl, rfl⟩, ⟨⟨rfl, rfl⟩, ⟨rfl, trivial⟩, trivial⟩⟩
  | cs :: rest, v18n, hd, h => by
      rw [laws_eqSurrealTermS_l0] at h
      obtain ⟨hrow, hd1, hlt⟩ := drop_cons hd
      refine LoopOk.step ?_
      conv => whnf
      refine splD (fun _ => ?_) (fun g => absurd hlt g)
      conv => whnf
      obtain ⟨x33, x34, x35, e36, h⟩ := cell_sii_ex h
      rw [e36] at hrow
      refine Req.of (Int.natCast_nonneg _) ?_
      refine Row.of _ hrow ?_
      conv => whnf
      obtain ⟨g41, x37, x38, x39, e40, h⟩ := row_sii_ex h
      refine Req.of g41 ?_
      refine Row.of _ e40 ?_
      conv => whnf
      obtain ⟨y42, e43, h⟩ := bind_ex h
      refine CallOk.of (laws_eqSurrealTerm_ct hrec_laws_eqSurreal e43) ?_
      conv => whnf
      refine spl (fun g44 => ?_) (fun g44 => ?_)
      · replace h := iteT h g44
        conv => whnf
        refine CutK.go ?_
        conv => whnf
        refine CutK.go ?_
        conv => whnf
        exact LoopOk.back (laws_eqSurrealTermS_l0_ct hrec_laws_eqSurreal hx rest (v18n + 1)  hd1 h) [] [] ⟨⟨rfl, rfl⟩, ⟨rfl, trivial⟩, rfl, rfl, i64eq (wrap_up hlt hx), trivial⟩
      · replace h := iteF h g44
        conv => whnf
        refine CutK.go ?_
        conv => whnf
        cases h
        exact Done.of [] [] rfl rfl ⟨⟨rfl, rfl⟩, ⟨rfl, trivial⟩, rfl, trivial⟩
def laws_eqSurrealTermS (rec_laws_eqSurreal : Rw → Rw → Option Bool) (a1 : Rw) (a2 : Rw) : Option Bool :=
  (if (a1.length : Int) = (a2.length : Int) then (if a1.length ≤ cap then (laws_eqSurrealTermS_l0 rec_laws_eqSurreal a1 a2 (some true) a1 0) else none) else some false)
set_option maxHeartbeats 4000000 in
set_option maxRecDepth 100000 in
theorem laws_eqSurrealTermS_ct {rec_laws_eqSurreal : Rw → Rw → Option Bool} (hrec_laws_eqSurreal : ∀ (a1 : Rw) (a2 : Rw) (r : Bool), rec_laws_eqSurreal a1 a2 = some r → Ct prog 20 [.agg [.d (D.sl a1)], .agg [.d (D.sl a2)]] (⟨[], []⟩) (.d (D.bool r)) (⟨[], []⟩)) {a1 : Rw} {a2 : Rw} {r : Bool} (h : laws_eqSurrealTermS rec_laws_eqSurreal a1 a2 = some r) : Ct prog 62 [.d (D.sl a1), .d (D.sl a2)] (⟨[], []⟩) (.d (D.bool r)) (⟨[], []⟩) := by
  rw [laws_eqSurrealTermS] at h
  refine Ct.of (c := _) mixed func62 ⟨rfl, rfl, rfl⟩ ?_ rfl
  conv => whnf
  refine splN (fun g3 => ?_) (fun g3 => ?_)
  · replace h := iteN h g3
    conv => whnf
    cases h
    exact Done.of [] [] rfl rfl ⟨⟨rfl, rfl⟩, ⟨rfl, trivial⟩, rfl, trivial⟩
  · replace h := iteP h g3
    conv => whnf
    obtain ⟨g45, h⟩ := req_ex h
    refine LoopOk.into (laws_eqSurrealTermS_l0_ct hrec_laws_eqSurreal g45 _ _  rfl h) [] [] ⟨⟨rfl, rfl⟩, ⟨rfl, trivial⟩, rfl, rfl, rfl, trivial⟩ ?_ (fun _ hs => hs)
    rintro i ts os ⟨rfl, h, rfl, rfl⟩
    conv => whnf
    refine CutK.go ?_
    conv => whnf
    cases h
    exact Done.of [] [] rfl rfl ⟨⟨rfl, rfl⟩, ⟨rfl, trivial⟩, rfl, trivial⟩

def laws_eqSurreal_b (rec_laws_eqSurreal : Rw → Rw → Option Bool) (a1 : Rw) (a2 : Rw) : Option Bool :=
  ((laws_eqSurrealTermS rec_laws_eqSurreal a1 a2).bind fun y3 => (if y3 = true then some true else some false))
set_option maxHeartbeats 4000000 in
set_option maxRecDepth 100000 in
theorem laws_eqSurreal_b_ct {rec_laws_eqSurreal : Rw → Rw → Option Bool} (hrec_laws_eqSurreal : ∀ (a1 : Rw) (a2 : Rw) (r : Bool), rec_laws_eqSurreal a1 a2 = some r → Ct prog 20 [.agg [.d (D.sl a1)], .agg [.d (D.sl a2)]] (⟨[], []⟩) (.d (D.bool r)) (⟨[], []⟩)) {a1 : Rw} {a2 : Rw} {r : Bool} (h : laws_eqSurreal_b rec_laws_eqSurreal a1 a2 = some r) : Ct prog 20 [.agg [.d (D.sl a1)], .agg [.d (D.sl a2)]] (⟨[], []⟩) (.d (D.bool r)) (⟨[], []⟩) := by
  rw [laws_eqSurreal_b] at h
  refine Ct.of (c := _) mixed func20 ⟨rfl, rfl, rfl⟩ ?_ rfl
  conv => whnf
  obtain ⟨y3, e4, h⟩ := bind_ex h
  refine CallOk.of (laws_eqSurrealTermS_ct hrec_laws_eqSurreal e4) ?_
  conv => whnf
  refine spl (fun g5 => ?_) (fun g5 => ?_)
  · replace h := iteT h g5
    conv => whnf
    refine CutK.go ?_
    conv => whnf
    refine CutK.go ?_
    conv => whnf
    cases h
    exact Done.of [] [] rfl rfl ⟨⟨rfl, rfl⟩, ⟨rfl, trivial⟩, rfl, trivial⟩
  · replace h := iteF h g5
    conv => whnf
    refine CutK.go ?_
    conv => whnf
    cases h
    exact Done.of [] [] rfl rfl ⟨⟨rfl, rfl⟩, ⟨rfl, trivial⟩, rfl, trivial⟩
def laws_eqSurreal : Nat → Rw → Rw → Option Bool
  | 0, _, _ => none
  | k + 1, a1, a2 => laws_eqSurreal_b (laws_eqSurreal k) a1 a2
theorem laws_eqSurreal_ct' : ∀ (k : Nat) (a1 : Rw) (a2 : Rw) (r : Bool), laws_eqSurreal k a1 a2 = some r → Ct prog 20 [.agg [.d (D.sl a1)], .agg [.d (D.sl a2)]] (⟨[], []⟩) (.d (D.bool r)) (⟨[], []⟩)
  | 0, _, _, _, h => by rw [laws_eqSurreal] at h; cases h
  | k + 1, _, _, _, h => by rw [laws_eqSurreal] at h; exact laws_eqSurreal_b_ct (laws_eqSurreal_ct' k) h
theorem laws_eqSurreal_ct {k : Nat} {a1 : Rw} {a2 : Rw} {r : Bool} (h : laws_eqSurreal k a1 a2 = some r) : Ct prog 20 [.agg [.d (D.sl a1)], .agg [.d (D.sl a2)]] (⟨[], []⟩) (.d (D.bool r)) (⟨[], []⟩) := laws_eqSurreal_ct' k _ _ _ h

def laws_toFraction  (a1 : Int) (a2 : Int) : Option (Int × Int) :=
  some (a1, a2)
set_option maxHeartbeats 4000000 in
set_option maxRecDepth 100000 in
theorem laws_toFraction_ct  {a1 : Int} {a2 : Int} {r : Int × Int} (h : laws_toFraction a1 a2 = some r) : Ct prog 179 [.agg [.d (D.int .i64 a1), .d (D.int .i64 a2)]] (⟨[], []⟩) (.agg [.d (D.int .i64 r.1), .d (D.int .i64 r.2)]) (⟨[], []⟩) := by
  rw [laws_toFraction] at h
  refine Ct.of (c := _) mixed func179 ⟨rfl, rfl, rfl⟩ ?_ rfl
  conv => whnf
  cases h
  exact Done.of [] [] rfl rfl ⟨⟨rfl, rfl⟩, ⟨rfl, trivial⟩, ⟨rfl, rfl, trivial⟩, trivial⟩

def laws_toSurrealTerm (rec_laws_toSurreal : Rw → Option Rw) (a1 : Rw) (a2 : Int) (a3 : Int) : Option (Rw × Int × Int) :=
  ((rec_laws_toSurreal a1).bind fun y4 => ((laws_toFraction a2 a3).bind fun y6 => some (y4, y6.1, y6.2)))
set_option maxHeartbeats 4000000 in
set_option maxRecDepth 100000 in
theorem laws_toSurrealTerm_ct {rec_laws_toSurreal : Rw → Option Rw} (hrec_laws_toSurreal : ∀ (a1 : Rw) (r : Rw), rec_laws_toSurreal a1 = some r → Ct prog 17 [.agg [.d (D.sl a1)]] (⟨[], []⟩) (.agg [.os 8 r.length]) (⟨[], [(105, true, r)]⟩)) {a1 : Rw} {a2 : Int} {a3 : Int} {r : Rw × Int × Int} (h : laws_toSurrealTerm rec_laws_toSurreal a1 a2 a3 = some r) : Ct prog 120 [.agg [.d (D.sl a1), .d (D.int .i64 a2), .d (D.int .i64 a3)]] (⟨[], []⟩) (.agg [.os 8 r.1.length, .d (D.int .i64 r.2.1), .d (D.int .i64 r.2.2)]) (⟨[], [(105, true, r.1)]⟩) := by
  rw [laws_toSurrealTerm] at h
  refine Ct.of (c := _) mixed func120 ⟨rfl, rfl, rfl⟩ ?_ rfl
  conv => whnf
  obtain ⟨y4, e5, h⟩ := bind_ex h
  refine CallOk.of (hrec_laws_toSurreal _ _ e5) ?_
  conv => whnf
  refine CutK.go ?_
  conv => whnf
  obtain ⟨y6, e7, h⟩ := bind_ex h
  refine CallOk.of (laws_toFraction_ct e7) ?_
  conv => whnf
  refine CutK.go ?_
  conv => whnf
  cases h
  exact Done.of [some 384] [] rfl rfl ⟨⟨rfl, rfl⟩, ⟨rfl, ⟨rfl, rfl, rows_same⟩, trivial⟩, ⟨⟨rfl, rfl⟩, rfl, rfl, trivial⟩, trivial⟩

def laws_toSurrealTermS_l0 (rec_laws_toSurreal : Rw → Option Rw) (a1 : Rw) (K0 : Rw → Option Rw) : Rw → Nat → Rw → Option Rw
  | [], v18n, v17 => (K0 v17)
  | cs :: rest, v18n, v17 => (cell_sii cs fun x48 x49 x50 => ((laws_toSurrealTerm rec_laws_toSurreal x48 x49 x50).bind fun y52 => (if 0 ≤ (v18n : Int) ∧ (v18n : Int) < (v17.length : Int) then (row_sii v17 (v18n : Int) fun x55 x56 x57 => (laws_toSurrealTermS_l0 rec_laws_toSurreal a1 K0 rest (v18n + 1) (v17.set (((v18n : Int) : Int).toNat) [D.sl y52.1, D.int .i64 y52.2.1, D.int .i64 y52.2.2]))) else none)))
set_option maxRecDepth 100000 in
theorem laws_toSurrealTermS_l0_ct {rec_laws_toSurreal : Rw → Option Rw} {a1 : Rw} {K0 : Rw → Option Rw} (hrec_laws_toSurreal : ∀ (a1 : Rw) (r : Rw), rec_laws_toSurreal a1 = some r → Ct prog 17 [.agg [.d (D.sl a1)]] (⟨[], []⟩) (.agg [.os 8 r.length]) (⟨[], [(105, true, r)]⟩)) {r : Rw} (hx : a1.length ≤ cap) : ∀ (rest : Rw) (v18n : Nat) (v17 : Rw), a1.drop v18n = rest → laws_toSurrealTermS_l0 rec_laws_toSurreal a1 K0 rest v18n v17 = some r → LoopOk prog 0 (lp f57 0) (mk 23 [(0, .d (D.sl a1)), (3, .os 64000 v17.length), (4, .d (D.int .i64 (v18n : Int)))] [(64000, .arr 105 true v17)]) (LoopEnd prog f57 0 23 (.os 8 r.length) (⟨[], [(105, true, r)]⟩) (fun i ts os => (i = 0 ∧ ∃ v33 : Rw, K0 v33 = some r ∧ ts = [(3, .os 67001 v33.length)] ∧ os = [(67001, .arr 105 true v33)])))
  | [], v18n, v17, hd, h => by
      rw [laws_toSurrealTermS_l0] at h
      have hn := drop_nil hd
      refine LoopOk.step ?_
      conv => whnf
      refine splD (fun g => absurd g hn) (fun _ => ?_)
      conv => whnf
      exact ⟨_, _, [some 64000], [], ⟨rfl, _, h, rfl, rfl⟩, ⟨⟨rfl, rfl⟩, ⟨rfl, ⟨rfl, rfl, rows_same⟩, trivial⟩, ⟨rfl, rfl⟩, trivial⟩⟩
  | cs :: rest, v18n, v17, hd, h => by
      rw [laws_toSurrealTermS_l0] at h
      obtain ⟨hrow, hd1, hlt⟩ := drop_cons hd
      refine LoopOk.step ?_
      conv => whnf
      refine splD (fun _ => ?_) (fun g => absurd hlt g)
      conv => whnf
      obtain ⟨x48, x49, x50, e51, h⟩ := cell_sii_ex h
      rw [e51] at hrow
      refine Req.of (Int.natCast_nonneg _) ?_
      refine Row.of _ hrow ?_
      conv => whnf
      obtain ⟨y52, e53, h⟩ := bind_ex h
      refine CallOk.of (laws_toSurrealTerm_ct hrec_laws_toSurreal e53) ?_
      conv => whnf
      obtain ⟨g54, h⟩ := req_ex h
      refine Req.of g54 ?_
      conv => whnf
      refine Take.all (rfl) ?_
      conv => whnf
      obtain ⟨g59, x55, x56, x57, e58, h⟩ := row_sii_ex h
      refine Row.of _ e58 ?_
      conv => whnf
      refine CutK.go ?_
      conv => whnf
      exact LoopOk.back (laws_toSurrealTermS_l0_ct hrec_laws_toSurreal hx rest (v18n + 1) _ hd1 h) [some 64000] [] ⟨⟨rfl, rfl⟩, ⟨rfl, ⟨rfl, rfl, rows_same⟩, trivial⟩, rfl, ⟨(by first | rfl | exact List.length_append.symm | (simp; done) | omega), rfl⟩, i64eq (wrap_up hlt hx), trivial⟩
def laws_toSurrealTermS (rec_laws_toSurreal : Rw → Option Rw) (a1 : Rw) : Option Rw :=
  (if 0 ≤ (a1.length : Int) ∧ (a1.length : Int) ≤ 1099511627776 then (if a1.length ≤ cap then (laws_toSurrealTermS_l0 rec_laws_toSurreal a1 (fun (v33 : Rw) => some v33) a1 0 (List.replicate ((a1.length : Int) : Int).toNat [D.sl ([]), D.int .i64 0, D.int .i64 0] : Rw)) else none) else none)
set_option maxHeartbeats 4000000 in
set_option maxRecDepth 100000 in
theorem laws_toSurrealTermS_ct {rec_laws_toSurreal : Rw → Option Rw} (hrec_laws_toSurreal : ∀ (a1 : Rw) (r : Rw), rec_laws_toSurreal a1 = some r → Ct prog 17 [.agg [.d (D.sl a1)]] (⟨[], []⟩) (.agg [.os 8 r.length]) (⟨[], [(105, true, r)]⟩)) {a1 : Rw} {r : Rw} (h : laws_toSurrealTermS rec_laws_toSurreal a1 = some r) : Ct prog 57 [.d (D.sl a1)] (⟨[], []⟩) (.os 8 r.length) (⟨[], [(105, true, r)]⟩) := by
  rw [laws_toSurrealTermS] at h
  refine Ct.of (c := _) mixed func57 ⟨rfl, rfl, rfl⟩ ?_ rfl
  conv => whnf
  obtain ⟨g2, h⟩ := req_ex h
  refine Req.of (makeRoom (b := 40) (by decide) g2) ?_
  conv => whnf
  obtain ⟨g60, h⟩ := req_ex h
  refine LoopOk.into (laws_toSurrealTermS_l0_ct hrec_laws_toSurreal g60 _ _ _ rfl h) [some 448] [] ⟨⟨rfl, rfl⟩, ⟨rfl, ⟨rfl, rfl, rows_same⟩, trivial⟩, rfl, ⟨(by first | rfl | exact List.length_append.symm | (simp; done) | omega), rfl⟩, rfl, trivial⟩ ?_ (fun _ hs => hs)
  rintro i ts os ⟨rfl, v33, h, rfl, rfl⟩
  conv => whnf
  refine CutK.go ?_
  conv => whnf
  cases h
  exact Done.of [some 67001] [] rfl rfl ⟨⟨rfl, rfl⟩, ⟨rfl, ⟨rfl, rfl, rows_same⟩, trivial⟩, ⟨rfl, rfl⟩, trivial⟩

def laws_toSurreal_b (rec_laws_toSurreal : Rw → Option Rw) (a1 : Rw) : Option Rw :=
  ((laws_toSurrealTermS rec_laws_toSurreal a1).bind fun y2 => some y2)
set_option maxHeartbeats 4000000 in
set_option maxRecDepth 100000 in
theorem laws_toSurreal_b_ct {rec_laws_toSurreal : Rw → Option Rw} (hrec_laws_toSurreal : ∀ (a1 : Rw) (r : Rw), rec_laws_toSurreal a1 = some r → Ct prog 17 [.agg [.d (D.sl a1)]] (⟨[], []⟩) (.agg [.os 8 r.length]) (⟨[], [(105, true, r)]⟩)) {a1 : Rw} {r : Rw} (h : laws_toSurreal_b rec_laws_toSurreal a1 = some r) : Ct prog 17 [.agg [.d (D.sl a1)]] (⟨[], []⟩) (.agg [.os 8 r.length]) (⟨[], [(105, true, r)]⟩) := by
  rw [laws_toSurreal_b] at h
  refine Ct.of (c := _) mixed func17 ⟨rfl, rfl, rfl⟩ ?_ rfl
  conv => whnf
  obtain ⟨y2, e3, h⟩ := bind_ex h
  refine CallOk.of (laws_toSurrealTermS_ct hrec_laws_toSurreal e3) ?_
  conv => whnf
  refine CutK.go ?_
  conv => whnf
  cases h
  exact Done.of [some 384] [] rfl rfl ⟨⟨rfl, rfl⟩, ⟨rfl, ⟨rfl, rfl, rows_same⟩, trivial⟩, ⟨⟨rfl, rfl⟩, trivial⟩, trivial⟩
def laws_toSurreal : Nat → Rw → Option Rw
  | 0, _ => none
  | k + 1, a1 => laws_toSurreal_b (laws_toSurreal k) a1
theorem laws_toSurreal_ct' : ∀ (k : Nat) (a1 : Rw) (r : Rw), laws_toSurreal k a1 = some r → Ct prog 17 [.agg [.d (D.sl a1)]] (⟨[], []⟩) (.agg [.os 8 r.length]) (⟨[], [(105, true, r)]⟩)
  | 0, _, _, h => by rw [laws_toSurreal] at h; cases h
  | k + 1, _, _, h => by rw [laws_toSurreal] at h; exact laws_toSurreal_b_ct (laws_toSurreal_ct' k) h
theorem laws_toSurreal_ct {k : Nat} {a1 : Rw} {r : Rw} (h : laws_toSurreal k a1 = some r) : Ct prog 17 [.agg [.d (D.sl a1)]] (⟨[], []⟩) (.agg [.os 8 r.length]) (⟨[], [(105, true, r)]⟩) := laws_toSurreal_ct' k _ _ h

def impl_in  (a1 : Int) (a2 : Int) (a3 : Int) : Option Bool :=
  (if a2 ≤ a1 then (if a1 ≤ a3 then some true else some false) else some false)
set_option maxHeartbeats 4000000 in
set_option maxRecDepth 100000 in
theorem impl_in_ct  {a1 : Int} {a2 : Int} {a3 : Int} {r : Bool} (h : impl_in a1 a2 a3 = some r) : Ct prog 187 [.d (D.int .i64 a1), .d (D.int .i64 a2), .d (D.int .i64 a3)] (⟨[], []⟩) (.d (D.bool r)) (⟨[], []⟩) := by
  rw [impl_in] at h
  refine Ct.of (c := _) mixed func187 ⟨rfl, rfl, rfl⟩ ?_ rfl
  conv => whnf
  refine splD (fun g4 => ?_) (fun g4 => ?_)
  · replace h := iteP h g4
    conv => whnf
    refine splD (fun g5 => ?_) (fun g5 => ?_)
    · replace h := iteP h g5
      conv => whnf
      cases h
      exact Done.of [] [] rfl rfl ⟨⟨rfl, rfl⟩, ⟨rfl, trivial⟩, rfl, trivial⟩
    · replace h := iteN h g5
      conv => whnf
      cases h
      exact Done.of [] [] rfl rfl ⟨⟨rfl, rfl⟩, ⟨rfl, trivial⟩, rfl, trivial⟩
  · replace h := iteN h g4
    conv => whnf
    cases h
    exact Done.of [] [] rfl rfl ⟨⟨rfl, rfl⟩, ⟨rfl, trivial⟩, rfl, trivial⟩

def impl_size  (a1 : Int) : Option Int :=
  some (if a1 < (IntKind.i64.wrap (0 - a1)) then IntKind.i64.wrap (0 - a1) else a1)
set_option maxHeartbeats 4000000 in
set_option maxRecDepth 100000 in
theorem impl_size_ct  {a1 : Int} {r : Int} (h : impl_size a1 = some r) : Ct prog 205 [.d (D.int .i64 a1)] (⟨[], []⟩) (.d (D.int .i64 r)) (⟨[], []⟩) := by
  rw [impl_size] at h
  refine Ct.of (c := _) mixed func205 ⟨rfl, rfl, rfl⟩ ?_ rfl
  conv => whnf
  cases h
  exact Done.of [] [] rfl rfl ⟨⟨rfl, rfl⟩, ⟨rfl, trivial⟩, rfl, trivial⟩

def impl_gcd_l0 (K0 : Int → Option Int) : Nat → Int → Int → Option Int
  | 0, _, _ => none
  | n + 1, v5, v6 => (if v6 = (0 : Int) then (K0 v5) else (if v6 ≠ 0 then (impl_gcd_l0 K0 n v6 (v5.tmod v6)) else none))
set_option maxRecDepth 100000 in
theorem impl_gcd_l0_ct {K0 : Int → Option Int} {r : Int} : ∀ (n : Nat) (v5 : Int) (v6 : Int), impl_gcd_l0 K0 n v5 v6 = some r → LoopOk prog 0 (lp f200 0) (mk 13 [(0, .d (D.int .i64 v5)), (1, .d (D.int .i64 v6))] []) (LoopEnd prog f200 0 13 (.d (D.int .i64 r)) (⟨[], []⟩) (fun i ts os => (i = 0 ∧ ∃ v9 : Int, K0 v9 = some r ∧ ts = [(0, .d (D.int .i64 v9))] ∧ os = [])))
  | 0, _, _, h => by
      rw [impl_gcd_l0] at h; cases h
  | n + 1, v5, v6, h => by
      rw [impl_gcd_l0] at h
      refine LoopOk.step ?_
      conv => whnf
      refine splN (fun g12 => ?_) (fun g12 => ?_)
      · replace h := iteN h g12
        conv => whnf
        obtain ⟨g13, h⟩ := req_ex h
        refine Req.of g13 ?_
        conv => whnf
        exact LoopOk.back (impl_gcd_l0_ct  n _ _ h) [] [] ⟨⟨rfl, rfl⟩, ⟨rfl, trivial⟩, rfl, rfl, trivial⟩
      · replace h := iteP h g12
        conv => whnf
        exact ⟨_, _, [], [], ⟨rfl, _, h, rfl, rfl⟩, ⟨⟨rfl, rfl⟩, ⟨rfl, trivial⟩, rfl, trivial⟩⟩
def impl_gcd (k : Nat) (a1 : Int) (a2 : Int) : Option Int :=
  (impl_gcd_l0 (fun (v9 : Int) => ((impl_size v9).bind fun y14 => some y14)) k a1 a2)
set_option maxHeartbeats 4000000 in
set_option maxRecDepth 100000 in
theorem impl_gcd_ct {k : Nat} {a1 : Int} {a2 : Int} {r : Int} (h : impl_gcd k a1 a2 = some r) : Ct prog 200 [.d (D.int .i64 a1), .d (D.int .i64 a2)] (⟨[], []⟩) (.d (D.int .i64 r)) (⟨[], []⟩) := by
  rw [impl_gcd] at h
  refine Ct.of (c := _) mixed func200 ⟨rfl, rfl, rfl⟩ ?_ rfl
  conv => whnf
  refine LoopOk.into (impl_gcd_l0_ct  _ _ _ h) [] [] ⟨⟨rfl, rfl⟩, ⟨rfl, trivial⟩, rfl, rfl, trivial⟩ ?_ (fun _ hs => hs)
  rintro i ts os ⟨rfl, v9, h, rfl, rfl⟩
  conv => whnf
  refine CutK.go ?_
  conv => whnf
  obtain ⟨y14, e15, h⟩ := bind_ex h
  refine CallOk.of (impl_size_ct e15) ?_
  conv => whnf
  refine CutK.go ?_
  conv => whnf
  cases h
  exact Done.of [] [] rfl rfl ⟨⟨rfl, rfl⟩, ⟨rfl, trivial⟩, rfl, trivial⟩

def impl_IsFraction (k : Nat) (a1 : Int) (a2 : Int) : Option Bool :=
  ((impl_in a2 1 1000000).bind fun y3 => (if y3 = true then ((impl_in a1 (-1000000) 1000000).bind fun y6 => (if y6 = true then ((impl_gcd k a1 a2).bind fun y9 => (if y9 = (1 : Int) then some true else some false)) else some false)) else some false))
set_option maxHeartbeats 4000000 in
set_option maxRecDepth 100000 in
theorem impl_IsFraction_ct {k : Nat} {a1 : Int} {a2 : Int} {r : Bool} (h : impl_IsFraction k a1 a2 = some r) : Ct prog 180 [.agg [.d (D.int .i64 a1), .d (D.int .i64 a2)]] (⟨[], []⟩) (.d (D.bool r)) (⟨[], []⟩) := by
  rw [impl_IsFraction] at h
  refine Ct.of (c := _) mixed func180 ⟨rfl, rfl, rfl⟩ ?_ rfl
  conv => whnf
  obtain ⟨y3, e4, h⟩ := bind_ex h
  refine CallOk.of (impl_in_ct e4) ?_
  conv => whnf
  refine spl (fun g5 => ?_) (fun g5 => ?_)
  · replace h := iteT h g5
    conv => whnf
    obtain ⟨y6, e7, h⟩ := bind_ex h
    refine CallOk.of (impl_in_ct e7) ?_
    conv => whnf
    refine spl (fun g8 => ?_) (fun g8 => ?_)
    · replace h := iteT h g8
      conv => whnf
      obtain ⟨y9, e10, h⟩ := bind_ex h
      refine CallOk.of (impl_gcd_ct e10) ?_
      conv => whnf
      refine splD (fun g11 => ?_) (fun g11 => ?_)
      · replace h := iteP h g11
        conv => whnf
        refine CutK.go ?_
        conv => whnf
        cases h
        exact Done.of [] [] rfl rfl ⟨⟨rfl, rfl⟩, ⟨rfl, trivial⟩, rfl, trivial⟩
      · replace h := iteN h g11
        conv => whnf
        refine CutK.go ?_
        conv => whnf
        cases h
        exact Done.of [] [] rfl rfl ⟨⟨rfl, rfl⟩, ⟨rfl, trivial⟩, rfl, trivial⟩
    · replace h := iteF h g8
      conv => whnf
      refine CutK.go ?_
      conv => whnf
      cases h
      exact Done.of [] [] rfl rfl ⟨⟨rfl, rfl⟩, ⟨rfl, trivial⟩, rfl, trivial⟩
  · replace h := iteF h g5
    conv => whnf
    refine CutK.go ?_
    conv => whnf
    cases h
    exact Done.of [] [] rfl rfl ⟨⟨rfl, rfl⟩, ⟨rfl, trivial⟩, rfl, trivial⟩

def impl_compare  (a1 : Int) (a2 : Int) : Option Int :=
  (if a1 < a2 then some (-1) else (if a2 < a1 then some 1 else some 0))
set_option maxHeartbeats 4000000 in
set_option maxRecDepth 100000 in
theorem impl_compare_ct  {a1 : Int} {a2 : Int} {r : Int} (h : impl_compare a1 a2 = some r) : Ct prog 132 [.d (D.int .i64 a1), .d (D.int .i64 a2)] (⟨[], []⟩) (.d (D.int .i64 r)) (⟨[], []⟩) := by
  rw [impl_compare] at h
  refine Ct.of (c := _) mixed func132 ⟨rfl, rfl, rfl⟩ ?_ rfl
  conv => whnf
  refine splD (fun g3 => ?_) (fun g3 => ?_)
  · replace h := iteP h g3
    conv => whnf
    cases h
    exact Done.of [] [] rfl rfl ⟨⟨rfl, rfl⟩, ⟨rfl, trivial⟩, rfl, trivial⟩
  · replace h := iteN h g3
    conv => whnf
    refine splD (fun g4 => ?_) (fun g4 => ?_)
    · replace h := iteP h g4
      conv => whnf
      cases h
      exact Done.of [] [] rfl rfl ⟨⟨rfl, rfl⟩, ⟨rfl, trivial⟩, rfl, trivial⟩
    · replace h := iteN h g4
      conv => whnf
      cases h
      exact Done.of [] [] rfl rfl ⟨⟨rfl, rfl⟩, ⟨rfl, trivial⟩, rfl, trivial⟩

def impl_cmpFractions  (a1 : Int) (a2 : Int) (a3 : Int) (a4 : Int) : Option Int :=
  ((impl_compare (IntKind.i64.wrap (a1 * a4)) (IntKind.i64.wrap (a3 * a2))).bind fun y5 => some y5)
set_option maxHeartbeats 4000000 in
set_option maxRecDepth 100000 in
theorem impl_cmpFractions_ct  {a1 : Int} {a2 : Int} {a3 : Int} {a4 : Int} {r : Int} (h : impl_cmpFractions a1 a2 a3 a4 = some r) : Ct prog 133 [.agg [.d (D.int .i64 a1), .d (D.int .i64 a2)], .agg [.d (D.int .i64 a3), .d (D.int .i64 a4)]] (⟨[], []⟩) (.d (D.int .i64 r)) (⟨[], []⟩) := by
  rw [impl_cmpFractions] at h
  refine Ct.of (c := _) mixed func133 ⟨rfl, rfl, rfl⟩ ?_ rfl
  conv => whnf
  obtain ⟨y5, e6, h⟩ := bind_ex h
  refine CallOk.of (impl_compare_ct e6) ?_
  conv => whnf
  refine CutK.go ?_
  conv => whnf
  cases h
  exact Done.of [] [] rfl rfl ⟨⟨rfl, rfl⟩, ⟨rfl, trivial⟩, rfl, trivial⟩

def impl_order_p2  : Option Int :=
  some 0
set_option maxHeartbeats 4000000 in
set_option maxRecDepth 100000 in
theorem impl_order_p2_ct  {r : Int} (h : impl_order_p2 = some r) : X prog 0 (tlF f75 2) (mk 86 [] []) (finK prog f75 0 (.d (D.int .i64 r)) (⟨[], []⟩)) := by
  rw [impl_order_p2] at h
  conv => whnf
  cases h
  exact Done.of [] [] rfl rfl ⟨⟨rfl, rfl⟩, ⟨rfl, trivial⟩, rfl, trivial⟩
def impl_order_l0 (rec_impl_order : Rw → Rw → Option Int) (a1 : Rw) (a2 : Rw) (K0 : Option Int) : Nat → Int → Option Int
  | 0, _ => none
  | n + 1, v211 => (if v211 < (a1.length : Int) then (if v211 = (a1.length : Int) then (row_sii a2 v211 fun x359 x360 x361 => ((impl_compare x360 0).bind fun y364 => some (IntKind.i64.wrap (0 - y364)))) else (if v211 = (a2.length : Int) then (row_sii a1 v211 fun x367 x368 x369 => ((impl_compare x368 0).bind fun y372 => some y372)) else (row_sii a1 v211 fun x374 x375 x376 => (row_sii a2 v211 fun x379 x380 x381 => ((rec_impl_order x374 x379).bind fun y384 => (if y384 = (1 : Int) then ((impl_compare x375 0).bind fun y387 => some y387) else (if y384 = ((-1) : Int) then ((impl_compare x380 0).bind fun y390 => some (IntKind.i64.wrap (0 - y390))) else ((impl_cmpFractions x375 x376 x380 x381).bind fun y392 => (if y392 = (0 : Int) then (impl_order_l0 rec_impl_order a1 a2 K0 n (IntKind.i64.wrap (v211 + 1))) else some y392))))))))) else (if v211 < (a2.length : Int) then (if v211 = (a1.length : Int) then (row_sii a2 v211 fun x397 x398 x399 => ((impl_compare x398 0).bind fun y402 => some (IntKind.i64.wrap (0 - y402)))) else (if v211 = (a2.length : Int) then (row_sii a1 v211 fun x405 x406 x407 => ((impl_compare x406 0).bind fun y410 => some y410)) else (row_sii a1 v211 fun x412 x413 x414 => (row_sii a2 v211 fun x417 x418 x419 => ((rec_impl_order x412 x417).bind fun y422 => (if y422 = (1 : Int) then ((impl_compare x413 0).bind fun y425 => some y425) else (if y422 = ((-1) : Int) then ((impl_compare x418 0).bind fun y428 => some (IntKind.i64.wrap (0 - y428))) else ((impl_cmpFractions x413 x414 x418 x419).bind fun y430 => (if y430 = (0 : Int) then (impl_order_l0 rec_impl_order a1 a2 K0 n (IntKind.i64.wrap (v211 + 1))) else some y430))))))))) else (K0)))
set_option maxRecDepth 100000 in
theorem impl_order_l0_ct {rec_impl_order : Rw → Rw → Option Int} {a1 : Rw} {a2 : Rw} {K0 : Option Int} (hrec_impl_order : ∀ (a1 : Rw) (a2 : Rw) (r : Int), rec_impl_order a1 a2 = some r → Ct prog 75 [.agg [.d (D.sl a1)], .agg [.d (D.sl a2)]] (⟨[], []⟩) (.d (D.int .i64 r)) (⟨[], []⟩)) {r : Int} : ∀ (n : Nat) (v211 : Int), impl_order_l0 rec_impl_order a1 a2 K0 n v211 = some r → LoopOk prog 0 (lp f75 0) (mk 86 [(2, .ptr 128 0), (3, .ptr 192 0), (5, .d (D.int .i64 v211))] [(128, .box 33 [.d (D.sl a1)]), (192, .box 33 [.d (D.sl a2)])]) (LoopEnd prog f75 0 86 (.d (D.int .i64 r)) (⟨[], []⟩) (fun i ts os => (i = 0 ∧ K0 = some r ∧ ts = [] ∧ os = [])))
  | 0, _, h => by
      rw [impl_order_l0] at h; cases h
  | n + 1, v211, h => by
      rw [impl_order_l0] at h
      refine LoopOk.step ?_
      conv => whnf
      refine splD (fun g357 => ?_) (fun g357 => ?_)
      · replace h := iteP h g357
        conv => whnf
        refine splD (fun g358 => ?_) (fun g358 => ?_)
        · replace h := iteP h g358
          conv => whnf
          obtain ⟨g363, x359, x360, x361, e362, h⟩ := row_sii_ex h
          refine Req.of g363 ?_
          refine Row.of _ e362 ?_
          conv => whnf
          obtain ⟨y364, e365, h⟩ := bind_ex h
          refine CallOk.of (impl_compare_ct e365) ?_
          conv => whnf
          refine CutK.norm [4] [] ?_
          conv => whnf
          cases h
          exact Done.of [] [] rfl rfl ⟨⟨rfl, rfl⟩, ⟨rfl, trivial⟩, rfl, trivial⟩
        · replace h := iteN h g358
          conv => whnf
          refine CutK.norm [2, 3, 5] [128, 192] ?_
          conv => whnf
          refine splD (fun g366 => ?_) (fun g366 => ?_)
          · replace h := iteP h g366
            conv => whnf
            obtain ⟨g371, x367, x368, x369, e370, h⟩ := row_sii_ex h
            refine Req.of g371 ?_
            refine Row.of _ e370 ?_
            conv => whnf
            obtain ⟨y372, e373, h⟩ := bind_ex h
            refine CallOk.of (impl_compare_ct e373) ?_
            conv => whnf
            refine CutK.norm [4] [] ?_
            conv => whnf
            cases h
            exact Done.of [] [] rfl rfl ⟨⟨rfl, rfl⟩, ⟨rfl, trivial⟩, rfl, trivial⟩
          · replace h := iteN h g366
            conv => whnf
            refine CutK.norm [2, 3, 5] [128, 192] ?_
            conv => whnf
            obtain ⟨g378, x374, x375, x376, e377, h⟩ := row_sii_ex h
            refine Req.of g378 ?_
            refine Row.of _ e377 ?_
            conv => whnf
            obtain ⟨g383, x379, x380, x381, e382, h⟩ := row_sii_ex h
            refine Req.of g383 ?_
            refine Row.of _ e382 ?_
            conv => whnf
            obtain ⟨y384, e385, h⟩ := bind_ex h
            refine CallOk.of (hrec_impl_order _ _ _ e385) ?_
            conv => whnf
            refine CutK.norm [2, 3, 5, 6, 7, 64] [128, 192, 384, 448] ?_
            conv => whnf
            refine splD (fun g386 => ?_) (fun g386 => ?_)
            · replace h := iteP h g386
              conv => whnf
              obtain ⟨y387, e388, h⟩ := bind_ex h
              refine CallOk.of (impl_compare_ct e388) ?_
              conv => whnf
              refine CutK.norm [4] [] ?_
              conv => whnf
              cases h
              exact Done.of [] [] rfl rfl ⟨⟨rfl, rfl⟩, ⟨rfl, trivial⟩, rfl, trivial⟩
            · replace h := iteN h g386
              conv => whnf
              refine splD (fun g389 => ?_) (fun g389 => ?_)
              · replace h := iteP h g389
                conv => whnf
                obtain ⟨y390, e391, h⟩ := bind_ex h
                refine CallOk.of (impl_compare_ct e391) ?_
                conv => whnf
                refine CutK.norm [4] [] ?_
                conv => whnf
                cases h
                exact Done.of [] [] rfl rfl ⟨⟨rfl, rfl⟩, ⟨rfl, trivial⟩, rfl, trivial⟩
              · replace h := iteN h g389
                conv => whnf
                refine CutK.norm [2, 3, 5, 6, 7] [128, 192, 384, 448] ?_
                conv => whnf
                obtain ⟨y392, e393, h⟩ := bind_ex h
                refine CallOk.of (impl_cmpFractions_ct e393) ?_
                conv => whnf
                refine CutK.norm [2, 3, 5, 8] [128, 192] ?_
                conv => whnf
                refine splN (fun g394 => ?_) (fun g394 => ?_)
                · replace h := iteN h g394
                  conv => whnf
                  cases h
                  exact Done.of [] [] rfl rfl ⟨⟨rfl, rfl⟩, ⟨rfl, trivial⟩, rfl, trivial⟩
                · replace h := iteP h g394
                  conv => whnf
                  refine CutK.norm [2, 3, 5] [128, 192] ?_
                  conv => whnf
                  exact LoopOk.back (impl_order_l0_ct hrec_impl_order n _ h) [some 128, some 192] [] ⟨⟨rfl, rfl⟩, ⟨rfl, ⟨rfl, rfl, trivial⟩, ⟨rfl, rfl, trivial⟩, trivial⟩, ⟨rfl, rfl⟩, ⟨rfl, rfl⟩, rfl, trivial⟩
      · replace h := iteN h g357
        conv => whnf
        refine splD (fun g395 => ?_) (fun g395 => ?_)
        · replace h := iteP h g395
          conv => whnf
          refine splD (fun g396 => ?_) (fun g396 => ?_)
          · replace h := iteP h g396
            conv => whnf
            obtain ⟨g401, x397, x398, x399, e400, h⟩ := row_sii_ex h
            refine Req.of g401 ?_
            refine Row.of _ e400 ?_
            conv => whnf
            obtain ⟨y402, e403, h⟩ := bind_ex h
            refine CallOk.of (impl_compare_ct e403) ?_
            conv => whnf
            refine CutK.norm [4] [] ?_
            conv => whnf
            cases h
            exact Done.of [] [] rfl rfl ⟨⟨rfl, rfl⟩, ⟨rfl, trivial⟩, rfl, trivial⟩
          · replace h := iteN h g396
            conv => whnf
            refine CutK.norm [2, 3, 5] [128, 192] ?_
            conv => whnf
            refine splD (fun g404 => ?_) (fun g404 => ?_)
            · replace h := iteP h g404
              conv => whnf
              obtain ⟨g409, x405, x406, x407, e408, h⟩ := row_sii_ex h
              refine Req.of g409 ?_
              refine Row.of _ e408 ?_
              conv => whnf
              obtain ⟨y410, e411, h⟩ := bind_ex h
              refine CallOk.of (impl_compare_ct e411) ?_
              conv => whnf
              refine CutK.norm [4] [] ?_
              conv => whnf
              cases h
              exact Done.of [] [] rfl rfl ⟨⟨rfl, rfl⟩, ⟨rfl, trivial⟩, rfl, trivial⟩
            · replace h := iteN h g404
              conv => whnf
              refine CutK.norm [2, 3, 5] [128, 192] ?_
              conv => whnf
              obtain ⟨g416, x412, x413, x414, e415, h⟩ := row_sii_ex h
              refine Req.of g416 ?_
              refine Row.of _ e415 ?_
              conv => whnf
              obtain ⟨g421, x417, x418, x419, e420, h⟩ := row_sii_ex h
              refine Req.of g421 ?_
              refine Row.of _ e420 ?_
              conv => whnf
              obtain ⟨y422, e423, h⟩ := bind_ex h
              refine CallOk.of (hrec_impl_order _ _ _ e423) ?_
              conv => whnf
              refine CutK.norm [2, 3, 5, 6, 7, 64] [128, 192, 384, 448] ?_
              conv => whnf
              refine splD (fun g424 => ?_) (fun g424 => ?_)
              · replace h := iteP h g424
                conv => whnf
                obtain ⟨y425, e426, h⟩ := bind_ex h
                refine CallOk.of (impl_compare_ct e426) ?_
                conv => whnf
                refine CutK.norm [4] [] ?_
                conv => whnf
                cases h
                exact Done.of [] [] rfl rfl ⟨⟨rfl, rfl⟩, ⟨rfl, trivial⟩, rfl, trivial⟩
              · replace h := iteN h g424
                conv => whnf
                refine splD (fun g427 => ?_) (fun g427 => ?_)
                · replace h := iteP h g427
                  conv => whnf
                  obtain ⟨y428, e429, h⟩ := bind_ex h
                  refine CallOk.of (impl_compare_ct e429) ?_
                  conv => whnf
                  refine CutK.norm [4] [] ?_
                  conv => whnf
                  cases h
                  exact Done.of [] [] rfl rfl ⟨⟨rfl, rfl⟩, ⟨rfl, trivial⟩, rfl, trivial⟩
                · replace h := iteN h g427
                  conv => whnf
                  refine CutK.norm [2, 3, 5, 6, 7] [128, 192, 384, 448] ?_
                  conv => whnf
                  obtain ⟨y430, e431, h⟩ := bind_ex h
                  refine CallOk.of (impl_cmpFractions_ct e431) ?_
                  conv => whnf
                  refine CutK.norm [2, 3, 5, 8] [128, 192] ?_
                  conv => whnf
                  refine splN (fun g432 => ?_) (fun g432 => ?_)
                  · replace h := iteN h g432
                    conv => whnf
                    cases h
                    exact Done.of [] [] rfl rfl ⟨⟨rfl, rfl⟩, ⟨rfl, trivial⟩, rfl, trivial⟩
                  · replace h := iteP h g432
                    conv => whnf
                    refine CutK.norm [2, 3, 5] [128, 192] ?_
                    conv => whnf
                    exact LoopOk.back (impl_order_l0_ct hrec_impl_order n _ h) [some 128, some 192] [] ⟨⟨rfl, rfl⟩, ⟨rfl, ⟨rfl, rfl, trivial⟩, ⟨rfl, rfl, trivial⟩, trivial⟩, ⟨rfl, rfl⟩, ⟨rfl, rfl⟩, rfl, trivial⟩
        · replace h := iteN h g395
          conv => whnf
          exact ⟨_, _, [], [], ⟨rfl, h, rfl, rfl⟩, ⟨⟨rfl, rfl⟩, ⟨rfl, trivial⟩, trivial⟩⟩
def impl_order_b (k : Nat) (rec_impl_order : Rw → Rw → Option Int) (a1 : Rw) (a2 : Rw) : Option Int :=
  (impl_order_l0 rec_impl_order a1 a2 (impl_order_p2) k 0)
set_option maxHeartbeats 4000000 in
set_option maxRecDepth 100000 in
theorem impl_order_b_ct {k : Nat} {rec_impl_order : Rw → Rw → Option Int} (hrec_impl_order : ∀ (a1 : Rw) (a2 : Rw) (r : Int), rec_impl_order a1 a2 = some r → Ct prog 75 [.agg [.d (D.sl a1)], .agg [.d (D.sl a2)]] (⟨[], []⟩) (.d (D.int .i64 r)) (⟨[], []⟩)) {a1 : Rw} {a2 : Rw} {r : Int} (h : impl_order_b k rec_impl_order a1 a2 = some r) : Ct prog 75 [.agg [.d (D.sl a1)], .agg [.d (D.sl a2)]] (⟨[], []⟩) (.d (D.int .i64 r)) (⟨[], []⟩) := by
  rw [impl_order_b] at h
  refine Ct.of (c := _) mixed func75 ⟨rfl, rfl, rfl⟩ ?_ rfl
  conv => whnf
  refine LoopOk.into (impl_order_l0_ct hrec_impl_order _ _ h) [some 128, some 192] [] ⟨⟨rfl, rfl⟩, ⟨rfl, ⟨rfl, rfl, trivial⟩, ⟨rfl, rfl, trivial⟩, trivial⟩, ⟨rfl, rfl⟩, ⟨rfl, rfl⟩, rfl, trivial⟩ ?_ (fun _ hs => hs)
  rintro i ts os ⟨rfl, h, rfl, rfl⟩
  conv => whnf
  exact CutK.piece (impl_order_p2_ct  h) [] [] ⟨⟨rfl, rfl⟩, ⟨rfl, trivial⟩, trivial⟩
def impl_order : Nat → Rw → Rw → Option Int
  | 0, _, _ => none
  | k + 1, a1, a2 => impl_order_b k (impl_order k) a1 a2
theorem impl_order_ct' : ∀ (k : Nat) (a1 : Rw) (a2 : Rw) (r : Int), impl_order k a1 a2 = some r → Ct prog 75 [.agg [.d (D.sl a1)], .agg [.d (D.sl a2)]] (⟨[], []⟩) (.d (D.int .i64 r)) (⟨[], []⟩)
  | 0, _, _, _, h => by rw [impl_order] at h; cases h
  | k + 1, _, _, _, h => by rw [impl_order] at h; exact impl_order_b_ct (impl_order_ct' k) h
theorem impl_order_ct {k : Nat} {a1 : Rw} {a2 : Rw} {r : Int} (h : impl_order k a1 a2 = some r) : Ct prog 75 [.agg [.d (D.sl a1)], .agg [.d (D.sl a2)]] (⟨[], []⟩) (.d (D.int .i64 r)) (⟨[], []⟩) := impl_order_ct' k _ _ _ h

def impl_surrealAt_2_p3 (o71 : Int) : Option (Bool × Int) :=
  some (true, o71)
set_option maxHeartbeats 4000000 in
set_option maxRecDepth 100000 in
theorem impl_surrealAt_2_p3_ct {o71 : Int} {r : Bool × Int} (h : impl_surrealAt_2_p3 o71 = some r) : X prog 1 (tlF f121 3) (mk 91 [] [(0, .box 3 [.d (D.int .i64 o71)])]) (finK prog f121 1 (.d (D.bool r.1)) (⟨[(3, [.d (D.int .i64 r.2)])], []⟩)) := by
  rw [impl_surrealAt_2_p3] at h
  conv => whnf
  cases h
  exact Done.of [some 0] [] rfl rfl ⟨⟨rfl, rfl⟩, ⟨rfl, ⟨rfl, rfl, trivial⟩, trivial⟩, rfl, trivial⟩
def impl_surrealAt_2_l0 (k : Nat) (rec_impl_surrealAt_2 : Rw → Int → Int → Int → Int → Option (Bool × Int)) (a1 : Rw) (a2 : Int) (a3 : Int) (a4 : Int) (K0 : Int → Option (Bool × Int)) : Rw → Nat → Int → Option (Bool × Int)
  | [], v88n, v89 => (K0 v89)
  | cs :: rest, v88n, v89 => (cell_sii cs fun x137 x138 x139 => (if (60 : Int) < (IntKind.i64.wrap (v89 + 1)) then some (false, IntKind.i64.wrap (v89 + 1)) else ((impl_IsFraction k x138 x139).bind fun y142 => (if y142 = true then (if x138 = (0 : Int) then some (false, IntKind.i64.wrap (v89 + 1)) else ((rec_impl_surrealAt_2 x137 x138 x139 (IntKind.i64.wrap (a4 + 1)) (IntKind.i64.wrap (v89 + 1))).bind fun y146 => (if y146.1 = true then (if (0 : Int) < (v88n : Int) then (row_sii a1 (IntKind.i64.wrap ((v88n : Int) - 1)) fun x150 x151 x152 => ((impl_order k x150 x137).bind fun y155 => (if y155 ≤ (0 : Int) then some (false, y146.2) else (impl_surrealAt_2_l0 k rec_impl_surrealAt_2 a1 a2 a3 a4 K0 rest (v88n + 1) y146.2)))) else (impl_surrealAt_2_l0 k rec_impl_surrealAt_2 a1 a2 a3 a4 K0 rest (v88n + 1) y146.2)) else some (false, y146.2)))) else some (false, IntKind.i64.wrap (v89 + 1))))))
set_option maxRecDepth 100000 in
theorem impl_surrealAt_2_l0_ct {k : Nat} {rec_impl_surrealAt_2 : Rw → Int → Int → Int → Int → Option (Bool × Int)} {a1 : Rw} {a2 : Int} {a3 : Int} {a4 : Int} {K0 : Int → Option (Bool × Int)} (hrec_impl_surrealAt_2 : ∀ (a1 : Rw) (a2 : Int) (a3 : Int) (a4 : Int) (a5 : Int) (r : Bool × Int), rec_impl_surrealAt_2 a1 a2 a3 a4 a5 = some r → Ct prog 121 [.dp [D.sl a1, D.int .i64 a2, D.int .i64 a3], .d (D.int .i64 a4), .ptr 0 0] (⟨[(3, [.d (D.int .i64 a5)])], []⟩) (.d (D.bool r.1)) (⟨[(3, [.d (D.int .i64 r.2)])], []⟩)) {r : Bool × Int} (hx : a1.length ≤ cap) : ∀ (rest : Rw) (v88n : Nat) (v89 : Int), a1.drop v88n = rest → impl_surrealAt_2_l0 k rec_impl_surrealAt_2 a1 a2 a3 a4 K0 rest v88n v89 = some r → LoopOk prog 1 (lp f121 0) (mk 91 [(0, .dp [D.sl a1, D.int .i64 a2, D.int .i64 a3]), (1, .d (D.int .i64 a4)), (2, .ptr 0 0), (26, .d (D.int .i64 (a1.length : Int))), (27, .d (D.int .i64 (v88n : Int)))] [(0, .box 3 [.d (D.int .i64 v89)])]) (LoopEnd prog f121 1 91 (.d (D.bool r.1)) (⟨[(3, [.d (D.int .i64 r.2)])], []⟩) (fun i ts os => (i = 0 ∧ ∃ v113 : Int, K0 v113 = some r ∧ ts = [] ∧ os = [(0, .box 3 [.d (D.int .i64 v113)])])))
  | [], v88n, v89, hd, h => by
      rw [impl_surrealAt_2_l0] at h
      have hn := drop_nil hd
      refine LoopOk.step ?_
      conv => whnf
      refine splD (fun g => absurd g hn) (fun _ => ?_)
      conv => whnf
      exact ⟨_, _, [some 0], [], ⟨rfl, _, h, rfl, rfl⟩, ⟨⟨rfl, rfl⟩, ⟨rfl, ⟨rfl, rfl, trivial⟩, trivial⟩, trivial⟩⟩
  | cs :: rest, v88n, v89, hd, h => by
      rw [impl_surrealAt_2_l0] at h
      obtain ⟨hrow, hd1, hlt⟩ := drop_cons hd
      refine LoopOk.step ?_
      conv => whnf
      refine splD (fun _ => ?_) (fun g => absurd hlt g)
      conv => whnf
      obtain ⟨x137, x138, x139, e140, h⟩ := cell_sii_ex h
      rw [e140] at hrow
      refine Req.of (Int.natCast_nonneg _) ?_
      refine Row.of _ hrow ?_
      conv => whnf
      refine splD (fun g141 => ?_) (fun g141 => ?_)
      · replace h := iteP h g141
        conv => whnf
        refine CutK.norm [0, 1, 2, 7, 8, 26, 27, 70] [0] ?_
        conv => whnf
        cases h
        exact Done.of [some 0] [] rfl rfl ⟨⟨rfl, rfl⟩, ⟨rfl, ⟨rfl, rfl, trivial⟩, trivial⟩, rfl, trivial⟩
      · replace h := iteN h g141
        conv => whnf
        obtain ⟨y142, e143, h⟩ := bind_ex h
        refine CallOk.of (impl_IsFraction_ct e143) ?_
        conv => whnf
        refine spl (fun g144 => ?_) (fun g144 => ?_)
        · replace h := iteT h g144
          conv => whnf
          refine splD (fun g145 => ?_) (fun g145 => ?_)
          · replace h := iteP h g145
            conv => whnf
            refine CutK.norm [0, 1, 2, 7, 8, 26, 27, 70] [0] ?_
            conv => whnf
            cases h
            exact Done.of [some 0] [] rfl rfl ⟨⟨rfl, rfl⟩, ⟨rfl, ⟨rfl, rfl, trivial⟩, trivial⟩, rfl, trivial⟩
          · replace h := iteN h g145
            conv => whnf
            obtain ⟨y146, e147, h⟩ := bind_ex h
            refine CallOk.of (hrec_impl_surrealAt_2 _ _ _ _ _ _ e147) ?_
            conv => whnf
            refine spl (fun g148 => ?_) (fun g148 => ?_)
            · replace h := iteT h g148
              conv => whnf
              refine CutK.norm [0, 1, 2, 7, 8, 26, 27, 70] [0] ?_
              conv => whnf
              refine CutK.norm [0, 1, 2, 7, 8, 26, 27] [0] ?_
              conv => whnf
              refine splD (fun g149 => ?_) (fun g149 => ?_)
              · replace h := iteP h g149
                conv => whnf
                obtain ⟨g154, x150, x151, x152, e153, h⟩ := row_sii_ex h
                refine Req.of g154 ?_
                refine Row.of _ e153 ?_
                conv => whnf
                obtain ⟨y155, e156, h⟩ := bind_ex h
                refine CallOk.of (impl_order_ct e156) ?_
                conv => whnf
                refine splD (fun g157 => ?_) (fun g157 => ?_)
                · replace h := iteP h g157
                  conv => whnf
                  refine CutK.norm [0, 1, 2, 26, 27, 89] [0] ?_
                  conv => whnf
                  cases h
                  exact Done.of [some 0] [] rfl rfl ⟨⟨rfl, rfl⟩, ⟨rfl, ⟨rfl, rfl, trivial⟩, trivial⟩, rfl, trivial⟩
                · replace h := iteN h g157
                  conv => whnf
                  refine CutK.norm [0, 1, 2, 26, 27, 89] [0] ?_
                  conv => whnf
                  refine CutK.norm [0, 1, 2, 26, 27] [0] ?_
                  conv => whnf
                  exact LoopOk.back (impl_surrealAt_2_l0_ct hrec_impl_surrealAt_2 hx rest (v88n + 1) _ hd1 h) [some 0] [] ⟨⟨rfl, rfl⟩, ⟨rfl, ⟨rfl, rfl, trivial⟩, trivial⟩, rfl, rfl, ⟨rfl, rfl⟩, rfl, i64eq (wrap_up hlt hx), trivial⟩
              · replace h := iteN h g149
                conv => whnf
                refine CutK.norm [0, 1, 2, 26, 27, 89] [0] ?_
                conv => whnf
                refine CutK.norm [0, 1, 2, 26, 27] [0] ?_
                conv => whnf
                exact LoopOk.back (impl_surrealAt_2_l0_ct hrec_impl_surrealAt_2 hx rest (v88n + 1) _ hd1 h) [some 0] [] ⟨⟨rfl, rfl⟩, ⟨rfl, ⟨rfl, rfl, trivial⟩, trivial⟩, rfl, rfl, ⟨rfl, rfl⟩, rfl, i64eq (wrap_up hlt hx), trivial⟩
            · replace h := iteF h g148
              conv => whnf
              refine CutK.norm [0, 1, 2, 7, 8, 26, 27, 70] [0] ?_
              conv => whnf
              cases h
              exact Done.of [some 0] [] rfl rfl ⟨⟨rfl, rfl⟩, ⟨rfl, ⟨rfl, rfl, trivial⟩, trivial⟩, rfl, trivial⟩
        · replace h := iteF h g144
          conv => whnf
          refine CutK.norm [0, 1, 2, 7, 8, 26, 27, 70] [0] ?_
          conv => whnf
          cases h
          exact Done.of [some 0] [] rfl rfl ⟨⟨rfl, rfl⟩, ⟨rfl, ⟨rfl, rfl, trivial⟩, trivial⟩, rfl, trivial⟩
def impl_surrealAt_2_b (k : Nat) (rec_impl_surrealAt_2 : Rw → Int → Int → Int → Int → Option (Bool × Int)) (a1 : Rw) (a2 : Int) (a3 : Int) (a4 : Int) (a5 : Int) : Option (Bool × Int) :=
  (if (60 : Int) < (IntKind.i64.wrap (a5 + 1)) then some (false, IntKind.i64.wrap (a5 + 1)) else (if (6 : Int) < a4 then some (false, IntKind.i64.wrap (a5 + 1)) else (if a1.length ≤ cap then (impl_surrealAt_2_l0 k rec_impl_surrealAt_2 a1 a2 a3 a4 (fun (v113 : Int) => (impl_surrealAt_2_p3 v113)) a1 0 (IntKind.i64.wrap (a5 + 1))) else none)))
set_option maxHeartbeats 4000000 in
set_option maxRecDepth 100000 in
theorem impl_surrealAt_2_b_ct {k : Nat} {rec_impl_surrealAt_2 : Rw → Int → Int → Int → Int → Option (Bool × Int)} (hrec_impl_surrealAt_2 : ∀ (a1 : Rw) (a2 : Int) (a3 : Int) (a4 : Int) (a5 : Int) (r : Bool × Int), rec_impl_surrealAt_2 a1 a2 a3 a4 a5 = some r → Ct prog 121 [.dp [D.sl a1, D.int .i64 a2, D.int .i64 a3], .d (D.int .i64 a4), .ptr 0 0] (⟨[(3, [.d (D.int .i64 a5)])], []⟩) (.d (D.bool r.1)) (⟨[(3, [.d (D.int .i64 r.2)])], []⟩)) {a1 : Rw} {a2 : Int} {a3 : Int} {a4 : Int} {a5 : Int} {r : Bool × Int} (h : impl_surrealAt_2_b k rec_impl_surrealAt_2 a1 a2 a3 a4 a5 = some r) : Ct prog 121 [.dp [D.sl a1, D.int .i64 a2, D.int .i64 a3], .d (D.int .i64 a4), .ptr 0 0] (⟨[(3, [.d (D.int .i64 a5)])], []⟩) (.d (D.bool r.1)) (⟨[(3, [.d (D.int .i64 r.2)])], []⟩) := by
  rw [impl_surrealAt_2_b] at h
  refine Ct.of (c := _) mixed func121 ⟨rfl, rfl, rfl⟩ ?_ rfl
  conv => whnf
  refine splD (fun g72 => ?_) (fun g72 => ?_)
  · replace h := iteP h g72
    conv => whnf
    cases h
    exact Done.of [some 0] [] rfl rfl ⟨⟨rfl, rfl⟩, ⟨rfl, ⟨rfl, rfl, trivial⟩, trivial⟩, rfl, trivial⟩
  · replace h := iteN h g72
    conv => whnf
    refine splD (fun g73 => ?_) (fun g73 => ?_)
    · replace h := iteP h g73
      conv => whnf
      cases h
      exact Done.of [some 0] [] rfl rfl ⟨⟨rfl, rfl⟩, ⟨rfl, ⟨rfl, rfl, trivial⟩, trivial⟩, rfl, trivial⟩
    · replace h := iteN h g73
      conv => whnf
      obtain ⟨g158, h⟩ := req_ex h
      refine LoopOk.into (impl_surrealAt_2_l0_ct hrec_impl_surrealAt_2 g158 _ _ _ rfl h) [some 0] [] ⟨⟨rfl, rfl⟩, ⟨rfl, ⟨rfl, rfl, trivial⟩, trivial⟩, rfl, rfl, ⟨rfl, rfl⟩, rfl, rfl, trivial⟩ ?_ (fun _ hs => hs)
      rintro i ts os ⟨rfl, v113, h, rfl, rfl⟩
      conv => whnf
      exact CutK.piece (impl_surrealAt_2_p3_ct  h) [some 0] [] ⟨⟨rfl, rfl⟩, ⟨rfl, ⟨rfl, rfl, trivial⟩, trivial⟩, trivial⟩
def impl_surrealAt_2 : Nat → Rw → Int → Int → Int → Int → Option (Bool × Int)
  | 0, _, _, _, _, _ => none
  | k + 1, a1, a2, a3, a4, a5 => impl_surrealAt_2_b k (impl_surrealAt_2 k) a1 a2 a3 a4 a5
theorem impl_surrealAt_2_ct' : ∀ (k : Nat) (a1 : Rw) (a2 : Int) (a3 : Int) (a4 : Int) (a5 : Int) (r : Bool × Int), impl_surrealAt_2 k a1 a2 a3 a4 a5 = some r → Ct prog 121 [.dp [D.sl a1, D.int .i64 a2, D.int .i64 a3], .d (D.int .i64 a4), .ptr 0 0] (⟨[(3, [.d (D.int .i64 a5)])], []⟩) (.d (D.bool r.1)) (⟨[(3, [.d (D.int .i64 r.2)])], []⟩)
  | 0, _, _, _, _, _, _, h => by rw [impl_surrealAt_2] at h; cases h
  | k + 1, _, _, _, _, _, _, h => by rw [impl_surrealAt_2] at h; exact impl_surrealAt_2_b_ct (impl_surrealAt_2_ct' k) h
theorem impl_surrealAt_2_ct {k : Nat} {a1 : Rw} {a2 : Int} {a3 : Int} {a4 : Int} {a5 : Int} {r : Bool × Int} (h : impl_surrealAt_2 k a1 a2 a3 a4 a5 = some r) : Ct prog 121 [.dp [D.sl a1, D.int .i64 a2, D.int .i64 a3], .d (D.int .i64 a4), .ptr 0 0] (⟨[(3, [.d (D.int .i64 a5)])], []⟩) (.d (D.bool r.1)) (⟨[(3, [.d (D.int .i64 r.2)])], []⟩) := impl_surrealAt_2_ct' k _ _ _ _ _ _ h

def impl_surrealAt_p3 (a1 : Rw) (o69 : Int) : Option (Bool × Rw × Int) :=
  some (true, a1, o69)
set_option maxHeartbeats 4000000 in
set_option maxRecDepth 100000 in
theorem impl_surrealAt_p3_ct {a1 : Rw} {o69 : Int} {r : Bool × Rw × Int} (h : impl_surrealAt_p3 a1 o69 = some r) : X prog 2 (tlF f121 3) (mk 91 [] [(0, .box 33 [.d (D.sl a1)]), (64, .box 3 [.d (D.int .i64 o69)])]) (finK prog f121 2 (.d (D.bool r.1)) (⟨[(33, [.d (D.sl r.2.1)]), (3, [.d (D.int .i64 r.2.2)])], []⟩)) := by
  rw [impl_surrealAt_p3] at h
  conv => whnf
  cases h
  exact Done.of [some 0, some 64] [] rfl rfl ⟨⟨rfl, rfl⟩, ⟨rfl, ⟨rfl, rfl, trivial⟩, ⟨rfl, rfl, trivial⟩, trivial⟩, rfl, trivial⟩
def impl_surrealAt_l0 (k : Nat) (a1 : Rw) (a2 : Int) (K0 : Int → Option (Bool × Rw × Int)) : Rw → Nat → Int → Option (Bool × Rw × Int)
  | [], v86n, v87 => (K0 v87)
  | cs :: rest, v86n, v87 => (cell_sii cs fun x135 x136 x137 => (if (60 : Int) < (IntKind.i64.wrap (v87 + 1)) then some (false, a1, IntKind.i64.wrap (v87 + 1)) else ((impl_IsFraction k x136 x137).bind fun y140 => (if y140 = true then (if x136 = (0 : Int) then some (false, a1, IntKind.i64.wrap (v87 + 1)) else ((impl_surrealAt_2 k x135 x136 x137 (IntKind.i64.wrap (a2 + 1)) (IntKind.i64.wrap (v87 + 1))).bind fun y144 => (if y144.1 = true then (if (0 : Int) < (v86n : Int) then (row_sii a1 (IntKind.i64.wrap ((v86n : Int) - 1)) fun x148 x149 x150 => ((impl_order k x148 x135).bind fun y153 => (if y153 ≤ (0 : Int) then some (false, a1, y144.2) else (impl_surrealAt_l0 k a1 a2 K0 rest (v86n + 1) y144.2)))) else (impl_surrealAt_l0 k a1 a2 K0 rest (v86n + 1) y144.2)) else some (false, a1, y144.2)))) else some (false, a1, IntKind.i64.wrap (v87 + 1))))))
set_option maxRecDepth 100000 in
theorem impl_surrealAt_l0_ct {k : Nat} {a1 : Rw} {a2 : Int} {K0 : Int → Option (Bool × Rw × Int)} {r : Bool × Rw × Int} (hx : a1.length ≤ cap) : ∀ (rest : Rw) (v86n : Nat) (v87 : Int), a1.drop v86n = rest → impl_surrealAt_l0 k a1 a2 K0 rest v86n v87 = some r → LoopOk prog 2 (lp f121 0) (mk 91 [(0, .ptr 0 0), (1, .d (D.int .i64 a2)), (2, .ptr 64 0), (26, .d (D.int .i64 (a1.length : Int))), (27, .d (D.int .i64 (v86n : Int)))] [(0, .box 33 [.d (D.sl a1)]), (64, .box 3 [.d (D.int .i64 v87)])]) (LoopEnd prog f121 2 91 (.d (D.bool r.1)) (⟨[(33, [.d (D.sl r.2.1)]), (3, [.d (D.int .i64 r.2.2)])], []⟩) (fun i ts os => (i = 0 ∧ ∃ v111 : Int, K0 v111 = some r ∧ ts = [] ∧ os = [(0, .box 33 [.d (D.sl a1)]), (64, .box 3 [.d (D.int .i64 v111)])])))
  | [], v86n, v87, hd, h => by
      rw [impl_surrealAt_l0] at h
      have hn := drop_nil hd
      refine LoopOk.step ?_
      conv => whnf
      refine splD (fun g => absurd g hn) (fun _ => ?_)
      conv => whnf
      exact ⟨_, _, [some 0, some 64], [], ⟨rfl, _, h, rfl, rfl⟩, ⟨⟨rfl, rfl⟩, ⟨rfl, ⟨rfl, rfl, trivial⟩, ⟨rfl, rfl, trivial⟩, trivial⟩, trivial⟩⟩
  | cs :: rest, v86n, v87, hd, h => by
      rw [impl_surrealAt_l0] at h
      obtain ⟨hrow, hd1, hlt⟩ := drop_cons hd
      refine LoopOk.step ?_
      conv => whnf
      refine splD (fun _ => ?_) (fun g => absurd hlt g)
      conv => whnf
      obtain ⟨x135, x136, x137, e138, h⟩ := cell_sii_ex h
      rw [e138] at hrow
      refine Req.of (Int.natCast_nonneg _) ?_
      refine Row.of _ hrow ?_
      conv => whnf
      refine splD (fun g139 => ?_) (fun g139 => ?_)
      · replace h := iteP h g139
        conv => whnf
        refine CutK.norm [0, 1, 2, 7, 8, 26, 27, 70] [0, 64] ?_
        conv => whnf
        cases h
        exact Done.of [some 0, some 64] [] rfl rfl ⟨⟨rfl, rfl⟩, ⟨rfl, ⟨rfl, rfl, trivial⟩, ⟨rfl, rfl, trivial⟩, trivial⟩, rfl, trivial⟩
      · replace h := iteN h g139
        conv => whnf
        obtain ⟨y140, e141, h⟩ := bind_ex h
        refine CallOk.of (impl_IsFraction_ct e141) ?_
        conv => whnf
        refine spl (fun g142 => ?_) (fun g142 => ?_)
        · replace h := iteT h g142
          conv => whnf
          refine splD (fun g143 => ?_) (fun g143 => ?_)
          · replace h := iteP h g143
            conv => whnf
            refine CutK.norm [0, 1, 2, 7, 8, 26, 27, 70] [0, 64] ?_
            conv => whnf
            cases h
            exact Done.of [some 0, some 64] [] rfl rfl ⟨⟨rfl, rfl⟩, ⟨rfl, ⟨rfl, rfl, trivial⟩, ⟨rfl, rfl, trivial⟩, trivial⟩, rfl, trivial⟩
          · replace h := iteN h g143
            conv => whnf
            obtain ⟨y144, e145, h⟩ := bind_ex h
            refine CallOk.of (impl_surrealAt_2_ct e145) ?_
            conv => whnf
            refine spl (fun g146 => ?_) (fun g146 => ?_)
            · replace h := iteT h g146
              conv => whnf
              refine CutK.norm [0, 1, 2, 7, 8, 26, 27, 70] [0, 64] ?_
              conv => whnf
              refine CutK.norm [0, 1, 2, 7, 8, 26, 27] [0, 64] ?_
              conv => whnf
              refine splD (fun g147 => ?_) (fun g147 => ?_)
              · replace h := iteP h g147
                conv => whnf
                obtain ⟨g152, x148, x149, x150, e151, h⟩ := row_sii_ex h
                refine Req.of g152 ?_
                refine Row.of _ e151 ?_
                conv => whnf
                obtain ⟨y153, e154, h⟩ := bind_ex h
                refine CallOk.of (impl_order_ct e154) ?_
                conv => whnf
                refine splD (fun g155 => ?_) (fun g155 => ?_)
                · replace h := iteP h g155
                  conv => whnf
                  refine CutK.norm [0, 1, 2, 26, 27, 89] [0, 64] ?_
                  conv => whnf
                  cases h
                  exact Done.of [some 0, some 64] [] rfl rfl ⟨⟨rfl, rfl⟩, ⟨rfl, ⟨rfl, rfl, trivial⟩, ⟨rfl, rfl, trivial⟩, trivial⟩, rfl, trivial⟩
                · replace h := iteN h g155
                  conv => whnf
                  refine CutK.norm [0, 1, 2, 26, 27, 89] [0, 64] ?_
                  conv => whnf
                  refine CutK.norm [0, 1, 2, 26, 27] [0, 64] ?_
                  conv => whnf
                  exact LoopOk.back (impl_surrealAt_l0_ct hx rest (v86n + 1) _ hd1 h) [some 0, some 64] [] ⟨⟨rfl, rfl⟩, ⟨rfl, ⟨rfl, rfl, trivial⟩, ⟨rfl, rfl, trivial⟩, trivial⟩, ⟨rfl, rfl⟩, rfl, ⟨rfl, rfl⟩, rfl, i64eq (wrap_up hlt hx), trivial⟩
              · replace h := iteN h g147
                conv => whnf
                refine CutK.norm [0, 1, 2, 26, 27, 89] [0, 64] ?_
                conv => whnf
                refine CutK.norm [0, 1, 2, 26, 27] [0, 64] ?_
                conv => whnf
                exact LoopOk.back (impl_surrealAt_l0_ct hx rest (v86n + 1) _ hd1 h) [some 0, some 64] [] ⟨⟨rfl, rfl⟩, ⟨rfl, ⟨rfl, rfl, trivial⟩, ⟨rfl, rfl, trivial⟩, trivial⟩, ⟨rfl, rfl⟩, rfl, ⟨rfl, rfl⟩, rfl, i64eq (wrap_up hlt hx), trivial⟩
            · replace h := iteF h g146
              conv => whnf
              refine CutK.norm [0, 1, 2, 7, 8, 26, 27, 70] [0, 64] ?_
              conv => whnf
              cases h
              exact Done.of [some 0, some 64] [] rfl rfl ⟨⟨rfl, rfl⟩, ⟨rfl, ⟨rfl, rfl, trivial⟩, ⟨rfl, rfl, trivial⟩, trivial⟩, rfl, trivial⟩
        · replace h := iteF h g142
          conv => whnf
          refine CutK.norm [0, 1, 2, 7, 8, 26, 27, 70] [0, 64] ?_
          conv => whnf
          cases h
          exact Done.of [some 0, some 64] [] rfl rfl ⟨⟨rfl, rfl⟩, ⟨rfl, ⟨rfl, rfl, trivial⟩, ⟨rfl, rfl, trivial⟩, trivial⟩, rfl, trivial⟩
def impl_surrealAt (k : Nat) (a1 : Rw) (a2 : Int) (a3 : Int) : Option (Bool × Rw × Int) :=
  (if (60 : Int) < (IntKind.i64.wrap (a3 + 1)) then some (false, a1, IntKind.i64.wrap (a3 + 1)) else (if (6 : Int) < a2 then some (false, a1, IntKind.i64.wrap (a3 + 1)) else (if a1.length ≤ cap then (impl_surrealAt_l0 k a1 a2 (fun (v111 : Int) => (impl_surrealAt_p3 a1 v111)) a1 0 (IntKind.i64.wrap (a3 + 1))) else none)))
set_option maxHeartbeats 4000000 in
set_option maxRecDepth 100000 in
theorem impl_surrealAt_ct {k : Nat} {a1 : Rw} {a2 : Int} {a3 : Int} {r : Bool × Rw × Int} (h : impl_surrealAt k a1 a2 a3 = some r) : Ct prog 121 [.ptr 0 0, .d (D.int .i64 a2), .ptr 64 0] (⟨[(33, [.d (D.sl a1)]), (3, [.d (D.int .i64 a3)])], []⟩) (.d (D.bool r.1)) (⟨[(33, [.d (D.sl r.2.1)]), (3, [.d (D.int .i64 r.2.2)])], []⟩) := by
  rw [impl_surrealAt] at h
  refine Ct.of (c := _) mixed func121 ⟨rfl, rfl, rfl⟩ ?_ rfl
  conv => whnf
  refine splD (fun g70 => ?_) (fun g70 => ?_)
  · replace h := iteP h g70
    conv => whnf
    cases h
    exact Done.of [some 0, some 64] [] rfl rfl ⟨⟨rfl, rfl⟩, ⟨rfl, ⟨rfl, rfl, trivial⟩, ⟨rfl, rfl, trivial⟩, trivial⟩, rfl, trivial⟩
  · replace h := iteN h g70
    conv => whnf
    refine splD (fun g71 => ?_) (fun g71 => ?_)
    · replace h := iteP h g71
      conv => whnf
      cases h
      exact Done.of [some 0, some 64] [] rfl rfl ⟨⟨rfl, rfl⟩, ⟨rfl, ⟨rfl, rfl, trivial⟩, ⟨rfl, rfl, trivial⟩, trivial⟩, rfl, trivial⟩
    · replace h := iteN h g71
      conv => whnf
      obtain ⟨g156, h⟩ := req_ex h
      refine LoopOk.into (impl_surrealAt_l0_ct  g156 _ _ _ rfl h) [some 0, some 64] [] ⟨⟨rfl, rfl⟩, ⟨rfl, ⟨rfl, rfl, trivial⟩, ⟨rfl, rfl, trivial⟩, trivial⟩, ⟨rfl, rfl⟩, rfl, ⟨rfl, rfl⟩, rfl, rfl, trivial⟩ ?_ (fun _ hs => hs)
      rintro i ts os ⟨rfl, v111, h, rfl, rfl⟩
      conv => whnf
      exact CutK.piece (impl_surrealAt_p3_ct  h) [some 0, some 64] [] ⟨⟨rfl, rfl⟩, ⟨rfl, ⟨rfl, rfl, trivial⟩, ⟨rfl, rfl, trivial⟩, trivial⟩, trivial⟩

def impl_IsSurreal (k : Nat) (a1 : Rw) : Option Bool :=
  ((impl_surrealAt k a1 0 0).bind fun y2 => (if y2.1 = true then some true else some false))
set_option maxHeartbeats 4000000 in
set_option maxRecDepth 100000 in
theorem impl_IsSurreal_ct {k : Nat} {a1 : Rw} {r : Bool} (h : impl_IsSurreal k a1 = some r) : Ct prog 58 [.agg [.d (D.sl a1)]] (⟨[], []⟩) (.d (D.bool r)) (⟨[], []⟩) := by
  rw [impl_IsSurreal] at h
  refine Ct.of (c := _) mixed func58 ⟨rfl, rfl, rfl⟩ ?_ rfl
  conv => whnf
  obtain ⟨y2, e3, h⟩ := bind_ex h
  refine CallOk.of (impl_surrealAt_ct e3) ?_
  conv => whnf
  refine spl (fun g4 => ?_) (fun g4 => ?_)
  · replace h := iteT h g4
    conv => whnf
    refine CutK.go ?_
    conv => whnf
    cases h
    exact Done.of [] [] rfl rfl ⟨⟨rfl, rfl⟩, ⟨rfl, trivial⟩, rfl, trivial⟩
  · replace h := iteF h g4
    conv => whnf
    refine CutK.go ?_
    conv => whnf
    cases h
    exact Done.of [] [] rfl rfl ⟨⟨rfl, rfl⟩, ⟨rfl, trivial⟩, rfl, trivial⟩

def impl_whole  (a1 : Int) : Option (Int × Int) :=
  some (a1, 1)
set_option maxHeartbeats 4000000 in
set_option maxRecDepth 100000 in
theorem impl_whole_ct  {a1 : Int} {r : Int × Int} (h : impl_whole a1 = some r) : Ct prog 79 [.d (D.int .i64 a1)] (⟨[], []⟩) (.agg [.d (D.int .i64 r.1), .d (D.int .i64 r.2)]) (⟨[], []⟩) := by
  rw [impl_whole] at h
  refine Ct.of (c := _) mixed func79 ⟨rfl, rfl, rfl⟩ ?_ rfl
  conv => whnf
  cases h
  exact Done.of [] [] rfl rfl ⟨⟨rfl, rfl⟩, ⟨rfl, trivial⟩, ⟨rfl, rfl, trivial⟩, trivial⟩

def impl_parts_p3 (o49 : Rw) (o50 : Int) (o51 : Int) (o52 : Rw) : Option (Rw × Int × Int × Rw) :=
  some (o49, o50, o51, o52)
set_option maxHeartbeats 4000000 in
set_option maxRecDepth 100000 in
theorem impl_parts_p3_ct {o49 : Rw} {o50 : Int} {o51 : Int} {o52 : Rw} {r : Rw × Int × Int × Rw} (h : impl_parts_p3 o49 o50 o51 o52 = some r) : X prog 0 (tlF f73 3) (mk 46 [(2, .ptr 128 0), (3, .ptr 192 0), (4, .ptr 256 0), (5, .ptr 320 0), (6, .ptr 384 0), (7, .ptr 448 0)] [(128, .box 33 [.es]), (192, .box 83 [.d (D.int .i64 0), .d (D.int .i64 0)]), (256, .box 33 [.es]), (320, .box 33 [.os 1079000 o49.length]), (384, .box 83 [.d (D.int .i64 o50), .d (D.int .i64 o51)]), (448, .box 33 [.os 1079001 o52.length]), (1079000, .arr 105 false o49), (1079001, .arr 105 false o52)]) (finK prog f73 0 (.tup [.agg [.os 8 r.1.length], .agg [.d (D.int .i64 r.2.1), .d (D.int .i64 r.2.2.1)], .agg [.os 9 r.2.2.2.length]]) (⟨[], [(105, false, r.1), (105, false, r.2.2.2)]⟩)) := by
  rw [impl_parts_p3] at h
  conv => whnf
  cases h
  exact Done.of [some 1079000, some 1079001] [] rfl rfl ⟨⟨rfl, rfl⟩, ⟨rfl, ⟨rfl, rfl, rows_same⟩, ⟨rfl, rfl, rows_same⟩, trivial⟩, ⟨⟨⟨rfl, rfl⟩, trivial⟩, ⟨rfl, rfl, trivial⟩, ⟨⟨rfl, rfl⟩, trivial⟩, trivial⟩, trivial⟩
def impl_parts_l0 (k : Nat) (a1 : Rw) (K0 : Rw → Int → Int → Rw → Option (Rw × Int × Int × Rw)) : Rw → Rw → Int → Int → Rw → Option (Rw × Int × Int × Rw)
  | [], v63, v65, v66, v67 => (K0 v63 v65 v66 v67)
  | cs :: rest, v63, v65, v66, v67 => (cell_sii cs fun x96 x97 x98 => ((impl_order k x96 ([] : Rw)).bind fun y100 => (if y100 = (1 : Int) then (if v63.length + 1 ≤ cap then (impl_parts_l0 k a1 K0 rest (v63 ++ ([[D.sl x96, D.int .i64 x97, D.int .i64 x98]])) v65 v66 v67) else none) else (if y100 = (0 : Int) then (impl_parts_l0 k a1 K0 rest v63 x97 x98 v67) else (if v67.length + 1 ≤ cap then (impl_parts_l0 k a1 K0 rest v63 v65 v66 (v67 ++ ([[D.sl x96, D.int .i64 x97, D.int .i64 x98]]))) else none)))))
set_option maxRecDepth 100000 in
theorem impl_parts_l0_ct {k : Nat} {a1 : Rw} {K0 : Rw → Int → Int → Rw → Option (Rw × Int × Int × Rw)} {r : Rw × Int × Int × Rw} (hx : a1.length ≤ cap) : ∀ (rest : Rw) (v62n : Nat) (v63 : Rw) (v65 : Int) (v66 : Int) (v67 : Rw), a1.drop v62n = rest → impl_parts_l0 k a1 K0 rest v63 v65 v66 v67 = some r → LoopOk prog 0 (lp f73 0) (mk 46 [(2, .ptr 128 0), (3, .ptr 192 0), (4, .ptr 256 0), (5, .ptr 320 0), (6, .ptr 384 0), (7, .ptr 448 0), (14, .d (D.sl a1)), (15, .d (D.int .i64 (a1.length : Int))), (16, .d (D.int .i64 (v62n : Int)))] [(128, .box 33 [.es]), (192, .box 83 [.d (D.int .i64 0), .d (D.int .i64 0)]), (256, .box 33 [.es]), (320, .box 33 [.os 64000 v63.length]), (384, .box 83 [.d (D.int .i64 v65), .d (D.int .i64 v66)]), (448, .box 33 [.os 64001 v67.length]), (64000, .arr 105 false v63), (64001, .arr 105 false v67)]) (LoopEnd prog f73 0 46 (.tup [.agg [.os 8 r.1.length], .agg [.d (D.int .i64 r.2.1), .d (D.int .i64 r.2.2.1)], .agg [.os 9 r.2.2.2.length]]) (⟨[], [(105, false, r.1), (105, false, r.2.2.2)]⟩) (fun i ts os => (i = 0 ∧ ∃ v80 : Rw, ∃ v81 : Int, ∃ v82 : Int, ∃ v83 : Rw, K0 v80 v81 v82 v83 = some r ∧ ts = [(2, .ptr 128 0), (3, .ptr 192 0), (4, .ptr 256 0), (5, .ptr 320 0), (6, .ptr 384 0), (7, .ptr 448 0)] ∧ os = [(128, .box 33 [.es]), (192, .box 83 [.d (D.int .i64 0), .d (D.int .i64 0)]), (256, .box 33 [.es]), (320, .box 33 [.os 67002 v80.length]), (384, .box 83 [.d (D.int .i64 v81), .d (D.int .i64 v82)]), (448, .box 33 [.os 67003 v83.length]), (67002, .arr 105 false v80), (67003, .arr 105 false v83)])))
  | [], v62n, v63, v65, v66, v67, hd, h => by
      rw [impl_parts_l0] at h
      have hn := drop_nil hd
      refine LoopOk.step ?_
      conv => whnf
      refine splD (fun g => absurd g hn) (fun _ => ?_)
      conv => whnf
      exact ⟨_, _, [some 128, some 192, some 256, some 320, some 384, some 448, some 64000, some 64001], [], ⟨rfl, _, _, _, _, h, rfl, rfl⟩, ⟨⟨rfl, rfl⟩, ⟨rfl, ⟨rfl, trivial, trivial⟩, ⟨rfl, rfl, rfl, trivial⟩, ⟨rfl, trivial, trivial⟩, ⟨rfl, ⟨rfl, rfl⟩, trivial⟩, ⟨rfl, rfl, rfl, trivial⟩, ⟨rfl, ⟨rfl, rfl⟩, trivial⟩, ⟨rfl, rfl, rows_same⟩, ⟨rfl, rfl, rows_same⟩, trivial⟩, ⟨rfl, rfl⟩, ⟨rfl, rfl⟩, ⟨rfl, rfl⟩, ⟨rfl, rfl⟩, ⟨rfl, rfl⟩, ⟨rfl, rfl⟩, trivial⟩⟩
  | cs :: rest, v62n, v63, v65, v66, v67, hd, h => by
      rw [impl_parts_l0] at h
      obtain ⟨hrow, hd1, hlt⟩ := drop_cons hd
      refine LoopOk.step ?_
      conv => whnf
      refine splD (fun _ => ?_) (fun g => absurd hlt g)
      conv => whnf
      obtain ⟨x96, x97, x98, e99, h⟩ := cell_sii_ex h
      rw [e99] at hrow
      refine Req.of (Int.natCast_nonneg _) ?_
      refine Row.of _ hrow ?_
      conv => whnf
      obtain ⟨y100, e101, h⟩ := bind_ex h
      refine CallOk.of (impl_order_ct e101) ?_
      conv => whnf
      refine CutK.norm [2, 3, 4, 5, 6, 7, 9, 14, 15, 16, 23] [128, 192, 256, 320, 384, 448, 576, 64000, 64001] ?_
      conv => whnf
      refine splD (fun g102 => ?_) (fun g102 => ?_)
      · replace h := iteP h g102
        conv => whnf
        refine Take.all (rfl) ?_
        conv => whnf
        refine Take.all (by first | rfl | exact List.length_append.symm | (simp; done) | omega) ?_
        conv => whnf
        obtain ⟨g103, h⟩ := req_ex h
        refine Req.of (room (b := 40) (by decide) g103 (wide1 rfl wide0)) ?_
        conv => whnf
        refine CutK.norm [2, 3, 4, 5, 6, 7, 14, 15, 16] [128, 192, 256, 320, 384, 448, 2304, 64001] ?_
        conv => whnf
        exact LoopOk.back (impl_parts_l0_ct hx rest (v62n + 1) _ _ _ _ hd1 h) [some 128, some 192, some 256, some 320, some 384, some 448, some 2304, some 64001] [] ⟨⟨rfl, rfl⟩, ⟨rfl, ⟨rfl, trivial, trivial⟩, ⟨rfl, rfl, rfl, trivial⟩, ⟨rfl, trivial, trivial⟩, ⟨rfl, ⟨(by first | rfl | exact List.length_append.symm | (simp; done) | omega), rfl⟩, trivial⟩, ⟨rfl, rfl, rfl, trivial⟩, ⟨rfl, ⟨rfl, rfl⟩, trivial⟩, ⟨rfl, rfl, rows_same⟩, ⟨rfl, rfl, rows_same⟩, trivial⟩, ⟨rfl, rfl⟩, ⟨rfl, rfl⟩, ⟨rfl, rfl⟩, ⟨rfl, rfl⟩, ⟨rfl, rfl⟩, ⟨rfl, rfl⟩, rfl, rfl, i64eq (wrap_up hlt hx), trivial⟩
      · replace h := iteN h g102
        conv => whnf
        refine splD (fun g104 => ?_) (fun g104 => ?_)
        · replace h := iteP h g104
          conv => whnf
          refine CutK.norm [2, 3, 4, 5, 6, 7, 14, 15, 16] [128, 192, 256, 320, 384, 448, 64000, 64001] ?_
          conv => whnf
          exact LoopOk.back (impl_parts_l0_ct hx rest (v62n + 1) _ _ _ _ hd1 h) [some 128, some 192, some 256, some 320, some 384, some 448, some 64000, some 64001] [] ⟨⟨rfl, rfl⟩, ⟨rfl, ⟨rfl, trivial, trivial⟩, ⟨rfl, rfl, rfl, trivial⟩, ⟨rfl, trivial, trivial⟩, ⟨rfl, ⟨rfl, rfl⟩, trivial⟩, ⟨rfl, rfl, rfl, trivial⟩, ⟨rfl, ⟨rfl, rfl⟩, trivial⟩, ⟨rfl, rfl, rows_same⟩, ⟨rfl, rfl, rows_same⟩, trivial⟩, ⟨rfl, rfl⟩, ⟨rfl, rfl⟩, ⟨rfl, rfl⟩, ⟨rfl, rfl⟩, ⟨rfl, rfl⟩, ⟨rfl, rfl⟩, rfl, rfl, i64eq (wrap_up hlt hx), trivial⟩
        · replace h := iteN h g104
          conv => whnf
          refine Take.all (rfl) ?_
          conv => whnf
          refine Take.all (by first | rfl | exact List.length_append.symm | (simp; done) | omega) ?_
          conv => whnf
          obtain ⟨g105, h⟩ := req_ex h
          refine Req.of (room (b := 40) (by decide) g105 (wide1 rfl wide0)) ?_
          conv => whnf
          refine CutK.norm [2, 3, 4, 5, 6, 7, 14, 15, 16] [128, 192, 256, 320, 384, 448, 1792, 64000] ?_
          conv => whnf
          exact LoopOk.back (impl_parts_l0_ct hx rest (v62n + 1) _ _ _ _ hd1 h) [some 128, some 192, some 256, some 320, some 384, some 448, some 64000, some 1792] [] ⟨⟨rfl, rfl⟩, ⟨rfl, ⟨rfl, trivial, trivial⟩, ⟨rfl, rfl, rfl, trivial⟩, ⟨rfl, trivial, trivial⟩, ⟨rfl, ⟨rfl, rfl⟩, trivial⟩, ⟨rfl, rfl, rfl, trivial⟩, ⟨rfl, ⟨(by first | rfl | exact List.length_append.symm | (simp; done) | omega), rfl⟩, trivial⟩, ⟨rfl, rfl, rows_same⟩, ⟨rfl, rfl, rows_same⟩, trivial⟩, ⟨rfl, rfl⟩, ⟨rfl, rfl⟩, ⟨rfl, rfl⟩, ⟨rfl, rfl⟩, ⟨rfl, rfl⟩, ⟨rfl, rfl⟩, rfl, rfl, i64eq (wrap_up hlt hx), trivial⟩
def impl_parts_p2 (k : Nat) (a1 : Rw) (o4 : Int) (o5 : Int) : Option (Rw × Int × Int × Rw) :=
  (if a1.length ≤ cap then (impl_parts_l0 k a1 (fun (v80 : Rw) (v81 : Int) (v82 : Int) (v83 : Rw) => (impl_parts_p3 v80 v81 v82 v83)) a1 ([] : Rw) o4 o5 ([] : Rw)) else none)
set_option maxHeartbeats 4000000 in
set_option maxRecDepth 100000 in
theorem impl_parts_p2_ct {k : Nat} {a1 : Rw} {o4 : Int} {o5 : Int} {r : Rw × Int × Int × Rw} (h : impl_parts_p2 k a1 o4 o5 = some r) : X prog 0 (tlF f73 2) (mk 46 [(1, .ptr 64 0), (2, .ptr 128 0), (3, .ptr 192 0), (4, .ptr 256 0), (5, .ptr 320 0), (6, .ptr 384 0), (7, .ptr 448 0)] [(64, .box 33 [.d (D.sl a1)]), (128, .box 33 [.es]), (192, .box 83 [.d (D.int .i64 0), .d (D.int .i64 0)]), (256, .box 33 [.es]), (320, .box 33 [.es]), (384, .box 83 [.d (D.int .i64 o4), .d (D.int .i64 o5)]), (448, .box 33 [.es])]) (finK prog f73 0 (.tup [.agg [.os 8 r.1.length], .agg [.d (D.int .i64 r.2.1), .d (D.int .i64 r.2.2.1)], .agg [.os 9 r.2.2.2.length]]) (⟨[], [(105, false, r.1), (105, false, r.2.2.2)]⟩)) := by
  rw [impl_parts_p2] at h
  conv => whnf
  obtain ⟨g106, h⟩ := req_ex h
  refine LoopOk.into (impl_parts_l0_ct  g106 _ _ _ _ _ _ rfl h) [some 128, some 192, some 256, some 320, some 384, some 448, none, none] [] ⟨⟨rfl, rfl⟩, ⟨rfl, ⟨rfl, trivial, trivial⟩, ⟨rfl, rfl, rfl, trivial⟩, ⟨rfl, trivial, trivial⟩, ⟨rfl, ⟨rfl, rfl⟩, trivial⟩, ⟨rfl, rfl, rfl, trivial⟩, ⟨rfl, ⟨rfl, rfl⟩, trivial⟩, rfl, rfl, trivial⟩, ⟨rfl, rfl⟩, ⟨rfl, rfl⟩, ⟨rfl, rfl⟩, ⟨rfl, rfl⟩, ⟨rfl, rfl⟩, ⟨rfl, rfl⟩, rfl, rfl, rfl, trivial⟩ ?_ (fun _ hs => hs)
  rintro i ts os ⟨rfl, v80, v81, v82, v83, h, rfl, rfl⟩
  conv => whnf
  exact CutK.piece (impl_parts_p3_ct  h) [some 128, some 192, some 256, some 320, some 384, some 448, some 67002, some 67003] [] ⟨⟨rfl, rfl⟩, ⟨rfl, ⟨rfl, trivial, trivial⟩, ⟨rfl, rfl, rfl, trivial⟩, ⟨rfl, trivial, trivial⟩, ⟨rfl, ⟨rfl, rfl⟩, trivial⟩, ⟨rfl, rfl, rfl, trivial⟩, ⟨rfl, ⟨rfl, rfl⟩, trivial⟩, ⟨rfl, rfl, rows_same⟩, ⟨rfl, rfl, rows_same⟩, trivial⟩, ⟨rfl, rfl⟩, ⟨rfl, rfl⟩, ⟨rfl, rfl⟩, ⟨rfl, rfl⟩, ⟨rfl, rfl⟩, ⟨rfl, rfl⟩, trivial⟩
def impl_parts (k : Nat) (a1 : Rw) : Option (Rw × Int × Int × Rw) :=
  ((impl_whole 0).bind fun y107 => (impl_parts_p2 k a1 y107.1 y107.2))
set_option maxHeartbeats 4000000 in
set_option maxRecDepth 100000 in
theorem impl_parts_ct {k : Nat} {a1 : Rw} {r : Rw × Int × Int × Rw} (h : impl_parts k a1 = some r) : Ct prog 73 [.agg [.d (D.sl a1)]] (⟨[], []⟩) (.tup [.agg [.os 8 r.1.length], .agg [.d (D.int .i64 r.2.1), .d (D.int .i64 r.2.2.1)], .agg [.os 9 r.2.2.2.length]]) (⟨[], [(105, false, r.1), (105, false, r.2.2.2)]⟩) := by
  rw [impl_parts] at h
  refine Ct.of (c := _) mixed func73 ⟨rfl, rfl, rfl⟩ ?_ rfl
  conv => whnf
  obtain ⟨y107, e108, h⟩ := bind_ex h
  refine CallOk.of (impl_whole_ct e108) ?_
  conv => whnf
  exact CutK.piece (impl_parts_p2_ct  h) [some 64, some 128, some 192, some 256, some 320, some 384, some 448] [] ⟨⟨rfl, rfl⟩, ⟨rfl, ⟨rfl, rfl, trivial⟩, ⟨rfl, trivial, trivial⟩, ⟨rfl, rfl, rfl, trivial⟩, ⟨rfl, trivial, trivial⟩, ⟨rfl, trivial, trivial⟩, ⟨rfl, rfl, rfl, trivial⟩, ⟨rfl, trivial, trivial⟩, trivial⟩, ⟨rfl, rfl⟩, ⟨rfl, rfl⟩, ⟨rfl, rfl⟩, ⟨rfl, rfl⟩, ⟨rfl, rfl⟩, ⟨rfl, rfl⟩, ⟨rfl, rfl⟩, trivial⟩

def impl_floor  (a1 : Int) (a2 : Int) : Option Int :=
  (if a2 ≠ 0 then (if a1 < (IntKind.i64.wrap ((IntKind.i64.wrap (a1.tdiv a2)) * a2)) then some (IntKind.i64.wrap ((IntKind.i64.wrap (a1.tdiv a2)) - 1)) else some (IntKind.i64.wrap (a1.tdiv a2))) else none)
set_option maxHeartbeats 4000000 in
set_option maxRecDepth 100000 in
theorem impl_floor_ct  {a1 : Int} {a2 : Int} {r : Int} (h : impl_floor a1 a2 = some r) : Ct prog 74 [.agg [.d (D.int .i64 a1), .d (D.int .i64 a2)]] (⟨[], []⟩) (.d (D.int .i64 r)) (⟨[], []⟩) := by
  rw [impl_floor] at h
  refine Ct.of (c := _) mixed func74 ⟨rfl, rfl, rfl⟩ ?_ rfl
  conv => whnf
  obtain ⟨g3, h⟩ := req_ex h
  refine Req.of g3 ?_
  conv => whnf
  refine splD (fun g4 => ?_) (fun g4 => ?_)
  · replace h := iteP h g4
    conv => whnf
    cases h
    exact Done.of [] [] rfl rfl ⟨⟨rfl, rfl⟩, ⟨rfl, trivial⟩, rfl, trivial⟩
  · replace h := iteN h g4
    conv => whnf
    cases h
    exact Done.of [] [] rfl rfl ⟨⟨rfl, rfl⟩, ⟨rfl, trivial⟩, rfl, trivial⟩

def impl_term  (a1 : Rw) (a2 : Int) (a3 : Int) : Option Rw :=
  (if a2 = (0 : Int) then some ([] : Rw) else some ([[D.sl a1, D.int .i64 a2, D.int .i64 a3]] : Rw))
set_option maxHeartbeats 4000000 in
set_option maxRecDepth 100000 in
theorem impl_term_ct  {a1 : Rw} {a2 : Int} {a3 : Int} {r : Rw} (h : impl_term a1 a2 a3 = some r) : Ct prog 102 [.agg [.d (D.sl a1)], .agg [.d (D.int .i64 a2), .d (D.int .i64 a3)]] (⟨[], []⟩) (.agg [.os 8 r.length]) (⟨[], [(105, false, r)]⟩) := by
  rw [impl_term] at h
  refine Ct.of (c := _) mixed func102 ⟨rfl, rfl, rfl⟩ ?_ rfl
  conv => whnf
  refine splD (fun g4 => ?_) (fun g4 => ?_)
  · replace h := iteP h g4
    conv => whnf
    cases h
    exact Done.of [none] [] rfl rfl ⟨⟨rfl, rfl⟩, ⟨rfl, rfl, trivial⟩, ⟨⟨rfl, rfl⟩, trivial⟩, trivial⟩
  · replace h := iteN h g4
    conv => whnf
    cases h
    exact Done.of [some 768] [] rfl rfl ⟨⟨rfl, rfl⟩, ⟨rfl, ⟨rfl, rfl, rows_same⟩, trivial⟩, ⟨⟨(by first | rfl | exact List.length_append.symm | (simp; done) | omega), rfl⟩, trivial⟩, trivial⟩

def impl_real  (a1 : Int) (a2 : Int) : Option Rw :=
  ((impl_term ([] : Rw) a1 a2).bind fun y3 => some y3)
set_option maxHeartbeats 4000000 in
set_option maxRecDepth 100000 in
theorem impl_real_ct  {a1 : Int} {a2 : Int} {r : Rw} (h : impl_real a1 a2 = some r) : Ct prog 78 [.agg [.d (D.int .i64 a1), .d (D.int .i64 a2)]] (⟨[], []⟩) (.agg [.os 8 r.length]) (⟨[], [(105, false, r)]⟩) := by
  rw [impl_real] at h
  refine Ct.of (c := _) mixed func78 ⟨rfl, rfl, rfl⟩ ?_ rfl
  conv => whnf
  obtain ⟨y3, e4, h⟩ := bind_ex h
  refine CallOk.of (impl_term_ct e4) ?_
  conv => whnf
  refine CutK.go ?_
  conv => whnf
  cases h
  exact Done.of [some 320] [] rfl rfl ⟨⟨rfl, rfl⟩, ⟨rfl, ⟨rfl, rfl, rows_same⟩, trivial⟩, ⟨⟨rfl, rfl⟩, trivial⟩, trivial⟩

def impl_AddFractions_1  (a1 : Int) (a2 : Int) (a3 : Int) (a4 : Int) : Option (Int × Int × Int × Int × Int × Int) :=
  some (IntKind.i64.wrap ((IntKind.i64.wrap (a1 * a4)) + (IntKind.i64.wrap (a3 * a2))), IntKind.i64.wrap (a2 * a4), a1, a2, a3, a4)
set_option maxHeartbeats 4000000 in
set_option maxRecDepth 100000 in
theorem impl_AddFractions_1_ct  {a1 : Int} {a2 : Int} {a3 : Int} {a4 : Int} {r : Int × Int × Int × Int × Int × Int} (h : impl_AddFractions_1 a1 a2 a3 a4 = some r) : Ct prog 184 [.ptr 0 0, .ptr 64 0] (⟨[(83, [.d (D.int .i64 a1), .d (D.int .i64 a2)]), (83, [.d (D.int .i64 a3), .d (D.int .i64 a4)])], []⟩) (.tup [.d (D.int .i64 r.1), .d (D.int .i64 r.2.1)]) (⟨[(83, [.d (D.int .i64 r.2.2.1), .d (D.int .i64 r.2.2.2.1)]), (83, [.d (D.int .i64 r.2.2.2.2.1), .d (D.int .i64 r.2.2.2.2.2)])], []⟩) := by
  rw [impl_AddFractions_1] at h
  refine Ct.of (c := _) mixed func184 ⟨rfl, rfl, rfl⟩ ?_ rfl
  conv => whnf
  cases h
  exact Done.of [some 0, some 64] [] rfl rfl ⟨⟨rfl, rfl⟩, ⟨rfl, ⟨rfl, rfl, rfl, trivial⟩, ⟨rfl, rfl, rfl, trivial⟩, trivial⟩, ⟨rfl, rfl, trivial⟩, trivial⟩

def impl_made (k : Nat) (a1 : Int) (a2 : Int) : Option (Int × Int × Bool) :=
  (if a2 = (0 : Int) then some (0, 0, false) else ((impl_gcd k a1 a2).bind fun y4 => (if a2 < (0 : Int) then (if (IntKind.i64.wrap (0 - y4)) ≠ 0 then ((impl_IsFraction k (IntKind.i64.wrap (a1.tdiv (IntKind.i64.wrap (0 - y4)))) (IntKind.i64.wrap (a2.tdiv (IntKind.i64.wrap (0 - y4))))).bind fun y8 => (if y8 = true then some (IntKind.i64.wrap (a1.tdiv (IntKind.i64.wrap (0 - y4))), IntKind.i64.wrap (a2.tdiv (IntKind.i64.wrap (0 - y4))), true) else some (0, 0, false))) else none) else (if y4 ≠ 0 then ((impl_IsFraction k (IntKind.i64.wrap (a1.tdiv y4)) (IntKind.i64.wrap (a2.tdiv y4))).bind fun y12 => (if y12 = true then some (IntKind.i64.wrap (a1.tdiv y4), IntKind.i64.wrap (a2.tdiv y4), true) else some (0, 0, false))) else none))))
set_option maxHeartbeats 4000000 in
set_option maxRecDepth 100000 in
theorem impl_made_ct {k : Nat} {a1 : Int} {a2 : Int} {r : Int × Int × Bool} (h : impl_made k a1 a2 = some r) : Ct prog 191 [.d (D.int .i64 a1), .d (D.int .i64 a2)] (⟨[], []⟩) (.tup [.agg [.d (D.int .i64 r.1), .d (D.int .i64 r.2.1)], .d (D.bool r.2.2)]) (⟨[], []⟩) := by
  rw [impl_made] at h
  refine Ct.of (c := _) mixed func191 ⟨rfl, rfl, rfl⟩ ?_ rfl
  conv => whnf
  refine splD (fun g3 => ?_) (fun g3 => ?_)
  · replace h := iteP h g3
    conv => whnf
    cases h
    exact Done.of [] [] rfl rfl ⟨⟨rfl, rfl⟩, ⟨rfl, trivial⟩, ⟨⟨rfl, rfl, trivial⟩, rfl, trivial⟩, trivial⟩
  · replace h := iteN h g3
    conv => whnf
    obtain ⟨y4, e5, h⟩ := bind_ex h
    refine CallOk.of (impl_gcd_ct e5) ?_
    conv => whnf
    refine CutK.go ?_
    conv => whnf
    refine splD (fun g6 => ?_) (fun g6 => ?_)
    · replace h := iteP h g6
      conv => whnf
      obtain ⟨g7, h⟩ := req_ex h
      refine Req.of g7 ?_
      conv => whnf
      refine Req.of g7 ?_
      conv => whnf
      obtain ⟨y8, e9, h⟩ := bind_ex h
      refine CallOk.of (impl_IsFraction_ct e9) ?_
      conv => whnf
      refine spl (fun g10 => ?_) (fun g10 => ?_)
      · replace h := iteT h g10
        conv => whnf
        refine CutK.go ?_
        conv => whnf
        refine CutK.go ?_
        conv => whnf
        cases h
        exact Done.of [] [] rfl rfl ⟨⟨rfl, rfl⟩, ⟨rfl, trivial⟩, ⟨⟨rfl, rfl, trivial⟩, rfl, trivial⟩, trivial⟩
      · replace h := iteF h g10
        conv => whnf
        refine CutK.go ?_
        conv => whnf
        cases h
        exact Done.of [] [] rfl rfl ⟨⟨rfl, rfl⟩, ⟨rfl, trivial⟩, ⟨⟨rfl, rfl, trivial⟩, rfl, trivial⟩, trivial⟩
    · replace h := iteN h g6
      conv => whnf
      obtain ⟨g11, h⟩ := req_ex h
      refine Req.of g11 ?_
      conv => whnf
      refine Req.of g11 ?_
      conv => whnf
      obtain ⟨y12, e13, h⟩ := bind_ex h
      refine CallOk.of (impl_IsFraction_ct e13) ?_
      conv => whnf
      refine spl (fun g14 => ?_) (fun g14 => ?_)
      · replace h := iteT h g14
        conv => whnf
        refine CutK.go ?_
        conv => whnf
        refine CutK.go ?_
        conv => whnf
        cases h
        exact Done.of [] [] rfl rfl ⟨⟨rfl, rfl⟩, ⟨rfl, trivial⟩, ⟨⟨rfl, rfl, trivial⟩, rfl, trivial⟩, trivial⟩
      · replace h := iteF h g14
        conv => whnf
        refine CutK.go ?_
        conv => whnf
        cases h
        exact Done.of [] [] rfl rfl ⟨⟨rfl, rfl⟩, ⟨rfl, trivial⟩, ⟨⟨rfl, rfl, trivial⟩, rfl, trivial⟩, trivial⟩

def impl_two__AddFractions_1 (k : Nat) (a1 : Int) (a2 : Int) (a3 : Int) (a4 : Int) (a5 : Int) (a6 : Int) (a7 : Int) (a8 : Int) : Option (Int × Int × Bool × Int × Int × Int × Int) :=
  ((impl_IsFraction k a1 a2).bind fun y9 => (if y9 = true then ((impl_IsFraction k a3 a4).bind fun y12 => (if y12 = true then ((impl_AddFractions_1 a5 a6 a7 a8).bind fun y15 => ((impl_made k y15.1 y15.2.1).bind fun y17 => (if y17.2.2 = true then some (y17.1, y17.2.1, true, y15.2.2.1, y15.2.2.2.1, y15.2.2.2.2.1, y15.2.2.2.2.2) else some (y17.1, y17.2.1, false, y15.2.2.1, y15.2.2.2.1, y15.2.2.2.2.1, y15.2.2.2.2.2)))) else some (0, 0, false, a5, a6, a7, a8))) else some (0, 0, false, a5, a6, a7, a8)))
set_option maxHeartbeats 4000000 in
set_option maxRecDepth 100000 in
theorem impl_two__AddFractions_1_ct {k : Nat} {a1 : Int} {a2 : Int} {a3 : Int} {a4 : Int} {a5 : Int} {a6 : Int} {a7 : Int} {a8 : Int} {r : Int × Int × Bool × Int × Int × Int × Int} (h : impl_two__AddFractions_1 k a1 a2 a3 a4 a5 a6 a7 a8 = some r) : Ct prog 158 [.agg [.d (D.int .i64 a1), .d (D.int .i64 a2)], .agg [.d (D.int .i64 a3), .d (D.int .i64 a4)], .fn 184 [.ptr 0 0, .ptr 64 0]] (⟨[(83, [.d (D.int .i64 a5), .d (D.int .i64 a6)]), (83, [.d (D.int .i64 a7), .d (D.int .i64 a8)])], []⟩) (.tup [.agg [.d (D.int .i64 r.1), .d (D.int .i64 r.2.1)], .d (D.bool r.2.2.1)]) (⟨[(83, [.d (D.int .i64 r.2.2.2.1), .d (D.int .i64 r.2.2.2.2.1)]), (83, [.d (D.int .i64 r.2.2.2.2.2.1), .d (D.int .i64 r.2.2.2.2.2.2)])], []⟩) := by
  rw [impl_two__AddFractions_1] at h
  refine Ct.of (c := _) mixed func158 ⟨rfl, rfl, rfl⟩ ?_ rfl
  conv => whnf
  obtain ⟨y9, e10, h⟩ := bind_ex h
  refine CallOk.of (impl_IsFraction_ct e10) ?_
  conv => whnf
  refine spl (fun g11 => ?_) (fun g11 => ?_)
  · replace h := iteT h g11
    conv => whnf
    obtain ⟨y12, e13, h⟩ := bind_ex h
    refine CallOk.of (impl_IsFraction_ct e13) ?_
    conv => whnf
    refine spl (fun g14 => ?_) (fun g14 => ?_)
    · replace h := iteT h g14
      conv => whnf
      refine CutK.go ?_
      conv => whnf
      refine CutK.go ?_
      conv => whnf
      obtain ⟨y15, e16, h⟩ := bind_ex h
      refine CallOk.of (impl_AddFractions_1_ct e16) ?_
      conv => whnf
      obtain ⟨y17, e18, h⟩ := bind_ex h
      refine CallOk.of (impl_made_ct e18) ?_
      conv => whnf
      refine spl (fun g19 => ?_) (fun g19 => ?_)
      · replace h := iteT h g19
        conv => whnf
        refine CutK.go ?_
        conv => whnf
        cases h
        exact Done.of [some 0, some 64] [] rfl rfl ⟨⟨rfl, rfl⟩, ⟨rfl, ⟨rfl, rfl, rfl, trivial⟩, ⟨rfl, rfl, rfl, trivial⟩, trivial⟩, ⟨⟨rfl, rfl, trivial⟩, rfl, trivial⟩, trivial⟩
      · replace h := iteF h g19
        conv => whnf
        refine CutK.go ?_
        conv => whnf
        cases h
        exact Done.of [some 0, some 64] [] rfl rfl ⟨⟨rfl, rfl⟩, ⟨rfl, ⟨rfl, rfl, rfl, trivial⟩, ⟨rfl, rfl, rfl, trivial⟩, trivial⟩, ⟨⟨rfl, rfl, trivial⟩, rfl, trivial⟩, trivial⟩
    · replace h := iteF h g14
      conv => whnf
      refine CutK.go ?_
      conv => whnf
      cases h
      exact Done.of [some 0, some 64] [] rfl rfl ⟨⟨rfl, rfl⟩, ⟨rfl, ⟨rfl, rfl, rfl, trivial⟩, ⟨rfl, rfl, rfl, trivial⟩, trivial⟩, ⟨⟨rfl, rfl, trivial⟩, rfl, trivial⟩, trivial⟩
  · replace h := iteF h g11
    conv => whnf
    refine CutK.go ?_
    conv => whnf
    cases h
    exact Done.of [some 0, some 64] [] rfl rfl ⟨⟨rfl, rfl⟩, ⟨rfl, ⟨rfl, rfl, rfl, trivial⟩, ⟨rfl, rfl, rfl, trivial⟩, trivial⟩, ⟨⟨rfl, rfl, trivial⟩, rfl, trivial⟩, trivial⟩

def impl_AddFractions (k : Nat) (a1 : Int) (a2 : Int) (a3 : Int) (a4 : Int) : Option (Int × Int × Bool) :=
  ((impl_two__AddFractions_1 k a1 a2 a3 a4 a1 a2 a3 a4).bind fun y5 => (if y5.2.2.1 = true then some (y5.1, y5.2.1, true) else some (y5.1, y5.2.1, false)))
set_option maxHeartbeats 4000000 in
set_option maxRecDepth 100000 in
theorem impl_AddFractions_ct {k : Nat} {a1 : Int} {a2 : Int} {a3 : Int} {a4 : Int} {r : Int × Int × Bool} (h : impl_AddFractions k a1 a2 a3 a4 = some r) : Ct prog 135 [.agg [.d (D.int .i64 a1), .d (D.int .i64 a2)], .agg [.d (D.int .i64 a3), .d (D.int .i64 a4)]] (⟨[], []⟩) (.tup [.agg [.d (D.int .i64 r.1), .d (D.int .i64 r.2.1)], .d (D.bool r.2.2)]) (⟨[], []⟩) := by
  rw [impl_AddFractions] at h
  refine Ct.of (c := _) mixed func135 ⟨rfl, rfl, rfl⟩ ?_ rfl
  conv => whnf
  obtain ⟨y5, e6, h⟩ := bind_ex h
  refine CallOk.of (impl_two__AddFractions_1_ct e6) ?_
  conv => whnf
  refine spl (fun g7 => ?_) (fun g7 => ?_)
  · replace h := iteT h g7
    conv => whnf
    refine CutK.go ?_
    conv => whnf
    cases h
    exact Done.of [] [] rfl rfl ⟨⟨rfl, rfl⟩, ⟨rfl, trivial⟩, ⟨⟨rfl, rfl, trivial⟩, rfl, trivial⟩, trivial⟩
  · replace h := iteF h g7
    conv => whnf
    refine CutK.go ?_
    conv => whnf
    cases h
    exact Done.of [] [] rfl rfl ⟨⟨rfl, rfl⟩, ⟨rfl, trivial⟩, ⟨⟨rfl, rfl, trivial⟩, rfl, trivial⟩, trivial⟩

def impl_sum_p4 (o203 : Rw) : Option (Rw × Bool) :=
  some (o203, true)
set_option maxHeartbeats 4000000 in
set_option maxRecDepth 100000 in
theorem impl_sum_p4_ct {o203 : Rw} {r : Rw × Bool} (h : impl_sum_p4 o203 = some r) : X prog 0 (tlF f77 4) (mk 119 [(4, .ptr 256 0), (6, .ptr 384 0)] [(256, .box 33 [.es]), (384, .box 33 [.os 1084000 o203.length]), (1084000, .arr 105 false o203)]) (finK prog f77 0 (.tup [.agg [.os 8 r.1.length], .d (D.bool r.2)]) (⟨[], [(105, false, r.1)]⟩)) := by
  rw [impl_sum_p4] at h
  conv => whnf
  cases h
  exact Done.of [some 1084000] [] rfl rfl ⟨⟨rfl, rfl⟩, ⟨rfl, ⟨rfl, rfl, rows_same⟩, trivial⟩, ⟨⟨⟨rfl, rfl⟩, trivial⟩, rfl, trivial⟩, trivial⟩
def impl_sum_l0 (k : Nat) (a1 : Rw) (a2 : Rw) (K0 : Rw → Option (Rw × Bool)) : Nat → Int → Rw → Int → Option (Rw × Bool)
  | 0, _, _, _ => none
  | n + 1, v211, v212, v228 => (if v211 < (a1.length : Int) then (if v228 = (a2.length : Int) then (row_sii a1 v211 fun x406 x407 x408 => (if v212.length + 1 ≤ cap then (impl_sum_l0 k a1 a2 K0 n (IntKind.i64.wrap (v211 + 1)) (v212 ++ ([[D.sl x406, D.int .i64 x407, D.int .i64 x408]])) v228) else none)) else (if v211 = (a1.length : Int) then (row_sii a2 v228 fun x413 x414 x415 => (if v212.length + 1 ≤ cap then (impl_sum_l0 k a1 a2 K0 n v211 (v212 ++ ([[D.sl x413, D.int .i64 x414, D.int .i64 x415]])) (IntKind.i64.wrap (v228 + 1))) else none)) else (row_sii a1 v211 fun x419 x420 x421 => (row_sii a2 v228 fun x424 x425 x426 => ((impl_order k x419 x424).bind fun y429 => (if y429 = (1 : Int) then (if v212.length + 1 ≤ cap then (impl_sum_l0 k a1 a2 K0 n (IntKind.i64.wrap (v211 + 1)) (v212 ++ ([[D.sl x419, D.int .i64 x420, D.int .i64 x421]])) v228) else none) else (if y429 = ((-1) : Int) then (if v212.length + 1 ≤ cap then (impl_sum_l0 k a1 a2 K0 n v211 (v212 ++ ([[D.sl x424, D.int .i64 x425, D.int .i64 x426]])) (IntKind.i64.wrap (v228 + 1))) else none) else ((impl_AddFractions k x420 x421 x425 x426).bind fun y435 => (if y435.2.2 = true then (if y435.1 = (0 : Int) then (impl_sum_l0 k a1 a2 K0 n (IntKind.i64.wrap (v211 + 1)) v212 (IntKind.i64.wrap (v228 + 1))) else (if v212.length + 1 ≤ cap then (impl_sum_l0 k a1 a2 K0 n (IntKind.i64.wrap (v211 + 1)) (v212 ++ ([[D.sl x419, D.int .i64 y435.1, D.int .i64 y435.2.1]])) (IntKind.i64.wrap (v228 + 1))) else none)) else some (([] : Rw), false)))))))))) else (if v228 < (a2.length : Int) then (if v228 = (a2.length : Int) then (row_sii a1 v211 fun x442 x443 x444 => (if v212.length + 1 ≤ cap then (impl_sum_l0 k a1 a2 K0 n (IntKind.i64.wrap (v211 + 1)) (v212 ++ ([[D.sl x442, D.int .i64 x443, D.int .i64 x444]])) v228) else none)) else (if v211 = (a1.length : Int) then (row_sii a2 v228 fun x449 x450 x451 => (if v212.length + 1 ≤ cap then (impl_sum_l0 k a1 a2 K0 n v211 (v212 ++ ([[D.sl x449, D.int .i64 x450, D.int .i64 x451]])) (IntKind.i64.wrap (v228 + 1))) else none)) else (row_sii a1 v211 fun x455 x456 x457 => (row_sii a2 v228 fun x460 x461 x462 => ((impl_order k x455 x460).bind fun y465 => (if y465 = (1 : Int) then (if v212.length + 1 ≤ cap then (impl_sum_l0 k a1 a2 K0 n (IntKind.i64.wrap (v211 + 1)) (v212 ++ ([[D.sl x455, D.int .i64 x456, D.int .i64 x457]])) v228) else none) else (if y465 = ((-1) : Int) then (if v212.length + 1 ≤ cap then (impl_sum_l0 k a1 a2 K0 n v211 (v212 ++ ([[D.sl x460, D.int .i64 x461, D.int .i64 x462]])) (IntKind.i64.wrap (v228 + 1))) else none) else ((impl_AddFractions k x456 x457 x461 x462).bind fun y471 => (if y471.2.2 = true then (if y471.1 = (0 : Int) then (impl_sum_l0 k a1 a2 K0 n (IntKind.i64.wrap (v211 + 1)) v212 (IntKind.i64.wrap (v228 + 1))) else (if v212.length + 1 ≤ cap then (impl_sum_l0 k a1 a2 K0 n (IntKind.i64.wrap (v211 + 1)) (v212 ++ ([[D.sl x455, D.int .i64 y471.1, D.int .i64 y471.2.1]])) (IntKind.i64.wrap (v228 + 1))) else none)) else some (([] : Rw), false)))))))))) else (K0 v212)))
set_option maxRecDepth 100000 in
theorem impl_sum_l0_ct {k : Nat} {a1 : Rw} {a2 : Rw} {K0 : Rw → Option (Rw × Bool)} {r : Rw × Bool} : ∀ (n : Nat) (v211 : Int) (v212 : Rw) (v228 : Int), impl_sum_l0 k a1 a2 K0 n v211 v212 v228 = some r → LoopOk prog 0 (lp f77 0) (mk 119 [(2, .ptr 128 0), (3, .ptr 192 0), (4, .ptr 256 0), (6, .ptr 384 0), (7, .d (D.int .i64 v211)), (8, .d (D.int .i64 v228))] [(128, .box 33 [.d (D.sl a1)]), (192, .box 33 [.d (D.sl a2)]), (256, .box 33 [.es]), (384, .box 33 [.os 64000 v212.length]), (64000, .arr 105 false v212)]) (LoopEnd prog f77 0 119 (.tup [.agg [.os 8 r.1.length], .d (D.bool r.2)]) (⟨[], [(105, false, r.1)]⟩) (fun i ts os => (i = 0 ∧ ∃ v331 : Rw, K0 v331 = some r ∧ ts = [(4, .ptr 256 0), (6, .ptr 384 0)] ∧ os = [(256, .box 33 [.es]), (384, .box 33 [.os 67001 v331.length]), (67001, .arr 105 false v331)])))
  | 0, _, _, _, h => by
      rw [impl_sum_l0] at h; cases h
  | n + 1, v211, v212, v228, h => by
      rw [impl_sum_l0] at h
      refine LoopOk.step ?_
      conv => whnf
      refine splD (fun g404 => ?_) (fun g404 => ?_)
      · replace h := iteP h g404
        conv => whnf
        refine splD (fun g405 => ?_) (fun g405 => ?_)
        · replace h := iteP h g405
          conv => whnf
          refine CutK.norm [2, 3, 4, 6, 7, 8, 9] [128, 192, 256, 384, 64000] ?_
          conv => whnf
          refine splD (fun _ => ?_) (fun g => absurd (by decide) g)
          conv => whnf
          obtain ⟨g410, x406, x407, x408, e409, h⟩ := row_sii_ex h
          refine Req.of g410 ?_
          refine Row.of _ e409 ?_
          conv => whnf
          refine Take.all (rfl) ?_
          conv => whnf
          refine Take.all (by first | rfl | exact List.length_append.symm | (simp; done) | omega) ?_
          conv => whnf
          obtain ⟨g411, h⟩ := req_ex h
          refine Req.of (room (b := 40) (by decide) g411 (wide1 rfl wide0)) ?_
          conv => whnf
          exact LoopOk.back (impl_sum_l0_ct  n _ _ _ h) [some 128, some 192, some 256, some 384, some 6400] [] ⟨⟨rfl, rfl⟩, ⟨rfl, ⟨rfl, rfl, trivial⟩, ⟨rfl, rfl, trivial⟩, ⟨rfl, trivial, trivial⟩, ⟨rfl, ⟨(by first | rfl | exact List.length_append.symm | (simp; done) | omega), rfl⟩, trivial⟩, ⟨rfl, rfl, rows_same⟩, trivial⟩, ⟨rfl, rfl⟩, ⟨rfl, rfl⟩, ⟨rfl, rfl⟩, ⟨rfl, rfl⟩, rfl, rfl, trivial⟩
        · replace h := iteN h g405
          conv => whnf
          refine splD (fun g412 => ?_) (fun g412 => ?_)
          · replace h := iteP h g412
            conv => whnf
            refine CutK.norm [2, 3, 4, 6, 7, 8, 9] [128, 192, 256, 384, 64000] ?_
            conv => whnf
            refine splD (fun g => absurd g (by decide)) (fun _ => ?_)
            conv => whnf
            refine splD (fun _ => ?_) (fun g => absurd (by decide) g)
            conv => whnf
            obtain ⟨g417, x413, x414, x415, e416, h⟩ := row_sii_ex h
            refine Req.of g417 ?_
            refine Row.of _ e416 ?_
            conv => whnf
            refine Take.all (rfl) ?_
            conv => whnf
            refine Take.all (by first | rfl | exact List.length_append.symm | (simp; done) | omega) ?_
            conv => whnf
            obtain ⟨g418, h⟩ := req_ex h
            refine Req.of (room (b := 40) (by decide) g418 (wide1 rfl wide0)) ?_
            conv => whnf
            exact LoopOk.back (impl_sum_l0_ct  n _ _ _ h) [some 128, some 192, some 256, some 384, some 7296] [] ⟨⟨rfl, rfl⟩, ⟨rfl, ⟨rfl, rfl, trivial⟩, ⟨rfl, rfl, trivial⟩, ⟨rfl, trivial, trivial⟩, ⟨rfl, ⟨(by first | rfl | exact List.length_append.symm | (simp; done) | omega), rfl⟩, trivial⟩, ⟨rfl, rfl, rows_same⟩, trivial⟩, ⟨rfl, rfl⟩, ⟨rfl, rfl⟩, ⟨rfl, rfl⟩, ⟨rfl, rfl⟩, rfl, rfl, trivial⟩
          · replace h := iteN h g412
            conv => whnf
            obtain ⟨g423, x419, x420, x421, e422, h⟩ := row_sii_ex h
            refine Req.of g423 ?_
            refine Row.of _ e422 ?_
            conv => whnf
            obtain ⟨g428, x424, x425, x426, e427, h⟩ := row_sii_ex h
            refine Req.of g428 ?_
            refine Row.of _ e427 ?_
            conv => whnf
            obtain ⟨y429, e430, h⟩ := bind_ex h
            refine CallOk.of (impl_order_ct e430) ?_
            conv => whnf
            refine CutK.norm [2, 3, 4, 6, 7, 8, 9] [128, 192, 256, 384, 64000] ?_
            conv => whnf
            refine splD (fun g431 => ?_) (fun g431 => ?_)
            · replace h := iteP h g431
              conv => whnf
              refine Req.of g423 ?_
              refine Row.of _ e422 ?_
              conv => whnf
              refine Take.all (rfl) ?_
              conv => whnf
              refine Take.all (by first | rfl | exact List.length_append.symm | (simp; done) | omega) ?_
              conv => whnf
              obtain ⟨g432, h⟩ := req_ex h
              refine Req.of (room (b := 40) (by decide) g432 (wide1 rfl wide0)) ?_
              conv => whnf
              exact LoopOk.back (impl_sum_l0_ct  n _ _ _ h) [some 128, some 192, some 256, some 384, some 6400] [] ⟨⟨rfl, rfl⟩, ⟨rfl, ⟨rfl, rfl, trivial⟩, ⟨rfl, rfl, trivial⟩, ⟨rfl, trivial, trivial⟩, ⟨rfl, ⟨(by first | rfl | exact List.length_append.symm | (simp; done) | omega), rfl⟩, trivial⟩, ⟨rfl, rfl, rows_same⟩, trivial⟩, ⟨rfl, rfl⟩, ⟨rfl, rfl⟩, ⟨rfl, rfl⟩, ⟨rfl, rfl⟩, rfl, rfl, trivial⟩
            · replace h := iteN h g431
              conv => whnf
              refine splD (fun g433 => ?_) (fun g433 => ?_)
              · replace h := iteP h g433
                conv => whnf
                refine Req.of g428 ?_
                refine Row.of _ e427 ?_
                conv => whnf
                refine Take.all (rfl) ?_
                conv => whnf
                refine Take.all (by first | rfl | exact List.length_append.symm | (simp; done) | omega) ?_
                conv => whnf
                obtain ⟨g434, h⟩ := req_ex h
                refine Req.of (room (b := 40) (by decide) g434 (wide1 rfl wide0)) ?_
                conv => whnf
                exact LoopOk.back (impl_sum_l0_ct  n _ _ _ h) [some 128, some 192, some 256, some 384, some 7296] [] ⟨⟨rfl, rfl⟩, ⟨rfl, ⟨rfl, rfl, trivial⟩, ⟨rfl, rfl, trivial⟩, ⟨rfl, trivial, trivial⟩, ⟨rfl, ⟨(by first | rfl | exact List.length_append.symm | (simp; done) | omega), rfl⟩, trivial⟩, ⟨rfl, rfl, rows_same⟩, trivial⟩, ⟨rfl, rfl⟩, ⟨rfl, rfl⟩, ⟨rfl, rfl⟩, ⟨rfl, rfl⟩, rfl, rfl, trivial⟩
              · replace h := iteN h g433
                conv => whnf
                refine Req.of g423 ?_
                refine Row.of _ e422 ?_
                conv => whnf
                refine Req.of g428 ?_
                refine Row.of _ e427 ?_
                conv => whnf
                obtain ⟨y435, e436, h⟩ := bind_ex h
                refine CallOk.of (impl_AddFractions_ct e436) ?_
                conv => whnf
                refine spl (fun g437 => ?_) (fun g437 => ?_)
                · replace h := iteT h g437
                  conv => whnf
                  refine CutK.norm [2, 3, 4, 6, 7, 8, 10, 11] [128, 192, 256, 384, 640, 64000] ?_
                  conv => whnf
                  refine splN (fun g438 => ?_) (fun g438 => ?_)
                  · replace h := iteN h g438
                    conv => whnf
                    refine Req.of g423 ?_
                    refine Row.of _ e422 ?_
                    conv => whnf
                    refine Take.all (rfl) ?_
                    conv => whnf
                    refine Take.all (by first | rfl | exact List.length_append.symm | (simp; done) | omega) ?_
                    conv => whnf
                    obtain ⟨g439, h⟩ := req_ex h
                    refine Req.of (room (b := 40) (by decide) g439 (wide1 rfl wide0)) ?_
                    conv => whnf
                    exact LoopOk.back (impl_sum_l0_ct  n _ _ _ h) [some 128, some 192, some 256, some 384, some 5376] [] ⟨⟨rfl, rfl⟩, ⟨rfl, ⟨rfl, rfl, trivial⟩, ⟨rfl, rfl, trivial⟩, ⟨rfl, trivial, trivial⟩, ⟨rfl, ⟨(by first | rfl | exact List.length_append.symm | (simp; done) | omega), rfl⟩, trivial⟩, ⟨rfl, rfl, rows_same⟩, trivial⟩, ⟨rfl, rfl⟩, ⟨rfl, rfl⟩, ⟨rfl, rfl⟩, ⟨rfl, rfl⟩, rfl, rfl, trivial⟩
                  · replace h := iteP h g438
                    conv => whnf
                    exact LoopOk.back (impl_sum_l0_ct  n _ _ _ h) [some 128, some 192, some 256, some 384, some 64000] [] ⟨⟨rfl, rfl⟩, ⟨rfl, ⟨rfl, rfl, trivial⟩, ⟨rfl, rfl, trivial⟩, ⟨rfl, trivial, trivial⟩, ⟨rfl, ⟨rfl, rfl⟩, trivial⟩, ⟨rfl, rfl, rows_same⟩, trivial⟩, ⟨rfl, rfl⟩, ⟨rfl, rfl⟩, ⟨rfl, rfl⟩, ⟨rfl, rfl⟩, rfl, rfl, trivial⟩
                · replace h := iteF h g437
                  conv => whnf
                  refine CutK.norm [2, 3, 4, 6, 7, 8, 10, 11] [128, 192, 256, 384, 640, 64000] ?_
                  conv => whnf
                  cases h
                  exact Done.of [none] [] rfl rfl ⟨⟨rfl, rfl⟩, ⟨rfl, rfl, trivial⟩, ⟨⟨⟨rfl, rfl⟩, trivial⟩, rfl, trivial⟩, trivial⟩
      · replace h := iteN h g404
        conv => whnf
        refine splD (fun g440 => ?_) (fun g440 => ?_)
        · replace h := iteP h g440
          conv => whnf
          refine splD (fun g441 => ?_) (fun g441 => ?_)
          · replace h := iteP h g441
            conv => whnf
            refine CutK.norm [2, 3, 4, 6, 7, 8, 9] [128, 192, 256, 384, 64000] ?_
            conv => whnf
            refine splD (fun _ => ?_) (fun g => absurd (by decide) g)
            conv => whnf
            obtain ⟨g446, x442, x443, x444, e445, h⟩ := row_sii_ex h
            refine Req.of g446 ?_
            refine Row.of _ e445 ?_
            conv => whnf
            refine Take.all (rfl) ?_
            conv => whnf
            refine Take.all (by first | rfl | exact List.length_append.symm | (simp; done) | omega) ?_
            conv => whnf
            obtain ⟨g447, h⟩ := req_ex h
            refine Req.of (room (b := 40) (by decide) g447 (wide1 rfl wide0)) ?_
            conv => whnf
            exact LoopOk.back (impl_sum_l0_ct  n _ _ _ h) [some 128, some 192, some 256, some 384, some 6400] [] ⟨⟨rfl, rfl⟩, ⟨rfl, ⟨rfl, rfl, trivial⟩, ⟨rfl, rfl, trivial⟩, ⟨rfl, trivial, trivial⟩, ⟨rfl, ⟨(by first | rfl | exact List.length_append.symm | (simp; done) | omega), rfl⟩, trivial⟩, ⟨rfl, rfl, rows_same⟩, trivial⟩, ⟨rfl, rfl⟩, ⟨rfl, rfl⟩, ⟨rfl, rfl⟩, ⟨rfl, rfl⟩, rfl, rfl, trivial⟩
          · replace h := iteN h g441
            conv => whnf
            refine splD (fun g448 => ?_) (fun g448 => ?_)
            · replace h := iteP h g448
              conv => whnf
              refine CutK.norm [2, 3, 4, 6, 7, 8, 9] [128, 192, 256, 384, 64000] ?_
              conv => whnf
              refine splD (fun g => absurd g (by decide)) (fun _ => ?_)
              conv => whnf
              refine splD (fun _ => ?_) (fun g => absurd (by decide) g)
              conv => whnf
              obtain ⟨g453, x449, x450, x451, e452, h⟩ := row_sii_ex h
              refine Req.of g453 ?_
              refine Row.of _ e452 ?_
              conv => whnf
              refine Take.all (rfl) ?_
              conv => whnf
              refine Take.all (by first | rfl | exact List.length_append.symm | (simp; done) | omega) ?_
              conv => whnf
              obtain ⟨g454, h⟩ := req_ex h
              refine Req.of (room (b := 40) (by decide) g454 (wide1 rfl wide0)) ?_
              conv => whnf
              exact LoopOk.back (impl_sum_l0_ct  n _ _ _ h) [some 128, some 192, some 256, some 384, some 7296] [] ⟨⟨rfl, rfl⟩, ⟨rfl, ⟨rfl, rfl, trivial⟩, ⟨rfl, rfl, trivial⟩, ⟨rfl, trivial, trivial⟩, ⟨rfl, ⟨(by first | rfl | exact List.length_append.symm | (simp; done) | omega), rfl⟩, trivial⟩, ⟨rfl, rfl, rows_same⟩, trivial⟩, ⟨rfl, rfl⟩, ⟨rfl, rfl⟩, ⟨rfl, rfl⟩, ⟨rfl, rfl⟩, rfl, rfl, trivial⟩
            · replace h := iteN h g448
              conv => whnf
              obtain ⟨g459, x455, x456, x457, e458, h⟩ := row_sii_ex h
              refine Req.of g459 ?_
              refine Row.of _ e458 ?_
              conv => whnf
              obtain ⟨g464, x460, x461, x462, e463, h⟩ := row_sii_ex h
              refine Req.of g464 ?_
              refine Row.of _ e463 ?_
              conv => whnf
              obtain ⟨y465, e466, h⟩ := bind_ex h
              refine CallOk.of (impl_order_ct e466) ?_
              conv => whnf
              refine CutK.norm [2, 3, 4, 6, 7, 8, 9] [128, 192, 256, 384, 64000] ?_
              conv => whnf
              refine splD (fun g467 => ?_) (fun g467 => ?_)
              · replace h := iteP h g467
                conv => whnf
                refine Req.of g459 ?_
                refine Row.of _ e458 ?_
                conv => whnf
                refine Take.all (rfl) ?_
                conv => whnf
                refine Take.all (by first | rfl | exact List.length_append.symm | (simp; done) | omega) ?_
                conv => whnf
                obtain ⟨g468, h⟩ := req_ex h
                refine Req.of (room (b := 40) (by decide) g468 (wide1 rfl wide0)) ?_
                conv => whnf
                exact LoopOk.back (impl_sum_l0_ct  n _ _ _ h) [some 128, some 192, some 256, some 384, some 6400] [] ⟨⟨rfl, rfl⟩, ⟨rfl, ⟨rfl, rfl, trivial⟩, ⟨rfl, rfl, trivial⟩, ⟨rfl, trivial, trivial⟩, ⟨rfl, ⟨(by first | rfl | exact List.length_append.symm | (simp; done) | omega), rfl⟩, trivial⟩, ⟨rfl, rfl, rows_same⟩, trivial⟩, ⟨rfl, rfl⟩, ⟨rfl, rfl⟩, ⟨rfl, rfl⟩, ⟨rfl, rfl⟩, rfl, rfl, trivial⟩
              · replace h := iteN h g467
                conv => whnf
                refine splD (fun g469 => ?_) (fun g469 => ?_)
                · replace h := iteP h g469
                  conv => whnf
                  refine Req.of g464 ?_
                  refine Row.of _ e463 ?_
                  conv => whnf
                  refine Take.all (rfl) ?_
                  conv => whnf
                  refine Take.all (by first | rfl | exact List.length_append.symm | (simp; done) | omega) ?_
                  conv => whnf
                  obtain ⟨g470, h⟩ := req_ex h
                  refine Req.of (room (b := 40) (by decide) g470 (wide1 rfl wide0)) ?_
                  conv => whnf
                  exact LoopOk.back (impl_sum_l0_ct  n _ _ _ h) [some 128, some 192, some 256, some 384, some 7296] [] ⟨⟨rfl, rfl⟩, ⟨rfl, ⟨rfl, rfl, trivial⟩, ⟨rfl, rfl, trivial⟩, ⟨rfl, trivial, trivial⟩, ⟨rfl, ⟨(by first | rfl | exact List.length_append.symm | (simp; done) | omega), rfl⟩, trivial⟩, ⟨rfl, rfl, rows_same⟩, trivial⟩, ⟨rfl, rfl⟩, ⟨rfl, rfl⟩, ⟨rfl, rfl⟩, ⟨rfl, rfl⟩, rfl, rfl, trivial⟩
                · replace h := iteN h g469
                  conv => whnf
                  refine Req.of g459 ?_
                  refine Row.of _ e458 ?_
                  conv => whnf
                  refine Req.of g464 ?_
                  refine Row.of _ e463 ?_
                  conv => whnf
                  obtain ⟨y471, e472, h⟩ := bind_ex h
                  refine CallOk.of (impl_AddFractions_ct e472) ?_
                  conv => whnf
                  refine spl (fun g473 => ?_) (fun g473 => ?_)
                  · replace h := iteT h g473
                    conv => whnf
                    refine CutK.norm [2, 3, 4, 6, 7, 8, 10, 11] [128, 192, 256, 384, 640, 64000] ?_
                    conv => whnf
                    refine splN (fun g474 => ?_) (fun g474 => ?_)
                    · replace h := iteN h g474
                      conv => whnf
                      refine Req.of g459 ?_
                      refine Row.of _ e458 ?_
                      conv => whnf
                      refine Take.all (rfl) ?_
                      conv => whnf
                      refine Take.all (by first | rfl | exact List.length_append.symm | (simp; done) | omega) ?_
                      conv => whnf
                      obtain ⟨g475, h⟩ := req_ex h
                      refine Req.of (room (b := 40) (by decide) g475 (wide1 rfl wide0)) ?_
                      conv => whnf
                      exact LoopOk.back (impl_sum_l0_ct  n _ _ _ h) [some 128, some 192, some 256, some 384, some 5376] [] ⟨⟨rfl, rfl⟩, ⟨rfl, ⟨rfl, rfl, trivial⟩, ⟨rfl, rfl, trivial⟩, ⟨rfl, trivial, trivial⟩, ⟨rfl, ⟨(by first | rfl | exact List.length_append.symm | (simp; done) | omega), rfl⟩, trivial⟩, ⟨rfl, rfl, rows_same⟩, trivial⟩, ⟨rfl, rfl⟩, ⟨rfl, rfl⟩, ⟨rfl, rfl⟩, ⟨rfl, rfl⟩, rfl, rfl, trivial⟩
                    · replace h := iteP h g474
                      conv => whnf
                      exact LoopOk.back (impl_sum_l0_ct  n _ _ _ h) [some 128, some 192, some 256, some 384, some 64000] [] ⟨⟨rfl, rfl⟩, ⟨rfl, ⟨rfl, rfl, trivial⟩, ⟨rfl, rfl, trivial⟩, ⟨rfl, trivial, trivial⟩, ⟨rfl, ⟨rfl, rfl⟩, trivial⟩, ⟨rfl, rfl, rows_same⟩, trivial⟩, ⟨rfl, rfl⟩, ⟨rfl, rfl⟩, ⟨rfl, rfl⟩, ⟨rfl, rfl⟩, rfl, rfl, trivial⟩
                  · replace h := iteF h g473
                    conv => whnf
                    refine CutK.norm [2, 3, 4, 6, 7, 8, 10, 11] [128, 192, 256, 384, 640, 64000] ?_
                    conv => whnf
                    cases h
                    exact Done.of [none] [] rfl rfl ⟨⟨rfl, rfl⟩, ⟨rfl, rfl, trivial⟩, ⟨⟨⟨rfl, rfl⟩, trivial⟩, rfl, trivial⟩, trivial⟩
        · replace h := iteN h g440
          conv => whnf
          exact ⟨_, _, [some 256, some 384, some 64000], [], ⟨rfl, _, h, rfl, rfl⟩, ⟨⟨rfl, rfl⟩, ⟨rfl, ⟨rfl, trivial, trivial⟩, ⟨rfl, ⟨rfl, rfl⟩, trivial⟩, ⟨rfl, rfl, rows_same⟩, trivial⟩, ⟨rfl, rfl⟩, ⟨rfl, rfl⟩, trivial⟩⟩
def impl_sum (k : Nat) (a1 : Rw) (a2 : Rw) : Option (Rw × Bool) :=
  (impl_sum_l0 k a1 a2 (fun (v331 : Rw) => (impl_sum_p4 v331)) k 0 ([] : Rw) 0)
set_option maxHeartbeats 4000000 in
set_option maxRecDepth 100000 in
theorem impl_sum_ct {k : Nat} {a1 : Rw} {a2 : Rw} {r : Rw × Bool} (h : impl_sum k a1 a2 = some r) : Ct prog 77 [.agg [.d (D.sl a1)], .agg [.d (D.sl a2)]] (⟨[], []⟩) (.tup [.agg [.os 8 r.1.length], .d (D.bool r.2)]) (⟨[], [(105, false, r.1)]⟩) := by
  rw [impl_sum] at h
  refine Ct.of (c := _) mixed func77 ⟨rfl, rfl, rfl⟩ ?_ rfl
  conv => whnf
  refine LoopOk.into (impl_sum_l0_ct  _ _ _ _ h) [some 128, some 192, some 256, some 384, none] [] ⟨⟨rfl, rfl⟩, ⟨rfl, ⟨rfl, rfl, trivial⟩, ⟨rfl, rfl, trivial⟩, ⟨rfl, trivial, trivial⟩, ⟨rfl, ⟨rfl, rfl⟩, trivial⟩, rfl, trivial⟩, ⟨rfl, rfl⟩, ⟨rfl, rfl⟩, ⟨rfl, rfl⟩, ⟨rfl, rfl⟩, rfl, rfl, trivial⟩ ?_ (fun _ hs => hs)
  rintro i ts os ⟨rfl, v331, h, rfl, rfl⟩
  conv => whnf
  exact CutK.piece (impl_sum_p4_ct  h) [some 256, some 384, some 67001] [] ⟨⟨rfl, rfl⟩, ⟨rfl, ⟨rfl, trivial, trivial⟩, ⟨rfl, ⟨rfl, rfl⟩, trivial⟩, ⟨rfl, rfl, rows_same⟩, trivial⟩, ⟨rfl, rfl⟩, ⟨rfl, rfl⟩, trivial⟩

def impl_cloneSurreal_l0 (rec_impl_cloneSurreal : Rw → Option Rw) (a1 : Rw) (K0 : Rw → Option Rw) : Rw → Rw → Option Rw
  | [], v11 => (K0 v11)
  | cs :: rest, v11 => (cell_sii cs fun x31 x32 x33 => ((rec_impl_cloneSurreal x31).bind fun y35 => (if v11.length + 1 ≤ cap then (impl_cloneSurreal_l0 rec_impl_cloneSurreal a1 K0 rest (v11 ++ ([[D.sl y35, D.int .i64 x32, D.int .i64 x33]]))) else none)))
set_option maxRecDepth 100000 in
theorem impl_cloneSurreal_l0_ct {rec_impl_cloneSurreal : Rw → Option Rw} {a1 : Rw} {K0 : Rw → Option Rw} (hrec_impl_cloneSurreal : ∀ (a1 : Rw) (r : Rw), rec_impl_cloneSurreal a1 = some r → Ct prog 134 [.agg [.d (D.sl a1)]] (⟨[], []⟩) (.agg [.os 8 r.length]) (⟨[], [(105, true, r)]⟩)) {r : Rw} (hx : a1.length ≤ cap) : ∀ (rest : Rw) (v10n : Nat) (v11 : Rw), a1.drop v10n = rest → impl_cloneSurreal_l0 rec_impl_cloneSurreal a1 K0 rest v11 = some r → LoopOk prog 0 (lp f134 0) (mk 27 [(2, .ptr 128 0), (3, .ptr 192 0), (8, .d (D.sl a1)), (9, .d (D.int .i64 (a1.length : Int))), (10, .d (D.int .i64 (v10n : Int)))] [(128, .box 33 [.es]), (192, .box 33 [.os 64000 v11.length]), (64000, .arr 105 true v11)]) (LoopEnd prog f134 0 27 (.agg [.os 8 r.length]) (⟨[], [(105, true, r)]⟩) (fun i ts os => (i = 0 ∧ ∃ v21 : Rw, K0 v21 = some r ∧ ts = [(2, .ptr 128 0), (3, .ptr 192 0)] ∧ os = [(128, .box 33 [.es]), (192, .box 33 [.os 67001 v21.length]), (67001, .arr 105 true v21)])))
  | [], v10n, v11, hd, h => by
      rw [impl_cloneSurreal_l0] at h
      have hn := drop_nil hd
      refine LoopOk.step ?_
      conv => whnf
      refine splD (fun g => absurd g hn) (fun _ => ?_)
      conv => whnf
      exact ⟨_, _, [some 128, some 192, some 64000], [], ⟨rfl, _, h, rfl, rfl⟩, ⟨⟨rfl, rfl⟩, ⟨rfl, ⟨rfl, trivial, trivial⟩, ⟨rfl, ⟨rfl, rfl⟩, trivial⟩, ⟨rfl, rfl, rows_same⟩, trivial⟩, ⟨rfl, rfl⟩, ⟨rfl, rfl⟩, trivial⟩⟩
  | cs :: rest, v10n, v11, hd, h => by
      rw [impl_cloneSurreal_l0] at h
      obtain ⟨hrow, hd1, hlt⟩ := drop_cons hd
      refine LoopOk.step ?_
      conv => whnf
      refine splD (fun _ => ?_) (fun g => absurd hlt g)
      conv => whnf
      obtain ⟨x31, x32, x33, e34, h⟩ := cell_sii_ex h
      rw [e34] at hrow
      refine Req.of (Int.natCast_nonneg _) ?_
      refine Row.of _ hrow ?_
      conv => whnf
      obtain ⟨y35, e36, h⟩ := bind_ex h
      refine CallOk.of (hrec_impl_cloneSurreal _ _ e36) ?_
      conv => whnf
      refine Take.all (rfl) ?_
      conv => whnf
      refine Take.all (rfl) ?_
      conv => whnf
      refine Take.all (by first | rfl | exact List.length_append.symm | (simp; done) | omega) ?_
      conv => whnf
      obtain ⟨g37, h⟩ := req_ex h
      refine Req.of (room (b := 40) (by decide) g37 (wide1 rfl wide0)) ?_
      conv => whnf
      refine CutK.go ?_
      conv => whnf
      exact LoopOk.back (impl_cloneSurreal_l0_ct hrec_impl_cloneSurreal hx rest (v10n + 1) _ hd1 h) [some 128, some 192, some 1472] [] ⟨⟨rfl, rfl⟩, ⟨rfl, ⟨rfl, trivial, trivial⟩, ⟨rfl, ⟨(by first | rfl | exact List.length_append.symm | (simp; done) | omega), rfl⟩, trivial⟩, ⟨rfl, rfl, rows_same⟩, trivial⟩, ⟨rfl, rfl⟩, ⟨rfl, rfl⟩, rfl, rfl, i64eq (wrap_up hlt hx), trivial⟩
def impl_cloneSurreal_b (rec_impl_cloneSurreal : Rw → Option Rw) (a1 : Rw) : Option Rw :=
  (if a1.length ≤ cap then (impl_cloneSurreal_l0 rec_impl_cloneSurreal a1 (fun (v21 : Rw) => some v21) a1 ([] : Rw)) else none)
set_option maxHeartbeats 4000000 in
set_option maxRecDepth 100000 in
theorem impl_cloneSurreal_b_ct {rec_impl_cloneSurreal : Rw → Option Rw} (hrec_impl_cloneSurreal : ∀ (a1 : Rw) (r : Rw), rec_impl_cloneSurreal a1 = some r → Ct prog 134 [.agg [.d (D.sl a1)]] (⟨[], []⟩) (.agg [.os 8 r.length]) (⟨[], [(105, true, r)]⟩)) {a1 : Rw} {r : Rw} (h : impl_cloneSurreal_b rec_impl_cloneSurreal a1 = some r) : Ct prog 134 [.agg [.d (D.sl a1)]] (⟨[], []⟩) (.agg [.os 8 r.length]) (⟨[], [(105, true, r)]⟩) := by
  rw [impl_cloneSurreal_b] at h
  refine Ct.of (c := _) mixed func134 ⟨rfl, rfl, rfl⟩ ?_ rfl
  conv => whnf
  obtain ⟨g38, h⟩ := req_ex h
  refine LoopOk.into (impl_cloneSurreal_l0_ct hrec_impl_cloneSurreal g38 _ _ _ rfl h) [some 128, some 192, none] [] ⟨⟨rfl, rfl⟩, ⟨rfl, ⟨rfl, trivial, trivial⟩, ⟨rfl, ⟨rfl, rfl⟩, trivial⟩, rfl, trivial⟩, ⟨rfl, rfl⟩, ⟨rfl, rfl⟩, rfl, rfl, rfl, trivial⟩ ?_ (fun _ hs => hs)
  rintro i ts os ⟨rfl, v21, h, rfl, rfl⟩
  conv => whnf
  refine CutK.go ?_
  conv => whnf
  cases h
  exact Done.of [some 67001] [] rfl rfl ⟨⟨rfl, rfl⟩, ⟨rfl, ⟨rfl, rfl, rows_same⟩, trivial⟩, ⟨⟨rfl, rfl⟩, trivial⟩, trivial⟩
def impl_cloneSurreal : Nat → Rw → Option Rw
  | 0, _ => none
  | k + 1, a1 => impl_cloneSurreal_b (impl_cloneSurreal k) a1
theorem impl_cloneSurreal_ct' : ∀ (k : Nat) (a1 : Rw) (r : Rw), impl_cloneSurreal k a1 = some r → Ct prog 134 [.agg [.d (D.sl a1)]] (⟨[], []⟩) (.agg [.os 8 r.length]) (⟨[], [(105, true, r)]⟩)
  | 0, _, _, h => by rw [impl_cloneSurreal] at h; cases h
  | k + 1, _, _, h => by rw [impl_cloneSurreal] at h; exact impl_cloneSurreal_b_ct (impl_cloneSurreal_ct' k) h
theorem impl_cloneSurreal_ct {k : Nat} {a1 : Rw} {r : Rw} (h : impl_cloneSurreal k a1 = some r) : Ct prog 134 [.agg [.d (D.sl a1)]] (⟨[], []⟩) (.agg [.os 8 r.length]) (⟨[], [(105, true, r)]⟩) := impl_cloneSurreal_ct' k _ _ h

def impl_toldSurreal (k : Nat) (a1 : Rw) (a2 : Bool) : Option (Rw × Bool) :=
  (cond a2 ((impl_IsSurreal k a1).bind fun y3 => (if y3 = true then ((impl_cloneSurreal k a1).bind fun y6 => some (y6, true)) else some (([] : Rw), false))) (some (([] : Rw), false)))
set_option maxHeartbeats 4000000 in
set_option maxRecDepth 100000 in
theorem impl_toldSurreal_ct {k : Nat} {a1 : Rw} {a2 : Bool} {r : Rw × Bool} (h : impl_toldSurreal k a1 a2 = some r) : Ct prog 76 [.agg [.d (D.sl a1)], .d (D.bool a2)] (⟨[], []⟩) (.tup [.agg [.os 8 r.1.length], .d (D.bool r.2)]) (⟨[], [(105, true, r.1)]⟩) := by
  rw [impl_toldSurreal] at h
  refine Ct.of (c := _) mixed func76 ⟨rfl, rfl, rfl⟩ ?_ rfl
  cases a2
  · replace h := condF h
    conv => whnf
    refine CutK.go ?_
    conv => whnf
    cases h
    exact Done.of [none] [] rfl rfl ⟨⟨rfl, rfl⟩, ⟨rfl, rfl, trivial⟩, ⟨⟨⟨rfl, rfl⟩, trivial⟩, rfl, trivial⟩, trivial⟩
  · replace h := condT h
    conv => whnf
    obtain ⟨y3, e4, h⟩ := bind_ex h
    refine CallOk.of (impl_IsSurreal_ct e4) ?_
    conv => whnf
    refine spl (fun g5 => ?_) (fun g5 => ?_)
    · replace h := iteT h g5
      conv => whnf
      refine CutK.go ?_
      conv => whnf
      refine CutK.go ?_
      conv => whnf
      obtain ⟨y6, e7, h⟩ := bind_ex h
      refine CallOk.of (impl_cloneSurreal_ct e7) ?_
      conv => whnf
      refine CutK.go ?_
      conv => whnf
      cases h
      exact Done.of [some 960] [] rfl rfl ⟨⟨rfl, rfl⟩, ⟨rfl, ⟨rfl, rfl, rows_same⟩, trivial⟩, ⟨⟨⟨rfl, rfl⟩, trivial⟩, rfl, trivial⟩, trivial⟩
    · replace h := iteF h g5
      conv => whnf
      refine CutK.go ?_
      conv => whnf
      cases h
      exact Done.of [none] [] rfl rfl ⟨⟨rfl, rfl⟩, ⟨rfl, rfl, trivial⟩, ⟨⟨⟨rfl, rfl⟩, trivial⟩, rfl, trivial⟩, trivial⟩

def impl_IntegerPart (k : Nat) (a1 : Rw) : Option (Rw × Bool) :=
  ((impl_IsSurreal k a1).bind fun y2 => (if y2 = true then ((impl_parts k a1).bind fun y5 => ((impl_floor y5.2.1 y5.2.2.1).bind fun y7 => (if y5.2.2.1 = (1 : Int) then ((impl_order k y5.2.2.2 ([] : Rw)).bind fun y10 => (if y10 < (0 : Int) then ((impl_whole (IntKind.i64.wrap (y7 - 1))).bind fun y13 => ((impl_real y13.1 y13.2).bind fun y15 => ((impl_sum k y5.1 y15).bind fun y17 => (if y17.2 = true then ((impl_toldSurreal k y17.1 true).bind fun y20 => (if y20.2 = true then some (y20.1, true) else some (y20.1, false))) else ((impl_toldSurreal k y17.1 false).bind fun y23 => (if y23.2 = true then some (y23.1, true) else some (y23.1, false))))))) else ((impl_whole y7).bind fun y26 => ((impl_real y26.1 y26.2).bind fun y28 => ((impl_sum k y5.1 y28).bind fun y30 => (if y30.2 = true then ((impl_toldSurreal k y30.1 true).bind fun y33 => (if y33.2 = true then some (y33.1, true) else some (y33.1, false))) else ((impl_toldSurreal k y30.1 false).bind fun y36 => (if y36.2 = true then some (y36.1, true) else some (y36.1, false))))))))) else ((impl_whole y7).bind fun y39 => ((impl_real y39.1 y39.2).bind fun y41 => ((impl_sum k y5.1 y41).bind fun y43 => (if y43.2 = true then ((impl_toldSurreal k y43.1 true).bind fun y46 => (if y46.2 = true then some (y46.1, true) else some (y46.1, false))) else ((impl_toldSurreal k y43.1 false).bind fun y49 => (if y49.2 = true then some (y49.1, true) else some (y49.1, false)))))))))) else some (([] : Rw), false)))
set_option maxHeartbeats 4000000 in
set_option maxRecDepth 100000 in
theorem impl_IntegerPart_ct {k : Nat} {a1 : Rw} {r : Rw × Bool} (h : impl_IntegerPart k a1 = some r) : Ct prog 28 [.agg [.d (D.sl a1)]] (⟨[], []⟩) (.tup [.agg [.os 8 r.1.length], .d (D.bool r.2)]) (⟨[], [(105, true, r.1)]⟩) := by
  rw [impl_IntegerPart] at h
  refine Ct.of (c := _) mixed func28 ⟨rfl, rfl, rfl⟩ ?_ rfl
  conv => whnf
  obtain ⟨y2, e3, h⟩ := bind_ex h
  refine CallOk.of (impl_IsSurreal_ct e3) ?_
  conv => whnf
  refine spl (fun g4 => ?_) (fun g4 => ?_)
  · replace h := iteT h g4
    conv => whnf
    refine CutK.norm [1, 2, 10] [64, 128] ?_
    conv => whnf
    refine CutK.norm [1, 2] [64, 128] ?_
    conv => whnf
    obtain ⟨y5, e6, h⟩ := bind_ex h
    refine CallOk.of (impl_parts_ct e6) ?_
    conv => whnf
    refine CutK.norm [2, 4, 5, 6] [128, 256, 320, 384, 896, 897] ?_
    conv => whnf
    obtain ⟨y7, e8, h⟩ := bind_ex h
    refine CallOk.of (impl_floor_ct e8) ?_
    conv => whnf
    refine CutK.norm [2, 4, 5, 6, 7] [128, 256, 320, 384, 896, 897] ?_
    conv => whnf
    refine splD (fun g9 => ?_) (fun g9 => ?_)
    · replace h := iteP h g9
      conv => whnf
      refine Take.all (rfl) ?_
      conv => whnf
      obtain ⟨y10, e11, h⟩ := bind_ex h
      refine CallOk.of (impl_order_ct e11) ?_
      conv => whnf
      refine splD (fun g12 => ?_) (fun g12 => ?_)
      · replace h := iteP h g12
        conv => whnf
        refine CutK.norm [2, 4, 7, 28] [128, 256, 896] ?_
        conv => whnf
        refine CutK.norm [2, 4, 7] [128, 256, 896] ?_
        conv => whnf
        obtain ⟨y13, e14, h⟩ := bind_ex h
        refine CallOk.of (impl_whole_ct e14) ?_
        conv => whnf
        obtain ⟨y15, e16, h⟩ := bind_ex h
        refine CallOk.of (impl_real_ct e16) ?_
        conv => whnf
        refine Take.all (rfl) ?_
        conv => whnf
        refine Take.all (rfl) ?_
        conv => whnf
        obtain ⟨y17, e18, h⟩ := bind_ex h
        refine CallOk.of (impl_sum_ct e18) ?_
        conv => whnf
        refine spl (fun g19 => ?_) (fun g19 => ?_)
        · replace h := iteT h g19
          conv => whnf
          refine Take.all (rfl) ?_
          conv => whnf
          obtain ⟨y20, e21, h⟩ := bind_ex h
          refine CallOk.of (impl_toldSurreal_ct e21) ?_
          conv => whnf
          refine spl (fun g22 => ?_) (fun g22 => ?_)
          · replace h := iteT h g22
            conv => whnf
            refine CutK.norm [2, 3] [128, 2432] ?_
            conv => whnf
            cases h
            exact Done.of [some 2432] [] rfl rfl ⟨⟨rfl, rfl⟩, ⟨rfl, ⟨rfl, rfl, rows_same⟩, trivial⟩, ⟨⟨⟨rfl, rfl⟩, trivial⟩, rfl, trivial⟩, trivial⟩
          · replace h := iteF h g22
            conv => whnf
            refine CutK.norm [2, 3] [128, 2432] ?_
            conv => whnf
            cases h
            exact Done.of [some 2432] [] rfl rfl ⟨⟨rfl, rfl⟩, ⟨rfl, ⟨rfl, rfl, rows_same⟩, trivial⟩, ⟨⟨⟨rfl, rfl⟩, trivial⟩, rfl, trivial⟩, trivial⟩
        · replace h := iteF h g19
          conv => whnf
          refine Take.all (rfl) ?_
          conv => whnf
          obtain ⟨y23, e24, h⟩ := bind_ex h
          refine CallOk.of (impl_toldSurreal_ct e24) ?_
          conv => whnf
          refine spl (fun g25 => ?_) (fun g25 => ?_)
          · replace h := iteT h g25
            conv => whnf
            refine CutK.norm [2, 3] [128, 2432] ?_
            conv => whnf
            cases h
            exact Done.of [some 2432] [] rfl rfl ⟨⟨rfl, rfl⟩, ⟨rfl, ⟨rfl, rfl, rows_same⟩, trivial⟩, ⟨⟨⟨rfl, rfl⟩, trivial⟩, rfl, trivial⟩, trivial⟩
          · replace h := iteF h g25
            conv => whnf
            refine CutK.norm [2, 3] [128, 2432] ?_
            conv => whnf
            cases h
            exact Done.of [some 2432] [] rfl rfl ⟨⟨rfl, rfl⟩, ⟨rfl, ⟨rfl, rfl, rows_same⟩, trivial⟩, ⟨⟨⟨rfl, rfl⟩, trivial⟩, rfl, trivial⟩, trivial⟩
      · replace h := iteN h g12
        conv => whnf
        refine CutK.norm [2, 4, 7, 28] [128, 256, 896] ?_
        conv => whnf
        refine CutK.norm [2, 4, 7] [128, 256, 896] ?_
        conv => whnf
        obtain ⟨y26, e27, h⟩ := bind_ex h
        refine CallOk.of (impl_whole_ct e27) ?_
        conv => whnf
        obtain ⟨y28, e29, h⟩ := bind_ex h
        refine CallOk.of (impl_real_ct e29) ?_
        conv => whnf
        refine Take.all (rfl) ?_
        conv => whnf
        refine Take.all (rfl) ?_
        conv => whnf
        obtain ⟨y30, e31, h⟩ := bind_ex h
        refine CallOk.of (impl_sum_ct e31) ?_
        conv => whnf
        refine spl (fun g32 => ?_) (fun g32 => ?_)
        · replace h := iteT h g32
          conv => whnf
          refine Take.all (rfl) ?_
          conv => whnf
          obtain ⟨y33, e34, h⟩ := bind_ex h
          refine CallOk.of (impl_toldSurreal_ct e34) ?_
          conv => whnf
          refine spl (fun g35 => ?_) (fun g35 => ?_)
          · replace h := iteT h g35
            conv => whnf
            refine CutK.norm [2, 3] [128, 2432] ?_
            conv => whnf
            cases h
            exact Done.of [some 2432] [] rfl rfl ⟨⟨rfl, rfl⟩, ⟨rfl, ⟨rfl, rfl, rows_same⟩, trivial⟩, ⟨⟨⟨rfl, rfl⟩, trivial⟩, rfl, trivial⟩, trivial⟩
          · replace h := iteF h g35
            conv => whnf
            refine CutK.norm [2, 3] [128, 2432] ?_
            conv => whnf
            cases h
            exact Done.of [some 2432] [] rfl rfl ⟨⟨rfl, rfl⟩, ⟨rfl, ⟨rfl, rfl, rows_same⟩, trivial⟩, ⟨⟨⟨rfl, rfl⟩, trivial⟩, rfl, trivial⟩, trivial⟩
        · replace h := iteF h g32
          conv => whnf
          refine Take.all (rfl) ?_
          conv => whnf
          obtain ⟨y36, e37, h⟩ := bind_ex h
          refine CallOk.of (impl_toldSurreal_ct e37) ?_
          conv => whnf
          refine spl (fun g38 => ?_) (fun g38 => ?_)
          · replace h := iteT h g38
            conv => whnf
            refine CutK.norm [2, 3] [128, 2432] ?_
            conv => whnf
            cases h
            exact Done.of [some 2432] [] rfl rfl ⟨⟨rfl, rfl⟩, ⟨rfl, ⟨rfl, rfl, rows_same⟩, trivial⟩, ⟨⟨⟨rfl, rfl⟩, trivial⟩, rfl, trivial⟩, trivial⟩
          · replace h := iteF h g38
            conv => whnf
            refine CutK.norm [2, 3] [128, 2432] ?_
            conv => whnf
            cases h
            exact Done.of [some 2432] [] rfl rfl ⟨⟨rfl, rfl⟩, ⟨rfl, ⟨rfl, rfl, rows_same⟩, trivial⟩, ⟨⟨⟨rfl, rfl⟩, trivial⟩, rfl, trivial⟩, trivial⟩
    · replace h := iteN h g9
      conv => whnf
      refine CutK.norm [2, 4, 7, 28] [128, 256, 896] ?_
      conv => whnf
      refine CutK.norm [2, 4, 7] [128, 256, 896] ?_
      conv => whnf
      obtain ⟨y39, e40, h⟩ := bind_ex h
      refine CallOk.of (impl_whole_ct e40) ?_
      conv => whnf
      obtain ⟨y41, e42, h⟩ := bind_ex h
      refine CallOk.of (impl_real_ct e42) ?_
      conv => whnf
      refine Take.all (rfl) ?_
      conv => whnf
      refine Take.all (rfl) ?_
      conv => whnf
      obtain ⟨y43, e44, h⟩ := bind_ex h
      refine CallOk.of (impl_sum_ct e44) ?_
      conv => whnf
      refine spl (fun g45 => ?_) (fun g45 => ?_)
      · replace h := iteT h g45
        conv => whnf
        refine Take.all (rfl) ?_
        conv => whnf
        obtain ⟨y46, e47, h⟩ := bind_ex h
        refine CallOk.of (impl_toldSurreal_ct e47) ?_
        conv => whnf
        refine spl (fun g48 => ?_) (fun g48 => ?_)
        · replace h := iteT h g48
          conv => whnf
          refine CutK.norm [2, 3] [128, 2432] ?_
          conv => whnf
          cases h
          exact Done.of [some 2432] [] rfl rfl ⟨⟨rfl, rfl⟩, ⟨rfl, ⟨rfl, rfl, rows_same⟩, trivial⟩, ⟨⟨⟨rfl, rfl⟩, trivial⟩, rfl, trivial⟩, trivial⟩
        · replace h := iteF h g48
          conv => whnf
          refine CutK.norm [2, 3] [128, 2432] ?_
          conv => whnf
          cases h
          exact Done.of [some 2432] [] rfl rfl ⟨⟨rfl, rfl⟩, ⟨rfl, ⟨rfl, rfl, rows_same⟩, trivial⟩, ⟨⟨⟨rfl, rfl⟩, trivial⟩, rfl, trivial⟩, trivial⟩
      · replace h := iteF h g45
        conv => whnf
        refine Take.all (rfl) ?_
        conv => whnf
        obtain ⟨y49, e50, h⟩ := bind_ex h
        refine CallOk.of (impl_toldSurreal_ct e50) ?_
        conv => whnf
        refine spl (fun g51 => ?_) (fun g51 => ?_)
        · replace h := iteT h g51
          conv => whnf
          refine CutK.norm [2, 3] [128, 2432] ?_
          conv => whnf
          cases h
          exact Done.of [some 2432] [] rfl rfl ⟨⟨rfl, rfl⟩, ⟨rfl, ⟨rfl, rfl, rows_same⟩, trivial⟩, ⟨⟨⟨rfl, rfl⟩, trivial⟩, rfl, trivial⟩, trivial⟩
        · replace h := iteF h g51
          conv => whnf
          refine CutK.norm [2, 3] [128, 2432] ?_
          conv => whnf
          cases h
          exact Done.of [some 2432] [] rfl rfl ⟨⟨rfl, rfl⟩, ⟨rfl, ⟨rfl, rfl, rows_same⟩, trivial⟩, ⟨⟨⟨rfl, rfl⟩, trivial⟩, rfl, trivial⟩, trivial⟩
  · replace h := iteF h g4
    conv => whnf
    refine CutK.norm [1, 2, 10] [64, 128] ?_
    conv => whnf
    cases h
    exact Done.of [none] [] rfl rfl ⟨⟨rfl, rfl⟩, ⟨rfl, rfl, trivial⟩, ⟨⟨⟨rfl, rfl⟩, trivial⟩, rfl, trivial⟩, trivial⟩

def laws_markSurrealTermS_2_l0 (a1 : Int) (K0 : Option Int) : Nat → Option Int
  | 0 => none
  | n + 1 => (K0)
set_option maxRecDepth 100000 in
theorem laws_markSurrealTermS_2_l0_ct {a1 : Int} {K0 : Option Int} {r : Int} : ∀ (n : Nat), laws_markSurrealTermS_2_l0 a1 K0 n = some r → LoopOk prog 0 (lp f63 0) (mk 37 [(0, .d (.sl [])), (1, .d (D.int .i64 a1)), (5, .d (D.int .i64 0))] []) (LoopEnd prog f63 0 37 (.d (D.int .i64 r)) (⟨[], []⟩) (fun i ts os => (i = 0 ∧ K0 = some r ∧ ts = [(1, .d (D.int .i64 a1))] ∧ os = [])))
  | 0, h => by
      rw [laws_markSurrealTermS_2_l0] at h; cases h
  | n + 1, h => by
      rw [laws_markSurrealTermS_2_l0] at h
      refine LoopOk.step ?_
      conv => whnf
      refine splD (fun g => absurd g (by decide)) (fun _ => ?_)
      conv => whnf
      exact ⟨_, _, [], [], ⟨rfl, h, rfl, rfl⟩, ⟨⟨rfl, rfl⟩, ⟨rfl, trivial⟩, rfl, trivial⟩⟩
def laws_markSurrealTermS_2 (k : Nat) (a1 : Int) : Option Int :=
  (laws_markSurrealTermS_2_l0 a1 (some a1) k)
set_option maxHeartbeats 4000000 in
set_option maxRecDepth 100000 in
theorem laws_markSurrealTermS_2_ct {k : Nat} {a1 : Int} {r : Int} (h : laws_markSurrealTermS_2 k a1 = some r) : Ct prog 63 [.d (.sl []), .d (D.int .i64 a1)] (⟨[], []⟩) (.d (D.int .i64 r)) (⟨[], []⟩) := by
  rw [laws_markSurrealTermS_2] at h
  refine Ct.of (c := _) mixed func63 ⟨rfl, rfl, rfl⟩ ?_ rfl
  conv => whnf
  refine LoopOk.into (laws_markSurrealTermS_2_l0_ct  _  h) [] [] ⟨⟨rfl, rfl⟩, ⟨rfl, trivial⟩, rfl, rfl, rfl, trivial⟩ ?_ (fun _ hs => hs)
  rintro i ts os ⟨rfl, h, rfl, rfl⟩
  conv => whnf
  refine CutK.norm [1] [] ?_
  conv => whnf
  cases h
  exact Done.of [] [] rfl rfl ⟨⟨rfl, rfl⟩, ⟨rfl, trivial⟩, rfl, trivial⟩

def laws_markSurreal_2 (k : Nat) (a1 : Int) : Option Int :=
  ((laws_markSurrealTermS_2 k a1).bind fun y2 => some y2)
set_option maxHeartbeats 4000000 in
set_option maxRecDepth 100000 in
theorem laws_markSurreal_2_ct {k : Nat} {a1 : Int} {r : Int} (h : laws_markSurreal_2 k a1 = some r) : Ct prog 21 [.agg [.d (.sl [])], .d (D.int .i64 a1)] (⟨[], []⟩) (.d (D.int .i64 r)) (⟨[], []⟩) := by
  rw [laws_markSurreal_2] at h
  refine Ct.of (c := _) mixed func21 ⟨rfl, rfl, rfl⟩ ?_ rfl
  conv => whnf
  obtain ⟨y2, e3, h⟩ := bind_ex h
  refine CallOk.of (laws_markSurrealTermS_2_ct e3) ?_
  conv => whnf
  refine CutK.go ?_
  conv => whnf
  cases h
  exact Done.of [] [] rfl rfl ⟨⟨rfl, rfl⟩, ⟨rfl, trivial⟩, rfl, trivial⟩

def laws_markSurrealTermS_l0 (rec_laws_markSurrealTermS : Rw → Int → Option (Int × Rw)) (K0 : Int → Rw → Option (Int × Rw)) : Nat → Rw → Int → Int → Option (Int × Rw)
  | 0, _, _, _ => none
  | n + 1, v22, v23, v24 => (if v24 < (v22.length : Int) then (if 0 ≤ v24 ∧ v24 < (v22.length : Int) then (row_sii v22 v24 fun x67 x68 x69 => ((rec_laws_markSurrealTermS x67 v23).bind fun y72 => (row_sii (v22.set ((v24 : Int).toNat) [D.sl y72.2, D.int .i64 x68, D.int .i64 x69]) v24 fun x74 x75 x76 => (row_sii ((v22.set ((v24 : Int).toNat) [D.sl y72.2, D.int .i64 x68, D.int .i64 x69]).set ((v24 : Int).toNat) [D.sl x74, D.int .i64 y72.1, D.int .i64 x76]) v24 fun x79 x80 x81 => (laws_markSurrealTermS_l0 rec_laws_markSurrealTermS K0 n (((v22.set ((v24 : Int).toNat) [D.sl y72.2, D.int .i64 x68, D.int .i64 x69]).set ((v24 : Int).toNat) [D.sl x74, D.int .i64 y72.1, D.int .i64 x76]).set ((v24 : Int).toNat) [D.sl x79, D.int .i64 x80, D.int .i64 (IntKind.i64.wrap (y72.1 + 1))]) (IntKind.i64.wrap ((IntKind.i64.wrap (y72.1 + 1)) + 1)) (IntKind.i64.wrap (v24 + 1))))))) else none) else (K0 v23 v22))
set_option maxRecDepth 100000 in
theorem laws_markSurrealTermS_l0_ct {rec_laws_markSurrealTermS : Rw → Int → Option (Int × Rw)} {K0 : Int → Rw → Option (Int × Rw)} {T : TypeId} (hrec_laws_markSurrealTermS : ∀ (a1 : Rw) (a2 : Int) (r : Int × Rw), rec_laws_markSurrealTermS a1 a2 = some r → CtM prog 63 false [.int .i64 a2] a1 (.int .i64 r.1) r.2) {r : Int × Rw} : ∀ (n : Nat) (v22 : Rw) (v23 : Int) (v24 : Int), laws_markSurrealTermS_l0 rec_laws_markSurrealTermS K0 n v22 v23 v24 = some r → LoopOk prog 1 (lp f63 0) (mk 37 [(0, .os 0 v22.length), (1, .d (D.int .i64 v23)), (5, .d (D.int .i64 v24))] [(0, .arr T true v22)]) (LoopEndM 1 37 (fun i ts os => (i = 0 ∧ ∃ v44 : Int, ∃ v45 : Rw, K0 v44 v45 = some r ∧ ts = [(1, .d (D.int .i64 v44))] ∧ os = [(0, .arr T true v45)])))
  | 0, _, _, _, h => by
      rw [laws_markSurrealTermS_l0] at h; cases h
  | n + 1, v22, v23, v24, h => by
      rw [laws_markSurrealTermS_l0] at h
      refine LoopOk.step ?_
      conv => whnf
      refine splD (fun g65 => ?_) (fun g65 => ?_)
      · replace h := iteP h g65
        conv => whnf
        obtain ⟨g66, h⟩ := req_ex h
        refine Req.of g66 ?_
        conv => whnf
        obtain ⟨g71, x67, x68, x69, e70, h⟩ := row_sii_ex h
        refine Row.of _ e70 ?_
        conv => whnf
        obtain ⟨y72, e73, h⟩ := bind_ex h
        refine MarkOk.of (hrec_laws_markSurrealTermS _ _ _ e73) ?_
        conv => whnf
        refine CutK.norm [0, 1, 5] [0] ?_
        conv => whnf
        refine Req.of g66 ?_
        conv => whnf
        obtain ⟨g78, x74, x75, x76, e77, h⟩ := row_sii_ex h
        refine Row.of _ e77 ?_
        conv => whnf
        refine Req.of g66 ?_
        conv => whnf
        obtain ⟨g83, x79, x80, x81, e82, h⟩ := row_sii_ex h
        refine Row.of _ e82 ?_
        conv => whnf
        refine CutK.norm [0, 1, 5] [0] ?_
        conv => whnf
        exact LoopOk.back (laws_markSurrealTermS_l0_ct hrec_laws_markSurrealTermS n _ _ _ h) [some 0] [] ⟨⟨rfl, rfl⟩, ⟨rfl, ⟨rfl, rfl, rows_same⟩, trivial⟩, ⟨(by first | rfl | exact List.length_append.symm | (simp; done) | omega), rfl⟩, rfl, rfl, trivial⟩
      · replace h := iteN h g65
        conv => whnf
        exact ⟨_, _, [some 0], [], ⟨rfl, _, _, h, rfl, rfl⟩, ⟨⟨rfl, rfl⟩, ⟨rfl, ⟨rfl, rfl, rows_same⟩, trivial⟩, rfl, trivial⟩⟩
def laws_markSurrealTermS_b (k : Nat) (rec_laws_markSurrealTermS : Rw → Int → Option (Int × Rw)) (a1 : Rw) (a2 : Int) : Option (Int × Rw) :=
  (if a1.isEmpty = true then ((laws_markSurrealTermS_2 k a2).bind fun y => some (y, ([] : Rw))) else (laws_markSurrealTermS_l0 rec_laws_markSurrealTermS (fun (v44 : Int) (v45 : Rw) => (if v45.length = a1.length then some (v44, v45) else none)) k a1 a2 0))
set_option maxHeartbeats 4000000 in
set_option maxRecDepth 100000 in
theorem laws_markSurrealTermS_b_ct {k : Nat} {rec_laws_markSurrealTermS : Rw → Int → Option (Int × Rw)} (hrec_laws_markSurrealTermS : ∀ (a1 : Rw) (a2 : Int) (r : Int × Rw), rec_laws_markSurrealTermS a1 a2 = some r → CtM prog 63 false [.int .i64 a2] a1 (.int .i64 r.1) r.2) {a1 : Rw} {a2 : Int} {r : Int × Rw} (h : laws_markSurrealTermS_b k rec_laws_markSurrealTermS a1 a2 = some r) : CtM prog 63 false [.int .i64 a2] a1 (.int .i64 r.1) r.2 := by
  rw [laws_markSurrealTermS_b] at h
  refine CtM.of (c := _) mixed func63 ⟨rfl, rfl, rfl⟩ rfl (fun hne T => ?_) (fun h0 => ?_)
  · replace h := iteF h (by cases a1 with | nil => exact absurd rfl hne | cons _ _ => rfl)
    conv => whnf
    refine LoopOk.intoM (laws_markSurrealTermS_l0_ct hrec_laws_markSurrealTermS _ _ _ _ h) [some 0] [] ⟨⟨rfl, rfl⟩, ⟨rfl, ⟨rfl, rfl, rows_same⟩, trivial⟩, ⟨rfl, rfl⟩, rfl, rfl, trivial⟩ ?_
    rintro i ts os ⟨rfl, v44, v45, h, rfl, rfl⟩
    conv => whnf
    refine CutK.norm [1] [0] ?_
    conv => whnf
    obtain ⟨g84, h⟩ := req_ex h
    cases h
    exact DoneM.of [some 0] [] rfl g84 ⟨⟨rfl, rfl⟩, ⟨rfl, ⟨rfl, rfl, rows_same⟩, trivial⟩, rfl, trivial⟩
  · subst h0
    replace h := iteT h rfl
    obtain ⟨y, e, h⟩ := bind_ex h
    cases h
    exact ⟨rfl, laws_markSurrealTermS_2_ct e⟩
def laws_markSurrealTermS : Nat → Rw → Int → Option (Int × Rw)
  | 0, _, _ => none
  | k + 1, a1, a2 => laws_markSurrealTermS_b k (laws_markSurrealTermS k) a1 a2
theorem laws_markSurrealTermS_ct' : ∀ (k : Nat) (a1 : Rw) (a2 : Int) (r : Int × Rw), laws_markSurrealTermS k a1 a2 = some r → CtM prog 63 false [.int .i64 a2] a1 (.int .i64 r.1) r.2
  | 0, _, _, _, h => by rw [laws_markSurrealTermS] at h; cases h
  | k + 1, _, _, _, h => by rw [laws_markSurrealTermS] at h; exact laws_markSurrealTermS_b_ct (laws_markSurrealTermS_ct' k) h
theorem laws_markSurrealTermS_ct {k : Nat} {a1 : Rw} {a2 : Int} {r : Int × Rw} (h : laws_markSurrealTermS k a1 a2 = some r) : CtM prog 63 false [.int .i64 a2] a1 (.int .i64 r.1) r.2 := laws_markSurrealTermS_ct' k _ _ _ h

def laws_markSurreal (k : Nat) (a1 : Rw) (a2 : Int) : Option (Int × Rw) :=
  (if a1.isEmpty = true then ((laws_markSurreal_2 k a2).bind fun y => some (y, ([] : Rw))) else ((laws_markSurrealTermS k a1 a2).bind fun y3 => (if y3.2.length = a1.length then some (y3.1, y3.2) else none)))
set_option maxHeartbeats 4000000 in
set_option maxRecDepth 100000 in
theorem laws_markSurreal_ct {k : Nat} {a1 : Rw} {a2 : Int} {r : Int × Rw} (h : laws_markSurreal k a1 a2 = some r) : CtM prog 21 true [.int .i64 a2] a1 (.int .i64 r.1) r.2 := by
  rw [laws_markSurreal] at h
  refine CtM.of (c := _) mixed func21 ⟨rfl, rfl, rfl⟩ rfl (fun hne T => ?_) (fun h0 => ?_)
  · replace h := iteF h (by cases a1 with | nil => exact absurd rfl hne | cons _ _ => rfl)
    conv => whnf
    refine Choice.new ?_
    conv => whnf
    refine Req.of (rfl) ?_
    conv => whnf
    obtain ⟨y3, e4, h⟩ := bind_ex h
    refine MarkOk.of (laws_markSurrealTermS_ct e4) ?_
    conv => whnf
    refine CutK.go ?_
    conv => whnf
    obtain ⟨g5, h⟩ := req_ex h
    cases h
    exact DoneM.of [some 0] [] rfl g5 ⟨⟨rfl, rfl⟩, ⟨rfl, ⟨rfl, rfl, rows_same⟩, trivial⟩, rfl, trivial⟩
  · subst h0
    replace h := iteT h rfl
    obtain ⟨y, e, h⟩ := bind_ex h
    cases h
    exact ⟨rfl, laws_markSurreal_2_ct e⟩

def spec_suLeft_l0 (rec_spec_suLeft : Rw → Int → Int → Option Int) (a1 : Rw) (a2 : Int) (K0 : Int → Option Int) : Rw → Int → Option Int
  | [], v14 => (K0 v14)
  | cs :: rest, v14 => (cell_sii cs fun x37 x38 x39 => (if v14 < (0 : Int) then some (-1) else (if a2 = (0 : Int) then some (-1) else ((rec_spec_suLeft x37 (IntKind.i64.wrap (a2 - 1)) (IntKind.i64.wrap (v14 - 1))).bind fun y43 => (spec_suLeft_l0 rec_spec_suLeft a1 a2 K0 rest y43)))))
set_option maxRecDepth 100000 in
theorem spec_suLeft_l0_ct {rec_spec_suLeft : Rw → Int → Int → Option Int} {a1 : Rw} {a2 : Int} {K0 : Int → Option Int} (hrec_spec_suLeft : ∀ (a1 : Rw) (a2 : Int) (a3 : Int) (r : Int), rec_spec_suLeft a1 a2 a3 = some r → Ct prog 118 [.agg [.d (D.sl a1)], .d (D.int .i64 a2), .d (D.int .i64 a3)] (⟨[], []⟩) (.d (D.int .i64 r)) (⟨[], []⟩)) {r : Int} (hx : a1.length ≤ cap) : ∀ (rest : Rw) (v15n : Nat) (v14 : Int), a1.drop v15n = rest → spec_suLeft_l0 rec_spec_suLeft a1 a2 K0 rest v14 = some r → LoopOk prog 0 (lp f118 0) (mk 33 [(1, .d (D.int .i64 a2)), (2, .d (D.int .i64 v14)), (12, .d (D.sl a1)), (13, .d (D.int .i64 (a1.length : Int))), (14, .d (D.int .i64 (v15n : Int)))] []) (LoopEnd prog f118 0 33 (.d (D.int .i64 r)) (⟨[], []⟩) (fun i ts os => (i = 0 ∧ ∃ v26 : Int, K0 v26 = some r ∧ ts = [(2, .d (D.int .i64 v26))] ∧ os = [])))
  | [], v15n, v14, hd, h => by
      rw [spec_suLeft_l0] at h
      have hn := drop_nil hd
      refine LoopOk.step ?_
      conv => whnf
      refine splD (fun g => absurd g hn) (fun _ => ?_)
      conv => whnf
      exact ⟨_, _, [], [], ⟨rfl, _, h, rfl, rfl⟩, ⟨⟨rfl, rfl⟩, ⟨rfl, trivial⟩, rfl, trivial⟩⟩
  | cs :: rest, v15n, v14, hd, h => by
      rw [spec_suLeft_l0] at h
      obtain ⟨hrow, hd1, hlt⟩ := drop_cons hd
      refine LoopOk.step ?_
      conv => whnf
      refine splD (fun _ => ?_) (fun g => absurd hlt g)
      conv => whnf
      obtain ⟨x37, x38, x39, e40, h⟩ := cell_sii_ex h
      rw [e40] at hrow
      refine Req.of (Int.natCast_nonneg _) ?_
      refine Row.of _ hrow ?_
      conv => whnf
      refine splD (fun g41 => ?_) (fun g41 => ?_)
      · replace h := iteP h g41
        conv => whnf
        cases h
        exact Done.of [] [] rfl rfl ⟨⟨rfl, rfl⟩, ⟨rfl, trivial⟩, rfl, trivial⟩
      · replace h := iteN h g41
        conv => whnf
        refine splD (fun g42 => ?_) (fun g42 => ?_)
        · replace h := iteP h g42
          conv => whnf
          cases h
          exact Done.of [] [] rfl rfl ⟨⟨rfl, rfl⟩, ⟨rfl, trivial⟩, rfl, trivial⟩
        · replace h := iteN h g42
          conv => whnf
          obtain ⟨y43, e44, h⟩ := bind_ex h
          refine CallOk.of (hrec_spec_suLeft _ _ _ _ e44) ?_
          conv => whnf
          refine CutK.norm [1, 2, 12, 13, 14] [] ?_
          conv => whnf
          exact LoopOk.back (spec_suLeft_l0_ct hrec_spec_suLeft hx rest (v15n + 1) _ hd1 h) [] [] ⟨⟨rfl, rfl⟩, ⟨rfl, trivial⟩, rfl, rfl, rfl, rfl, i64eq (wrap_up hlt hx), trivial⟩
def spec_suLeft_b (rec_spec_suLeft : Rw → Int → Int → Option Int) (a1 : Rw) (a2 : Int) (a3 : Int) : Option Int :=
  (if a1.length ≤ cap then (spec_suLeft_l0 rec_spec_suLeft a1 a2 (fun (v26 : Int) => some v26) a1 (IntKind.i64.wrap (a3 - 1))) else none)
set_option maxHeartbeats 4000000 in
set_option maxRecDepth 100000 in
theorem spec_suLeft_b_ct {rec_spec_suLeft : Rw → Int → Int → Option Int} (hrec_spec_suLeft : ∀ (a1 : Rw) (a2 : Int) (a3 : Int) (r : Int), rec_spec_suLeft a1 a2 a3 = some r → Ct prog 118 [.agg [.d (D.sl a1)], .d (D.int .i64 a2), .d (D.int .i64 a3)] (⟨[], []⟩) (.d (D.int .i64 r)) (⟨[], []⟩)) {a1 : Rw} {a2 : Int} {a3 : Int} {r : Int} (h : spec_suLeft_b rec_spec_suLeft a1 a2 a3 = some r) : Ct prog 118 [.agg [.d (D.sl a1)], .d (D.int .i64 a2), .d (D.int .i64 a3)] (⟨[], []⟩) (.d (D.int .i64 r)) (⟨[], []⟩) := by
  rw [spec_suLeft_b] at h
  refine Ct.of (c := _) mixed func118 ⟨rfl, rfl, rfl⟩ ?_ rfl
  conv => whnf
  obtain ⟨g45, h⟩ := req_ex h
  refine LoopOk.into (spec_suLeft_l0_ct hrec_spec_suLeft g45 _ _ _ rfl h) [] [] ⟨⟨rfl, rfl⟩, ⟨rfl, trivial⟩, rfl, rfl, rfl, rfl, rfl, trivial⟩ ?_ (fun _ hs => hs)
  rintro i ts os ⟨rfl, v26, h, rfl, rfl⟩
  conv => whnf
  refine CutK.norm [2] [] ?_
  conv => whnf
  cases h
  exact Done.of [] [] rfl rfl ⟨⟨rfl, rfl⟩, ⟨rfl, trivial⟩, rfl, trivial⟩
def spec_suLeft : Nat → Rw → Int → Int → Option Int
  | 0, _, _, _ => none
  | k + 1, a1, a2, a3 => spec_suLeft_b (spec_suLeft k) a1 a2 a3
theorem spec_suLeft_ct' : ∀ (k : Nat) (a1 : Rw) (a2 : Int) (a3 : Int) (r : Int), spec_suLeft k a1 a2 a3 = some r → Ct prog 118 [.agg [.d (D.sl a1)], .d (D.int .i64 a2), .d (D.int .i64 a3)] (⟨[], []⟩) (.d (D.int .i64 r)) (⟨[], []⟩)
  | 0, _, _, _, _, h => by rw [spec_suLeft] at h; cases h
  | k + 1, _, _, _, _, h => by rw [spec_suLeft] at h; exact spec_suLeft_b_ct (spec_suLeft_ct' k) h
theorem spec_suLeft_ct {k : Nat} {a1 : Rw} {a2 : Int} {a3 : Int} {r : Int} (h : spec_suLeft k a1 a2 a3 = some r) : Ct prog 118 [.agg [.d (D.sl a1)], .d (D.int .i64 a2), .d (D.int .i64 a3)] (⟨[], []⟩) (.d (D.int .i64 r)) (⟨[], []⟩) := spec_suLeft_ct' k _ _ _ _ h

def spec_l1In  (a1 : Int) (a2 : Int) (a3 : Int) : Option Bool :=
  (if a2 ≤ a1 then (if a1 ≤ a3 then some true else some false) else some false)
set_option maxHeartbeats 4000000 in
set_option maxRecDepth 100000 in
theorem spec_l1In_ct  {a1 : Int} {a2 : Int} {a3 : Int} {r : Bool} (h : spec_l1In a1 a2 a3 = some r) : Ct prog 186 [.d (D.int .i64 a1), .d (D.int .i64 a2), .d (D.int .i64 a3)] (⟨[], []⟩) (.d (D.bool r)) (⟨[], []⟩) := by
  rw [spec_l1In] at h
  refine Ct.of (c := _) mixed func186 ⟨rfl, rfl, rfl⟩ ?_ rfl
  conv => whnf
  refine splD (fun g4 => ?_) (fun g4 => ?_)
  · replace h := iteP h g4
    conv => whnf
    refine splD (fun g5 => ?_) (fun g5 => ?_)
    · replace h := iteP h g5
      conv => whnf
      cases h
      exact Done.of [] [] rfl rfl ⟨⟨rfl, rfl⟩, ⟨rfl, trivial⟩, rfl, trivial⟩
    · replace h := iteN h g5
      conv => whnf
      cases h
      exact Done.of [] [] rfl rfl ⟨⟨rfl, rfl⟩, ⟨rfl, trivial⟩, rfl, trivial⟩
  · replace h := iteN h g4
    conv => whnf
    cases h
    exact Done.of [] [] rfl rfl ⟨⟨rfl, rfl⟩, ⟨rfl, trivial⟩, rfl, trivial⟩

def spec_l1Most  (a1 : Int) (a2 : Int) : Option Int :=
  (if a2 < a1 then some a1 else some a2)
set_option maxHeartbeats 4000000 in
set_option maxRecDepth 100000 in
theorem spec_l1Most_ct  {a1 : Int} {a2 : Int} {r : Int} (h : spec_l1Most a1 a2 = some r) : Ct prog 206 [.d (D.int .i64 a1), .d (D.int .i64 a2)] (⟨[], []⟩) (.d (D.int .i64 r)) (⟨[], []⟩) := by
  rw [spec_l1Most] at h
  refine Ct.of (c := _) mixed func206 ⟨rfl, rfl, rfl⟩ ?_ rfl
  conv => whnf
  refine splD (fun g3 => ?_) (fun g3 => ?_)
  · replace h := iteP h g3
    conv => whnf
    cases h
    exact Done.of [] [] rfl rfl ⟨⟨rfl, rfl⟩, ⟨rfl, trivial⟩, rfl, trivial⟩
  · replace h := iteN h g3
    conv => whnf
    cases h
    exact Done.of [] [] rfl rfl ⟨⟨rfl, rfl⟩, ⟨rfl, trivial⟩, rfl, trivial⟩

def spec_l1Abs  (a1 : Int) : Option Int :=
  ((spec_l1Most a1 (IntKind.i64.wrap (0 - a1))).bind fun y2 => some y2)
set_option maxHeartbeats 4000000 in
set_option maxRecDepth 100000 in
theorem spec_l1Abs_ct  {a1 : Int} {r : Int} (h : spec_l1Abs a1 = some r) : Ct prog 204 [.d (D.int .i64 a1)] (⟨[], []⟩) (.d (D.int .i64 r)) (⟨[], []⟩) := by
  rw [spec_l1Abs] at h
  refine Ct.of (c := _) mixed func204 ⟨rfl, rfl, rfl⟩ ?_ rfl
  conv => whnf
  obtain ⟨y2, e3, h⟩ := bind_ex h
  refine CallOk.of (spec_l1Most_ct e3) ?_
  conv => whnf
  refine CutK.go ?_
  conv => whnf
  cases h
  exact Done.of [] [] rfl rfl ⟨⟨rfl, rfl⟩, ⟨rfl, trivial⟩, rfl, trivial⟩

def spec_shGcd_l0 (K0 : Int → Option Int) : Nat → Int → Int → Option Int
  | 0, _, _ => none
  | n + 1, v5, v6 => (if v6 = (0 : Int) then (K0 v5) else (if v6 ≠ 0 then (spec_shGcd_l0 K0 n v6 (v5.tmod v6)) else none))
set_option maxRecDepth 100000 in
theorem spec_shGcd_l0_ct {K0 : Int → Option Int} {r : Int} : ∀ (n : Nat) (v5 : Int) (v6 : Int), spec_shGcd_l0 K0 n v5 v6 = some r → LoopOk prog 0 (lp f198 0) (mk 13 [(0, .d (D.int .i64 v5)), (1, .d (D.int .i64 v6))] []) (LoopEnd prog f198 0 13 (.d (D.int .i64 r)) (⟨[], []⟩) (fun i ts os => (i = 0 ∧ ∃ v9 : Int, K0 v9 = some r ∧ ts = [(0, .d (D.int .i64 v9))] ∧ os = [])))
  | 0, _, _, h => by
      rw [spec_shGcd_l0] at h; cases h
  | n + 1, v5, v6, h => by
      rw [spec_shGcd_l0] at h
      refine LoopOk.step ?_
      conv => whnf
      refine splN (fun g12 => ?_) (fun g12 => ?_)
      · replace h := iteN h g12
        conv => whnf
        obtain ⟨g13, h⟩ := req_ex h
        refine Req.of g13 ?_
        conv => whnf
        exact LoopOk.back (spec_shGcd_l0_ct  n _ _ h) [] [] ⟨⟨rfl, rfl⟩, ⟨rfl, trivial⟩, rfl, rfl, trivial⟩
      · replace h := iteP h g12
        conv => whnf
        exact ⟨_, _, [], [], ⟨rfl, _, h, rfl, rfl⟩, ⟨⟨rfl, rfl⟩, ⟨rfl, trivial⟩, rfl, trivial⟩⟩
def spec_shGcd (k : Nat) (a1 : Int) (a2 : Int) : Option Int :=
  (spec_shGcd_l0 (fun (v9 : Int) => ((spec_l1Abs v9).bind fun y14 => some y14)) k a1 a2)
set_option maxHeartbeats 4000000 in
set_option maxRecDepth 100000 in
theorem spec_shGcd_ct {k : Nat} {a1 : Int} {a2 : Int} {r : Int} (h : spec_shGcd k a1 a2 = some r) : Ct prog 198 [.d (D.int .i64 a1), .d (D.int .i64 a2)] (⟨[], []⟩) (.d (D.int .i64 r)) (⟨[], []⟩) := by
  rw [spec_shGcd] at h
  refine Ct.of (c := _) mixed func198 ⟨rfl, rfl, rfl⟩ ?_ rfl
  conv => whnf
  refine LoopOk.into (spec_shGcd_l0_ct  _ _ _ h) [] [] ⟨⟨rfl, rfl⟩, ⟨rfl, trivial⟩, rfl, rfl, trivial⟩ ?_ (fun _ hs => hs)
  rintro i ts os ⟨rfl, v9, h, rfl, rfl⟩
  conv => whnf
  refine CutK.go ?_
  conv => whnf
  obtain ⟨y14, e15, h⟩ := bind_ex h
  refine CallOk.of (spec_l1Abs_ct e15) ?_
  conv => whnf
  refine CutK.go ?_
  conv => whnf
  cases h
  exact Done.of [] [] rfl rfl ⟨⟨rfl, rfl⟩, ⟨rfl, trivial⟩, rfl, trivial⟩

def spec_shGood (k : Nat) (a1 : Int) (a2 : Int) : Option Bool :=
  ((spec_l1In a2 1 1000000).bind fun y3 => (if y3 = true then ((spec_l1In a1 (-1000000) 1000000).bind fun y6 => (if y6 = true then ((spec_shGcd k a1 a2).bind fun y9 => (if y9 = (1 : Int) then some true else some false)) else some false)) else some false))
set_option maxHeartbeats 4000000 in
set_option maxRecDepth 100000 in
theorem spec_shGood_ct {k : Nat} {a1 : Int} {a2 : Int} {r : Bool} (h : spec_shGood k a1 a2 = some r) : Ct prog 177 [.agg [.d (D.int .i64 a1), .d (D.int .i64 a2)]] (⟨[], []⟩) (.d (D.bool r)) (⟨[], []⟩) := by
  rw [spec_shGood] at h
  refine Ct.of (c := _) mixed func177 ⟨rfl, rfl, rfl⟩ ?_ rfl
  conv => whnf
  obtain ⟨y3, e4, h⟩ := bind_ex h
  refine CallOk.of (spec_l1In_ct e4) ?_
  conv => whnf
  refine spl (fun g5 => ?_) (fun g5 => ?_)
  · replace h := iteT h g5
    conv => whnf
    obtain ⟨y6, e7, h⟩ := bind_ex h
    refine CallOk.of (spec_l1In_ct e7) ?_
    conv => whnf
    refine spl (fun g8 => ?_) (fun g8 => ?_)
    · replace h := iteT h g8
      conv => whnf
      obtain ⟨y9, e10, h⟩ := bind_ex h
      refine CallOk.of (spec_shGcd_ct e10) ?_
      conv => whnf
      refine splD (fun g11 => ?_) (fun g11 => ?_)
      · replace h := iteP h g11
        conv => whnf
        refine CutK.go ?_
        conv => whnf
        cases h
        exact Done.of [] [] rfl rfl ⟨⟨rfl, rfl⟩, ⟨rfl, trivial⟩, rfl, trivial⟩
      · replace h := iteN h g11
        conv => whnf
        refine CutK.go ?_
        conv => whnf
        cases h
        exact Done.of [] [] rfl rfl ⟨⟨rfl, rfl⟩, ⟨rfl, trivial⟩, rfl, trivial⟩
    · replace h := iteF h g8
      conv => whnf
      refine CutK.go ?_
      conv => whnf
      cases h
      exact Done.of [] [] rfl rfl ⟨⟨rfl, rfl⟩, ⟨rfl, trivial⟩, rfl, trivial⟩
  · replace h := iteF h g5
    conv => whnf
    refine CutK.go ?_
    conv => whnf
    cases h
    exact Done.of [] [] rfl rfl ⟨⟨rfl, rfl⟩, ⟨rfl, trivial⟩, rfl, trivial⟩

def spec_l1Sign  (a1 : Int) : Option Int :=
  (if (0 : Int) < a1 then some 1 else (if a1 < (0 : Int) then some (-1) else some 0))
set_option maxHeartbeats 4000000 in
set_option maxRecDepth 100000 in
theorem spec_l1Sign_ct  {a1 : Int} {r : Int} (h : spec_l1Sign a1 = some r) : Ct prog 161 [.d (D.int .i64 a1)] (⟨[], []⟩) (.d (D.int .i64 r)) (⟨[], []⟩) := by
  rw [spec_l1Sign] at h
  refine Ct.of (c := _) mixed func161 ⟨rfl, rfl, rfl⟩ ?_ rfl
  conv => whnf
  refine splD (fun g2 => ?_) (fun g2 => ?_)
  · replace h := iteP h g2
    conv => whnf
    cases h
    exact Done.of [] [] rfl rfl ⟨⟨rfl, rfl⟩, ⟨rfl, trivial⟩, rfl, trivial⟩
  · replace h := iteN h g2
    conv => whnf
    refine splD (fun g3 => ?_) (fun g3 => ?_)
    · replace h := iteP h g3
      conv => whnf
      cases h
      exact Done.of [] [] rfl rfl ⟨⟨rfl, rfl⟩, ⟨rfl, trivial⟩, rfl, trivial⟩
    · replace h := iteN h g3
      conv => whnf
      cases h
      exact Done.of [] [] rfl rfl ⟨⟨rfl, rfl⟩, ⟨rfl, trivial⟩, rfl, trivial⟩

def spec_suSign  (a1 : Rw) : Option Int :=
  (if (a1.length : Int) = (0 : Int) then some 0 else (row_sii a1 0 fun x3 x4 x5 => ((spec_l1Sign x4).bind fun y8 => some y8)))
set_option maxHeartbeats 4000000 in
set_option maxRecDepth 100000 in
theorem spec_suSign_ct  {a1 : Rw} {r : Int} (h : spec_suSign a1 = some r) : Ct prog 130 [.d (D.sl a1)] (⟨[], []⟩) (.d (D.int .i64 r)) (⟨[], []⟩) := by
  rw [spec_suSign] at h
  refine Ct.of (c := _) mixed func130 ⟨rfl, rfl, rfl⟩ ?_ rfl
  conv => whnf
  refine splD (fun g2 => ?_) (fun g2 => ?_)
  · replace h := iteP h g2
    conv => whnf
    cases h
    exact Done.of [] [] rfl rfl ⟨⟨rfl, rfl⟩, ⟨rfl, trivial⟩, rfl, trivial⟩
  · replace h := iteN h g2
    conv => whnf
    obtain ⟨g7, x3, x4, x5, e6, h⟩ := row_sii_ex h
    refine Req.of g7 ?_
    refine Row.of _ e6 ?_
    conv => whnf
    obtain ⟨y8, e9, h⟩ := bind_ex h
    refine CallOk.of (spec_l1Sign_ct e9) ?_
    conv => whnf
    refine CutK.go ?_
    conv => whnf
    cases h
    exact Done.of [] [] rfl rfl ⟨⟨rfl, rfl⟩, ⟨rfl, trivial⟩, rfl, trivial⟩

def spec_shCmp  (a1 : Int) (a2 : Int) (a3 : Int) (a4 : Int) : Option Int :=
  ((spec_l1Sign (IntKind.i64.wrap ((IntKind.i64.wrap (a1 * a4)) - (IntKind.i64.wrap (a3 * a2))))).bind fun y5 => some y5)
set_option maxHeartbeats 4000000 in
set_option maxRecDepth 100000 in
theorem spec_shCmp_ct  {a1 : Int} {a2 : Int} {a3 : Int} {a4 : Int} {r : Int} (h : spec_shCmp a1 a2 a3 a4 = some r) : Ct prog 199 [.agg [.d (D.int .i64 a1), .d (D.int .i64 a2)], .agg [.d (D.int .i64 a3), .d (D.int .i64 a4)]] (⟨[], []⟩) (.d (D.int .i64 r)) (⟨[], []⟩) := by
  rw [spec_shCmp] at h
  refine Ct.of (c := _) mixed func199 ⟨rfl, rfl, rfl⟩ ?_ rfl
  conv => whnf
  obtain ⟨y5, e6, h⟩ := bind_ex h
  refine CallOk.of (spec_l1Sign_ct e6) ?_
  conv => whnf
  refine CutK.go ?_
  conv => whnf
  cases h
  exact Done.of [] [] rfl rfl ⟨⟨rfl, rfl⟩, ⟨rfl, trivial⟩, rfl, trivial⟩

def spec_suCmp_p3 (o57 : Int) : Option Int :=
  some o57
set_option maxHeartbeats 4000000 in
set_option maxRecDepth 100000 in
theorem spec_suCmp_p3_ct {o57 : Int} {r : Int} (h : spec_suCmp_p3 o57 = some r) : X prog 0 (tlF f178 3) (mk 71 [(4, .d (D.int .i64 o57))] []) (finK prog f178 0 (.d (D.int .i64 r)) (⟨[], []⟩)) := by
  rw [spec_suCmp_p3] at h
  conv => whnf
  cases h
  exact Done.of [] [] rfl rfl ⟨⟨rfl, rfl⟩, ⟨rfl, trivial⟩, rfl, trivial⟩
def spec_suCmp_p2 (a1 : Rw) (a2 : Rw) : Option Int :=
  (if 0 ≤ (a1.length : Int) ∧ (a1.length : Int) ≤ (a2.length : Int) ∧ (∀ cs ∈ a2, cs.length = 3) then ((spec_suSign (a2.drop ((a1.length : Int) : Int).toNat)).bind fun y59 => (spec_suCmp_p3 (IntKind.i64.wrap (0 - y59)))) else none)
set_option maxHeartbeats 4000000 in
set_option maxRecDepth 100000 in
theorem spec_suCmp_p2_ct {a1 : Rw} {a2 : Rw} {r : Int} (h : spec_suCmp_p2 a1 a2 = some r) : X prog 0 (tlF f178 2) (mk 71 [(2, .ptr 128 0), (3, .ptr 192 0)] [(128, .box 33 [.d (D.sl a1)]), (192, .box 33 [.d (D.sl a2)])]) (finK prog f178 0 (.d (D.int .i64 r)) (⟨[], []⟩)) := by
  rw [spec_suCmp_p2] at h
  conv => whnf
  obtain ⟨g58, h⟩ := req_ex h
  refine Req.of g58 ?_
  conv => whnf
  obtain ⟨y59, e60, h⟩ := bind_ex h
  refine CallOk.of (spec_suSign_ct e60) ?_
  conv => whnf
  exact CutK.piece (spec_suCmp_p3_ct  h) [] [] ⟨⟨rfl, rfl⟩, ⟨rfl, trivial⟩, rfl, trivial⟩
def spec_suCmp_l0 (rec_spec_suCmp : Rw → Rw → Option Int) (a1 : Rw) (a2 : Rw) (K0 : Option Int) : Rw → Nat → Option Int
  | [], v86n => (K0)
  | cs :: rest, v86n => (cell_sii cs fun x112 x113 x114 => (if (v86n : Int) = (a2.length : Int) then ((spec_l1Sign x113).bind fun y117 => some y117) else (row_sii a2 (v86n : Int) fun x119 x120 x121 => ((rec_spec_suCmp x112 x119).bind fun y124 => (if (0 : Int) < y124 then ((spec_l1Sign x113).bind fun y127 => some y127) else (if y124 < (0 : Int) then ((spec_l1Sign x120).bind fun y130 => some (IntKind.i64.wrap (0 - y130))) else (if (!(decide (x113 = x120) && (decide (x114 = x121) && true))) = true then ((spec_shCmp x113 x114 x120 x121).bind fun y133 => some y133) else (spec_suCmp_l0 rec_spec_suCmp a1 a2 K0 rest (v86n + 1)))))))))
set_option maxRecDepth 100000 in
theorem spec_suCmp_l0_ct {rec_spec_suCmp : Rw → Rw → Option Int} {a1 : Rw} {a2 : Rw} {K0 : Option Int} (hrec_spec_suCmp : ∀ (a1 : Rw) (a2 : Rw) (r : Int), rec_spec_suCmp a1 a2 = some r → Ct prog 178 [.agg [.d (D.sl a1)], .agg [.d (D.sl a2)]] (⟨[], []⟩) (.d (D.int .i64 r)) (⟨[], []⟩)) {r : Int} (hx : a1.length ≤ cap) : ∀ (rest : Rw) (v86n : Nat), a1.drop v86n = rest → spec_suCmp_l0 rec_spec_suCmp a1 a2 K0 rest v86n = some r → LoopOk prog 0 (lp f178 0) (mk 71 [(2, .ptr 128 0), (3, .ptr 192 0), (10, .d (D.sl a1)), (11, .d (D.int .i64 (a1.length : Int))), (12, .d (D.int .i64 (v86n : Int)))] [(128, .box 33 [.d (D.sl a1)]), (192, .box 33 [.d (D.sl a2)])]) (LoopEnd prog f178 0 71 (.d (D.int .i64 r)) (⟨[], []⟩) (fun i ts os => (i = 0 ∧ K0 = some r ∧ ts = [(2, .ptr 128 0), (3, .ptr 192 0)] ∧ os = [(128, .box 33 [.d (D.sl a1)]), (192, .box 33 [.d (D.sl a2)])])))
  | [], v86n, hd, h => by
      rw [spec_suCmp_l0] at h
      have hn := drop_nil hd
      refine LoopOk.step ?_
      conv => whnf
      refine splD (fun g => absurd g hn) (fun _ => ?_)
      conv => whnf
      exact ⟨_, _, [some 128, some 192], [], ⟨rfl, h, rfl, rfl⟩, ⟨⟨rfl, rfl⟩, ⟨rfl, ⟨rfl, rfl, trivial⟩, ⟨rfl, rfl, trivial⟩, trivial⟩, ⟨rfl, rfl⟩, ⟨rfl, rfl⟩, trivial⟩⟩
  | cs :: rest, v86n, hd, h => by
      rw [spec_suCmp_l0] at h
      obtain ⟨hrow, hd1, hlt⟩ := drop_cons hd
      refine LoopOk.step ?_
      conv => whnf
      refine splD (fun _ => ?_) (fun g => absurd hlt g)
      conv => whnf
      obtain ⟨x112, x113, x114, e115, h⟩ := cell_sii_ex h
      rw [e115] at hrow
      refine Req.of (Int.natCast_nonneg _) ?_
      refine Row.of _ hrow ?_
      conv => whnf
      refine splD (fun g116 => ?_) (fun g116 => ?_)
      · replace h := iteP h g116
        conv => whnf
        obtain ⟨y117, e118, h⟩ := bind_ex h
        refine CallOk.of (spec_l1Sign_ct e118) ?_
        conv => whnf
        refine CutK.norm [4] [] ?_
        conv => whnf
        cases h
        exact Done.of [] [] rfl rfl ⟨⟨rfl, rfl⟩, ⟨rfl, trivial⟩, rfl, trivial⟩
      · replace h := iteN h g116
        conv => whnf
        refine CutK.norm [2, 3, 5, 6, 10, 11, 12] [128, 192, 384] ?_
        conv => whnf
        obtain ⟨g123, x119, x120, x121, e122, h⟩ := row_sii_ex h
        refine Req.of g123 ?_
        refine Row.of _ e122 ?_
        conv => whnf
        obtain ⟨y124, e125, h⟩ := bind_ex h
        refine CallOk.of (hrec_spec_suCmp _ _ _ e125) ?_
        conv => whnf
        refine CutK.norm [2, 3, 6, 7, 8, 10, 11, 12] [128, 192, 384, 448] ?_
        conv => whnf
        refine splD (fun g126 => ?_) (fun g126 => ?_)
        · replace h := iteP h g126
          conv => whnf
          obtain ⟨y127, e128, h⟩ := bind_ex h
          refine CallOk.of (spec_l1Sign_ct e128) ?_
          conv => whnf
          refine CutK.norm [4] [] ?_
          conv => whnf
          cases h
          exact Done.of [] [] rfl rfl ⟨⟨rfl, rfl⟩, ⟨rfl, trivial⟩, rfl, trivial⟩
        · replace h := iteN h g126
          conv => whnf
          refine splD (fun g129 => ?_) (fun g129 => ?_)
          · replace h := iteP h g129
            conv => whnf
            obtain ⟨y130, e131, h⟩ := bind_ex h
            refine CallOk.of (spec_l1Sign_ct e131) ?_
            conv => whnf
            refine CutK.norm [4] [] ?_
            conv => whnf
            cases h
            exact Done.of [] [] rfl rfl ⟨⟨rfl, rfl⟩, ⟨rfl, trivial⟩, rfl, trivial⟩
          · replace h := iteN h g129
            conv => whnf
            refine Req.of ⟨by kernel_rfl, by kernel_rfl⟩ ?_
            conv => whnf
            refine spl (fun g132 => ?_) (fun g132 => ?_)
            · replace h := iteT h g132
              conv => whnf
              obtain ⟨y133, e134, h⟩ := bind_ex h
              refine CallOk.of (spec_shCmp_ct e134) ?_
              conv => whnf
              refine CutK.norm [4] [] ?_
              conv => whnf
              cases h
              exact Done.of [] [] rfl rfl ⟨⟨rfl, rfl⟩, ⟨rfl, trivial⟩, rfl, trivial⟩
            · replace h := iteF h g132
              conv => whnf
              refine CutK.norm [2, 3, 10, 11, 12] [128, 192] ?_
              conv => whnf
              exact LoopOk.back (spec_suCmp_l0_ct hrec_spec_suCmp hx rest (v86n + 1)  hd1 h) [some 128, some 192] [] ⟨⟨rfl, rfl⟩, ⟨rfl, ⟨rfl, rfl, trivial⟩, ⟨rfl, rfl, trivial⟩, trivial⟩, ⟨rfl, rfl⟩, ⟨rfl, rfl⟩, rfl, rfl, i64eq (wrap_up hlt hx), trivial⟩
def spec_suCmp_b (rec_spec_suCmp : Rw → Rw → Option Int) (a1 : Rw) (a2 : Rw) : Option Int :=
  (if a1.length ≤ cap then (spec_suCmp_l0 rec_spec_suCmp a1 a2 (spec_suCmp_p2 a1 a2) a1 0) else none)
set_option maxHeartbeats 4000000 in
set_option maxRecDepth 100000 in
theorem spec_suCmp_b_ct {rec_spec_suCmp : Rw → Rw → Option Int} (hrec_spec_suCmp : ∀ (a1 : Rw) (a2 : Rw) (r : Int), rec_spec_suCmp a1 a2 = some r → Ct prog 178 [.agg [.d (D.sl a1)], .agg [.d (D.sl a2)]] (⟨[], []⟩) (.d (D.int .i64 r)) (⟨[], []⟩)) {a1 : Rw} {a2 : Rw} {r : Int} (h : spec_suCmp_b rec_spec_suCmp a1 a2 = some r) : Ct prog 178 [.agg [.d (D.sl a1)], .agg [.d (D.sl a2)]] (⟨[], []⟩) (.d (D.int .i64 r)) (⟨[], []⟩) := by
  rw [spec_suCmp_b] at h
  refine Ct.of (c := _) mixed func178 ⟨rfl, rfl, rfl⟩ ?_ rfl
  conv => whnf
  obtain ⟨g135, h⟩ := req_ex h
  refine LoopOk.into (spec_suCmp_l0_ct hrec_spec_suCmp g135 _ _  rfl h) [some 128, some 192] [] ⟨⟨rfl, rfl⟩, ⟨rfl, ⟨rfl, rfl, trivial⟩, ⟨rfl, rfl, trivial⟩, trivial⟩, ⟨rfl, rfl⟩, ⟨rfl, rfl⟩, rfl, rfl, rfl, trivial⟩ ?_ (fun _ hs => hs)
  rintro i ts os ⟨rfl, h, rfl, rfl⟩
  conv => whnf
  exact CutK.piece (spec_suCmp_p2_ct  h) [some 128, some 192] [] ⟨⟨rfl, rfl⟩, ⟨rfl, ⟨rfl, rfl, trivial⟩, ⟨rfl, rfl, trivial⟩, trivial⟩, ⟨rfl, rfl⟩, ⟨rfl, rfl⟩, trivial⟩
def spec_suCmp : Nat → Rw → Rw → Option Int
  | 0, _, _ => none
  | k + 1, a1, a2 => spec_suCmp_b (spec_suCmp k) a1 a2
theorem spec_suCmp_ct' : ∀ (k : Nat) (a1 : Rw) (a2 : Rw) (r : Int), spec_suCmp k a1 a2 = some r → Ct prog 178 [.agg [.d (D.sl a1)], .agg [.d (D.sl a2)]] (⟨[], []⟩) (.d (D.int .i64 r)) (⟨[], []⟩)
  | 0, _, _, _, h => by rw [spec_suCmp] at h; cases h
  | k + 1, _, _, _, h => by rw [spec_suCmp] at h; exact spec_suCmp_b_ct (spec_suCmp_ct' k) h
theorem spec_suCmp_ct {k : Nat} {a1 : Rw} {a2 : Rw} {r : Int} (h : spec_suCmp k a1 a2 = some r) : Ct prog 178 [.agg [.d (D.sl a1)], .agg [.d (D.sl a2)]] (⟨[], []⟩) (.d (D.int .i64 r)) (⟨[], []⟩) := spec_suCmp_ct' k _ _ _ h

def spec_suForm_p3  : Option Bool :=
  some true
set_option maxHeartbeats 4000000 in
set_option maxRecDepth 100000 in
theorem spec_suForm_p3_ct  {r : Bool} (h : spec_suForm_p3 = some r) : X prog 0 (tlF f119 3) (mk 53 [] []) (finK prog f119 0 (.d (D.bool r)) (⟨[], []⟩)) := by
  rw [spec_suForm_p3] at h
  conv => whnf
  cases h
  exact Done.of [] [] rfl rfl ⟨⟨rfl, rfl⟩, ⟨rfl, trivial⟩, rfl, trivial⟩
def spec_suForm_l0 (k : Nat) (rec_spec_suForm : Rw → Int → Option Bool) (a1 : Rw) (a2 : Int) (K0 : Option Bool) : Rw → Nat → Option Bool
  | [], v54n => (K0)
  | cs :: rest, v54n => (cell_sii cs fun x77 x78 x79 => ((spec_shGood k x78 x79).bind fun y81 => (if y81 = true then (if x78 = (0 : Int) then some false else ((rec_spec_suForm x77 (IntKind.i64.wrap (a2 - 1))).bind fun y85 => (if y85 = true then (if (0 : Int) < (v54n : Int) then (row_sii a1 (IntKind.i64.wrap ((v54n : Int) - 1)) fun x89 x90 x91 => ((spec_suCmp k x89 x77).bind fun y94 => (if y94 ≤ (0 : Int) then some false else (spec_suForm_l0 k rec_spec_suForm a1 a2 K0 rest (v54n + 1))))) else (spec_suForm_l0 k rec_spec_suForm a1 a2 K0 rest (v54n + 1))) else some false))) else some false)))
set_option maxRecDepth 100000 in
theorem spec_suForm_l0_ct {k : Nat} {rec_spec_suForm : Rw → Int → Option Bool} {a1 : Rw} {a2 : Int} {K0 : Option Bool} (hrec_spec_suForm : ∀ (a1 : Rw) (a2 : Int) (r : Bool), rec_spec_suForm a1 a2 = some r → Ct prog 119 [.agg [.d (D.sl a1)], .d (D.int .i64 a2)] (⟨[], []⟩) (.d (D.bool r)) (⟨[], []⟩)) {r : Bool} (hx : a1.length ≤ cap) : ∀ (rest : Rw) (v54n : Nat), a1.drop v54n = rest → spec_suForm_l0 k rec_spec_suForm a1 a2 K0 rest v54n = some r → LoopOk prog 0 (lp f119 0) (mk 53 [(1, .d (D.int .i64 a2)), (2, .ptr 128 0), (10, .d (D.sl a1)), (11, .d (D.int .i64 (a1.length : Int))), (12, .d (D.int .i64 (v54n : Int)))] [(128, .box 33 [.d (D.sl a1)])]) (LoopEnd prog f119 0 53 (.d (D.bool r)) (⟨[], []⟩) (fun i ts os => (i = 0 ∧ K0 = some r ∧ ts = [] ∧ os = [])))
  | [], v54n, hd, h => by
      rw [spec_suForm_l0] at h
      have hn := drop_nil hd
      refine LoopOk.step ?_
      conv => whnf
      refine splD (fun g => absurd g hn) (fun _ => ?_)
      conv => whnf
      exact ⟨_, _, [], [], ⟨rfl, h, rfl, rfl⟩, ⟨⟨rfl, rfl⟩, ⟨rfl, trivial⟩, trivial⟩⟩
  | cs :: rest, v54n, hd, h => by
      rw [spec_suForm_l0] at h
      obtain ⟨hrow, hd1, hlt⟩ := drop_cons hd
      refine LoopOk.step ?_
      conv => whnf
      refine splD (fun _ => ?_) (fun g => absurd hlt g)
      conv => whnf
      obtain ⟨x77, x78, x79, e80, h⟩ := cell_sii_ex h
      rw [e80] at hrow
      refine Req.of (Int.natCast_nonneg _) ?_
      refine Row.of _ hrow ?_
      conv => whnf
      obtain ⟨y81, e82, h⟩ := bind_ex h
      refine CallOk.of (spec_shGood_ct e82) ?_
      conv => whnf
      refine spl (fun g83 => ?_) (fun g83 => ?_)
      · replace h := iteT h g83
        conv => whnf
        refine splD (fun g84 => ?_) (fun g84 => ?_)
        · replace h := iteP h g84
          conv => whnf
          refine CutK.norm [1, 2, 10, 11, 12, 51] [128] ?_
          conv => whnf
          cases h
          exact Done.of [] [] rfl rfl ⟨⟨rfl, rfl⟩, ⟨rfl, trivial⟩, rfl, trivial⟩
        · replace h := iteN h g84
          conv => whnf
          obtain ⟨y85, e86, h⟩ := bind_ex h
          refine CallOk.of (hrec_spec_suForm _ _ _ e86) ?_
          conv => whnf
          refine spl (fun g87 => ?_) (fun g87 => ?_)
          · replace h := iteT h g87
            conv => whnf
            refine splD (fun g88 => ?_) (fun g88 => ?_)
            · replace h := iteP h g88
              conv => whnf
              obtain ⟨g93, x89, x90, x91, e92, h⟩ := row_sii_ex h
              refine Req.of g93 ?_
              refine Row.of _ e92 ?_
              conv => whnf
              obtain ⟨y94, e95, h⟩ := bind_ex h
              refine CallOk.of (spec_suCmp_ct e95) ?_
              conv => whnf
              refine splD (fun g96 => ?_) (fun g96 => ?_)
              · replace h := iteP h g96
                conv => whnf
                refine CutK.norm [1, 2, 10, 11, 12, 51] [128] ?_
                conv => whnf
                cases h
                exact Done.of [] [] rfl rfl ⟨⟨rfl, rfl⟩, ⟨rfl, trivial⟩, rfl, trivial⟩
              · replace h := iteN h g96
                conv => whnf
                refine CutK.norm [1, 2, 10, 11, 12, 51] [128] ?_
                conv => whnf
                refine CutK.norm [1, 2, 10, 11, 12] [128] ?_
                conv => whnf
                exact LoopOk.back (spec_suForm_l0_ct hrec_spec_suForm hx rest (v54n + 1)  hd1 h) [some 128] [] ⟨⟨rfl, rfl⟩, ⟨rfl, ⟨rfl, rfl, trivial⟩, trivial⟩, rfl, ⟨rfl, rfl⟩, rfl, rfl, i64eq (wrap_up hlt hx), trivial⟩
            · replace h := iteN h g88
              conv => whnf
              refine CutK.norm [1, 2, 10, 11, 12, 51] [128] ?_
              conv => whnf
              refine CutK.norm [1, 2, 10, 11, 12] [128] ?_
              conv => whnf
              exact LoopOk.back (spec_suForm_l0_ct hrec_spec_suForm hx rest (v54n + 1)  hd1 h) [some 128] [] ⟨⟨rfl, rfl⟩, ⟨rfl, ⟨rfl, rfl, trivial⟩, trivial⟩, rfl, ⟨rfl, rfl⟩, rfl, rfl, i64eq (wrap_up hlt hx), trivial⟩
          · replace h := iteF h g87
            conv => whnf
            refine CutK.norm [1, 2, 10, 11, 12, 51] [128] ?_
            conv => whnf
            cases h
            exact Done.of [] [] rfl rfl ⟨⟨rfl, rfl⟩, ⟨rfl, trivial⟩, rfl, trivial⟩
      · replace h := iteF h g83
        conv => whnf
        refine CutK.norm [1, 2, 10, 11, 12, 51] [128] ?_
        conv => whnf
        cases h
        exact Done.of [] [] rfl rfl ⟨⟨rfl, rfl⟩, ⟨rfl, trivial⟩, rfl, trivial⟩
def spec_suForm_b (k : Nat) (rec_spec_suForm : Rw → Int → Option Bool) (a1 : Rw) (a2 : Int) : Option Bool :=
  (if a2 < (0 : Int) then some false else (if a1.length ≤ cap then (spec_suForm_l0 k rec_spec_suForm a1 a2 (spec_suForm_p3) a1 0) else none))
set_option maxHeartbeats 4000000 in
set_option maxRecDepth 100000 in
theorem spec_suForm_b_ct {k : Nat} {rec_spec_suForm : Rw → Int → Option Bool} (hrec_spec_suForm : ∀ (a1 : Rw) (a2 : Int) (r : Bool), rec_spec_suForm a1 a2 = some r → Ct prog 119 [.agg [.d (D.sl a1)], .d (D.int .i64 a2)] (⟨[], []⟩) (.d (D.bool r)) (⟨[], []⟩)) {a1 : Rw} {a2 : Int} {r : Bool} (h : spec_suForm_b k rec_spec_suForm a1 a2 = some r) : Ct prog 119 [.agg [.d (D.sl a1)], .d (D.int .i64 a2)] (⟨[], []⟩) (.d (D.bool r)) (⟨[], []⟩) := by
  rw [spec_suForm_b] at h
  refine Ct.of (c := _) mixed func119 ⟨rfl, rfl, rfl⟩ ?_ rfl
  conv => whnf
  refine splD (fun g40 => ?_) (fun g40 => ?_)
  · replace h := iteP h g40
    conv => whnf
    cases h
    exact Done.of [] [] rfl rfl ⟨⟨rfl, rfl⟩, ⟨rfl, trivial⟩, rfl, trivial⟩
  · replace h := iteN h g40
    conv => whnf
    obtain ⟨g97, h⟩ := req_ex h
    refine LoopOk.into (spec_suForm_l0_ct hrec_spec_suForm g97 _ _  rfl h) [some 128] [] ⟨⟨rfl, rfl⟩, ⟨rfl, ⟨rfl, rfl, trivial⟩, trivial⟩, rfl, ⟨rfl, rfl⟩, rfl, rfl, rfl, trivial⟩ ?_ (fun _ hs => hs)
    rintro i ts os ⟨rfl, h, rfl, rfl⟩
    conv => whnf
    exact CutK.piece (spec_suForm_p3_ct  h) [] [] ⟨⟨rfl, rfl⟩, ⟨rfl, trivial⟩, trivial⟩
def spec_suForm : Nat → Rw → Int → Option Bool
  | 0, _, _ => none
  | k + 1, a1, a2 => spec_suForm_b k (spec_suForm k) a1 a2
theorem spec_suForm_ct' : ∀ (k : Nat) (a1 : Rw) (a2 : Int) (r : Bool), spec_suForm k a1 a2 = some r → Ct prog 119 [.agg [.d (D.sl a1)], .d (D.int .i64 a2)] (⟨[], []⟩) (.d (D.bool r)) (⟨[], []⟩)
  | 0, _, _, _, h => by rw [spec_suForm] at h; cases h
  | k + 1, _, _, _, h => by rw [spec_suForm] at h; exact spec_suForm_b_ct (spec_suForm_ct' k) h
theorem spec_suForm_ct {k : Nat} {a1 : Rw} {a2 : Int} {r : Bool} (h : spec_suForm k a1 a2 = some r) : Ct prog 119 [.agg [.d (D.sl a1)], .d (D.int .i64 a2)] (⟨[], []⟩) (.d (D.bool r)) (⟨[], []⟩) := spec_suForm_ct' k _ _ _ h

def spec_suGood (k : Nat) (a1 : Rw) : Option Bool :=
  ((spec_suLeft k a1 6 60).bind fun y2 => (if (0 : Int) ≤ y2 then ((spec_suForm k a1 6).bind fun y5 => (if y5 = true then some true else some false)) else some false))
set_option maxHeartbeats 4000000 in
set_option maxRecDepth 100000 in
theorem spec_suGood_ct {k : Nat} {a1 : Rw} {r : Bool} (h : spec_suGood k a1 = some r) : Ct prog 55 [.agg [.d (D.sl a1)]] (⟨[], []⟩) (.d (D.bool r)) (⟨[], []⟩) := by
  rw [spec_suGood] at h
  refine Ct.of (c := _) mixed func55 ⟨rfl, rfl, rfl⟩ ?_ rfl
  conv => whnf
  obtain ⟨y2, e3, h⟩ := bind_ex h
  refine CallOk.of (spec_suLeft_ct e3) ?_
  conv => whnf
  refine splD (fun g4 => ?_) (fun g4 => ?_)
  · replace h := iteP h g4
    conv => whnf
    obtain ⟨y5, e6, h⟩ := bind_ex h
    refine CallOk.of (spec_suForm_ct e6) ?_
    conv => whnf
    refine spl (fun g7 => ?_) (fun g7 => ?_)
    · replace h := iteT h g7
      conv => whnf
      refine CutK.go ?_
      conv => whnf
      cases h
      exact Done.of [] [] rfl rfl ⟨⟨rfl, rfl⟩, ⟨rfl, trivial⟩, rfl, trivial⟩
    · replace h := iteF h g7
      conv => whnf
      refine CutK.go ?_
      conv => whnf
      cases h
      exact Done.of [] [] rfl rfl ⟨⟨rfl, rfl⟩, ⟨rfl, trivial⟩, rfl, trivial⟩
  · replace h := iteN h g4
    conv => whnf
    refine CutK.go ?_
    conv => whnf
    cases h
    exact Done.of [] [] rfl rfl ⟨⟨rfl, rfl⟩, ⟨rfl, trivial⟩, rfl, trivial⟩

def spec_shInt  (a1 : Int) : Option (Int × Int) :=
  some (a1, 1)
set_option maxHeartbeats 4000000 in
set_option maxRecDepth 100000 in
theorem spec_shInt_ct  {a1 : Int} {r : Int × Int} (h : spec_shInt a1 = some r) : Ct prog 182 [.d (D.int .i64 a1)] (⟨[], []⟩) (.agg [.d (D.int .i64 r.1), .d (D.int .i64 r.2)]) (⟨[], []⟩) := by
  rw [spec_shInt] at h
  refine Ct.of (c := _) mixed func182 ⟨rfl, rfl, rfl⟩ ?_ rfl
  conv => whnf
  cases h
  exact Done.of [] [] rfl rfl ⟨⟨rfl, rfl⟩, ⟨rfl, trivial⟩, ⟨rfl, rfl, trivial⟩, trivial⟩

def spec_suParts_p4 (o49 : Rw) (o50 : Rw) (o51 : Int) (o52 : Int) : Option (Rw × Int × Int × Rw) :=
  some (o49, o51, o52, o50)
set_option maxHeartbeats 4000000 in
set_option maxRecDepth 100000 in
theorem spec_suParts_p4_ct {o49 : Rw} {o50 : Rw} {o51 : Int} {o52 : Int} {r : Rw × Int × Int × Rw} (h : spec_suParts_p4 o49 o50 o51 o52 = some r) : X prog 0 (tlF f128 4) (mk 47 [(2, .ptr 128 0), (3, .ptr 192 0), (4, .ptr 256 0), (5, .ptr 320 0), (6, .ptr 384 0), (7, .ptr 448 0)] [(128, .box 33 [.es]), (192, .box 83 [.d (D.int .i64 0), .d (D.int .i64 0)]), (256, .box 33 [.es]), (320, .box 33 [.os 1084000 o49.length]), (384, .box 33 [.os 1084001 o50.length]), (448, .box 83 [.d (D.int .i64 o51), .d (D.int .i64 o52)]), (1084000, .arr 105 false o49), (1084001, .arr 105 false o50)]) (finK prog f128 0 (.tup [.agg [.os 8 r.1.length], .agg [.d (D.int .i64 r.2.1), .d (D.int .i64 r.2.2.1)], .agg [.os 9 r.2.2.2.length]]) (⟨[], [(105, false, r.1), (105, false, r.2.2.2)]⟩)) := by
  rw [spec_suParts_p4] at h
  conv => whnf
  cases h
  exact Done.of [some 1084000, some 1084001] [] rfl rfl ⟨⟨rfl, rfl⟩, ⟨rfl, ⟨rfl, rfl, rows_same⟩, ⟨rfl, rfl, rows_same⟩, trivial⟩, ⟨⟨⟨rfl, rfl⟩, trivial⟩, ⟨rfl, rfl, trivial⟩, ⟨⟨rfl, rfl⟩, trivial⟩, trivial⟩, trivial⟩
def spec_suParts_l0 (a1 : Rw) (K0 : Rw → Rw → Int → Int → Option (Rw × Int × Int × Rw)) : Rw → Rw → Rw → Int → Int → Option (Rw × Int × Int × Rw)
  | [], v63, v65, v66, v67 => (K0 v63 v65 v66 v67)
  | cs :: rest, v63, v65, v66, v67 => (cell_sii cs fun x96 x97 x98 => ((spec_suSign x96).bind fun y100 => (if (0 : Int) < y100 then (if v63.length + 1 ≤ cap then (spec_suParts_l0 a1 K0 rest (v63 ++ ([[D.sl x96, D.int .i64 x97, D.int .i64 x98]])) v65 v66 v67) else none) else (if y100 < (0 : Int) then (if v65.length + 1 ≤ cap then (spec_suParts_l0 a1 K0 rest v63 (v65 ++ ([[D.sl x96, D.int .i64 x97, D.int .i64 x98]])) v66 v67) else none) else (spec_suParts_l0 a1 K0 rest v63 v65 x97 x98)))))
set_option maxRecDepth 100000 in
theorem spec_suParts_l0_ct {a1 : Rw} {K0 : Rw → Rw → Int → Int → Option (Rw × Int × Int × Rw)} {r : Rw × Int × Int × Rw} (hx : a1.length ≤ cap) : ∀ (rest : Rw) (v62n : Nat) (v63 : Rw) (v65 : Rw) (v66 : Int) (v67 : Int), a1.drop v62n = rest → spec_suParts_l0 a1 K0 rest v63 v65 v66 v67 = some r → LoopOk prog 0 (lp f128 0) (mk 47 [(2, .ptr 128 0), (3, .ptr 192 0), (4, .ptr 256 0), (5, .ptr 320 0), (6, .ptr 384 0), (7, .ptr 448 0), (13, .d (D.sl a1)), (14, .d (D.int .i64 (a1.length : Int))), (15, .d (D.int .i64 (v62n : Int)))] [(128, .box 33 [.es]), (192, .box 83 [.d (D.int .i64 0), .d (D.int .i64 0)]), (256, .box 33 [.es]), (320, .box 33 [.os 64000 v63.length]), (384, .box 33 [.os 64001 v65.length]), (448, .box 83 [.d (D.int .i64 v66), .d (D.int .i64 v67)]), (64000, .arr 105 false v63), (64001, .arr 105 false v65)]) (LoopEnd prog f128 0 47 (.tup [.agg [.os 8 r.1.length], .agg [.d (D.int .i64 r.2.1), .d (D.int .i64 r.2.2.1)], .agg [.os 9 r.2.2.2.length]]) (⟨[], [(105, false, r.1), (105, false, r.2.2.2)]⟩) (fun i ts os => (i = 0 ∧ ∃ v80 : Rw, ∃ v81 : Rw, ∃ v82 : Int, ∃ v83 : Int, K0 v80 v81 v82 v83 = some r ∧ ts = [(2, .ptr 128 0), (3, .ptr 192 0), (4, .ptr 256 0), (5, .ptr 320 0), (6, .ptr 384 0), (7, .ptr 448 0)] ∧ os = [(128, .box 33 [.es]), (192, .box 83 [.d (D.int .i64 0), .d (D.int .i64 0)]), (256, .box 33 [.es]), (320, .box 33 [.os 67002 v80.length]), (384, .box 33 [.os 67003 v81.length]), (448, .box 83 [.d (D.int .i64 v82), .d (D.int .i64 v83)]), (67002, .arr 105 false v80), (67003, .arr 105 false v81)])))
  | [], v62n, v63, v65, v66, v67, hd, h => by
      rw [spec_suParts_l0] at h
      have hn := drop_nil hd
      refine LoopOk.step ?_
      conv => whnf
      refine splD (fun g => absurd g hn) (fun _ => ?_)
      conv => whnf
      exact ⟨_, _, [some 128, some 192, some 256, some 320, some 384, some 448, some 64000, some 64001], [], ⟨rfl, _, _, _, _, h, rfl, rfl⟩, ⟨⟨rfl, rfl⟩, ⟨rfl, ⟨rfl, trivial, trivial⟩, ⟨rfl, rfl, rfl, trivial⟩, ⟨rfl, trivial, trivial⟩, ⟨rfl, ⟨rfl, rfl⟩, trivial⟩, ⟨rfl, ⟨rfl, rfl⟩, trivial⟩, ⟨rfl, rfl, rfl, trivial⟩, ⟨rfl, rfl, rows_same⟩, ⟨rfl, rfl, rows_same⟩, trivial⟩, ⟨rfl, rfl⟩, ⟨rfl, rfl⟩, ⟨rfl, rfl⟩, ⟨rfl, rfl⟩, ⟨rfl, rfl⟩, ⟨rfl, rfl⟩, trivial⟩⟩
  | cs :: rest, v62n, v63, v65, v66, v67, hd, h => by
      rw [spec_suParts_l0] at h
      obtain ⟨hrow, hd1, hlt⟩ := drop_cons hd
      refine LoopOk.step ?_
      conv => whnf
      refine splD (fun _ => ?_) (fun g => absurd hlt g)
      conv => whnf
      obtain ⟨x96, x97, x98, e99, h⟩ := cell_sii_ex h
      rw [e99] at hrow
      refine Req.of (Int.natCast_nonneg _) ?_
      refine Row.of _ hrow ?_
      conv => whnf
      obtain ⟨y100, e101, h⟩ := bind_ex h
      refine CallOk.of (spec_suSign_ct e101) ?_
      conv => whnf
      refine CutK.norm [2, 3, 4, 5, 6, 7, 9, 10, 13, 14, 15] [128, 192, 256, 320, 384, 448, 576, 64000, 64001] ?_
      conv => whnf
      refine splD (fun g102 => ?_) (fun g102 => ?_)
      · replace h := iteP h g102
        conv => whnf
        refine Take.all (rfl) ?_
        conv => whnf
        refine Take.all (by first | rfl | exact List.length_append.symm | (simp; done) | omega) ?_
        conv => whnf
        obtain ⟨g103, h⟩ := req_ex h
        refine Req.of (room (b := 40) (by decide) g103 (wide1 rfl wide0)) ?_
        conv => whnf
        refine CutK.norm [2, 3, 4, 5, 6, 7, 13, 14, 15] [128, 192, 256, 320, 384, 448, 2048, 64001] ?_
        conv => whnf
        exact LoopOk.back (spec_suParts_l0_ct hx rest (v62n + 1) _ _ _ _ hd1 h) [some 128, some 192, some 256, some 320, some 384, some 448, some 2048, some 64001] [] ⟨⟨rfl, rfl⟩, ⟨rfl, ⟨rfl, trivial, trivial⟩, ⟨rfl, rfl, rfl, trivial⟩, ⟨rfl, trivial, trivial⟩, ⟨rfl, ⟨(by first | rfl | exact List.length_append.symm | (simp; done) | omega), rfl⟩, trivial⟩, ⟨rfl, ⟨rfl, rfl⟩, trivial⟩, ⟨rfl, rfl, rfl, trivial⟩, ⟨rfl, rfl, rows_same⟩, ⟨rfl, rfl, rows_same⟩, trivial⟩, ⟨rfl, rfl⟩, ⟨rfl, rfl⟩, ⟨rfl, rfl⟩, ⟨rfl, rfl⟩, ⟨rfl, rfl⟩, ⟨rfl, rfl⟩, rfl, rfl, i64eq (wrap_up hlt hx), trivial⟩
      · replace h := iteN h g102
        conv => whnf
        refine splD (fun g104 => ?_) (fun g104 => ?_)
        · replace h := iteP h g104
          conv => whnf
          refine Take.all (rfl) ?_
          conv => whnf
          refine Take.all (by first | rfl | exact List.length_append.symm | (simp; done) | omega) ?_
          conv => whnf
          obtain ⟨g105, h⟩ := req_ex h
          refine Req.of (room (b := 40) (by decide) g105 (wide1 rfl wide0)) ?_
          conv => whnf
          refine CutK.norm [2, 3, 4, 5, 6, 7, 13, 14, 15] [128, 192, 256, 320, 384, 448, 2624, 64000] ?_
          conv => whnf
          exact LoopOk.back (spec_suParts_l0_ct hx rest (v62n + 1) _ _ _ _ hd1 h) [some 128, some 192, some 256, some 320, some 384, some 448, some 64000, some 2624] [] ⟨⟨rfl, rfl⟩, ⟨rfl, ⟨rfl, trivial, trivial⟩, ⟨rfl, rfl, rfl, trivial⟩, ⟨rfl, trivial, trivial⟩, ⟨rfl, ⟨rfl, rfl⟩, trivial⟩, ⟨rfl, ⟨(by first | rfl | exact List.length_append.symm | (simp; done) | omega), rfl⟩, trivial⟩, ⟨rfl, rfl, rfl, trivial⟩, ⟨rfl, rfl, rows_same⟩, ⟨rfl, rfl, rows_same⟩, trivial⟩, ⟨rfl, rfl⟩, ⟨rfl, rfl⟩, ⟨rfl, rfl⟩, ⟨rfl, rfl⟩, ⟨rfl, rfl⟩, ⟨rfl, rfl⟩, rfl, rfl, i64eq (wrap_up hlt hx), trivial⟩
        · replace h := iteN h g104
          conv => whnf
          refine CutK.norm [2, 3, 4, 5, 6, 7, 13, 14, 15] [128, 192, 256, 320, 384, 448, 64000, 64001] ?_
          conv => whnf
          exact LoopOk.back (spec_suParts_l0_ct hx rest (v62n + 1) _ _ _ _ hd1 h) [some 128, some 192, some 256, some 320, some 384, some 448, some 64000, some 64001] [] ⟨⟨rfl, rfl⟩, ⟨rfl, ⟨rfl, trivial, trivial⟩, ⟨rfl, rfl, rfl, trivial⟩, ⟨rfl, trivial, trivial⟩, ⟨rfl, ⟨rfl, rfl⟩, trivial⟩, ⟨rfl, ⟨rfl, rfl⟩, trivial⟩, ⟨rfl, rfl, rfl, trivial⟩, ⟨rfl, rfl, rows_same⟩, ⟨rfl, rfl, rows_same⟩, trivial⟩, ⟨rfl, rfl⟩, ⟨rfl, rfl⟩, ⟨rfl, rfl⟩, ⟨rfl, rfl⟩, ⟨rfl, rfl⟩, ⟨rfl, rfl⟩, rfl, rfl, i64eq (wrap_up hlt hx), trivial⟩
def spec_suParts_p3 (a1 : Rw) (o4 : Int) (o5 : Int) : Option (Rw × Int × Int × Rw) :=
  (if a1.length ≤ cap then (spec_suParts_l0 a1 (fun (v80 : Rw) (v81 : Rw) (v82 : Int) (v83 : Int) => (spec_suParts_p4 v80 v81 v82 v83)) a1 ([] : Rw) ([] : Rw) o4 o5) else none)
set_option maxHeartbeats 4000000 in
set_option maxRecDepth 100000 in
theorem spec_suParts_p3_ct {a1 : Rw} {o4 : Int} {o5 : Int} {r : Rw × Int × Int × Rw} (h : spec_suParts_p3 a1 o4 o5 = some r) : X prog 0 (tlF f128 3) (mk 47 [(1, .ptr 64 0), (2, .ptr 128 0), (3, .ptr 192 0), (4, .ptr 256 0), (5, .ptr 320 0), (6, .ptr 384 0), (7, .ptr 448 0)] [(64, .box 33 [.d (D.sl a1)]), (128, .box 33 [.es]), (192, .box 83 [.d (D.int .i64 0), .d (D.int .i64 0)]), (256, .box 33 [.es]), (320, .box 33 [.es]), (384, .box 33 [.es]), (448, .box 83 [.d (D.int .i64 o4), .d (D.int .i64 o5)])]) (finK prog f128 0 (.tup [.agg [.os 8 r.1.length], .agg [.d (D.int .i64 r.2.1), .d (D.int .i64 r.2.2.1)], .agg [.os 9 r.2.2.2.length]]) (⟨[], [(105, false, r.1), (105, false, r.2.2.2)]⟩)) := by
  rw [spec_suParts_p3] at h
  conv => whnf
  obtain ⟨g106, h⟩ := req_ex h
  refine LoopOk.into (spec_suParts_l0_ct  g106 _ _ _ _ _ _ rfl h) [some 128, some 192, some 256, some 320, some 384, some 448, none, none] [] ⟨⟨rfl, rfl⟩, ⟨rfl, ⟨rfl, trivial, trivial⟩, ⟨rfl, rfl, rfl, trivial⟩, ⟨rfl, trivial, trivial⟩, ⟨rfl, ⟨rfl, rfl⟩, trivial⟩, ⟨rfl, ⟨rfl, rfl⟩, trivial⟩, ⟨rfl, rfl, rfl, trivial⟩, rfl, rfl, trivial⟩, ⟨rfl, rfl⟩, ⟨rfl, rfl⟩, ⟨rfl, rfl⟩, ⟨rfl, rfl⟩, ⟨rfl, rfl⟩, ⟨rfl, rfl⟩, rfl, rfl, rfl, trivial⟩ ?_ (fun _ hs => hs)
  rintro i ts os ⟨rfl, v80, v81, v82, v83, h, rfl, rfl⟩
  conv => whnf
  exact CutK.piece (spec_suParts_p4_ct  h) [some 128, some 192, some 256, some 320, some 384, some 448, some 67002, some 67003] [] ⟨⟨rfl, rfl⟩, ⟨rfl, ⟨rfl, trivial, trivial⟩, ⟨rfl, rfl, rfl, trivial⟩, ⟨rfl, trivial, trivial⟩, ⟨rfl, ⟨rfl, rfl⟩, trivial⟩, ⟨rfl, ⟨rfl, rfl⟩, trivial⟩, ⟨rfl, rfl, rfl, trivial⟩, ⟨rfl, rfl, rows_same⟩, ⟨rfl, rfl, rows_same⟩, trivial⟩, ⟨rfl, rfl⟩, ⟨rfl, rfl⟩, ⟨rfl, rfl⟩, ⟨rfl, rfl⟩, ⟨rfl, rfl⟩, ⟨rfl, rfl⟩, trivial⟩
def spec_suParts  (a1 : Rw) : Option (Rw × Int × Int × Rw) :=
  ((spec_shInt 0).bind fun y107 => (spec_suParts_p3 a1 y107.1 y107.2))
set_option maxHeartbeats 4000000 in
set_option maxRecDepth 100000 in
theorem spec_suParts_ct  {a1 : Rw} {r : Rw × Int × Int × Rw} (h : spec_suParts a1 = some r) : Ct prog 128 [.agg [.d (D.sl a1)]] (⟨[], []⟩) (.tup [.agg [.os 8 r.1.length], .agg [.d (D.int .i64 r.2.1), .d (D.int .i64 r.2.2.1)], .agg [.os 9 r.2.2.2.length]]) (⟨[], [(105, false, r.1), (105, false, r.2.2.2)]⟩) := by
  rw [spec_suParts] at h
  refine Ct.of (c := _) mixed func128 ⟨rfl, rfl, rfl⟩ ?_ rfl
  conv => whnf
  obtain ⟨y107, e108, h⟩ := bind_ex h
  refine CallOk.of (spec_shInt_ct e108) ?_
  conv => whnf
  exact CutK.piece (spec_suParts_p3_ct  h) [some 64, some 128, some 192, some 256, some 320, some 384, some 448] [] ⟨⟨rfl, rfl⟩, ⟨rfl, ⟨rfl, rfl, trivial⟩, ⟨rfl, trivial, trivial⟩, ⟨rfl, rfl, rfl, trivial⟩, ⟨rfl, trivial, trivial⟩, ⟨rfl, trivial, trivial⟩, ⟨rfl, trivial, trivial⟩, ⟨rfl, rfl, rfl, trivial⟩, trivial⟩, ⟨rfl, rfl⟩, ⟨rfl, rfl⟩, ⟨rfl, rfl⟩, ⟨rfl, rfl⟩, ⟨rfl, rfl⟩, ⟨rfl, rfl⟩, ⟨rfl, rfl⟩, trivial⟩

def spec_shFloor  (a1 : Int) (a2 : Int) : Option Int :=
  (if a2 ≠ 0 then (if a1 < (IntKind.i64.wrap ((IntKind.i64.wrap (a1.tdiv a2)) * a2)) then some (IntKind.i64.wrap ((IntKind.i64.wrap (a1.tdiv a2)) - 1)) else some (IntKind.i64.wrap (a1.tdiv a2))) else none)
set_option maxHeartbeats 4000000 in
set_option maxRecDepth 100000 in
theorem spec_shFloor_ct  {a1 : Int} {a2 : Int} {r : Int} (h : spec_shFloor a1 a2 = some r) : Ct prog 129 [.agg [.d (D.int .i64 a1), .d (D.int .i64 a2)]] (⟨[], []⟩) (.d (D.int .i64 r)) (⟨[], []⟩) := by
  rw [spec_shFloor] at h
  refine Ct.of (c := _) mixed func129 ⟨rfl, rfl, rfl⟩ ?_ rfl
  conv => whnf
  obtain ⟨g3, h⟩ := req_ex h
  refine Req.of g3 ?_
  conv => whnf
  refine splD (fun g4 => ?_) (fun g4 => ?_)
  · replace h := iteP h g4
    conv => whnf
    cases h
    exact Done.of [] [] rfl rfl ⟨⟨rfl, rfl⟩, ⟨rfl, trivial⟩, rfl, trivial⟩
  · replace h := iteN h g4
    conv => whnf
    cases h
    exact Done.of [] [] rfl rfl ⟨⟨rfl, rfl⟩, ⟨rfl, trivial⟩, rfl, trivial⟩

def spec_suTerm  (a1 : Rw) (a2 : Int) (a3 : Int) : Option Rw :=
  (if a2 = (0 : Int) then some ([] : Rw) else some ([[D.sl a1, D.int .i64 a2, D.int .i64 a3]] : Rw))
set_option maxHeartbeats 4000000 in
set_option maxRecDepth 100000 in
theorem spec_suTerm_ct  {a1 : Rw} {a2 : Int} {a3 : Int} {r : Rw} (h : spec_suTerm a1 a2 a3 = some r) : Ct prog 190 [.agg [.d (D.sl a1)], .agg [.d (D.int .i64 a2), .d (D.int .i64 a3)]] (⟨[], []⟩) (.agg [.os 8 r.length]) (⟨[], [(105, false, r)]⟩) := by
  rw [spec_suTerm] at h
  refine Ct.of (c := _) mixed func190 ⟨rfl, rfl, rfl⟩ ?_ rfl
  conv => whnf
  refine splD (fun g4 => ?_) (fun g4 => ?_)
  · replace h := iteP h g4
    conv => whnf
    cases h
    exact Done.of [none] [] rfl rfl ⟨⟨rfl, rfl⟩, ⟨rfl, rfl, trivial⟩, ⟨⟨rfl, rfl⟩, trivial⟩, trivial⟩
  · replace h := iteN h g4
    conv => whnf
    cases h
    exact Done.of [some 768] [] rfl rfl ⟨⟨rfl, rfl⟩, ⟨rfl, ⟨rfl, rfl, rows_same⟩, trivial⟩, ⟨⟨(by first | rfl | exact List.length_append.symm | (simp; done) | omega), rfl⟩, trivial⟩, trivial⟩

def spec_suReal  (a1 : Int) (a2 : Int) : Option Rw :=
  ((spec_suTerm ([] : Rw) a1 a2).bind fun y3 => some y3)
set_option maxHeartbeats 4000000 in
set_option maxRecDepth 100000 in
theorem spec_suReal_ct  {a1 : Int} {a2 : Int} {r : Rw} (h : spec_suReal a1 a2 = some r) : Ct prog 183 [.agg [.d (D.int .i64 a1), .d (D.int .i64 a2)]] (⟨[], []⟩) (.agg [.os 8 r.length]) (⟨[], [(105, false, r)]⟩) := by
  rw [spec_suReal] at h
  refine Ct.of (c := _) mixed func183 ⟨rfl, rfl, rfl⟩ ?_ rfl
  conv => whnf
  obtain ⟨y3, e4, h⟩ := bind_ex h
  refine CallOk.of (spec_suTerm_ct e4) ?_
  conv => whnf
  refine CutK.go ?_
  conv => whnf
  cases h
  exact Done.of [some 320] [] rfl rfl ⟨⟨rfl, rfl⟩, ⟨rfl, ⟨rfl, rfl, rows_same⟩, trivial⟩, ⟨⟨rfl, rfl⟩, trivial⟩, trivial⟩

def spec_suInt  (a1 : Int) : Option Rw :=
  ((spec_shInt a1).bind fun y2 => ((spec_suReal y2.1 y2.2).bind fun y4 => some y4))
set_option maxHeartbeats 4000000 in
set_option maxRecDepth 100000 in
theorem spec_suInt_ct  {a1 : Int} {r : Rw} (h : spec_suInt a1 = some r) : Ct prog 131 [.d (D.int .i64 a1)] (⟨[], []⟩) (.agg [.os 8 r.length]) (⟨[], [(105, false, r)]⟩) := by
  rw [spec_suInt] at h
  refine Ct.of (c := _) mixed func131 ⟨rfl, rfl, rfl⟩ ?_ rfl
  conv => whnf
  obtain ⟨y2, e3, h⟩ := bind_ex h
  refine CallOk.of (spec_shInt_ct e3) ?_
  conv => whnf
  obtain ⟨y4, e5, h⟩ := bind_ex h
  refine CallOk.of (spec_suReal_ct e5) ?_
  conv => whnf
  refine CutK.go ?_
  conv => whnf
  cases h
  exact Done.of [some 320] [] rfl rfl ⟨⟨rfl, rfl⟩, ⟨rfl, ⟨rfl, rfl, rows_same⟩, trivial⟩, ⟨⟨rfl, rfl⟩, trivial⟩, trivial⟩

def spec_suWhole  (a1 : Rw) : Option Rw :=
  ((spec_suParts a1).bind fun y2 => ((spec_shFloor y2.2.1 y2.2.2.1).bind fun y4 => (if y2.2.2.1 = (1 : Int) then ((spec_suSign y2.2.2.2).bind fun y7 => (if y7 < (0 : Int) then ((spec_suInt (IntKind.i64.wrap (y4 - 1))).bind fun y10 => (if y2.1.length + y10.length ≤ cap ∧ (∀ cs ∈ y10, cs.length = 3) then some (y2.1 ++ y10) else none)) else ((spec_suInt y4).bind fun y13 => (if y2.1.length + y13.length ≤ cap ∧ (∀ cs ∈ y13, cs.length = 3) then some (y2.1 ++ y13) else none)))) else ((spec_suInt y4).bind fun y16 => (if y2.1.length + y16.length ≤ cap ∧ (∀ cs ∈ y16, cs.length = 3) then some (y2.1 ++ y16) else none)))))
set_option maxHeartbeats 4000000 in
set_option maxRecDepth 100000 in
theorem spec_suWhole_ct  {a1 : Rw} {r : Rw} (h : spec_suWhole a1 = some r) : Ct prog 72 [.agg [.d (D.sl a1)]] (⟨[], []⟩) (.agg [.os 8 r.length]) (⟨[], [(105, false, r)]⟩) := by
  rw [spec_suWhole] at h
  refine Ct.of (c := _) mixed func72 ⟨rfl, rfl, rfl⟩ ?_ rfl
  conv => whnf
  obtain ⟨y2, e3, h⟩ := bind_ex h
  refine CallOk.of (spec_suParts_ct e3) ?_
  conv => whnf
  refine CutK.norm [2, 3, 4, 5] [128, 192, 256, 320, 576, 577] ?_
  conv => whnf
  obtain ⟨y4, e5, h⟩ := bind_ex h
  refine CallOk.of (spec_shFloor_ct e5) ?_
  conv => whnf
  refine CutK.norm [2, 3, 4, 5, 6] [128, 192, 256, 320, 576, 577] ?_
  conv => whnf
  refine splD (fun g6 => ?_) (fun g6 => ?_)
  · replace h := iteP h g6
    conv => whnf
    refine Take.all (rfl) ?_
    conv => whnf
    obtain ⟨y7, e8, h⟩ := bind_ex h
    refine CallOk.of (spec_suSign_ct e8) ?_
    conv => whnf
    refine splD (fun g9 => ?_) (fun g9 => ?_)
    · replace h := iteP h g9
      conv => whnf
      refine CutK.norm [2, 3, 6, 23] [128, 192, 576] ?_
      conv => whnf
      refine CutK.norm [2, 3, 6] [128, 192, 576] ?_
      conv => whnf
      obtain ⟨y10, e11, h⟩ := bind_ex h
      refine CallOk.of (spec_suInt_ct e11) ?_
      conv => whnf
      refine Take.all (rfl) ?_
      conv => whnf
      refine Take.all (rfl) ?_
      conv => whnf
      obtain ⟨g12, h⟩ := req_ex h
      refine Req.of (room (b := 40) (by decide) g12.1 g12.2) ?_
      conv => whnf
      refine CutK.norm [2] [128, 1984] ?_
      conv => whnf
      cases h
      exact Done.of [some 1984] [] rfl rfl ⟨⟨rfl, rfl⟩, ⟨rfl, ⟨rfl, rfl, rows_same⟩, trivial⟩, ⟨⟨(by first | rfl | exact List.length_append.symm | (simp; done) | omega), rfl⟩, trivial⟩, trivial⟩
    · replace h := iteN h g9
      conv => whnf
      refine CutK.norm [2, 3, 6, 23] [128, 192, 576] ?_
      conv => whnf
      refine CutK.norm [2, 3, 6] [128, 192, 576] ?_
      conv => whnf
      obtain ⟨y13, e14, h⟩ := bind_ex h
      refine CallOk.of (spec_suInt_ct e14) ?_
      conv => whnf
      refine Take.all (rfl) ?_
      conv => whnf
      refine Take.all (rfl) ?_
      conv => whnf
      obtain ⟨g15, h⟩ := req_ex h
      refine Req.of (room (b := 40) (by decide) g15.1 g15.2) ?_
      conv => whnf
      refine CutK.norm [2] [128, 1984] ?_
      conv => whnf
      cases h
      exact Done.of [some 1984] [] rfl rfl ⟨⟨rfl, rfl⟩, ⟨rfl, ⟨rfl, rfl, rows_same⟩, trivial⟩, ⟨⟨(by first | rfl | exact List.length_append.symm | (simp; done) | omega), rfl⟩, trivial⟩, trivial⟩
  · replace h := iteN h g6
    conv => whnf
    refine CutK.norm [2, 3, 6, 23] [128, 192, 576] ?_
    conv => whnf
    refine CutK.norm [2, 3, 6] [128, 192, 576] ?_
    conv => whnf
    obtain ⟨y16, e17, h⟩ := bind_ex h
    refine CallOk.of (spec_suInt_ct e17) ?_
    conv => whnf
    refine Take.all (rfl) ?_
    conv => whnf
    refine Take.all (rfl) ?_
    conv => whnf
    obtain ⟨g18, h⟩ := req_ex h
    refine Req.of (room (b := 40) (by decide) g18.1 g18.2) ?_
    conv => whnf
    refine CutK.norm [2] [128, 1984] ?_
    conv => whnf
    cases h
    exact Done.of [some 1984] [] rfl rfl ⟨⟨rfl, rfl⟩, ⟨rfl, ⟨rfl, rfl, rows_same⟩, trivial⟩, ⟨⟨(by first | rfl | exact List.length_append.symm | (simp; done) | omega), rfl⟩, trivial⟩, trivial⟩

def spec_suOwn_l0 (rec_spec_suOwn : Rw → Option Rw) (a1 : Rw) (K0 : Rw → Option Rw) : Rw → Rw → Option Rw
  | [], v11 => (K0 v11)
  | cs :: rest, v11 => (cell_sii cs fun x31 x32 x33 => ((rec_spec_suOwn x31).bind fun y35 => (if v11.length + 1 ≤ cap then (spec_suOwn_l0 rec_spec_suOwn a1 K0 rest (v11 ++ ([[D.sl y35, D.int .i64 x32, D.int .i64 x33]]))) else none)))
set_option maxRecDepth 100000 in
theorem spec_suOwn_l0_ct {rec_spec_suOwn : Rw → Option Rw} {a1 : Rw} {K0 : Rw → Option Rw} (hrec_spec_suOwn : ∀ (a1 : Rw) (r : Rw), rec_spec_suOwn a1 = some r → Ct prog 127 [.agg [.d (D.sl a1)]] (⟨[], []⟩) (.agg [.os 8 r.length]) (⟨[], [(105, true, r)]⟩)) {r : Rw} (hx : a1.length ≤ cap) : ∀ (rest : Rw) (v10n : Nat) (v11 : Rw), a1.drop v10n = rest → spec_suOwn_l0 rec_spec_suOwn a1 K0 rest v11 = some r → LoopOk prog 0 (lp f127 0) (mk 27 [(2, .ptr 128 0), (3, .ptr 192 0), (8, .d (D.sl a1)), (9, .d (D.int .i64 (a1.length : Int))), (10, .d (D.int .i64 (v10n : Int)))] [(128, .box 33 [.es]), (192, .box 33 [.os 64000 v11.length]), (64000, .arr 105 true v11)]) (LoopEnd prog f127 0 27 (.agg [.os 8 r.length]) (⟨[], [(105, true, r)]⟩) (fun i ts os => (i = 0 ∧ ∃ v21 : Rw, K0 v21 = some r ∧ ts = [(2, .ptr 128 0), (3, .ptr 192 0)] ∧ os = [(128, .box 33 [.es]), (192, .box 33 [.os 67001 v21.length]), (67001, .arr 105 true v21)])))
  | [], v10n, v11, hd, h => by
      rw [spec_suOwn_l0] at h
      have hn := drop_nil hd
      refine LoopOk.step ?_
      conv => whnf
      refine splD (fun g => absurd g hn) (fun _ => ?_)
      conv => whnf
      exact ⟨_, _, [some 128, some 192, some 64000], [], ⟨rfl, _, h, rfl, rfl⟩, ⟨⟨rfl, rfl⟩, ⟨rfl, ⟨rfl, trivial, trivial⟩, ⟨rfl, ⟨rfl, rfl⟩, trivial⟩, ⟨rfl, rfl, rows_same⟩, trivial⟩, ⟨rfl, rfl⟩, ⟨rfl, rfl⟩, trivial⟩⟩
  | cs :: rest, v10n, v11, hd, h => by
      rw [spec_suOwn_l0] at h
      obtain ⟨hrow, hd1, hlt⟩ := drop_cons hd
      refine LoopOk.step ?_
      conv => whnf
      refine splD (fun _ => ?_) (fun g => absurd hlt g)
      conv => whnf
      obtain ⟨x31, x32, x33, e34, h⟩ := cell_sii_ex h
      rw [e34] at hrow
      refine Req.of (Int.natCast_nonneg _) ?_
      refine Row.of _ hrow ?_
      conv => whnf
      obtain ⟨y35, e36, h⟩ := bind_ex h
      refine CallOk.of (hrec_spec_suOwn _ _ e36) ?_
      conv => whnf
      refine Take.all (rfl) ?_
      conv => whnf
      refine Take.all (rfl) ?_
      conv => whnf
      refine Take.all (by first | rfl | exact List.length_append.symm | (simp; done) | omega) ?_
      conv => whnf
      obtain ⟨g37, h⟩ := req_ex h
      refine Req.of (room (b := 40) (by decide) g37 (wide1 rfl wide0)) ?_
      conv => whnf
      refine CutK.go ?_
      conv => whnf
      exact LoopOk.back (spec_suOwn_l0_ct hrec_spec_suOwn hx rest (v10n + 1) _ hd1 h) [some 128, some 192, some 1472] [] ⟨⟨rfl, rfl⟩, ⟨rfl, ⟨rfl, trivial, trivial⟩, ⟨rfl, ⟨(by first | rfl | exact List.length_append.symm | (simp; done) | omega), rfl⟩, trivial⟩, ⟨rfl, rfl, rows_same⟩, trivial⟩, ⟨rfl, rfl⟩, ⟨rfl, rfl⟩, rfl, rfl, i64eq (wrap_up hlt hx), trivial⟩
def spec_suOwn_b (rec_spec_suOwn : Rw → Option Rw) (a1 : Rw) : Option Rw :=
  (if a1.length ≤ cap then (spec_suOwn_l0 rec_spec_suOwn a1 (fun (v21 : Rw) => some v21) a1 ([] : Rw)) else none)
set_option maxHeartbeats 4000000 in
set_option maxRecDepth 100000 in
theorem spec_suOwn_b_ct {rec_spec_suOwn : Rw → Option Rw} (hrec_spec_suOwn : ∀ (a1 : Rw) (r : Rw), rec_spec_suOwn a1 = some r → Ct prog 127 [.agg [.d (D.sl a1)]] (⟨[], []⟩) (.agg [.os 8 r.length]) (⟨[], [(105, true, r)]⟩)) {a1 : Rw} {r : Rw} (h : spec_suOwn_b rec_spec_suOwn a1 = some r) : Ct prog 127 [.agg [.d (D.sl a1)]] (⟨[], []⟩) (.agg [.os 8 r.length]) (⟨[], [(105, true, r)]⟩) := by
  rw [spec_suOwn_b] at h
  refine Ct.of (c := _) mixed func127 ⟨rfl, rfl, rfl⟩ ?_ rfl
  conv => whnf
  obtain ⟨g38, h⟩ := req_ex h
  refine LoopOk.into (spec_suOwn_l0_ct hrec_spec_suOwn g38 _ _ _ rfl h) [some 128, some 192, none] [] ⟨⟨rfl, rfl⟩, ⟨rfl, ⟨rfl, trivial, trivial⟩, ⟨rfl, ⟨rfl, rfl⟩, trivial⟩, rfl, trivial⟩, ⟨rfl, rfl⟩, ⟨rfl, rfl⟩, rfl, rfl, rfl, trivial⟩ ?_ (fun _ hs => hs)
  rintro i ts os ⟨rfl, v21, h, rfl, rfl⟩
  conv => whnf
  refine CutK.go ?_
  conv => whnf
  cases h
  exact Done.of [some 67001] [] rfl rfl ⟨⟨rfl, rfl⟩, ⟨rfl, ⟨rfl, rfl, rows_same⟩, trivial⟩, ⟨⟨rfl, rfl⟩, trivial⟩, trivial⟩
def spec_suOwn : Nat → Rw → Option Rw
  | 0, _ => none
  | k + 1, a1 => spec_suOwn_b (spec_suOwn k) a1
theorem spec_suOwn_ct' : ∀ (k : Nat) (a1 : Rw) (r : Rw), spec_suOwn k a1 = some r → Ct prog 127 [.agg [.d (D.sl a1)]] (⟨[], []⟩) (.agg [.os 8 r.length]) (⟨[], [(105, true, r)]⟩)
  | 0, _, _, h => by rw [spec_suOwn] at h; cases h
  | k + 1, _, _, h => by rw [spec_suOwn] at h; exact spec_suOwn_b_ct (spec_suOwn_ct' k) h
theorem spec_suOwn_ct {k : Nat} {a1 : Rw} {r : Rw} (h : spec_suOwn k a1 = some r) : Ct prog 127 [.agg [.d (D.sl a1)]] (⟨[], []⟩) (.agg [.os 8 r.length]) (⟨[], [(105, true, r)]⟩) := spec_suOwn_ct' k _ _ h

def spec_suIf (k : Nat) (a1 : Rw) : Option (Rw × Bool) :=
  ((spec_suGood k a1).bind fun y2 => (if y2 = true then ((spec_suOwn k a1).bind fun y5 => some (y5, true)) else some (([] : Rw), false)))
set_option maxHeartbeats 4000000 in
set_option maxRecDepth 100000 in
theorem spec_suIf_ct {k : Nat} {a1 : Rw} {r : Rw × Bool} (h : spec_suIf k a1 = some r) : Ct prog 71 [.agg [.d (D.sl a1)]] (⟨[], []⟩) (.tup [.agg [.os 8 r.1.length], .d (D.bool r.2)]) (⟨[], [(105, true, r.1)]⟩) := by
  rw [spec_suIf] at h
  refine Ct.of (c := _) mixed func71 ⟨rfl, rfl, rfl⟩ ?_ rfl
  conv => whnf
  obtain ⟨y2, e3, h⟩ := bind_ex h
  refine CallOk.of (spec_suGood_ct e3) ?_
  conv => whnf
  refine spl (fun g4 => ?_) (fun g4 => ?_)
  · replace h := iteT h g4
    conv => whnf
    refine CutK.go ?_
    conv => whnf
    refine CutK.go ?_
    conv => whnf
    obtain ⟨y5, e6, h⟩ := bind_ex h
    refine CallOk.of (spec_suOwn_ct e6) ?_
    conv => whnf
    refine CutK.go ?_
    conv => whnf
    cases h
    exact Done.of [some 576] [] rfl rfl ⟨⟨rfl, rfl⟩, ⟨rfl, ⟨rfl, rfl, rows_same⟩, trivial⟩, ⟨⟨⟨rfl, rfl⟩, trivial⟩, rfl, trivial⟩, trivial⟩
  · replace h := iteF h g4
    conv => whnf
    refine CutK.go ?_
    conv => whnf
    cases h
    exact Done.of [none] [] rfl rfl ⟨⟨rfl, rfl⟩, ⟨rfl, rfl, trivial⟩, ⟨⟨⟨rfl, rfl⟩, trivial⟩, rfl, trivial⟩, trivial⟩

def spec_IntegerPart (k : Nat) (a1 : Rw) : Option (Rw × Bool) :=
  ((spec_suGood k a1).bind fun y2 => (if y2 = true then ((spec_suWhole a1).bind fun y5 => ((spec_suIf k y5).bind fun y7 => (if y7.2 = true then some (y7.1, true) else some (y7.1, false)))) else some (([] : Rw), false)))
set_option maxHeartbeats 4000000 in
set_option maxRecDepth 100000 in
theorem spec_IntegerPart_ct {k : Nat} {a1 : Rw} {r : Rw × Bool} (h : spec_IntegerPart k a1 = some r) : Ct prog 27 [.agg [.d (D.sl a1)]] (⟨[], []⟩) (.tup [.agg [.os 8 r.1.length], .d (D.bool r.2)]) (⟨[], [(105, true, r.1)]⟩) := by
  rw [spec_IntegerPart] at h
  refine Ct.of (c := _) mixed func27 ⟨rfl, rfl, rfl⟩ ?_ rfl
  conv => whnf
  obtain ⟨y2, e3, h⟩ := bind_ex h
  refine CallOk.of (spec_suGood_ct e3) ?_
  conv => whnf
  refine spl (fun g4 => ?_) (fun g4 => ?_)
  · replace h := iteT h g4
    conv => whnf
    refine CutK.go ?_
    conv => whnf
    refine CutK.go ?_
    conv => whnf
    obtain ⟨y5, e6, h⟩ := bind_ex h
    refine CallOk.of (spec_suWhole_ct e6) ?_
    conv => whnf
    refine Take.all (rfl) ?_
    conv => whnf
    obtain ⟨y7, e8, h⟩ := bind_ex h
    refine CallOk.of (spec_suIf_ct e8) ?_
    conv => whnf
    refine spl (fun g9 => ?_) (fun g9 => ?_)
    · replace h := iteT h g9
      conv => whnf
      refine CutK.go ?_
      conv => whnf
      cases h
      exact Done.of [some 640] [] rfl rfl ⟨⟨rfl, rfl⟩, ⟨rfl, ⟨rfl, rfl, rows_same⟩, trivial⟩, ⟨⟨⟨rfl, rfl⟩, trivial⟩, rfl, trivial⟩, trivial⟩
    · replace h := iteF h g9
      conv => whnf
      refine CutK.go ?_
      conv => whnf
      cases h
      exact Done.of [some 640] [] rfl rfl ⟨⟨rfl, rfl⟩, ⟨rfl, ⟨rfl, rfl, rows_same⟩, trivial⟩, ⟨⟨⟨rfl, rfl⟩, trivial⟩, rfl, trivial⟩, trivial⟩
  · replace h := iteF h g4
    conv => whnf
    refine CutK.go ?_
    conv => whnf
    cases h
    exact Done.of [none] [] rfl rfl ⟨⟨rfl, rfl⟩, ⟨rfl, rfl, trivial⟩, ⟨⟨⟨rfl, rfl⟩, trivial⟩, rfl, trivial⟩, trivial⟩

def laws_szSurrealTerm (rec_laws_szSurreal : Rw → Int → Option Int) (a1 : Rw) (a2 : Int) (a3 : Int) (a4 : Int) : Option Int :=
  ((rec_laws_szSurreal a1 a4).bind fun y5 => (if y5 < (0 : Int) then some (-1) else some y5))
set_option maxHeartbeats 4000000 in
set_option maxRecDepth 100000 in
theorem laws_szSurrealTerm_ct {rec_laws_szSurreal : Rw → Int → Option Int} (hrec_laws_szSurreal : ∀ (a1 : Rw) (a2 : Int) (r : Int), rec_laws_szSurreal a1 a2 = some r → Ct prog 15 [.agg [.d (D.sl a1)], .d (D.int .i64 a2)] (⟨[], []⟩) (.d (D.int .i64 r)) (⟨[], []⟩)) {a1 : Rw} {a2 : Int} {a3 : Int} {a4 : Int} {r : Int} (h : laws_szSurrealTerm rec_laws_szSurreal a1 a2 a3 a4 = some r) : Ct prog 117 [.agg [.d (D.sl a1), .d (D.int .i64 a2), .d (D.int .i64 a3)], .d (D.int .i64 a4)] (⟨[], []⟩) (.d (D.int .i64 r)) (⟨[], []⟩) := by
  rw [laws_szSurrealTerm] at h
  refine Ct.of (c := _) mixed func117 ⟨rfl, rfl, rfl⟩ ?_ rfl
  conv => whnf
  obtain ⟨y5, e6, h⟩ := bind_ex h
  refine CallOk.of (hrec_laws_szSurreal _ _ _ e6) ?_
  conv => whnf
  refine CutK.go ?_
  conv => whnf
  refine splD (fun g7 => ?_) (fun g7 => ?_)
  · replace h := iteP h g7
    conv => whnf
    cases h
    exact Done.of [] [] rfl rfl ⟨⟨rfl, rfl⟩, ⟨rfl, trivial⟩, rfl, trivial⟩
  · replace h := iteN h g7
    conv => whnf
    cases h
    exact Done.of [] [] rfl rfl ⟨⟨rfl, rfl⟩, ⟨rfl, trivial⟩, rfl, trivial⟩

def laws_szSurrealTermS_l0 (rec_laws_szSurreal : Rw → Int → Option Int) (a1 : Rw) (K0 : Int → Option Int) : Rw → Int → Option Int
  | [], v13 => (K0 v13)
  | cs :: rest, v13 => (cell_sii cs fun x34 x35 x36 => ((laws_szSurrealTerm rec_laws_szSurreal x34 x35 x36 v13).bind fun y38 => (if y38 < (0 : Int) then some (-1) else (laws_szSurrealTermS_l0 rec_laws_szSurreal a1 K0 rest y38))))
set_option maxRecDepth 100000 in
theorem laws_szSurrealTermS_l0_ct {rec_laws_szSurreal : Rw → Int → Option Int} {a1 : Rw} {K0 : Int → Option Int} (hrec_laws_szSurreal : ∀ (a1 : Rw) (a2 : Int) (r : Int), rec_laws_szSurreal a1 a2 = some r → Ct prog 15 [.agg [.d (D.sl a1)], .d (D.int .i64 a2)] (⟨[], []⟩) (.d (D.int .i64 r)) (⟨[], []⟩)) {r : Int} (hx : a1.length ≤ cap) : ∀ (rest : Rw) (v14n : Nat) (v13 : Int), a1.drop v14n = rest → laws_szSurrealTermS_l0 rec_laws_szSurreal a1 K0 rest v13 = some r → LoopOk prog 0 (lp f54 0) (mk 27 [(0, .d (D.sl a1)), (1, .d (D.int .i64 v13)), (5, .d (D.int .i64 (v14n : Int)))] []) (LoopEnd prog f54 0 27 (.d (D.int .i64 r)) (⟨[], []⟩) (fun i ts os => (i = 0 ∧ ∃ v24 : Int, K0 v24 = some r ∧ ts = [(1, .d (D.int .i64 v24))] ∧ os = [])))
  | [], v14n, v13, hd, h => by
      rw [laws_szSurrealTermS_l0] at h
      have hn := drop_nil hd
      refine LoopOk.step ?_
      conv => whnf
      refine splD (fun g => absurd g hn) (fun _ => ?_)
      conv => whnf
      exact ⟨_, _, [], [], ⟨rfl, _, h, rfl, rfl⟩, ⟨⟨rfl, rfl⟩, ⟨rfl, trivial⟩, rfl, trivial⟩⟩
  | cs :: rest, v14n, v13, hd, h => by
      rw [laws_szSurrealTermS_l0] at h
      obtain ⟨hrow, hd1, hlt⟩ := drop_cons hd
      refine LoopOk.step ?_
      conv => whnf
      refine splD (fun _ => ?_) (fun g => absurd hlt g)
      conv => whnf
      obtain ⟨x34, x35, x36, e37, h⟩ := cell_sii_ex h
      rw [e37] at hrow
      refine Req.of (Int.natCast_nonneg _) ?_
      refine Row.of _ hrow ?_
      conv => whnf
      obtain ⟨y38, e39, h⟩ := bind_ex h
      refine CallOk.of (laws_szSurrealTerm_ct hrec_laws_szSurreal e39) ?_
      conv => whnf
      refine CutK.go ?_
      conv => whnf
      refine splD (fun g40 => ?_) (fun g40 => ?_)
      · replace h := iteP h g40
        conv => whnf
        cases h
        exact Done.of [] [] rfl rfl ⟨⟨rfl, rfl⟩, ⟨rfl, trivial⟩, rfl, trivial⟩
      · replace h := iteN h g40
        conv => whnf
        refine CutK.go ?_
        conv => whnf
        exact LoopOk.back (laws_szSurrealTermS_l0_ct hrec_laws_szSurreal hx rest (v14n + 1) _ hd1 h) [] [] ⟨⟨rfl, rfl⟩, ⟨rfl, trivial⟩, rfl, rfl, i64eq (wrap_up hlt hx), trivial⟩
def laws_szSurrealTermS (rec_laws_szSurreal : Rw → Int → Option Int) (a1 : Rw) (a2 : Int) : Option Int :=
  (if (IntKind.i64.wrap (a2 - (a1.length : Int))) < (0 : Int) then some (-1) else (if a1.length ≤ cap then (laws_szSurrealTermS_l0 rec_laws_szSurreal a1 (fun (v24 : Int) => some v24) a1 (IntKind.i64.wrap (a2 - (a1.length : Int)))) else none))
set_option maxHeartbeats 4000000 in
set_option maxRecDepth 100000 in
theorem laws_szSurrealTermS_ct {rec_laws_szSurreal : Rw → Int → Option Int} (hrec_laws_szSurreal : ∀ (a1 : Rw) (a2 : Int) (r : Int), rec_laws_szSurreal a1 a2 = some r → Ct prog 15 [.agg [.d (D.sl a1)], .d (D.int .i64 a2)] (⟨[], []⟩) (.d (D.int .i64 r)) (⟨[], []⟩)) {a1 : Rw} {a2 : Int} {r : Int} (h : laws_szSurrealTermS rec_laws_szSurreal a1 a2 = some r) : Ct prog 54 [.d (D.sl a1), .d (D.int .i64 a2)] (⟨[], []⟩) (.d (D.int .i64 r)) (⟨[], []⟩) := by
  rw [laws_szSurrealTermS] at h
  refine Ct.of (c := _) mixed func54 ⟨rfl, rfl, rfl⟩ ?_ rfl
  conv => whnf
  refine splD (fun g3 => ?_) (fun g3 => ?_)
  · replace h := iteP h g3
    conv => whnf
    cases h
    exact Done.of [] [] rfl rfl ⟨⟨rfl, rfl⟩, ⟨rfl, trivial⟩, rfl, trivial⟩
  · replace h := iteN h g3
    conv => whnf
    obtain ⟨g41, h⟩ := req_ex h
    refine LoopOk.into (laws_szSurrealTermS_l0_ct hrec_laws_szSurreal g41 _ _ _ rfl h) [] [] ⟨⟨rfl, rfl⟩, ⟨rfl, trivial⟩, rfl, rfl, rfl, trivial⟩ ?_ (fun _ hs => hs)
    rintro i ts os ⟨rfl, v24, h, rfl, rfl⟩
    conv => whnf
    refine CutK.go ?_
    conv => whnf
    cases h
    exact Done.of [] [] rfl rfl ⟨⟨rfl, rfl⟩, ⟨rfl, trivial⟩, rfl, trivial⟩

def laws_szSurreal_b (rec_laws_szSurreal : Rw → Int → Option Int) (a1 : Rw) (a2 : Int) : Option Int :=
  ((laws_szSurrealTermS rec_laws_szSurreal a1 a2).bind fun y3 => (if y3 < (0 : Int) then some (-1) else some y3))
set_option maxHeartbeats 4000000 in
set_option maxRecDepth 100000 in
theorem laws_szSurreal_b_ct {rec_laws_szSurreal : Rw → Int → Option Int} (hrec_laws_szSurreal : ∀ (a1 : Rw) (a2 : Int) (r : Int), rec_laws_szSurreal a1 a2 = some r → Ct prog 15 [.agg [.d (D.sl a1)], .d (D.int .i64 a2)] (⟨[], []⟩) (.d (D.int .i64 r)) (⟨[], []⟩)) {a1 : Rw} {a2 : Int} {r : Int} (h : laws_szSurreal_b rec_laws_szSurreal a1 a2 = some r) : Ct prog 15 [.agg [.d (D.sl a1)], .d (D.int .i64 a2)] (⟨[], []⟩) (.d (D.int .i64 r)) (⟨[], []⟩) := by
  rw [laws_szSurreal_b] at h
  refine Ct.of (c := _) mixed func15 ⟨rfl, rfl, rfl⟩ ?_ rfl
  conv => whnf
  obtain ⟨y3, e4, h⟩ := bind_ex h
  refine CallOk.of (laws_szSurrealTermS_ct hrec_laws_szSurreal e4) ?_
  conv => whnf
  refine CutK.go ?_
  conv => whnf
  refine splD (fun g5 => ?_) (fun g5 => ?_)
  · replace h := iteP h g5
    conv => whnf
    cases h
    exact Done.of [] [] rfl rfl ⟨⟨rfl, rfl⟩, ⟨rfl, trivial⟩, rfl, trivial⟩
  · replace h := iteN h g5
    conv => whnf
    cases h
    exact Done.of [] [] rfl rfl ⟨⟨rfl, rfl⟩, ⟨rfl, trivial⟩, rfl, trivial⟩
def laws_szSurreal : Nat → Rw → Int → Option Int
  | 0, _, _ => none
  | k + 1, a1, a2 => laws_szSurreal_b (laws_szSurreal k) a1 a2
theorem laws_szSurreal_ct' : ∀ (k : Nat) (a1 : Rw) (a2 : Int) (r : Int), laws_szSurreal k a1 a2 = some r → Ct prog 15 [.agg [.d (D.sl a1)], .d (D.int .i64 a2)] (⟨[], []⟩) (.d (D.int .i64 r)) (⟨[], []⟩)
  | 0, _, _, _, h => by rw [laws_szSurreal] at h; cases h
  | k + 1, _, _, _, h => by rw [laws_szSurreal] at h; exact laws_szSurreal_b_ct (laws_szSurreal_ct' k) h
theorem laws_szSurreal_ct {k : Nat} {a1 : Rw} {a2 : Int} {r : Int} (h : laws_szSurreal k a1 a2 = some r) : Ct prog 15 [.agg [.d (D.sl a1)], .d (D.int .i64 a2)] (⟨[], []⟩) (.d (D.int .i64 r)) (⟨[], []⟩) := laws_szSurreal_ct' k _ _ _ h
end
end Go.Proofs.Try
