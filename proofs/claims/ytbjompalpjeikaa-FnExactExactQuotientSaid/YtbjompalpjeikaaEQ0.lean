/- Printed by program (axgen): pure functions, and that the Go functions compute them. -/
import Derived.Test.YtbjompalpjeikaaProg
import Derived.Test.YtbjompalpjeikaaAxC
import Derived.KernelRfl
set_option linter.unusedVariables false
set_option linter.unusedSimpArgs false
namespace Go.Proofs.Try
open Go Go.AX
theorem mixed : prog.follows .mixedOrders = true := by kernel_rfl
def cell_sii {α : Type} (cs : List D) (K : Rw → Int → Int → Option α) : Option α := match cs with | [.sl a0, .int .i64 a1, .int .i64 a2] => K a0 a1 a2 | _ => none
def row_sii {α : Type} (es : Rw) (i : Int) (K : Rw → Int → Int → Option α) : Option α := if 0 ≤ i then (match es[i.toNat]? with | some cs => cell_sii cs K | none => none) else none
theorem cell_sii_ex {α : Type} {cs : List D} {K : Rw → Int → Int → Option α} {r : α} (h : cell_sii cs K = some r) : ∃ a0 a1 a2, cs = [.sl a0, .int .i64 a1, .int .i64 a2] ∧ K a0 a1 a2 = some r := by
  unfold cell_sii at h
  split at h
  · exact ⟨_, _, _, rfl, h⟩
  · cases h
theorem row_sii_ex {α : Type} {es : Rw} {i : Int} {K : Rw → Int → Int → Option α} {r : α} (h : row_sii es i K = some r) : 0 ≤ i ∧ ∃ a0 a1 a2, es[i.toNat]? = some [.sl a0, .int .i64 a1, .int .i64 a2] ∧ K a0 a1 a2 = some r := by
  unfold row_sii at h
  obtain ⟨g, h⟩ := req_ex h
  split at h
  · rename_i cs e
    obtain ⟨a0, a1, a2, rfl, h⟩ := cell_sii_ex h
    exact ⟨g, a0, a1, a2, e, h⟩
  · cases h
noncomputable section
def laws_heldSurrealTermS_l0 (rec_laws_heldSurrealTermS : Rw → Int → Option Int) (a1 : Rw) (K0 : Int → Option Int) : Rw → Int → Option Int
  | [], v14 => (K0 v14)
  | cs :: rest, v14 => (cell_sii cs fun x39 x40 x41 => ((rec_laws_heldSurrealTermS x39 v14).bind fun y43 => (if y43 < (0 : Int) then some (-1) else (if x40 = y43 then (if x41 = (IntKind.i64.wrap (y43 + 1)) then (laws_heldSurrealTermS_l0 rec_laws_heldSurrealTermS a1 K0 rest (IntKind.i64.wrap ((IntKind.i64.wrap (y43 + 1)) + 1))) else some (-1)) else some (-1)))))
set_option maxRecDepth 100000 in
theorem laws_heldSurrealTermS_l0_ct {rec_laws_heldSurrealTermS : Rw → Int → Option Int} {a1 : Rw} {K0 : Int → Option Int} (hrec_laws_heldSurrealTermS : ∀ (a1 : Rw) (a2 : Int) (r : Int), rec_laws_heldSurrealTermS a1 a2 = some r → Ct prog 65 [.d (D.sl a1), .d (D.int .i64 a2)] (⟨[], []⟩) (.d (D.int .i64 r)) (⟨[], []⟩)) {r : Int} (hx : a1.length ≤ cap) : ∀ (rest : Rw) (v15n : Nat) (v14 : Int), a1.drop v15n = rest → laws_heldSurrealTermS_l0 rec_laws_heldSurrealTermS a1 K0 rest v14 = some r → LoopOk prog 0 (lp f65 0) (mk 43 [(0, .d (D.sl a1)), (1, .d (D.int .i64 v14)), (5, .d (D.int .i64 (v15n : Int)))] []) (LoopEnd prog f65 0 43 (.d (D.int .i64 r)) (⟨[], []⟩) (fun i ts os => (i = 0 ∧ ∃ v27 : Int, K0 v27 = some r ∧ ts = [(1, .d (D.int .i64 v27))] ∧ os = [])))
  | [], v15n, v14, hd, h => by
      rw [laws_heldSurrealTermS_l0] at h
      have hn := drop_nil hd
      refine LoopOk.step ?_
      conv => whnf
      refine splD (fun g => absurd g hn) (fun _ => ?_)
      conv => whnf
      exact ⟨_, _, [], [], ⟨rfl, _, h, rfl, rfl⟩, ⟨⟨rfl, rfl⟩, ⟨rfl, trivial⟩, rfl, trivial⟩⟩
  | cs :: rest, v15n, v14, hd, h => by
      rw [laws_heldSurrealTermS_l0] at h
      obtain ⟨hrow, hd1, hlt⟩ := drop_cons hd
      refine LoopOk.step ?_
      conv => whnf
      refine splD (fun _ => ?_) (fun g => absurd hlt g)
      conv => whnf
      obtain ⟨x39, x40, x41, e42, h⟩ := cell_sii_ex h
      rw [e42] at hrow
      refine Req.of (Int.natCast_nonneg _) ?_
      refine Row.of _ hrow ?_
      conv => whnf
      refine Pick.no ?_
      conv => whnf
      obtain ⟨y43, e44, h⟩ := bind_ex h
      refine CallOk.of (hrec_laws_heldSurrealTermS _ _ _ e44) ?_
      conv => whnf
      refine CutK.norm [0, 1, 5] [] ?_
      conv => whnf
      refine splD (fun g45 => ?_) (fun g45 => ?_)
      · replace h := iteP h g45
        conv => whnf
        cases h
        exact Done.of [] [] rfl rfl ⟨⟨rfl, rfl⟩, ⟨rfl, trivial⟩, rfl, trivial⟩
      · replace h := iteN h g45
        conv => whnf
        refine Req.of (Int.natCast_nonneg _) ?_
        refine Row.of _ hrow ?_
        conv => whnf
        refine splN (fun g46 => ?_) (fun g46 => ?_)
        · replace h := iteN h g46
          conv => whnf
          cases h
          exact Done.of [] [] rfl rfl ⟨⟨rfl, rfl⟩, ⟨rfl, trivial⟩, rfl, trivial⟩
        · replace h := iteP h g46
          conv => whnf
          refine Req.of (Int.natCast_nonneg _) ?_
          refine Row.of _ hrow ?_
          conv => whnf
          refine splN (fun g47 => ?_) (fun g47 => ?_)
          · replace h := iteN h g47
            conv => whnf
            cases h
            exact Done.of [] [] rfl rfl ⟨⟨rfl, rfl⟩, ⟨rfl, trivial⟩, rfl, trivial⟩
          · replace h := iteP h g47
            conv => whnf
            refine CutK.norm [0, 1, 5] [] ?_
            conv => whnf
            exact LoopOk.back (laws_heldSurrealTermS_l0_ct hrec_laws_heldSurrealTermS hx rest (v15n + 1) _ hd1 h) [] [] ⟨⟨rfl, rfl⟩, ⟨rfl, trivial⟩, rfl, rfl, i64eq (wrap_up hlt hx), trivial⟩
def laws_heldSurrealTermS_b (rec_laws_heldSurrealTermS : Rw → Int → Option Int) (a1 : Rw) (a2 : Int) : Option Int :=
  (if a1.length ≤ cap then (laws_heldSurrealTermS_l0 rec_laws_heldSurrealTermS a1 (fun (v27 : Int) => some v27) a1 a2) else none)
set_option maxHeartbeats 4000000 in
set_option maxRecDepth 100000 in
theorem laws_heldSurrealTermS_b_ct {rec_laws_heldSurrealTermS : Rw → Int → Option Int} (hrec_laws_heldSurrealTermS : ∀ (a1 : Rw) (a2 : Int) (r : Int), rec_laws_heldSurrealTermS a1 a2 = some r → Ct prog 65 [.d (D.sl a1), .d (D.int .i64 a2)] (⟨[], []⟩) (.d (D.int .i64 r)) (⟨[], []⟩)) {a1 : Rw} {a2 : Int} {r : Int} (h : laws_heldSurrealTermS_b rec_laws_heldSurrealTermS a1 a2 = some r) : Ct prog 65 [.d (D.sl a1), .d (D.int .i64 a2)] (⟨[], []⟩) (.d (D.int .i64 r)) (⟨[], []⟩) := by
  rw [laws_heldSurrealTermS_b] at h
  refine Ct.of (c := _) mixed func65 ⟨rfl, rfl, rfl⟩ ?_ rfl
  conv => whnf
  obtain ⟨g48, h⟩ := req_ex h
  refine LoopOk.into (laws_heldSurrealTermS_l0_ct hrec_laws_heldSurrealTermS g48 _ _ _ rfl h) [] [] ⟨⟨rfl, rfl⟩, ⟨rfl, trivial⟩, rfl, rfl, rfl, trivial⟩ ?_ (fun _ hs => hs)
  rintro i ts os ⟨rfl, v27, h, rfl, rfl⟩
  conv => whnf
  refine CutK.norm [1] [] ?_
  conv => whnf
  cases h
  exact Done.of [] [] rfl rfl ⟨⟨rfl, rfl⟩, ⟨rfl, trivial⟩, rfl, trivial⟩
def laws_heldSurrealTermS : Nat → Rw → Int → Option Int
  | 0, _, _ => none
  | k + 1, a1, a2 => laws_heldSurrealTermS_b (laws_heldSurrealTermS k) a1 a2
theorem laws_heldSurrealTermS_ct' : ∀ (k : Nat) (a1 : Rw) (a2 : Int) (r : Int), laws_heldSurrealTermS k a1 a2 = some r → Ct prog 65 [.d (D.sl a1), .d (D.int .i64 a2)] (⟨[], []⟩) (.d (D.int .i64 r)) (⟨[], []⟩)
  | 0, _, _, _, h => by rw [laws_heldSurrealTermS] at h; cases h
  | k + 1, _, _, _, h => by rw [laws_heldSurrealTermS] at h; exact laws_heldSurrealTermS_b_ct (laws_heldSurrealTermS_ct' k) h
theorem laws_heldSurrealTermS_ct {k : Nat} {a1 : Rw} {a2 : Int} {r : Int} (h : laws_heldSurrealTermS k a1 a2 = some r) : Ct prog 65 [.d (D.sl a1), .d (D.int .i64 a2)] (⟨[], []⟩) (.d (D.int .i64 r)) (⟨[], []⟩) := laws_heldSurrealTermS_ct' k _ _ _ h

def laws_heldSurreal (k : Nat) (a1 : Rw) (a2 : Int) : Option Int :=
  ((laws_heldSurrealTermS k a1 a2).bind fun y3 => (if y3 < (0 : Int) then some (-1) else some y3))
set_option maxHeartbeats 4000000 in
set_option maxRecDepth 100000 in
theorem laws_heldSurreal_ct {k : Nat} {a1 : Rw} {a2 : Int} {r : Int} (h : laws_heldSurreal k a1 a2 = some r) : Ct prog 16 [.agg [.d (D.sl a1)], .d (D.int .i64 a2)] (⟨[], []⟩) (.d (D.int .i64 r)) (⟨[], []⟩) := by
  rw [laws_heldSurreal] at h
  refine Ct.of (c := _) mixed func16 ⟨rfl, rfl, rfl⟩ ?_ rfl
  conv => whnf
  refine Pick.no ?_
  conv => whnf
  obtain ⟨y3, e4, h⟩ := bind_ex h
  refine CallOk.of (laws_heldSurrealTermS_ct e4) ?_
  conv => whnf
  refine CutK.go ?_
  conv => whnf
  refine splD (fun g5 => ?_) (fun g5 => ?_)
  · replace h := iteP h g5
    conv => whnf
    cases h
    exact Done.of [] [] rfl rfl ⟨⟨rfl, rfl⟩, ⟨rfl, trivial⟩, rfl, trivial⟩
  · replace h := iteN h g5
    conv => whnf
    cases h
    exact Done.of [] [] rfl rfl ⟨⟨rfl, rfl⟩, ⟨rfl, trivial⟩, rfl, trivial⟩

def laws_eqFraction  (a1 : Int) (a2 : Int) (a3 : Int) (a4 : Int) : Option Bool :=
  (if a1 = a3 then (if a2 = a4 then some true else some false) else some false)
set_option maxHeartbeats 4000000 in
set_option maxRecDepth 100000 in
theorem laws_eqFraction_ct  {a1 : Int} {a2 : Int} {a3 : Int} {a4 : Int} {r : Bool} (h : laws_eqFraction a1 a2 a3 a4 = some r) : Ct prog 174 [.agg [.d (D.int .i64 a1), .d (D.int .i64 a2)], .agg [.d (D.int .i64 a3), .d (D.int .i64 a4)]] (⟨[], []⟩) (.d (D.bool r)) (⟨[], []⟩) := by
  rw [laws_eqFraction] at h
  refine Ct.of (c := _) mixed func174 ⟨rfl, rfl, rfl⟩ ?_ rfl
  conv => whnf
  refine splN (fun g5 => ?_) (fun g5 => ?_)
  · replace h := iteN h g5
    conv => whnf
    cases h
    exact Done.of [] [] rfl rfl ⟨⟨rfl, rfl⟩, ⟨rfl, trivial⟩, rfl, trivial⟩
  · replace h := iteP h g5
    conv => whnf
    refine splN (fun g6 => ?_) (fun g6 => ?_)
    · replace h := iteN h g6
      conv => whnf
      cases h
      exact Done.of [] [] rfl rfl ⟨⟨rfl, rfl⟩, ⟨rfl, trivial⟩, rfl, trivial⟩
    · replace h := iteP h g6
      conv => whnf
      cases h
      exact Done.of [] [] rfl rfl ⟨⟨rfl, rfl⟩, ⟨rfl, trivial⟩, rfl, trivial⟩

def laws_eqSurrealTerm (rec_laws_eqSurreal : Rw → Rw → Option Bool) (a1 : Rw) (a2 : Int) (a3 : Int) (a4 : Rw) (a5 : Int) (a6 : Int) : Option Bool :=
  ((rec_laws_eqSurreal a1 a4).bind fun y7 => (if y7 = true then ((laws_eqFraction a2 a3 a5 a6).bind fun y10 => (if y10 = true then some true else some false)) else some false))
set_option maxHeartbeats 4000000 in
set_option maxRecDepth 100000 in
theorem laws_eqSurrealTerm_ct {rec_laws_eqSurreal : Rw → Rw → Option Bool} (hrec_laws_eqSurreal : ∀ (a1 : Rw) (a2 : Rw) (r : Bool), rec_laws_eqSurreal a1 a2 = some r → Ct prog 14 [.agg [.d (D.sl a1)], .agg [.d (D.sl a2)]] (⟨[], []⟩) (.d (D.bool r)) (⟨[], []⟩)) {a1 : Rw} {a2 : Int} {a3 : Int} {a4 : Rw} {a5 : Int} {a6 : Int} {r : Bool} (h : laws_eqSurrealTerm rec_laws_eqSurreal a1 a2 a3 a4 a5 a6 = some r) : Ct prog 125 [.agg [.d (D.sl a1), .d (D.int .i64 a2), .d (D.int .i64 a3)], .agg [.d (D.sl a4), .d (D.int .i64 a5), .d (D.int .i64 a6)]] (⟨[], []⟩) (.d (D.bool r)) (⟨[], []⟩) := by
  rw [laws_eqSurrealTerm] at h
  refine Ct.of (c := _) mixed func125 ⟨rfl, rfl, rfl⟩ ?_ rfl
  conv => whnf
  refine Pick.no ?_
  conv => whnf
  obtain ⟨y7, e8, h⟩ := bind_ex h
  refine CallOk.of (hrec_laws_eqSurreal _ _ _ e8) ?_
  conv => whnf
  refine spl (fun g9 => ?_) (fun g9 => ?_)
  · replace h := iteT h g9
    conv => whnf
    refine CutK.go ?_
    conv => whnf
    refine CutK.go ?_
    conv => whnf
    refine Pick.no ?_
    conv => whnf
    obtain ⟨y10, e11, h⟩ := bind_ex h
    refine CallOk.of (laws_eqFraction_ct e11) ?_
    conv => whnf
    refine spl (fun g12 => ?_) (fun g12 => ?_)
    · replace h := iteT h g12
      conv => whnf
      refine CutK.go ?_
      conv => whnf
      refine CutK.go ?_
      conv => whnf
      cases h
      exact Done.of [] [] rfl rfl ⟨⟨rfl, rfl⟩, ⟨rfl, trivial⟩, rfl, trivial⟩
    · replace h := iteF h g12
      conv => whnf
      refine CutK.go ?_
      conv => whnf
      cases h
      exact Done.of [] [] rfl rfl ⟨⟨rfl, rfl⟩, ⟨rfl, trivial⟩, rfl, trivial⟩
  · replace h := iteF h g9
    conv => whnf
    refine CutK.go ?_
    conv => whnf
    cases h
    exact Done.of [] [] rfl rfl ⟨⟨rfl, rfl⟩, ⟨rfl, trivial⟩, rfl, trivial⟩

def laws_eqSurrealTermS_l0 (rec_laws_eqSurreal : Rw → Rw → Option Bool) (a1 : Rw) (a2 : Rw) (K0 : Option Bool) : Rw → Nat → Option Bool
  | [], v18n => (K0)
  | cs :: rest, v18n => (cell_sii cs fun x33 x34 x35 => (row_sii a2 (v18n : Int) fun x37 x38 x39 => ((laws_eqSurrealTerm rec_laws_eqSurreal x33 x34 x35 x37 x38 x39).bind fun y42 => (if y42 = true then (laws_eqSurrealTermS_l0 rec_laws_eqSurreal a1 a2 K0 rest (v18n + 1)) else some false))))
set_option maxRecDepth 100000 in
theorem laws_eqSurrealTermS_l0_ct {rec_laws_eqSurreal : Rw → Rw → Option Bool} {a1 : Rw} {a2 : Rw} {K0 : Option Bool} (hrec_laws_eqSurreal : ∀ (a1 : Rw) (a2 : Rw) (r : Bool), rec_laws_eqSurreal a1 a2 = some r → Ct prog 14 [.agg [.d (D.sl a1)], .agg [.d (D.sl a2)]] (⟨[], []⟩) (.d (D.bool r)) (⟨[], []⟩)) {r : Bool} (hx : a1.length ≤ cap) : ∀ (rest : Rw) (v18n : Nat), a1.drop v18n = rest → laws_eqSurrealTermS_l0 rec_laws_eqSurreal a1 a2 K0 rest v18n = some r → LoopOk prog 0 (lp f63 0) (mk 27 [(0, .d (D.sl a1)), (1, .d (D.sl a2)), (5, .d (D.int .i64 (v18n : Int)))] []) (LoopEnd prog f63 0 27 (.d (D.bool r)) (⟨[], []⟩) (fun i ts os => (i = 0 ∧ K0 = some r ∧ ts = [] ∧ os = [])))
  | [], v18n, hd, h => by
      rw [laws_eqSurrealTermS_l0] at h
      have hn := drop_nil hd
      refine LoopOk.step ?_
      conv => whnf
      refine splD (fun g => absurd g hn) (fun _ => ?_)
      conv => whnf
      exact ⟨_, _, [], [], ⟨rfl, h, rfl, rfl⟩, ⟨⟨rfl, rfl⟩, ⟨rfl, trivial⟩, trivial⟩⟩
  | cs :: rest, v18n, hd, h => by
      rw [laws_eqSurrealTermS_l0] at h
      obtain ⟨hrow, hd1, hlt⟩ := drop_cons hd
      refine LoopOk.step ?_
      conv => whnf
      refine splD (fun _ => ?_) (fun g => absurd hlt g)
      conv => whnf
      obtain ⟨x33, x34, x35, e36, h⟩ := cell_sii_ex h
      rw [e36] at hrow
      refine Req.of (Int.natCast_nonneg _) ?_
      refine Row.of _ hrow ?_
      conv => whnf
      obtain ⟨g41, x37, x38, x39, e40, h⟩ := row_sii_ex h
      refine Req.of g41 ?_
      refine Row.of _ e40 ?_
      conv => whnf
      refine Pick.no ?_
      conv => whnf
      obtain ⟨y42, e43, h⟩ := bind_ex h
      refine CallOk.of (laws_eqSurrealTerm_ct hrec_laws_eqSurreal e43) ?_
      conv => whnf
      refine spl (fun g44 => ?_) (fun g44 => ?_)
      · replace h := iteT h g44
        conv => whnf
        refine CutK.go ?_
        conv => whnf
        refine CutK.go ?_
        conv => whnf
        exact LoopOk.back (laws_eqSurrealTermS_l0_ct hrec_laws_eqSurreal hx rest (v18n + 1)  hd1 h) [] [] ⟨⟨rfl, rfl⟩, ⟨rfl, trivial⟩, rfl, rfl, i64eq (wrap_up hlt hx), trivial⟩
      · replace h := iteF h g44
        conv => whnf
        refine CutK.go ?_
        conv => whnf
        cases h
        exact Done.of [] [] rfl rfl ⟨⟨rfl, rfl⟩, ⟨rfl, trivial⟩, rfl, trivial⟩
def laws_eqSurrealTermS (rec_laws_eqSurreal : Rw → Rw → Option Bool) (a1 : Rw) (a2 : Rw) : Option Bool :=
  (if (a1.length : Int) = (a2.length : Int) then (if a1.length ≤ cap then (laws_eqSurrealTermS_l0 rec_laws_eqSurreal a1 a2 (some true) a1 0) else none) else some false)
set_option maxHeartbeats 4000000 in
set_option maxRecDepth 100000 in
theorem laws_eqSurrealTermS_ct {rec_laws_eqSurreal : Rw → Rw → Option Bool} (hrec_laws_eqSurreal : ∀ (a1 : Rw) (a2 : Rw) (r : Bool), rec_laws_eqSurreal a1 a2 = some r → Ct prog 14 [.agg [.d (D.sl a1)], .agg [.d (D.sl a2)]] (⟨[], []⟩) (.d (D.bool r)) (⟨[], []⟩)) {a1 : Rw} {a2 : Rw} {r : Bool} (h : laws_eqSurrealTermS rec_laws_eqSurreal a1 a2 = some r) : Ct prog 63 [.d (D.sl a1), .d (D.sl a2)] (⟨[], []⟩) (.d (D.bool r)) (⟨[], []⟩) := by
  rw [laws_eqSurrealTermS] at h
  refine Ct.of (c := _) mixed func63 ⟨rfl, rfl, rfl⟩ ?_ rfl
  conv => whnf
  refine splN (fun g3 => ?_) (fun g3 => ?_)
  · replace h := iteN h g3
    conv => whnf
    cases h
    exact Done.of [] [] rfl rfl ⟨⟨rfl, rfl⟩, ⟨rfl, trivial⟩, rfl, trivial⟩
  · replace h := iteP h g3
    conv => whnf
    obtain ⟨g45, h⟩ := req_ex h
    refine LoopOk.into (laws_eqSurrealTermS_l0_ct hrec_laws_eqSurreal g45 _ _  rfl h) [] [] ⟨⟨rfl, rfl⟩, ⟨rfl, trivial⟩, rfl, rfl, rfl, trivial⟩ ?_ (fun _ hs => hs)
    rintro i ts os ⟨rfl, h, rfl, rfl⟩
    conv => whnf
    refine CutK.go ?_
    conv => whnf
    cases h
    exact Done.of [] [] rfl rfl ⟨⟨rfl, rfl⟩, ⟨rfl, trivial⟩, rfl, trivial⟩

def laws_eqSurreal_b (rec_laws_eqSurreal : Rw → Rw → Option Bool) (a1 : Rw) (a2 : Rw) : Option Bool :=
  ((laws_eqSurrealTermS rec_laws_eqSurreal a1 a2).bind fun y3 => (if y3 = true then some true else some false))
set_option maxHeartbeats 4000000 in
set_option maxRecDepth 100000 in
theorem laws_eqSurreal_b_ct {rec_laws_eqSurreal : Rw → Rw → Option Bool} (hrec_laws_eqSurreal : ∀ (a1 : Rw) (a2 : Rw) (r : Bool), rec_laws_eqSurreal a1 a2 = some r → Ct prog 14 [.agg [.d (D.sl a1)], .agg [.d (D.sl a2)]] (⟨[], []⟩) (.d (D.bool r)) (⟨[], []⟩)) {a1 : Rw} {a2 : Rw} {r : Bool} (h : laws_eqSurreal_b rec_laws_eqSurreal a1 a2 = some r) : Ct prog 14 [.agg [.d (D.sl a1)], .agg [.d (D.sl a2)]] (⟨[], []⟩) (.d (D.bool r)) (⟨[], []⟩) := by
  rw [laws_eqSurreal_b] at h
  refine Ct.of (c := _) mixed func14 ⟨rfl, rfl, rfl⟩ ?_ rfl
  conv => whnf
  refine Pick.no ?_
  conv => whnf
  obtain ⟨y3, e4, h⟩ := bind_ex h
  refine CallOk.of (laws_eqSurrealTermS_ct hrec_laws_eqSurreal e4) ?_
  conv => whnf
  refine spl (fun g5 => ?_) (fun g5 => ?_)
  · replace h := iteT h g5
    conv => whnf
    refine CutK.go ?_
    conv => whnf
    refine CutK.go ?_
    conv => whnf
    cases h
    exact Done.of [] [] rfl rfl ⟨⟨rfl, rfl⟩, ⟨rfl, trivial⟩, rfl, trivial⟩
  · replace h := iteF h g5
    conv => whnf
    refine CutK.go ?_
    conv => whnf
    cases h
    exact Done.of [] [] rfl rfl ⟨⟨rfl, rfl⟩, ⟨rfl, trivial⟩, rfl, trivial⟩
def laws_eqSurreal : Nat → Rw → Rw → Option Bool
  | 0, _, _ => none
  | k + 1, a1, a2 => laws_eqSurreal_b (laws_eqSurreal k) a1 a2
theorem laws_eqSurreal_ct' : ∀ (k : Nat) (a1 : Rw) (a2 : Rw) (r : Bool), laws_eqSurreal k a1 a2 = some r → Ct prog 14 [.agg [.d (D.sl a1)], .agg [.d (D.sl a2)]] (⟨[], []⟩) (.d (D.bool r)) (⟨[], []⟩)
  | 0, _, _, _, h => by rw [laws_eqSurreal] at h; cases h
  | k + 1, _, _, _, h => by rw [laws_eqSurreal] at h; exact laws_eqSurreal_b_ct (laws_eqSurreal_ct' k) h
theorem laws_eqSurreal_ct {k : Nat} {a1 : Rw} {a2 : Rw} {r : Bool} (h : laws_eqSurreal k a1 a2 = some r) : Ct prog 14 [.agg [.d (D.sl a1)], .agg [.d (D.sl a2)]] (⟨[], []⟩) (.d (D.bool r)) (⟨[], []⟩) := laws_eqSurreal_ct' k _ _ _ h

def laws_toFraction  (a1 : Int) (a2 : Int) : Option (Int × Int) :=
  some (a1, a2)
set_option maxHeartbeats 4000000 in
set_option maxRecDepth 100000 in
theorem laws_toFraction_ct  {a1 : Int} {a2 : Int} {r : Int × Int} (h : laws_toFraction a1 a2 = some r) : Ct prog 173 [.agg [.d (D.int .i64 a1), .d (D.int .i64 a2)]] (⟨[], []⟩) (.agg [.d (D.int .i64 r.1), .d (D.int .i64 r.2)]) (⟨[], []⟩) := by
  rw [laws_toFraction] at h
  refine Ct.of (c := _) mixed func173 ⟨rfl, rfl, rfl⟩ ?_ rfl
  conv => whnf
  cases h
  exact Done.of [] [] rfl rfl ⟨⟨rfl, rfl⟩, ⟨rfl, trivial⟩, ⟨rfl, rfl, trivial⟩, trivial⟩

def laws_toSurrealTerm (rec_laws_toSurreal : Rw → Option Rw) (a1 : Rw) (a2 : Int) (a3 : Int) : Option (Rw × Int × Int) :=
  ((rec_laws_toSurreal a1).bind fun y4 => ((laws_toFraction a2 a3).bind fun y6 => some (y4, y6.1, y6.2)))
set_option maxHeartbeats 4000000 in
set_option maxRecDepth 100000 in
theorem laws_toSurrealTerm_ct {rec_laws_toSurreal : Rw → Option Rw} (hrec_laws_toSurreal : ∀ (a1 : Rw) (r : Rw), rec_laws_toSurreal a1 = some r → Ct prog 12 [.agg [.d (D.sl a1)]] (⟨[], []⟩) (.agg [.os 8 r.length]) (⟨[], [(116, true, r)]⟩)) {a1 : Rw} {a2 : Int} {a3 : Int} {r : Rw × Int × Int} (h : laws_toSurrealTerm rec_laws_toSurreal a1 a2 a3 = some r) : Ct prog 118 [.agg [.d (D.sl a1), .d (D.int .i64 a2), .d (D.int .i64 a3)]] (⟨[], []⟩) (.agg [.os 8 r.1.length, .d (D.int .i64 r.2.1), .d (D.int .i64 r.2.2)]) (⟨[], [(116, true, r.1)]⟩) := by
  rw [laws_toSurrealTerm] at h
  refine Ct.of (c := _) mixed func118 ⟨rfl, rfl, rfl⟩ ?_ rfl
  conv => whnf
  refine Pick.no ?_
  conv => whnf
  obtain ⟨y4, e5, h⟩ := bind_ex h
  refine CallOk.of (hrec_laws_toSurreal _ _ e5) ?_
  conv => whnf
  refine CutK.go ?_
  conv => whnf
  refine Pick.no ?_
  conv => whnf
  obtain ⟨y6, e7, h⟩ := bind_ex h
  refine CallOk.of (laws_toFraction_ct e7) ?_
  conv => whnf
  refine CutK.go ?_
  conv => whnf
  cases h
  exact Done.of [some 384] [] rfl rfl ⟨⟨rfl, rfl⟩, ⟨rfl, ⟨rfl, rfl, rows_same⟩, trivial⟩, ⟨⟨rfl, rfl⟩, rfl, rfl, trivial⟩, trivial⟩

def laws_toSurrealTermS_l0 (rec_laws_toSurreal : Rw → Option Rw) (a1 : Rw) (K0 : Rw → Option Rw) : Rw → Nat → Rw → Option Rw
  | [], v18n, v17 => (K0 v17)
  | cs :: rest, v18n, v17 => (cell_sii cs fun x48 x49 x50 => ((laws_toSurrealTerm rec_laws_toSurreal x48 x49 x50).bind fun y52 => (if 0 ≤ (v18n : Int) ∧ (v18n : Int) < (v17.length : Int) then (row_sii v17 (v18n : Int) fun x55 x56 x57 => (laws_toSurrealTermS_l0 rec_laws_toSurreal a1 K0 rest (v18n + 1) (v17.set (((v18n : Int) : Int).toNat) [D.sl y52.1, D.int .i64 y52.2.1, D.int .i64 y52.2.2]))) else none)))
set_option maxRecDepth 100000 in
theorem laws_toSurrealTermS_l0_ct {rec_laws_toSurreal : Rw → Option Rw} {a1 : Rw} {K0 : Rw → Option Rw} (hrec_laws_toSurreal : ∀ (a1 : Rw) (r : Rw), rec_laws_toSurreal a1 = some r → Ct prog 12 [.agg [.d (D.sl a1)]] (⟨[], []⟩) (.agg [.os 8 r.length]) (⟨[], [(116, true, r)]⟩)) {r : Rw} (hx : a1.length ≤ cap) : ∀ (rest : Rw) (v18n : Nat) (v17 : Rw), a1.drop v18n = rest → laws_toSurrealTermS_l0 rec_laws_toSurreal a1 K0 rest v18n v17 = some r → LoopOk prog 0 (lp f53 0) (mk 23 [(0, .d (D.sl a1)), (3, .os 64000 v17.length), (4, .d (D.int .i64 (v18n : Int)))] [(64000, .arr 116 true v17)]) (LoopEnd prog f53 0 23 (.os 8 r.length) (⟨[], [(116, true, r)]⟩) (fun i ts os => (i = 0 ∧ ∃ v33 : Rw, K0 v33 = some r ∧ ts = [(3, .os 67001 v33.length)] ∧ os = [(67001, .arr 116 true v33)])))
  | [], v18n, v17, hd, h => by
      rw [laws_toSurrealTermS_l0] at h
      have hn := drop_nil hd
      refine LoopOk.step ?_
      conv => whnf
      refine splD (fun g => absurd g hn) (fun _ => ?_)
      conv => whnf
      exact ⟨_, _, [some 64000], [], ⟨rfl, _, h, rfl, rfl⟩, ⟨⟨rfl, rfl⟩, ⟨rfl, ⟨rfl, rfl, rows_same⟩, trivial⟩, ⟨rfl, rfl⟩, trivial⟩⟩
  | cs :: rest, v18n, v17, hd, h => by
      rw [laws_toSurrealTermS_l0] at h
      obtain ⟨hrow, hd1, hlt⟩ := drop_cons hd
      refine LoopOk.step ?_
      conv => whnf
      refine splD (fun _ => ?_) (fun g => absurd hlt g)
      conv => whnf
      obtain ⟨x48, x49, x50, e51, h⟩ := cell_sii_ex h
      rw [e51] at hrow
      refine Req.of (Int.natCast_nonneg _) ?_
      refine Row.of _ hrow ?_
      conv => whnf
      refine Pick.no ?_
      conv => whnf
      obtain ⟨y52, e53, h⟩ := bind_ex h
      refine CallOk.of (laws_toSurrealTerm_ct hrec_laws_toSurreal e53) ?_
      conv => whnf
      obtain ⟨g54, h⟩ := req_ex h
      refine Req.of g54 ?_
      conv => whnf
      refine Take.all (rfl) ?_
      conv => whnf
      obtain ⟨g59, x55, x56, x57, e58, h⟩ := row_sii_ex h
      refine Row.of _ e58 ?_
      conv => whnf
      refine CutK.go ?_
      conv => whnf
      exact LoopOk.back (laws_toSurrealTermS_l0_ct hrec_laws_toSurreal hx rest (v18n + 1) _ hd1 h) [some 64000] [] ⟨⟨rfl, rfl⟩, ⟨rfl, ⟨rfl, rfl, rows_same⟩, trivial⟩, rfl, ⟨(by first | rfl | exact List.length_append.symm | (simp; done) | omega), rfl⟩, i64eq (wrap_up hlt hx), trivial⟩
def laws_toSurrealTermS (rec_laws_toSurreal : Rw → Option Rw) (a1 : Rw) : Option Rw :=
  (if 0 ≤ (a1.length : Int) ∧ (a1.length : Int) ≤ 1099511627776 then (if a1.length ≤ cap then (laws_toSurrealTermS_l0 rec_laws_toSurreal a1 (fun (v33 : Rw) => some v33) a1 0 (List.replicate ((a1.length : Int) : Int).toNat [D.sl ([]), D.int .i64 0, D.int .i64 0] : Rw)) else none) else none)
set_option maxHeartbeats 4000000 in
set_option maxRecDepth 100000 in
theorem laws_toSurrealTermS_ct {rec_laws_toSurreal : Rw → Option Rw} (hrec_laws_toSurreal : ∀ (a1 : Rw) (r : Rw), rec_laws_toSurreal a1 = some r → Ct prog 12 [.agg [.d (D.sl a1)]] (⟨[], []⟩) (.agg [.os 8 r.length]) (⟨[], [(116, true, r)]⟩)) {a1 : Rw} {r : Rw} (h : laws_toSurrealTermS rec_laws_toSurreal a1 = some r) : Ct prog 53 [.d (D.sl a1)] (⟨[], []⟩) (.os 8 r.length) (⟨[], [(116, true, r)]⟩) := by
  rw [laws_toSurrealTermS] at h
  refine Ct.of (c := _) mixed func53 ⟨rfl, rfl, rfl⟩ ?_ rfl
  conv => whnf
  obtain ⟨g2, h⟩ := req_ex h
  refine Req.of (makeRoom (b := 40) (by decide) g2) ?_
  conv => whnf
  obtain ⟨g60, h⟩ := req_ex h
  refine LoopOk.into (laws_toSurrealTermS_l0_ct hrec_laws_toSurreal g60 _ _ _ rfl h) [some 448] [] ⟨⟨rfl, rfl⟩, ⟨rfl, ⟨rfl, rfl, rows_same⟩, trivial⟩, rfl, ⟨(by first | rfl | exact List.length_append.symm | (simp; done) | omega), rfl⟩, rfl, trivial⟩ ?_ (fun _ hs => hs)
  rintro i ts os ⟨rfl, v33, h, rfl, rfl⟩
  conv => whnf
  refine CutK.go ?_
  conv => whnf
  cases h
  exact Done.of [some 67001] [] rfl rfl ⟨⟨rfl, rfl⟩, ⟨rfl, ⟨rfl, rfl, rows_same⟩, trivial⟩, ⟨rfl, rfl⟩, trivial⟩

def laws_toSurreal_b (rec_laws_toSurreal : Rw → Option Rw) (a1 : Rw) : Option Rw :=
  ((laws_toSurrealTermS rec_laws_toSurreal a1).bind fun y2 => some y2)
set_option maxHeartbeats 4000000 in
set_option maxRecDepth 100000 in
theorem laws_toSurreal_b_ct {rec_laws_toSurreal : Rw → Option Rw} (hrec_laws_toSurreal : ∀ (a1 : Rw) (r : Rw), rec_laws_toSurreal a1 = some r → Ct prog 12 [.agg [.d (D.sl a1)]] (⟨[], []⟩) (.agg [.os 8 r.length]) (⟨[], [(116, true, r)]⟩)) {a1 : Rw} {r : Rw} (h : laws_toSurreal_b rec_laws_toSurreal a1 = some r) : Ct prog 12 [.agg [.d (D.sl a1)]] (⟨[], []⟩) (.agg [.os 8 r.length]) (⟨[], [(116, true, r)]⟩) := by
  rw [laws_toSurreal_b] at h
  refine Ct.of (c := _) mixed func12 ⟨rfl, rfl, rfl⟩ ?_ rfl
  conv => whnf
  refine Pick.no ?_
  conv => whnf
  obtain ⟨y2, e3, h⟩ := bind_ex h
  refine CallOk.of (laws_toSurrealTermS_ct hrec_laws_toSurreal e3) ?_
  conv => whnf
  refine CutK.go ?_
  conv => whnf
  cases h
  exact Done.of [some 384] [] rfl rfl ⟨⟨rfl, rfl⟩, ⟨rfl, ⟨rfl, rfl, rows_same⟩, trivial⟩, ⟨⟨rfl, rfl⟩, trivial⟩, trivial⟩
def laws_toSurreal : Nat → Rw → Option Rw
  | 0, _ => none
  | k + 1, a1 => laws_toSurreal_b (laws_toSurreal k) a1
theorem laws_toSurreal_ct' : ∀ (k : Nat) (a1 : Rw) (r : Rw), laws_toSurreal k a1 = some r → Ct prog 12 [.agg [.d (D.sl a1)]] (⟨[], []⟩) (.agg [.os 8 r.length]) (⟨[], [(116, true, r)]⟩)
  | 0, _, _, h => by rw [laws_toSurreal] at h; cases h
  | k + 1, _, _, h => by rw [laws_toSurreal] at h; exact laws_toSurreal_b_ct (laws_toSurreal_ct' k) h
theorem laws_toSurreal_ct {k : Nat} {a1 : Rw} {r : Rw} (h : laws_toSurreal k a1 = some r) : Ct prog 12 [.agg [.d (D.sl a1)]] (⟨[], []⟩) (.agg [.os 8 r.length]) (⟨[], [(116, true, r)]⟩) := laws_toSurreal_ct' k _ _ h

def impl_in  (a1 : Int) (a2 : Int) (a3 : Int) : Option Bool :=
  (if a2 ≤ a1 then (if a1 ≤ a3 then some true else some false) else some false)
set_option maxHeartbeats 4000000 in
set_option maxRecDepth 100000 in
theorem impl_in_ct  {a1 : Int} {a2 : Int} {a3 : Int} {r : Bool} (h : impl_in a1 a2 a3 = some r) : Ct prog 120 [.d (D.int .i64 a1), .d (D.int .i64 a2), .d (D.int .i64 a3)] (⟨[], []⟩) (.d (D.bool r)) (⟨[], []⟩) := by
  rw [impl_in] at h
  refine Ct.of (c := _) mixed func120 ⟨rfl, rfl, rfl⟩ ?_ rfl
  conv => whnf
  refine splD (fun g4 => ?_) (fun g4 => ?_)
  · replace h := iteP h g4
    conv => whnf
    refine splD (fun g5 => ?_) (fun g5 => ?_)
    · replace h := iteP h g5
      conv => whnf
      cases h
      exact Done.of [] [] rfl rfl ⟨⟨rfl, rfl⟩, ⟨rfl, trivial⟩, rfl, trivial⟩
    · replace h := iteN h g5
      conv => whnf
      cases h
      exact Done.of [] [] rfl rfl ⟨⟨rfl, rfl⟩, ⟨rfl, trivial⟩, rfl, trivial⟩
  · replace h := iteN h g4
    conv => whnf
    cases h
    exact Done.of [] [] rfl rfl ⟨⟨rfl, rfl⟩, ⟨rfl, trivial⟩, rfl, trivial⟩

def impl_size  (a1 : Int) : Option Int :=
  some (if a1 < (IntKind.i64.wrap (0 - a1)) then IntKind.i64.wrap (0 - a1) else a1)
set_option maxHeartbeats 4000000 in
set_option maxRecDepth 100000 in
theorem impl_size_ct  {a1 : Int} {r : Int} (h : impl_size a1 = some r) : Ct prog 184 [.d (D.int .i64 a1)] (⟨[], []⟩) (.d (D.int .i64 r)) (⟨[], []⟩) := by
  rw [impl_size] at h
  refine Ct.of (c := _) mixed func184 ⟨rfl, rfl, rfl⟩ ?_ rfl
  conv => whnf
  cases h
  exact Done.of [] [] rfl rfl ⟨⟨rfl, rfl⟩, ⟨rfl, trivial⟩, rfl, trivial⟩

def impl_gcd_l0 (K0 : Int → Option Int) : Nat → Int → Int → Option Int
  | 0, _, _ => none
  | n + 1, v5, v6 => (if v6 = (0 : Int) then (K0 v5) else (if v6 ≠ 0 then (impl_gcd_l0 K0 n v6 (v5.tmod v6)) else none))
set_option maxRecDepth 100000 in
theorem impl_gcd_l0_ct {K0 : Int → Option Int} {r : Int} : ∀ (n : Nat) (v5 : Int) (v6 : Int), impl_gcd_l0 K0 n v5 v6 = some r → LoopOk prog 0 (lp f146 0) (mk 13 [(0, .d (D.int .i64 v5)), (1, .d (D.int .i64 v6))] []) (LoopEnd prog f146 0 13 (.d (D.int .i64 r)) (⟨[], []⟩) (fun i ts os => (i = 0 ∧ ∃ v9 : Int, K0 v9 = some r ∧ ts = [(0, .d (D.int .i64 v9))] ∧ os = [])))
  | 0, _, _, h => by
      rw [impl_gcd_l0] at h; cases h
  | n + 1, v5, v6, h => by
      rw [impl_gcd_l0] at h
      refine LoopOk.step ?_
      conv => whnf
      refine splN (fun g12 => ?_) (fun g12 => ?_)
      · replace h := iteN h g12
        conv => whnf
        obtain ⟨g13, h⟩ := req_ex h
        refine Req.of g13 ?_
        conv => whnf
        exact LoopOk.back (impl_gcd_l0_ct  n _ _ h) [] [] ⟨⟨rfl, rfl⟩, ⟨rfl, trivial⟩, rfl, rfl, trivial⟩
      · replace h := iteP h g12
        conv => whnf
        exact ⟨_, _, [], [], ⟨rfl, _, h, rfl, rfl⟩, ⟨⟨rfl, rfl⟩, ⟨rfl, trivial⟩, rfl, trivial⟩⟩
def impl_gcd (k : Nat) (a1 : Int) (a2 : Int) : Option Int :=
  (impl_gcd_l0 (fun (v9 : Int) => ((impl_size v9).bind fun y14 => some y14)) k a1 a2)
set_option maxHeartbeats 4000000 in
set_option maxRecDepth 100000 in
theorem impl_gcd_ct {k : Nat} {a1 : Int} {a2 : Int} {r : Int} (h : impl_gcd k a1 a2 = some r) : Ct prog 146 [.d (D.int .i64 a1), .d (D.int .i64 a2)] (⟨[], []⟩) (.d (D.int .i64 r)) (⟨[], []⟩) := by
  rw [impl_gcd] at h
  refine Ct.of (c := _) mixed func146 ⟨rfl, rfl, rfl⟩ ?_ rfl
  conv => whnf
  refine LoopOk.into (impl_gcd_l0_ct  _ _ _ h) [] [] ⟨⟨rfl, rfl⟩, ⟨rfl, trivial⟩, rfl, rfl, trivial⟩ ?_ (fun _ hs => hs)
  rintro i ts os ⟨rfl, v9, h, rfl, rfl⟩
  conv => whnf
  refine CutK.go ?_
  conv => whnf
  refine Pick.no ?_
  conv => whnf
  obtain ⟨y14, e15, h⟩ := bind_ex h
  refine CallOk.of (impl_size_ct e15) ?_
  conv => whnf
  refine CutK.go ?_
  conv => whnf
  cases h
  exact Done.of [] [] rfl rfl ⟨⟨rfl, rfl⟩, ⟨rfl, trivial⟩, rfl, trivial⟩

def impl_IsFraction (k : Nat) (a1 : Int) (a2 : Int) : Option Bool :=
  ((impl_in a2 1 1000000).bind fun y3 => (if y3 = true then ((impl_in a1 (-1000000) 1000000).bind fun y6 => (if y6 = true then ((impl_gcd k a1 a2).bind fun y9 => (if y9 = (1 : Int) then some true else some false)) else some false)) else some false))
set_option maxHeartbeats 4000000 in
set_option maxRecDepth 100000 in
theorem impl_IsFraction_ct {k : Nat} {a1 : Int} {a2 : Int} {r : Bool} (h : impl_IsFraction k a1 a2 = some r) : Ct prog 93 [.agg [.d (D.int .i64 a1), .d (D.int .i64 a2)]] (⟨[], []⟩) (.d (D.bool r)) (⟨[], []⟩) := by
  rw [impl_IsFraction] at h
  refine Ct.of (c := _) mixed func93 ⟨rfl, rfl, rfl⟩ ?_ rfl
  conv => whnf
  refine Pick.no ?_
  conv => whnf
  obtain ⟨y3, e4, h⟩ := bind_ex h
  refine CallOk.of (impl_in_ct e4) ?_
  conv => whnf
  refine spl (fun g5 => ?_) (fun g5 => ?_)
  · replace h := iteT h g5
    conv => whnf
    refine Pick.no ?_
    conv => whnf
    obtain ⟨y6, e7, h⟩ := bind_ex h
    refine CallOk.of (impl_in_ct e7) ?_
    conv => whnf
    refine spl (fun g8 => ?_) (fun g8 => ?_)
    · replace h := iteT h g8
      conv => whnf
      refine Pick.no ?_
      conv => whnf
      obtain ⟨y9, e10, h⟩ := bind_ex h
      refine CallOk.of (impl_gcd_ct e10) ?_
      conv => whnf
      refine splD (fun g11 => ?_) (fun g11 => ?_)
      · replace h := iteP h g11
        conv => whnf
        refine CutK.go ?_
        conv => whnf
        cases h
        exact Done.of [] [] rfl rfl ⟨⟨rfl, rfl⟩, ⟨rfl, trivial⟩, rfl, trivial⟩
      · replace h := iteN h g11
        conv => whnf
        refine CutK.go ?_
        conv => whnf
        cases h
        exact Done.of [] [] rfl rfl ⟨⟨rfl, rfl⟩, ⟨rfl, trivial⟩, rfl, trivial⟩
    · replace h := iteF h g8
      conv => whnf
      refine CutK.go ?_
      conv => whnf
      cases h
      exact Done.of [] [] rfl rfl ⟨⟨rfl, rfl⟩, ⟨rfl, trivial⟩, rfl, trivial⟩
  · replace h := iteF h g5
    conv => whnf
    refine CutK.go ?_
    conv => whnf
    cases h
    exact Done.of [] [] rfl rfl ⟨⟨rfl, rfl⟩, ⟨rfl, trivial⟩, rfl, trivial⟩

def impl_compare  (a1 : Int) (a2 : Int) : Option Int :=
  (if a1 < a2 then some (-1) else (if a2 < a1 then some 1 else some 0))
set_option maxHeartbeats 4000000 in
set_option maxRecDepth 100000 in
theorem impl_compare_ct  {a1 : Int} {a2 : Int} {r : Int} (h : impl_compare a1 a2 = some r) : Ct prog 166 [.d (D.int .i64 a1), .d (D.int .i64 a2)] (⟨[], []⟩) (.d (D.int .i64 r)) (⟨[], []⟩) := by
  rw [impl_compare] at h
  refine Ct.of (c := _) mixed func166 ⟨rfl, rfl, rfl⟩ ?_ rfl
  conv => whnf
  refine splD (fun g3 => ?_) (fun g3 => ?_)
  · replace h := iteP h g3
    conv => whnf
    cases h
    exact Done.of [] [] rfl rfl ⟨⟨rfl, rfl⟩, ⟨rfl, trivial⟩, rfl, trivial⟩
  · replace h := iteN h g3
    conv => whnf
    refine splD (fun g4 => ?_) (fun g4 => ?_)
    · replace h := iteP h g4
      conv => whnf
      cases h
      exact Done.of [] [] rfl rfl ⟨⟨rfl, rfl⟩, ⟨rfl, trivial⟩, rfl, trivial⟩
    · replace h := iteN h g4
      conv => whnf
      cases h
      exact Done.of [] [] rfl rfl ⟨⟨rfl, rfl⟩, ⟨rfl, trivial⟩, rfl, trivial⟩

def impl_cmpFractions  (a1 : Int) (a2 : Int) (a3 : Int) (a4 : Int) : Option Int :=
  ((impl_compare (IntKind.i64.wrap (a1 * a4)) (IntKind.i64.wrap (a3 * a2))).bind fun y5 => some y5)
set_option maxHeartbeats 4000000 in
set_option maxRecDepth 100000 in
theorem impl_cmpFractions_ct  {a1 : Int} {a2 : Int} {a3 : Int} {a4 : Int} {r : Int} (h : impl_cmpFractions a1 a2 a3 a4 = some r) : Ct prog 164 [.agg [.d (D.int .i64 a1), .d (D.int .i64 a2)], .agg [.d (D.int .i64 a3), .d (D.int .i64 a4)]] (⟨[], []⟩) (.d (D.int .i64 r)) (⟨[], []⟩) := by
  rw [impl_cmpFractions] at h
  refine Ct.of (c := _) mixed func164 ⟨rfl, rfl, rfl⟩ ?_ rfl
  conv => whnf
  refine Pick.no ?_
  conv => whnf
  obtain ⟨y5, e6, h⟩ := bind_ex h
  refine CallOk.of (impl_compare_ct e6) ?_
  conv => whnf
  refine CutK.go ?_
  conv => whnf
  cases h
  exact Done.of [] [] rfl rfl ⟨⟨rfl, rfl⟩, ⟨rfl, trivial⟩, rfl, trivial⟩

def impl_order_p2  : Option Int :=
  some 0
set_option maxHeartbeats 4000000 in
set_option maxRecDepth 100000 in
theorem impl_order_p2_ct  {r : Int} (h : impl_order_p2 = some r) : X prog 0 (tlF f121 2) (mk 86 [] []) (finK prog f121 0 (.d (D.int .i64 r)) (⟨[], []⟩)) := by
  rw [impl_order_p2] at h
  conv => whnf
  cases h
  exact Done.of [] [] rfl rfl ⟨⟨rfl, rfl⟩, ⟨rfl, trivial⟩, rfl, trivial⟩
def impl_order_l0 (rec_impl_order : Rw → Rw → Option Int) (a1 : Rw) (a2 : Rw) (K0 : Option Int) : Nat → Int → Option Int
  | 0, _ => none
  | n + 1, v211 => (if v211 < (a1.length : Int) then (if v211 = (a1.length : Int) then (row_sii a2 v211 fun x359 x360 x361 => ((impl_compare x360 0).bind fun y364 => some (IntKind.i64.wrap (0 - y364)))) else (if v211 = (a2.length : Int) then (row_sii a1 v211 fun x367 x368 x369 => ((impl_compare x368 0).bind fun y372 => some y372)) else (row_sii a1 v211 fun x374 x375 x376 => (row_sii a2 v211 fun x379 x380 x381 => ((rec_impl_order x374 x379).bind fun y384 => (if y384 = (1 : Int) then ((impl_compare x375 0).bind fun y387 => some y387) else (if y384 = ((-1) : Int) then ((impl_compare x380 0).bind fun y390 => some (IntKind.i64.wrap (0 - y390))) else ((impl_cmpFractions x375 x376 x380 x381).bind fun y392 => (if y392 = (0 : Int) then (impl_order_l0 rec_impl_order a1 a2 K0 n (IntKind.i64.wrap (v211 + 1))) else some y392))))))))) else (if v211 < (a2.length : Int) then (if v211 = (a1.length : Int) then (row_sii a2 v211 fun x397 x398 x399 => ((impl_compare x398 0).bind fun y402 => some (IntKind.i64.wrap (0 - y402)))) else (if v211 = (a2.length : Int) then (row_sii a1 v211 fun x405 x406 x407 => ((impl_compare x406 0).bind fun y410 => some y410)) else (row_sii a1 v211 fun x412 x413 x414 => (row_sii a2 v211 fun x417 x418 x419 => ((rec_impl_order x412 x417).bind fun y422 => (if y422 = (1 : Int) then ((impl_compare x413 0).bind fun y425 => some y425) else (if y422 = ((-1) : Int) then ((impl_compare x418 0).bind fun y428 => some (IntKind.i64.wrap (0 - y428))) else ((impl_cmpFractions x413 x414 x418 x419).bind fun y430 => (if y430 = (0 : Int) then (impl_order_l0 rec_impl_order a1 a2 K0 n (IntKind.i64.wrap (v211 + 1))) else some y430))))))))) else (K0)))
set_option maxRecDepth 100000 in
theorem impl_order_l0_ct {rec_impl_order : Rw → Rw → Option Int} {a1 : Rw} {a2 : Rw} {K0 : Option Int} (hrec_impl_order : ∀ (a1 : Rw) (a2 : Rw) (r : Int), rec_impl_order a1 a2 = some r → Ct prog 121 [.agg [.d (D.sl a1)], .agg [.d (D.sl a2)]] (⟨[], []⟩) (.d (D.int .i64 r)) (⟨[], []⟩)) {r : Int} : ∀ (n : Nat) (v211 : Int), impl_order_l0 rec_impl_order a1 a2 K0 n v211 = some r → LoopOk prog 0 (lp f121 0) (mk 86 [(2, .ptr 128 0), (3, .ptr 192 0), (5, .d (D.int .i64 v211))] [(128, .box 28 [.d (D.sl a1)]), (192, .box 28 [.d (D.sl a2)])]) (LoopEnd prog f121 0 86 (.d (D.int .i64 r)) (⟨[], []⟩) (fun i ts os => (i = 0 ∧ K0 = some r ∧ ts = [] ∧ os = [])))
  | 0, _, h => by
      rw [impl_order_l0] at h; cases h
  | n + 1, v211, h => by
      rw [impl_order_l0] at h
      refine LoopOk.step ?_
      conv => whnf
      refine splD (fun g357 => ?_) (fun g357 => ?_)
      · replace h := iteP h g357
        conv => whnf
        refine splD (fun g358 => ?_) (fun g358 => ?_)
        · replace h := iteP h g358
          conv => whnf
          obtain ⟨g363, x359, x360, x361, e362, h⟩ := row_sii_ex h
          refine Req.of g363 ?_
          refine Row.of _ e362 ?_
          conv => whnf
          refine Pick.no ?_
          conv => whnf
          obtain ⟨y364, e365, h⟩ := bind_ex h
          refine CallOk.of (impl_compare_ct e365) ?_
          conv => whnf
          refine CutK.norm [4] [] ?_
          conv => whnf
          cases h
          exact Done.of [] [] rfl rfl ⟨⟨rfl, rfl⟩, ⟨rfl, trivial⟩, rfl, trivial⟩
        · replace h := iteN h g358
          conv => whnf
          refine CutK.norm [2, 3, 5] [128, 192] ?_
          conv => whnf
          refine splD (fun g366 => ?_) (fun g366 => ?_)
          · replace h := iteP h g366
            conv => whnf
            obtain ⟨g371, x367, x368, x369, e370, h⟩ := row_sii_ex h
            refine Req.of g371 ?_
            refine Row.of _ e370 ?_
            conv => whnf
            refine Pick.no ?_
            conv => whnf
            obtain ⟨y372, e373, h⟩ := bind_ex h
            refine CallOk.of (impl_compare_ct e373) ?_
            conv => whnf
            refine CutK.norm [4] [] ?_
            conv => whnf
            cases h
            exact Done.of [] [] rfl rfl ⟨⟨rfl, rfl⟩, ⟨rfl, trivial⟩, rfl, trivial⟩
          · replace h := iteN h g366
            conv => whnf
            refine CutK.norm [2, 3, 5] [128, 192] ?_
            conv => whnf
            obtain ⟨g378, x374, x375, x376, e377, h⟩ := row_sii_ex h
            refine Req.of g378 ?_
            refine Row.of _ e377 ?_
            conv => whnf
            obtain ⟨g383, x379, x380, x381, e382, h⟩ := row_sii_ex h
            refine Req.of g383 ?_
            refine Row.of _ e382 ?_
            conv => whnf
            refine Pick.no ?_
            conv => whnf
            obtain ⟨y384, e385, h⟩ := bind_ex h
            refine CallOk.of (hrec_impl_order _ _ _ e385) ?_
            conv => whnf
            refine CutK.norm [2, 3, 5, 6, 7, 64] [128, 192, 384, 448] ?_
            conv => whnf
            refine splD (fun g386 => ?_) (fun g386 => ?_)
            · replace h := iteP h g386
              conv => whnf
              refine Pick.no ?_
              conv => whnf
              obtain ⟨y387, e388, h⟩ := bind_ex h
              refine CallOk.of (impl_compare_ct e388) ?_
              conv => whnf
              refine CutK.norm [4] [] ?_
              conv => whnf
              cases h
              exact Done.of [] [] rfl rfl ⟨⟨rfl, rfl⟩, ⟨rfl, trivial⟩, rfl, trivial⟩
            · replace h := iteN h g386
              conv => whnf
              refine splD (fun g389 => ?_) (fun g389 => ?_)
              · replace h := iteP h g389
                conv => whnf
                refine Pick.no ?_
                conv => whnf
                obtain ⟨y390, e391, h⟩ := bind_ex h
                refine CallOk.of (impl_compare_ct e391) ?_
                conv => whnf
                refine CutK.norm [4] [] ?_
                conv => whnf
                cases h
                exact Done.of [] [] rfl rfl ⟨⟨rfl, rfl⟩, ⟨rfl, trivial⟩, rfl, trivial⟩
              · replace h := iteN h g389
                conv => whnf
                refine CutK.norm [2, 3, 5, 6, 7] [128, 192, 384, 448] ?_
                conv => whnf
                refine Pick.no ?_
                conv => whnf
                obtain ⟨y392, e393, h⟩ := bind_ex h
                refine CallOk.of (impl_cmpFractions_ct e393) ?_
                conv => whnf
                refine CutK.norm [2, 3, 5, 8] [128, 192] ?_
                conv => whnf
                refine splN (fun g394 => ?_) (fun g394 => ?_)
                · replace h := iteN h g394
                  conv => whnf
                  cases h
                  exact Done.of [] [] rfl rfl ⟨⟨rfl, rfl⟩, ⟨rfl, trivial⟩, rfl, trivial⟩
                · replace h := iteP h g394
                  conv => whnf
                  refine CutK.norm [2, 3, 5] [128, 192] ?_
                  conv => whnf
                  exact LoopOk.back (impl_order_l0_ct hrec_impl_order n _ h) [some 128, some 192] [] ⟨⟨rfl, rfl⟩, ⟨rfl, ⟨rfl, rfl, trivial⟩, ⟨rfl, rfl, trivial⟩, trivial⟩, ⟨rfl, rfl⟩, ⟨rfl, rfl⟩, rfl, trivial⟩
      · replace h := iteN h g357
        conv => whnf
        refine splD (fun g395 => ?_) (fun g395 => ?_)
        · replace h := iteP h g395
          conv => whnf
          refine splD (fun g396 => ?_) (fun g396 => ?_)
          · replace h := iteP h g396
            conv => whnf
            obtain ⟨g401, x397, x398, x399, e400, h⟩ := row_sii_ex h
            refine Req.of g401 ?_
            refine Row.of _ e400 ?_
            conv => whnf
            refine Pick.no ?_
            conv => whnf
            obtain ⟨y402, e403, h⟩ := bind_ex h
            refine CallOk.of (impl_compare_ct e403) ?_
            conv => whnf
            refine CutK.norm [4] [] ?_
            conv => whnf
            cases h
            exact Done.of [] [] rfl rfl ⟨⟨rfl, rfl⟩, ⟨rfl, trivial⟩, rfl, trivial⟩
          · replace h := iteN h g396
            conv => whnf
            refine CutK.norm [2, 3, 5] [128, 192] ?_
            conv => whnf
            refine splD (fun g404 => ?_) (fun g404 => ?_)
            · replace h := iteP h g404
              conv => whnf
              obtain ⟨g409, x405, x406, x407, e408, h⟩ := row_sii_ex h
              refine Req.of g409 ?_
              refine Row.of _ e408 ?_
              conv => whnf
              refine Pick.no ?_
              conv => whnf
              obtain ⟨y410, e411, h⟩ := bind_ex h
              refine CallOk.of (impl_compare_ct e411) ?_
              conv => whnf
              refine CutK.norm [4] [] ?_
              conv => whnf
              cases h
              exact Done.of [] [] rfl rfl ⟨⟨rfl, rfl⟩, ⟨rfl, trivial⟩, rfl, trivial⟩
            · replace h := iteN h g404
              conv => whnf
              refine CutK.norm [2, 3, 5] [128, 192] ?_
              conv => whnf
              obtain ⟨g416, x412, x413, x414, e415, h⟩ := row_sii_ex h
              refine Req.of g416 ?_
              refine Row.of _ e415 ?_
              conv => whnf
              obtain ⟨g421, x417, x418, x419, e420, h⟩ := row_sii_ex h
              refine Req.of g421 ?_
              refine Row.of _ e420 ?_
              conv => whnf
              refine Pick.no ?_
              conv => whnf
              obtain ⟨y422, e423, h⟩ := bind_ex h
              refine CallOk.of (hrec_impl_order _ _ _ e423) ?_
              conv => whnf
              refine CutK.norm [2, 3, 5, 6, 7, 64] [128, 192, 384, 448] ?_
              conv => whnf
              refine splD (fun g424 => ?_) (fun g424 => ?_)
              · replace h := iteP h g424
                conv => whnf
                refine Pick.no ?_
                conv => whnf
                obtain ⟨y425, e426, h⟩ := bind_ex h
                refine CallOk.of (impl_compare_ct e426) ?_
                conv => whnf
                refine CutK.norm [4] [] ?_
                conv => whnf
                cases h
                exact Done.of [] [] rfl rfl ⟨⟨rfl, rfl⟩, ⟨rfl, trivial⟩, rfl, trivial⟩
              · replace h := iteN h g424
                conv => whnf
                refine splD (fun g427 => ?_) (fun g427 => ?_)
                · replace h := iteP h g427
                  conv => whnf
                  refine Pick.no ?_
                  conv => whnf
                  obtain ⟨y428, e429, h⟩ := bind_ex h
                  refine CallOk.of (impl_compare_ct e429) ?_
                  conv => whnf
                  refine CutK.norm [4] [] ?_
                  conv => whnf
                  cases h
                  exact Done.of [] [] rfl rfl ⟨⟨rfl, rfl⟩, ⟨rfl, trivial⟩, rfl, trivial⟩
                · replace h := iteN h g427
                  conv => whnf
                  refine CutK.norm [2, 3, 5, 6, 7] [128, 192, 384, 448] ?_
                  conv => whnf
                  refine Pick.no ?_
                  conv => whnf
                  obtain ⟨y430, e431, h⟩ := bind_ex h
                  refine CallOk.of (impl_cmpFractions_ct e431) ?_
                  conv => whnf
                  refine CutK.norm [2, 3, 5, 8] [128, 192] ?_
                  conv => whnf
                  refine splN (fun g432 => ?_) (fun g432 => ?_)
                  · replace h := iteN h g432
                    conv => whnf
                    cases h
                    exact Done.of [] [] rfl rfl ⟨⟨rfl, rfl⟩, ⟨rfl, trivial⟩, rfl, trivial⟩
                  · replace h := iteP h g432
                    conv => whnf
                    refine CutK.norm [2, 3, 5] [128, 192] ?_
                    conv => whnf
                    exact LoopOk.back (impl_order_l0_ct hrec_impl_order n _ h) [some 128, some 192] [] ⟨⟨rfl, rfl⟩, ⟨rfl, ⟨rfl, rfl, trivial⟩, ⟨rfl, rfl, trivial⟩, trivial⟩, ⟨rfl, rfl⟩, ⟨rfl, rfl⟩, rfl, trivial⟩
        · replace h := iteN h g395
          conv => whnf
          exact ⟨_, _, [], [], ⟨rfl, h, rfl, rfl⟩, ⟨⟨rfl, rfl⟩, ⟨rfl, trivial⟩, trivial⟩⟩
def impl_order_b (k : Nat) (rec_impl_order : Rw → Rw → Option Int) (a1 : Rw) (a2 : Rw) : Option Int :=
  (impl_order_l0 rec_impl_order a1 a2 (impl_order_p2) k 0)
set_option maxHeartbeats 4000000 in
set_option maxRecDepth 100000 in
theorem impl_order_b_ct {k : Nat} {rec_impl_order : Rw → Rw → Option Int} (hrec_impl_order : ∀ (a1 : Rw) (a2 : Rw) (r : Int), rec_impl_order a1 a2 = some r → Ct prog 121 [.agg [.d (D.sl a1)], .agg [.d (D.sl a2)]] (⟨[], []⟩) (.d (D.int .i64 r)) (⟨[], []⟩)) {a1 : Rw} {a2 : Rw} {r : Int} (h : impl_order_b k rec_impl_order a1 a2 = some r) : Ct prog 121 [.agg [.d (D.sl a1)], .agg [.d (D.sl a2)]] (⟨[], []⟩) (.d (D.int .i64 r)) (⟨[], []⟩) := by
  rw [impl_order_b] at h
  refine Ct.of (c := _) mixed func121 ⟨rfl, rfl, rfl⟩ ?_ rfl
  conv => whnf
  refine LoopOk.into (impl_order_l0_ct hrec_impl_order _ _ h) [some 128, some 192] [] ⟨⟨rfl, rfl⟩, ⟨rfl, ⟨rfl, rfl, trivial⟩, ⟨rfl, rfl, trivial⟩, trivial⟩, ⟨rfl, rfl⟩, ⟨rfl, rfl⟩, rfl, trivial⟩ ?_ (fun _ hs => hs)
  rintro i ts os ⟨rfl, h, rfl, rfl⟩
  conv => whnf
  exact CutK.piece (impl_order_p2_ct  h) [] [] ⟨⟨rfl, rfl⟩, ⟨rfl, trivial⟩, trivial⟩
def impl_order : Nat → Rw → Rw → Option Int
  | 0, _, _ => none
  | k + 1, a1, a2 => impl_order_b k (impl_order k) a1 a2
theorem impl_order_ct' : ∀ (k : Nat) (a1 : Rw) (a2 : Rw) (r : Int), impl_order k a1 a2 = some r → Ct prog 121 [.agg [.d (D.sl a1)], .agg [.d (D.sl a2)]] (⟨[], []⟩) (.d (D.int .i64 r)) (⟨[], []⟩)
  | 0, _, _, _, h => by rw [impl_order] at h; cases h
  | k + 1, _, _, _, h => by rw [impl_order] at h; exact impl_order_b_ct (impl_order_ct' k) h
theorem impl_order_ct {k : Nat} {a1 : Rw} {a2 : Rw} {r : Int} (h : impl_order k a1 a2 = some r) : Ct prog 121 [.agg [.d (D.sl a1)], .agg [.d (D.sl a2)]] (⟨[], []⟩) (.d (D.int .i64 r)) (⟨[], []⟩) := impl_order_ct' k _ _ _ h

def impl_surrealAt_2_p3 (o71 : Int) : Option (Bool × Int) :=
  some (true, o71)
set_option maxHeartbeats 4000000 in
set_option maxRecDepth 100000 in
theorem impl_surrealAt_2_p3_ct {o71 : Int} {r : Bool × Int} (h : impl_surrealAt_2_p3 o71 = some r) : X prog 1 (tlF f119 3) (mk 91 [] [(0, .box 3 [.d (D.int .i64 o71)])]) (finK prog f119 1 (.d (D.bool r.1)) (⟨[(3, [.d (D.int .i64 r.2)])], []⟩)) := by
  rw [impl_surrealAt_2_p3] at h
  conv => whnf
  cases h
  exact Done.of [some 0] [] rfl rfl ⟨⟨rfl, rfl⟩, ⟨rfl, ⟨rfl, rfl, trivial⟩, trivial⟩, rfl, trivial⟩
def impl_surrealAt_2_l0 (k : Nat) (rec_impl_surrealAt_2 : Rw → Int → Int → Int → Int → Option (Bool × Int)) (a1 : Rw) (a2 : Int) (a3 : Int) (a4 : Int) (K0 : Int → Option (Bool × Int)) : Rw → Nat → Int → Option (Bool × Int)
  | [], v88n, v89 => (K0 v89)
  | cs :: rest, v88n, v89 => (cell_sii cs fun x137 x138 x139 => (if (60 : Int) < (IntKind.i64.wrap (v89 + 1)) then some (false, IntKind.i64.wrap (v89 + 1)) else ((impl_IsFraction k x138 x139).bind fun y142 => (if y142 = true then (if x138 = (0 : Int) then some (false, IntKind.i64.wrap (v89 + 1)) else ((rec_impl_surrealAt_2 x137 x138 x139 (IntKind.i64.wrap (a4 + 1)) (IntKind.i64.wrap (v89 + 1))).bind fun y146 => (if y146.1 = true then (if (0 : Int) < (v88n : Int) then (row_sii a1 (IntKind.i64.wrap ((v88n : Int) - 1)) fun x150 x151 x152 => ((impl_order k x150 x137).bind fun y155 => (if y155 ≤ (0 : Int) then some (false, y146.2) else (impl_surrealAt_2_l0 k rec_impl_surrealAt_2 a1 a2 a3 a4 K0 rest (v88n + 1) y146.2)))) else (impl_surrealAt_2_l0 k rec_impl_surrealAt_2 a1 a2 a3 a4 K0 rest (v88n + 1) y146.2)) else some (false, y146.2)))) else some (false, IntKind.i64.wrap (v89 + 1))))))
set_option maxRecDepth 100000 in
theorem impl_surrealAt_2_l0_ct {k : Nat} {rec_impl_surrealAt_2 : Rw → Int → Int → Int → Int → Option (Bool × Int)} {a1 : Rw} {a2 : Int} {a3 : Int} {a4 : Int} {K0 : Int → Option (Bool × Int)} (hrec_impl_surrealAt_2 : ∀ (a1 : Rw) (a2 : Int) (a3 : Int) (a4 : Int) (a5 : Int) (r : Bool × Int), rec_impl_surrealAt_2 a1 a2 a3 a4 a5 = some r → Ct prog 119 [.dp [D.sl a1, D.int .i64 a2, D.int .i64 a3], .d (D.int .i64 a4), .ptr 0 0] (⟨[(3, [.d (D.int .i64 a5)])], []⟩) (.d (D.bool r.1)) (⟨[(3, [.d (D.int .i64 r.2)])], []⟩)) {r : Bool × Int} (hx : a1.length ≤ cap) : ∀ (rest : Rw) (v88n : Nat) (v89 : Int), a1.drop v88n = rest → impl_surrealAt_2_l0 k rec_impl_surrealAt_2 a1 a2 a3 a4 K0 rest v88n v89 = some r → LoopOk prog 1 (lp f119 0) (mk 91 [(0, .dp [D.sl a1, D.int .i64 a2, D.int .i64 a3]), (1, .d (D.int .i64 a4)), (2, .ptr 0 0), (26, .d (D.int .i64 (a1.length : Int))), (27, .d (D.int .i64 (v88n : Int)))] [(0, .box 3 [.d (D.int .i64 v89)])]) (LoopEnd prog f119 1 91 (.d (D.bool r.1)) (⟨[(3, [.d (D.int .i64 r.2)])], []⟩) (fun i ts os => (i = 0 ∧ ∃ v113 : Int, K0 v113 = some r ∧ ts = [] ∧ os = [(0, .box 3 [.d (D.int .i64 v113)])])))
  | [], v88n, v89, hd, h => by
      rw [impl_surrealAt_2_l0] at h
      have hn := drop_nil hd
      refine LoopOk.step ?_
      conv => whnf
      refine splD (fun g => absurd g hn) (fun _ => ?_)
      conv => whnf
      exact ⟨_, _, [some 0], [], ⟨rfl, _, h, rfl, rfl⟩, ⟨⟨rfl, rfl⟩, ⟨rfl, ⟨rfl, rfl, trivial⟩, trivial⟩, trivial⟩⟩
  | cs :: rest, v88n, v89, hd, h => by
      rw [impl_surrealAt_2_l0] at h
      obtain ⟨hrow, hd1, hlt⟩ := drop_cons hd
      refine LoopOk.step ?_
      conv => whnf
      refine splD (fun _ => ?_) (fun g => absurd hlt g)
      conv => whnf
      obtain ⟨x137, x138, x139, e140, h⟩ := cell_sii_ex h
      rw [e140] at hrow
      refine Req.of (Int.natCast_nonneg _) ?_
      refine Row.of _ hrow ?_
      conv => whnf
      refine splD (fun g141 => ?_) (fun g141 => ?_)
      · replace h := iteP h g141
        conv => whnf
        refine CutK.norm [0, 1, 2, 7, 8, 26, 27, 70] [0] ?_
        conv => whnf
        cases h
        exact Done.of [some 0] [] rfl rfl ⟨⟨rfl, rfl⟩, ⟨rfl, ⟨rfl, rfl, trivial⟩, trivial⟩, rfl, trivial⟩
      · replace h := iteN h g141
        conv => whnf
        refine Pick.no ?_
        conv => whnf
        obtain ⟨y142, e143, h⟩ := bind_ex h
        refine CallOk.of (impl_IsFraction_ct e143) ?_
        conv => whnf
        refine spl (fun g144 => ?_) (fun g144 => ?_)
        · replace h := iteT h g144
          conv => whnf
          refine splD (fun g145 => ?_) (fun g145 => ?_)
          · replace h := iteP h g145
            conv => whnf
            refine CutK.norm [0, 1, 2, 7, 8, 26, 27, 70] [0] ?_
            conv => whnf
            cases h
            exact Done.of [some 0] [] rfl rfl ⟨⟨rfl, rfl⟩, ⟨rfl, ⟨rfl, rfl, trivial⟩, trivial⟩, rfl, trivial⟩
          · replace h := iteN h g145
            conv => whnf
            refine Pick.no ?_
            conv => whnf
            obtain ⟨y146, e147, h⟩ := bind_ex h
            refine CallOk.of (hrec_impl_surrealAt_2 _ _ _ _ _ _ e147) ?_
            conv => whnf
            refine spl (fun g148 => ?_) (fun g148 => ?_)
            · replace h := iteT h g148
              conv => whnf
              refine CutK.norm [0, 1, 2, 7, 8, 26, 27, 70] [0] ?_
              conv => whnf
              refine CutK.norm [0, 1, 2, 7, 8, 26, 27] [0] ?_
              conv => whnf
              refine splD (fun g149 => ?_) (fun g149 => ?_)
              · replace h := iteP h g149
                conv => whnf
                obtain ⟨g154, x150, x151, x152, e153, h⟩ := row_sii_ex h
                refine Req.of g154 ?_
                refine Row.of _ e153 ?_
                conv => whnf
                refine Pick.no ?_
                conv => whnf
                obtain ⟨y155, e156, h⟩ := bind_ex h
                refine CallOk.of (impl_order_ct e156) ?_
                conv => whnf
                refine splD (fun g157 => ?_) (fun g157 => ?_)
                · replace h := iteP h g157
                  conv => whnf
                  refine CutK.norm [0, 1, 2, 26, 27, 89] [0] ?_
                  conv => whnf
                  cases h
                  exact Done.of [some 0] [] rfl rfl ⟨⟨rfl, rfl⟩, ⟨rfl, ⟨rfl, rfl, trivial⟩, trivial⟩, rfl, trivial⟩
                · replace h := iteN h g157
                  conv => whnf
                  refine CutK.norm [0, 1, 2, 26, 27, 89] [0] ?_
                  conv => whnf
                  refine CutK.norm [0, 1, 2, 26, 27] [0] ?_
                  conv => whnf
                  exact LoopOk.back (impl_surrealAt_2_l0_ct hrec_impl_surrealAt_2 hx rest (v88n + 1) _ hd1 h) [some 0] [] ⟨⟨rfl, rfl⟩, ⟨rfl, ⟨rfl, rfl, trivial⟩, trivial⟩, rfl, rfl, ⟨rfl, rfl⟩, rfl, i64eq (wrap_up hlt hx), trivial⟩
              · replace h := iteN h g149
                conv => whnf
                refine CutK.norm [0, 1, 2, 26, 27, 89] [0] ?_
                conv => whnf
                refine CutK.norm [0, 1, 2, 26, 27] [0] ?_
                conv => whnf
                exact LoopOk.back (impl_surrealAt_2_l0_ct hrec_impl_surrealAt_2 hx rest (v88n + 1) _ hd1 h) [some 0] [] ⟨⟨rfl, rfl⟩, ⟨rfl, ⟨rfl, rfl, trivial⟩, trivial⟩, rfl, rfl, ⟨rfl, rfl⟩, rfl, i64eq (wrap_up hlt hx), trivial⟩
            · replace h := iteF h g148
              conv => whnf
              refine CutK.norm [0, 1, 2, 7, 8, 26, 27, 70] [0] ?_
              conv => whnf
              cases h
              exact Done.of [some 0] [] rfl rfl ⟨⟨rfl, rfl⟩, ⟨rfl, ⟨rfl, rfl, trivial⟩, trivial⟩, rfl, trivial⟩
        · replace h := iteF h g144
          conv => whnf
          refine CutK.norm [0, 1, 2, 7, 8, 26, 27, 70] [0] ?_
          conv => whnf
          cases h
          exact Done.of [some 0] [] rfl rfl ⟨⟨rfl, rfl⟩, ⟨rfl, ⟨rfl, rfl, trivial⟩, trivial⟩, rfl, trivial⟩
def impl_surrealAt_2_b (k : Nat) (rec_impl_surrealAt_2 : Rw → Int → Int → Int → Int → Option (Bool × Int)) (a1 : Rw) (a2 : Int) (a3 : Int) (a4 : Int) (a5 : Int) : Option (Bool × Int) :=
  (if (60 : Int) < (IntKind.i64.wrap (a5 + 1)) then some (false, IntKind.i64.wrap (a5 + 1)) else (if (6 : Int) < a4 then some (false, IntKind.i64.wrap (a5 + 1)) else (if a1.length ≤ cap then (impl_surrealAt_2_l0 k rec_impl_surrealAt_2 a1 a2 a3 a4 (fun (v113 : Int) => (impl_surrealAt_2_p3 v113)) a1 0 (IntKind.i64.wrap (a5 + 1))) else none)))
set_option maxHeartbeats 4000000 in
set_option maxRecDepth 100000 in
theorem impl_surrealAt_2_b_ct {k : Nat} {rec_impl_surrealAt_2 : Rw → Int → Int → Int → Int → Option (Bool × Int)} (hrec_impl_surrealAt_2 : ∀ (a1 : Rw) (a2 : Int) (a3 : Int) (a4 : Int) (a5 : Int) (r : Bool × Int), rec_impl_surrealAt_2 a1 a2 a3 a4 a5 = some r → Ct prog 119 [.dp [D.sl a1, D.int .i64 a2, D.int .i64 a3], .d (D.int .i64 a4), .ptr 0 0] (⟨[(3, [.d (D.int .i64 a5)])], []⟩) (.d (D.bool r.1)) (⟨[(3, [.d (D.int .i64 r.2)])], []⟩)) {a1 : Rw} {a2 : Int} {a3 : Int} {a4 : Int} {a5 : Int} {r : Bool × Int} (h : impl_surrealAt_2_b k rec_impl_surrealAt_2 a1 a2 a3 a4 a5 = some r) : Ct prog 119 [.dp [D.sl a1, D.int .i64 a2, D.int .i64 a3], .d (D.int .i64 a4), .ptr 0 0] (⟨[(3, [.d (D.int .i64 a5)])], []⟩) (.d (D.bool r.1)) (⟨[(3, [.d (D.int .i64 r.2)])], []⟩) := by
  rw [impl_surrealAt_2_b] at h
  refine Ct.of (c := _) mixed func119 ⟨rfl, rfl, rfl⟩ ?_ rfl
  conv => whnf
  refine splD (fun g72 => ?_) (fun g72 => ?_)
  · replace h := iteP h g72
    conv => whnf
    cases h
    exact Done.of [some 0] [] rfl rfl ⟨⟨rfl, rfl⟩, ⟨rfl, ⟨rfl, rfl, trivial⟩, trivial⟩, rfl, trivial⟩
  · replace h := iteN h g72
    conv => whnf
    refine splD (fun g73 => ?_) (fun g73 => ?_)
    · replace h := iteP h g73
      conv => whnf
      cases h
      exact Done.of [some 0] [] rfl rfl ⟨⟨rfl, rfl⟩, ⟨rfl, ⟨rfl, rfl, trivial⟩, trivial⟩, rfl, trivial⟩
    · replace h := iteN h g73
      conv => whnf
      obtain ⟨g158, h⟩ := req_ex h
      refine LoopOk.into (impl_surrealAt_2_l0_ct hrec_impl_surrealAt_2 g158 _ _ _ rfl h) [some 0] [] ⟨⟨rfl, rfl⟩, ⟨rfl, ⟨rfl, rfl, trivial⟩, trivial⟩, rfl, rfl, ⟨rfl, rfl⟩, rfl, rfl, trivial⟩ ?_ (fun _ hs => hs)
      rintro i ts os ⟨rfl, v113, h, rfl, rfl⟩
      conv => whnf
      exact CutK.piece (impl_surrealAt_2_p3_ct  h) [some 0] [] ⟨⟨rfl, rfl⟩, ⟨rfl, ⟨rfl, rfl, trivial⟩, trivial⟩, trivial⟩
def impl_surrealAt_2 : Nat → Rw → Int → Int → Int → Int → Option (Bool × Int)
  | 0, _, _, _, _, _ => none
  | k + 1, a1, a2, a3, a4, a5 => impl_surrealAt_2_b k (impl_surrealAt_2 k) a1 a2 a3 a4 a5
theorem impl_surrealAt_2_ct' : ∀ (k : Nat) (a1 : Rw) (a2 : Int) (a3 : Int) (a4 : Int) (a5 : Int) (r : Bool × Int), impl_surrealAt_2 k a1 a2 a3 a4 a5 = some r → Ct prog 119 [.dp [D.sl a1, D.int .i64 a2, D.int .i64 a3], .d (D.int .i64 a4), .ptr 0 0] (⟨[(3, [.d (D.int .i64 a5)])], []⟩) (.d (D.bool r.1)) (⟨[(3, [.d (D.int .i64 r.2)])], []⟩)
  | 0, _, _, _, _, _, _, h => by rw [impl_surrealAt_2] at h; cases h
  | k + 1, _, _, _, _, _, _, h => by rw [impl_surrealAt_2] at h; exact impl_surrealAt_2_b_ct (impl_surrealAt_2_ct' k) h
theorem impl_surrealAt_2_ct {k : Nat} {a1 : Rw} {a2 : Int} {a3 : Int} {a4 : Int} {a5 : Int} {r : Bool × Int} (h : impl_surrealAt_2 k a1 a2 a3 a4 a5 = some r) : Ct prog 119 [.dp [D.sl a1, D.int .i64 a2, D.int .i64 a3], .d (D.int .i64 a4), .ptr 0 0] (⟨[(3, [.d (D.int .i64 a5)])], []⟩) (.d (D.bool r.1)) (⟨[(3, [.d (D.int .i64 r.2)])], []⟩) := impl_surrealAt_2_ct' k _ _ _ _ _ _ h

def impl_surrealAt_p3 (a1 : Rw) (o69 : Int) : Option (Bool × Rw × Int) :=
  some (true, a1, o69)
set_option maxHeartbeats 4000000 in
set_option maxRecDepth 100000 in
theorem impl_surrealAt_p3_ct {a1 : Rw} {o69 : Int} {r : Bool × Rw × Int} (h : impl_surrealAt_p3 a1 o69 = some r) : X prog 2 (tlF f119 3) (mk 91 [] [(0, .box 28 [.d (D.sl a1)]), (64, .box 3 [.d (D.int .i64 o69)])]) (finK prog f119 2 (.d (D.bool r.1)) (⟨[(28, [.d (D.sl r.2.1)]), (3, [.d (D.int .i64 r.2.2)])], []⟩)) := by
  rw [impl_surrealAt_p3] at h
  conv => whnf
  cases h
  exact Done.of [some 0, some 64] [] rfl rfl ⟨⟨rfl, rfl⟩, ⟨rfl, ⟨rfl, rfl, trivial⟩, ⟨rfl, rfl, trivial⟩, trivial⟩, rfl, trivial⟩
def impl_surrealAt_l0 (k : Nat) (a1 : Rw) (a2 : Int) (K0 : Int → Option (Bool × Rw × Int)) : Rw → Nat → Int → Option (Bool × Rw × Int)
  | [], v86n, v87 => (K0 v87)
  | cs :: rest, v86n, v87 => (cell_sii cs fun x135 x136 x137 => (if (60 : Int) < (IntKind.i64.wrap (v87 + 1)) then some (false, a1, IntKind.i64.wrap (v87 + 1)) else ((impl_IsFraction k x136 x137).bind fun y140 => (if y140 = true then (if x136 = (0 : Int) then some (false, a1, IntKind.i64.wrap (v87 + 1)) else ((impl_surrealAt_2 k x135 x136 x137 (IntKind.i64.wrap (a2 + 1)) (IntKind.i64.wrap (v87 + 1))).bind fun y144 => (if y144.1 = true then (if (0 : Int) < (v86n : Int) then (row_sii a1 (IntKind.i64.wrap ((v86n : Int) - 1)) fun x148 x149 x150 => ((impl_order k x148 x135).bind fun y153 => (if y153 ≤ (0 : Int) then some (false, a1, y144.2) else (impl_surrealAt_l0 k a1 a2 K0 rest (v86n + 1) y144.2)))) else (impl_surrealAt_l0 k a1 a2 K0 rest (v86n + 1) y144.2)) else some (false, a1, y144.2)))) else some (false, a1, IntKind.i64.wrap (v87 + 1))))))
set_option maxRecDepth 100000 in
theorem impl_surrealAt_l0_ct {k : Nat} {a1 : Rw} {a2 : Int} {K0 : Int → Option (Bool × Rw × Int)} {r : Bool × Rw × Int} (hx : a1.length ≤ cap) : ∀ (rest : Rw) (v86n : Nat) (v87 : Int), a1.drop v86n = rest → impl_surrealAt_l0 k a1 a2 K0 rest v86n v87 = some r → LoopOk prog 2 (lp f119 0) (mk 91 [(0, .ptr 0 0), (1, .d (D.int .i64 a2)), (2, .ptr 64 0), (26, .d (D.int .i64 (a1.length : Int))), (27, .d (D.int .i64 (v86n : Int)))] [(0, .box 28 [.d (D.sl a1)]), (64, .box 3 [.d (D.int .i64 v87)])]) (LoopEnd prog f119 2 91 (.d (D.bool r.1)) (⟨[(28, [.d (D.sl r.2.1)]), (3, [.d (D.int .i64 r.2.2)])], []⟩) (fun i ts os => (i = 0 ∧ ∃ v111 : Int, K0 v111 = some r ∧ ts = [] ∧ os = [(0, .box 28 [.d (D.sl a1)]), (64, .box 3 [.d (D.int .i64 v111)])])))
  | [], v86n, v87, hd, h => by
      rw [impl_surrealAt_l0] at h
      have hn := drop_nil hd
      refine LoopOk.step ?_
      conv => whnf
      refine splD (fun g => absurd g hn) (fun _ => ?_)
      conv => whnf
      exact ⟨_, _, [some 0, some 64], [], ⟨rfl, _, h, rfl, rfl⟩, ⟨⟨rfl, rfl⟩, ⟨rfl, ⟨rfl, rfl, trivial⟩, ⟨rfl, rfl, trivial⟩, trivial⟩, trivial⟩⟩
  | cs :: rest, v86n, v87, hd, h => by
      rw [impl_surrealAt_l0] at h
      obtain ⟨hrow, hd1, hlt⟩ := drop_cons hd
      refine LoopOk.step ?_
      conv => whnf
      refine splD (fun _ => ?_) (fun g => absurd hlt g)
      conv => whnf
      obtain ⟨x135, x136, x137, e138, h⟩ := cell_sii_ex h
      rw [e138] at hrow
      refine Req.of (Int.natCast_nonneg _) ?_
      refine Row.of _ hrow ?_
      conv => whnf
      refine splD (fun g139 => ?_) (fun g139 => ?_)
      · replace h := iteP h g139
        conv => whnf
        refine CutK.norm [0, 1, 2, 7, 8, 26, 27, 70] [0, 64] ?_
        conv => whnf
        cases h
        exact Done.of [some 0, some 64] [] rfl rfl ⟨⟨rfl, rfl⟩, ⟨rfl, ⟨rfl, rfl, trivial⟩, ⟨rfl, rfl, trivial⟩, trivial⟩, rfl, trivial⟩
      · replace h := iteN h g139
        conv => whnf
        refine Pick.no ?_
        conv => whnf
        obtain ⟨y140, e141, h⟩ := bind_ex h
        refine CallOk.of (impl_IsFraction_ct e141) ?_
        conv => whnf
        refine spl (fun g142 => ?_) (fun g142 => ?_)
        · replace h := iteT h g142
          conv => whnf
          refine splD (fun g143 => ?_) (fun g143 => ?_)
          · replace h := iteP h g143
            conv => whnf
            refine CutK.norm [0, 1, 2, 7, 8, 26, 27, 70] [0, 64] ?_
            conv => whnf
            cases h
            exact Done.of [some 0, some 64] [] rfl rfl ⟨⟨rfl, rfl⟩, ⟨rfl, ⟨rfl, rfl, trivial⟩, ⟨rfl, rfl, trivial⟩, trivial⟩, rfl, trivial⟩
          · replace h := iteN h g143
            conv => whnf
            refine Pick.no ?_
            conv => whnf
            obtain ⟨y144, e145, h⟩ := bind_ex h
            refine CallOk.of (impl_surrealAt_2_ct e145) ?_
            conv => whnf
            refine spl (fun g146 => ?_) (fun g146 => ?_)
            · replace h := iteT h g146
              conv => whnf
              refine CutK.norm [0, 1, 2, 7, 8, 26, 27, 70] [0, 64] ?_
              conv => whnf
              refine CutK.norm [0, 1, 2, 7, 8, 26, 27] [0, 64] ?_
              conv => whnf
              refine splD (fun g147 => ?_) (fun g147 => ?_)
              · replace h := iteP h g147
                conv => whnf
                obtain ⟨g152, x148, x149, x150, e151, h⟩ := row_sii_ex h
                refine Req.of g152 ?_
                refine Row.of _ e151 ?_
                conv => whnf
                refine Pick.no ?_
                conv => whnf
                obtain ⟨y153, e154, h⟩ := bind_ex h
                refine CallOk.of (impl_order_ct e154) ?_
                conv => whnf
                refine splD (fun g155 => ?_) (fun g155 => ?_)
                · replace h := iteP h g155
                  conv => whnf
                  refine CutK.norm [0, 1, 2, 26, 27, 89] [0, 64] ?_
                  conv => whnf
                  cases h
                  exact Done.of [some 0, some 64] [] rfl rfl ⟨⟨rfl, rfl⟩, ⟨rfl, ⟨rfl, rfl, trivial⟩, ⟨rfl, rfl, trivial⟩, trivial⟩, rfl, trivial⟩
                · replace h := iteN h g155
                  conv => whnf
                  refine CutK.norm [0, 1, 2, 26, 27, 89] [0, 64] ?_
                  conv => whnf
                  refine CutK.norm [0, 1, 2, 26, 27] [0, 64] ?_
                  conv => whnf
                  exact LoopOk.back (impl_surrealAt_l0_ct hx rest (v86n + 1) _ hd1 h) [some 0, some 64] [] ⟨⟨rfl, rfl⟩, ⟨rfl, ⟨rfl, rfl, trivial⟩, ⟨rfl, rfl, trivial⟩, trivial⟩, ⟨rfl, rfl⟩, rfl, ⟨rfl, rfl⟩, rfl, i64eq (wrap_up hlt hx), trivial⟩
              · replace h := iteN h g147
                conv => whnf
                refine CutK.norm [0, 1, 2, 26, 27, 89] [0, 64] ?_
                conv => whnf
                refine CutK.norm [0, 1, 2, 26, 27] [0, 64] ?_
                conv => whnf
                exact LoopOk.back (impl_surrealAt_l0_ct hx rest (v86n + 1) _ hd1 h) [some 0, some 64] [] ⟨⟨rfl, rfl⟩, ⟨rfl, ⟨rfl, rfl, trivial⟩, ⟨rfl, rfl, trivial⟩, trivial⟩, ⟨rfl, rfl⟩, rfl, ⟨rfl, rfl⟩, rfl, i64eq (wrap_up hlt hx), trivial⟩
            · replace h := iteF h g146
              conv => whnf
              refine CutK.norm [0, 1, 2, 7, 8, 26, 27, 70] [0, 64] ?_
              conv => whnf
              cases h
              exact Done.of [some 0, some 64] [] rfl rfl ⟨⟨rfl, rfl⟩, ⟨rfl, ⟨rfl, rfl, trivial⟩, ⟨rfl, rfl, trivial⟩, trivial⟩, rfl, trivial⟩
        · replace h := iteF h g142
          conv => whnf
          refine CutK.norm [0, 1, 2, 7, 8, 26, 27, 70] [0, 64] ?_
          conv => whnf
          cases h
          exact Done.of [some 0, some 64] [] rfl rfl ⟨⟨rfl, rfl⟩, ⟨rfl, ⟨rfl, rfl, trivial⟩, ⟨rfl, rfl, trivial⟩, trivial⟩, rfl, trivial⟩
def impl_surrealAt (k : Nat) (a1 : Rw) (a2 : Int) (a3 : Int) : Option (Bool × Rw × Int) :=
  (if (60 : Int) < (IntKind.i64.wrap (a3 + 1)) then some (false, a1, IntKind.i64.wrap (a3 + 1)) else (if (6 : Int) < a2 then some (false, a1, IntKind.i64.wrap (a3 + 1)) else (if a1.length ≤ cap then (impl_surrealAt_l0 k a1 a2 (fun (v111 : Int) => (impl_surrealAt_p3 a1 v111)) a1 0 (IntKind.i64.wrap (a3 + 1))) else none)))
set_option maxHeartbeats 4000000 in
set_option maxRecDepth 100000 in
theorem impl_surrealAt_ct {k : Nat} {a1 : Rw} {a2 : Int} {a3 : Int} {r : Bool × Rw × Int} (h : impl_surrealAt k a1 a2 a3 = some r) : Ct prog 119 [.ptr 0 0, .d (D.int .i64 a2), .ptr 64 0] (⟨[(28, [.d (D.sl a1)]), (3, [.d (D.int .i64 a3)])], []⟩) (.d (D.bool r.1)) (⟨[(28, [.d (D.sl r.2.1)]), (3, [.d (D.int .i64 r.2.2)])], []⟩) := by
  rw [impl_surrealAt] at h
  refine Ct.of (c := _) mixed func119 ⟨rfl, rfl, rfl⟩ ?_ rfl
  conv => whnf
  refine splD (fun g70 => ?_) (fun g70 => ?_)
  · replace h := iteP h g70
    conv => whnf
    cases h
    exact Done.of [some 0, some 64] [] rfl rfl ⟨⟨rfl, rfl⟩, ⟨rfl, ⟨rfl, rfl, trivial⟩, ⟨rfl, rfl, trivial⟩, trivial⟩, rfl, trivial⟩
  · replace h := iteN h g70
    conv => whnf
    refine splD (fun g71 => ?_) (fun g71 => ?_)
    · replace h := iteP h g71
      conv => whnf
      cases h
      exact Done.of [some 0, some 64] [] rfl rfl ⟨⟨rfl, rfl⟩, ⟨rfl, ⟨rfl, rfl, trivial⟩, ⟨rfl, rfl, trivial⟩, trivial⟩, rfl, trivial⟩
    · replace h := iteN h g71
      conv => whnf
      obtain ⟨g156, h⟩ := req_ex h
      refine LoopOk.into (impl_surrealAt_l0_ct  g156 _ _ _ rfl h) [some 0, some 64] [] ⟨⟨rfl, rfl⟩, ⟨rfl, ⟨rfl, rfl, trivial⟩, ⟨rfl, rfl, trivial⟩, trivial⟩, ⟨rfl, rfl⟩, rfl, ⟨rfl, rfl⟩, rfl, rfl, trivial⟩ ?_ (fun _ hs => hs)
      rintro i ts os ⟨rfl, v111, h, rfl, rfl⟩
      conv => whnf
      exact CutK.piece (impl_surrealAt_p3_ct  h) [some 0, some 64] [] ⟨⟨rfl, rfl⟩, ⟨rfl, ⟨rfl, rfl, trivial⟩, ⟨rfl, rfl, trivial⟩, trivial⟩, trivial⟩

def impl_IsSurreal (k : Nat) (a1 : Rw) : Option Bool :=
  ((impl_surrealAt k a1 0 0).bind fun y2 => (if y2.1 = true then some true else some false))
set_option maxHeartbeats 4000000 in
set_option maxRecDepth 100000 in
theorem impl_IsSurreal_ct {k : Nat} {a1 : Rw} {r : Bool} (h : impl_IsSurreal k a1 = some r) : Ct prog 54 [.agg [.d (D.sl a1)]] (⟨[], []⟩) (.d (D.bool r)) (⟨[], []⟩) := by
  rw [impl_IsSurreal] at h
  refine Ct.of (c := _) mixed func54 ⟨rfl, rfl, rfl⟩ ?_ rfl
  conv => whnf
  refine Pick.no ?_
  conv => whnf
  obtain ⟨y2, e3, h⟩ := bind_ex h
  refine CallOk.of (impl_surrealAt_ct e3) ?_
  conv => whnf
  refine spl (fun g4 => ?_) (fun g4 => ?_)
  · replace h := iteT h g4
    conv => whnf
    refine CutK.go ?_
    conv => whnf
    cases h
    exact Done.of [] [] rfl rfl ⟨⟨rfl, rfl⟩, ⟨rfl, trivial⟩, rfl, trivial⟩
  · replace h := iteF h g4
    conv => whnf
    refine CutK.go ?_
    conv => whnf
    cases h
    exact Done.of [] [] rfl rfl ⟨⟨rfl, rfl⟩, ⟨rfl, trivial⟩, rfl, trivial⟩

def impl_surreals (k : Nat) (a1 : Rw) (a2 : Rw) : Option Bool :=
  ((impl_IsSurreal k a1).bind fun y3 => (if y3 = true then ((impl_IsSurreal k a2).bind fun y6 => (if y6 = true then some true else some false)) else some false))
set_option maxHeartbeats 4000000 in
set_option maxRecDepth 100000 in
theorem impl_surreals_ct {k : Nat} {a1 : Rw} {a2 : Rw} {r : Bool} (h : impl_surreals k a1 a2 = some r) : Ct prog 69 [.agg [.d (D.sl a1)], .agg [.d (D.sl a2)]] (⟨[], []⟩) (.d (D.bool r)) (⟨[], []⟩) := by
  rw [impl_surreals] at h
  refine Ct.of (c := _) mixed func69 ⟨rfl, rfl, rfl⟩ ?_ rfl
  conv => whnf
  refine Pick.no ?_
  conv => whnf
  obtain ⟨y3, e4, h⟩ := bind_ex h
  refine CallOk.of (impl_IsSurreal_ct e4) ?_
  conv => whnf
  refine spl (fun g5 => ?_) (fun g5 => ?_)
  · replace h := iteT h g5
    conv => whnf
    refine Pick.no ?_
    conv => whnf
    obtain ⟨y6, e7, h⟩ := bind_ex h
    refine CallOk.of (impl_IsSurreal_ct e7) ?_
    conv => whnf
    refine spl (fun g8 => ?_) (fun g8 => ?_)
    · replace h := iteT h g8
      conv => whnf
      refine CutK.go ?_
      conv => whnf
      cases h
      exact Done.of [] [] rfl rfl ⟨⟨rfl, rfl⟩, ⟨rfl, trivial⟩, rfl, trivial⟩
    · replace h := iteF h g8
      conv => whnf
      refine CutK.go ?_
      conv => whnf
      cases h
      exact Done.of [] [] rfl rfl ⟨⟨rfl, rfl⟩, ⟨rfl, trivial⟩, rfl, trivial⟩
  · replace h := iteF h g5
    conv => whnf
    refine CutK.go ?_
    conv => whnf
    cases h
    exact Done.of [] [] rfl rfl ⟨⟨rfl, rfl⟩, ⟨rfl, trivial⟩, rfl, trivial⟩

def impl_isNothing  (a1 : Rw) : Option Bool :=
  (if (a1.length : Int) = (0 : Int) then some true else some false)
set_option maxHeartbeats 4000000 in
set_option maxRecDepth 100000 in
theorem impl_isNothing_ct  {a1 : Rw} {r : Bool} (h : impl_isNothing a1 = some r) : Ct prog 70 [.agg [.d (D.sl a1)]] (⟨[], []⟩) (.d (D.bool r)) (⟨[], []⟩) := by
  rw [impl_isNothing] at h
  refine Ct.of (c := _) mixed func70 ⟨rfl, rfl, rfl⟩ ?_ rfl
  conv => whnf
  refine splD (fun g2 => ?_) (fun g2 => ?_)
  · replace h := iteP h g2
    conv => whnf
    cases h
    exact Done.of [] [] rfl rfl ⟨⟨rfl, rfl⟩, ⟨rfl, trivial⟩, rfl, trivial⟩
  · replace h := iteN h g2
    conv => whnf
    cases h
    exact Done.of [] [] rfl rfl ⟨⟨rfl, rfl⟩, ⟨rfl, trivial⟩, rfl, trivial⟩

def impl_stepsOk  (a1 : Int) : Option Bool :=
  ((impl_in a1 0 12).bind fun y2 => (if y2 = true then some true else some false))
set_option maxHeartbeats 4000000 in
set_option maxRecDepth 100000 in
theorem impl_stepsOk_ct  {a1 : Int} {r : Bool} (h : impl_stepsOk a1 = some r) : Ct prog 55 [.d (D.int .i64 a1)] (⟨[], []⟩) (.d (D.bool r)) (⟨[], []⟩) := by
  rw [impl_stepsOk] at h
  refine Ct.of (c := _) mixed func55 ⟨rfl, rfl, rfl⟩ ?_ rfl
  conv => whnf
  refine Pick.no ?_
  conv => whnf
  obtain ⟨y2, e3, h⟩ := bind_ex h
  refine CallOk.of (impl_in_ct e3) ?_
  conv => whnf
  refine spl (fun g4 => ?_) (fun g4 => ?_)
  · replace h := iteT h g4
    conv => whnf
    refine CutK.go ?_
    conv => whnf
    cases h
    exact Done.of [] [] rfl rfl ⟨⟨rfl, rfl⟩, ⟨rfl, trivial⟩, rfl, trivial⟩
  · replace h := iteF h g4
    conv => whnf
    refine CutK.go ?_
    conv => whnf
    cases h
    exact Done.of [] [] rfl rfl ⟨⟨rfl, rfl⟩, ⟨rfl, trivial⟩, rfl, trivial⟩

def impl_negative_l0 (a1 : Rw) (K0 : Rw → Option Rw) : Rw → Rw → Option Rw
  | [], v9 => (K0 v9)
  | cs :: rest, v9 => (cell_sii cs fun x25 x26 x27 => (if v9.length + 1 ≤ cap then (impl_negative_l0 a1 K0 rest (v9 ++ ([[D.sl x25, D.int .i64 (IntKind.i64.wrap (0 - x26)), D.int .i64 x27]]))) else none))
set_option maxRecDepth 100000 in
theorem impl_negative_l0_ct {a1 : Rw} {K0 : Rw → Option Rw} {r : Rw} (hx : a1.length ≤ cap) : ∀ (rest : Rw) (v8n : Nat) (v9 : Rw), a1.drop v8n = rest → impl_negative_l0 a1 K0 rest v9 = some r → LoopOk prog 0 (lp f192 0) (mk 32 [(2, .ptr 128 0), (3, .ptr 192 0), (8, .d (D.sl a1)), (9, .d (D.int .i64 (a1.length : Int))), (10, .d (D.int .i64 (v8n : Int)))] [(128, .box 28 [.es]), (192, .box 28 [.os 64000 v9.length]), (64000, .arr 116 false v9)]) (LoopEnd prog f192 0 32 (.agg [.os 8 r.length]) (⟨[], [(116, false, r)]⟩) (fun i ts os => (i = 0 ∧ ∃ v17 : Rw, K0 v17 = some r ∧ ts = [(2, .ptr 128 0), (3, .ptr 192 0)] ∧ os = [(128, .box 28 [.es]), (192, .box 28 [.os 67001 v17.length]), (67001, .arr 116 false v17)])))
  | [], v8n, v9, hd, h => by
      rw [impl_negative_l0] at h
      have hn := drop_nil hd
      refine LoopOk.step ?_
      conv => whnf
      refine splD (fun g => absurd g hn) (fun _ => ?_)
      conv => whnf
      exact ⟨_, _, [some 128, some 192, some 64000], [], ⟨rfl, _, h, rfl, rfl⟩, ⟨⟨rfl, rfl⟩, ⟨rfl, ⟨rfl, trivial, trivial⟩, ⟨rfl, ⟨rfl, rfl⟩, trivial⟩, ⟨rfl, rfl, rows_same⟩, trivial⟩, ⟨rfl, rfl⟩, ⟨rfl, rfl⟩, trivial⟩⟩
  | cs :: rest, v8n, v9, hd, h => by
      rw [impl_negative_l0] at h
      obtain ⟨hrow, hd1, hlt⟩ := drop_cons hd
      refine LoopOk.step ?_
      conv => whnf
      refine splD (fun _ => ?_) (fun g => absurd hlt g)
      conv => whnf
      obtain ⟨x25, x26, x27, e28, h⟩ := cell_sii_ex h
      rw [e28] at hrow
      refine Req.of (Int.natCast_nonneg _) ?_
      refine Row.of _ hrow ?_
      conv => whnf
      refine Take.all (rfl) ?_
      conv => whnf
      refine Take.all (by first | rfl | exact List.length_append.symm | (simp; done) | omega) ?_
      conv => whnf
      obtain ⟨g29, h⟩ := req_ex h
      refine Req.of (room (b := 40) (by decide) g29 (wide1 rfl wide0)) ?_
      conv => whnf
      exact LoopOk.back (impl_negative_l0_ct hx rest (v8n + 1) _ hd1 h) [some 128, some 192, some 1792] [] ⟨⟨rfl, rfl⟩, ⟨rfl, ⟨rfl, trivial, trivial⟩, ⟨rfl, ⟨(by first | rfl | exact List.length_append.symm | (simp; done) | omega), rfl⟩, trivial⟩, ⟨rfl, rfl, rows_same⟩, trivial⟩, ⟨rfl, rfl⟩, ⟨rfl, rfl⟩, rfl, rfl, i64eq (wrap_up hlt hx), trivial⟩
def impl_negative  (a1 : Rw) : Option Rw :=
  (if a1.length ≤ cap then (impl_negative_l0 a1 (fun (v17 : Rw) => some v17) a1 ([] : Rw)) else none)
set_option maxHeartbeats 4000000 in
set_option maxRecDepth 100000 in
theorem impl_negative_ct  {a1 : Rw} {r : Rw} (h : impl_negative a1 = some r) : Ct prog 192 [.agg [.d (D.sl a1)]] (⟨[], []⟩) (.agg [.os 8 r.length]) (⟨[], [(116, false, r)]⟩) := by
  rw [impl_negative] at h
  refine Ct.of (c := _) mixed func192 ⟨rfl, rfl, rfl⟩ ?_ rfl
  conv => whnf
  obtain ⟨g30, h⟩ := req_ex h
  refine LoopOk.into (impl_negative_l0_ct  g30 _ _ _ rfl h) [some 128, some 192, none] [] ⟨⟨rfl, rfl⟩, ⟨rfl, ⟨rfl, trivial, trivial⟩, ⟨rfl, ⟨rfl, rfl⟩, trivial⟩, rfl, trivial⟩, ⟨rfl, rfl⟩, ⟨rfl, rfl⟩, rfl, rfl, rfl, trivial⟩ ?_ (fun _ hs => hs)
  rintro i ts os ⟨rfl, v17, h, rfl, rfl⟩
  conv => whnf
  refine CutK.norm [2, 3] [128, 192, 67001] ?_
  conv => whnf
  cases h
  exact Done.of [some 67001] [] rfl rfl ⟨⟨rfl, rfl⟩, ⟨rfl, ⟨rfl, rfl, rows_same⟩, trivial⟩, ⟨⟨rfl, rfl⟩, trivial⟩, trivial⟩

def impl_AddFractions_1  (a1 : Int) (a2 : Int) (a3 : Int) (a4 : Int) : Option (Int × Int × Int × Int × Int × Int) :=
  some (IntKind.i64.wrap ((IntKind.i64.wrap (a1 * a4)) + (IntKind.i64.wrap (a3 * a2))), IntKind.i64.wrap (a2 * a4), a1, a2, a3, a4)
set_option maxHeartbeats 4000000 in
set_option maxRecDepth 100000 in
theorem impl_AddFractions_1_ct  {a1 : Int} {a2 : Int} {a3 : Int} {a4 : Int} {r : Int × Int × Int × Int × Int × Int} (h : impl_AddFractions_1 a1 a2 a3 a4 = some r) : Ct prog 186 [.ptr 0 0, .ptr 64 0] (⟨[(61, [.d (D.int .i64 a1), .d (D.int .i64 a2)]), (61, [.d (D.int .i64 a3), .d (D.int .i64 a4)])], []⟩) (.tup [.d (D.int .i64 r.1), .d (D.int .i64 r.2.1)]) (⟨[(61, [.d (D.int .i64 r.2.2.1), .d (D.int .i64 r.2.2.2.1)]), (61, [.d (D.int .i64 r.2.2.2.2.1), .d (D.int .i64 r.2.2.2.2.2)])], []⟩) := by
  rw [impl_AddFractions_1] at h
  refine Ct.of (c := _) mixed func186 ⟨rfl, rfl, rfl⟩ ?_ rfl
  conv => whnf
  cases h
  exact Done.of [some 0, some 64] [] rfl rfl ⟨⟨rfl, rfl⟩, ⟨rfl, ⟨rfl, rfl, rfl, trivial⟩, ⟨rfl, rfl, rfl, trivial⟩, trivial⟩, ⟨rfl, rfl, trivial⟩, trivial⟩

def impl_made (k : Nat) (a1 : Int) (a2 : Int) : Option (Int × Int × Bool) :=
  (if a2 = (0 : Int) then some (0, 0, false) else ((impl_gcd k a1 a2).bind fun y4 => (if a2 < (0 : Int) then (if (IntKind.i64.wrap (0 - y4)) ≠ 0 then ((impl_IsFraction k (IntKind.i64.wrap (a1.tdiv (IntKind.i64.wrap (0 - y4)))) (IntKind.i64.wrap (a2.tdiv (IntKind.i64.wrap (0 - y4))))).bind fun y8 => (if y8 = true then some (IntKind.i64.wrap (a1.tdiv (IntKind.i64.wrap (0 - y4))), IntKind.i64.wrap (a2.tdiv (IntKind.i64.wrap (0 - y4))), true) else some (0, 0, false))) else none) else (if y4 ≠ 0 then ((impl_IsFraction k (IntKind.i64.wrap (a1.tdiv y4)) (IntKind.i64.wrap (a2.tdiv y4))).bind fun y12 => (if y12 = true then some (IntKind.i64.wrap (a1.tdiv y4), IntKind.i64.wrap (a2.tdiv y4), true) else some (0, 0, false))) else none))))
set_option maxHeartbeats 4000000 in
set_option maxRecDepth 100000 in
theorem impl_made_ct {k : Nat} {a1 : Int} {a2 : Int} {r : Int × Int × Bool} (h : impl_made k a1 a2 = some r) : Ct prog 189 [.d (D.int .i64 a1), .d (D.int .i64 a2)] (⟨[], []⟩) (.tup [.agg [.d (D.int .i64 r.1), .d (D.int .i64 r.2.1)], .d (D.bool r.2.2)]) (⟨[], []⟩) := by
  rw [impl_made] at h
  refine Ct.of (c := _) mixed func189 ⟨rfl, rfl, rfl⟩ ?_ rfl
  conv => whnf
  refine splD (fun g3 => ?_) (fun g3 => ?_)
  · replace h := iteP h g3
    conv => whnf
    cases h
    exact Done.of [] [] rfl rfl ⟨⟨rfl, rfl⟩, ⟨rfl, trivial⟩, ⟨⟨rfl, rfl, trivial⟩, rfl, trivial⟩, trivial⟩
  · replace h := iteN h g3
    conv => whnf
    refine Pick.no ?_
    conv => whnf
    obtain ⟨y4, e5, h⟩ := bind_ex h
    refine CallOk.of (impl_gcd_ct e5) ?_
    conv => whnf
    refine CutK.go ?_
    conv => whnf
    refine splD (fun g6 => ?_) (fun g6 => ?_)
    · replace h := iteP h g6
      conv => whnf
      obtain ⟨g7, h⟩ := req_ex h
      refine Req.of g7 ?_
      conv => whnf
      refine Req.of g7 ?_
      conv => whnf
      refine Pick.no ?_
      conv => whnf
      obtain ⟨y8, e9, h⟩ := bind_ex h
      refine CallOk.of (impl_IsFraction_ct e9) ?_
      conv => whnf
      refine spl (fun g10 => ?_) (fun g10 => ?_)
      · replace h := iteT h g10
        conv => whnf
        refine CutK.go ?_
        conv => whnf
        refine CutK.go ?_
        conv => whnf
        cases h
        exact Done.of [] [] rfl rfl ⟨⟨rfl, rfl⟩, ⟨rfl, trivial⟩, ⟨⟨rfl, rfl, trivial⟩, rfl, trivial⟩, trivial⟩
      · replace h := iteF h g10
        conv => whnf
        refine CutK.go ?_
        conv => whnf
        cases h
        exact Done.of [] [] rfl rfl ⟨⟨rfl, rfl⟩, ⟨rfl, trivial⟩, ⟨⟨rfl, rfl, trivial⟩, rfl, trivial⟩, trivial⟩
    · replace h := iteN h g6
      conv => whnf
      obtain ⟨g11, h⟩ := req_ex h
      refine Req.of g11 ?_
      conv => whnf
      refine Req.of g11 ?_
      conv => whnf
      refine Pick.no ?_
      conv => whnf
      obtain ⟨y12, e13, h⟩ := bind_ex h
      refine CallOk.of (impl_IsFraction_ct e13) ?_
      conv => whnf
      refine spl (fun g14 => ?_) (fun g14 => ?_)
      · replace h := iteT h g14
        conv => whnf
        refine CutK.go ?_
        conv => whnf
        refine CutK.go ?_
        conv => whnf
        cases h
        exact Done.of [] [] rfl rfl ⟨⟨rfl, rfl⟩, ⟨rfl, trivial⟩, ⟨⟨rfl, rfl, trivial⟩, rfl, trivial⟩, trivial⟩
      · replace h := iteF h g14
        conv => whnf
        refine CutK.go ?_
        conv => whnf
        cases h
        exact Done.of [] [] rfl rfl ⟨⟨rfl, rfl⟩, ⟨rfl, trivial⟩, ⟨⟨rfl, rfl, trivial⟩, rfl, trivial⟩, trivial⟩

def impl_two__AddFractions_1 (k : Nat) (a1 : Int) (a2 : Int) (a3 : Int) (a4 : Int) (a5 : Int) (a6 : Int) (a7 : Int) (a8 : Int) : Option (Int × Int × Bool × Int × Int × Int × Int) :=
  ((impl_IsFraction k a1 a2).bind fun y9 => (if y9 = true then ((impl_IsFraction k a3 a4).bind fun y12 => (if y12 = true then ((impl_AddFractions_1 a5 a6 a7 a8).bind fun y15 => ((impl_made k y15.1 y15.2.1).bind fun y17 => (if y17.2.2 = true then some (y17.1, y17.2.1, true, y15.2.2.1, y15.2.2.2.1, y15.2.2.2.2.1, y15.2.2.2.2.2) else some (y17.1, y17.2.1, false, y15.2.2.1, y15.2.2.2.1, y15.2.2.2.2.1, y15.2.2.2.2.2)))) else some (0, 0, false, a5, a6, a7, a8))) else some (0, 0, false, a5, a6, a7, a8)))
set_option maxHeartbeats 4000000 in
set_option maxRecDepth 100000 in
theorem impl_two__AddFractions_1_ct {k : Nat} {a1 : Int} {a2 : Int} {a3 : Int} {a4 : Int} {a5 : Int} {a6 : Int} {a7 : Int} {a8 : Int} {r : Int × Int × Bool × Int × Int × Int × Int} (h : impl_two__AddFractions_1 k a1 a2 a3 a4 a5 a6 a7 a8 = some r) : Ct prog 178 [.agg [.d (D.int .i64 a1), .d (D.int .i64 a2)], .agg [.d (D.int .i64 a3), .d (D.int .i64 a4)], .fn 186 [.ptr 0 0, .ptr 64 0]] (⟨[(61, [.d (D.int .i64 a5), .d (D.int .i64 a6)]), (61, [.d (D.int .i64 a7), .d (D.int .i64 a8)])], []⟩) (.tup [.agg [.d (D.int .i64 r.1), .d (D.int .i64 r.2.1)], .d (D.bool r.2.2.1)]) (⟨[(61, [.d (D.int .i64 r.2.2.2.1), .d (D.int .i64 r.2.2.2.2.1)]), (61, [.d (D.int .i64 r.2.2.2.2.2.1), .d (D.int .i64 r.2.2.2.2.2.2)])], []⟩) := by
  rw [impl_two__AddFractions_1] at h
  refine Ct.of (c := _) mixed func178 ⟨rfl, rfl, rfl⟩ ?_ rfl
  conv => whnf
  refine Pick.no ?_
  conv => whnf
  obtain ⟨y9, e10, h⟩ := bind_ex h
  refine CallOk.of (impl_IsFraction_ct e10) ?_
  conv => whnf
  refine spl (fun g11 => ?_) (fun g11 => ?_)
  · replace h := iteT h g11
    conv => whnf
    refine Pick.no ?_
    conv => whnf
    obtain ⟨y12, e13, h⟩ := bind_ex h
    refine CallOk.of (impl_IsFraction_ct e13) ?_
    conv => whnf
    refine spl (fun g14 => ?_) (fun g14 => ?_)
    · replace h := iteT h g14
      conv => whnf
      refine CutK.go ?_
      conv => whnf
      refine CutK.go ?_
      conv => whnf
      refine Pick.no ?_
      conv => whnf
      obtain ⟨y15, e16, h⟩ := bind_ex h
      refine CallOk.of (impl_AddFractions_1_ct e16) ?_
      conv => whnf
      refine Pick.no ?_
      conv => whnf
      obtain ⟨y17, e18, h⟩ := bind_ex h
      refine CallOk.of (impl_made_ct e18) ?_
      conv => whnf
      refine spl (fun g19 => ?_) (fun g19 => ?_)
      · replace h := iteT h g19
        conv => whnf
        refine CutK.go ?_
        conv => whnf
        cases h
        exact Done.of [some 0, some 64] [] rfl rfl ⟨⟨rfl, rfl⟩, ⟨rfl, ⟨rfl, rfl, rfl, trivial⟩, ⟨rfl, rfl, rfl, trivial⟩, trivial⟩, ⟨⟨rfl, rfl, trivial⟩, rfl, trivial⟩, trivial⟩
      · replace h := iteF h g19
        conv => whnf
        refine CutK.go ?_
        conv => whnf
        cases h
        exact Done.of [some 0, some 64] [] rfl rfl ⟨⟨rfl, rfl⟩, ⟨rfl, ⟨rfl, rfl, rfl, trivial⟩, ⟨rfl, rfl, rfl, trivial⟩, trivial⟩, ⟨⟨rfl, rfl, trivial⟩, rfl, trivial⟩, trivial⟩
    · replace h := iteF h g14
      conv => whnf
      refine CutK.go ?_
      conv => whnf
      cases h
      exact Done.of [some 0, some 64] [] rfl rfl ⟨⟨rfl, rfl⟩, ⟨rfl, ⟨rfl, rfl, rfl, trivial⟩, ⟨rfl, rfl, rfl, trivial⟩, trivial⟩, ⟨⟨rfl, rfl, trivial⟩, rfl, trivial⟩, trivial⟩
  · replace h := iteF h g11
    conv => whnf
    refine CutK.go ?_
    conv => whnf
    cases h
    exact Done.of [some 0, some 64] [] rfl rfl ⟨⟨rfl, rfl⟩, ⟨rfl, ⟨rfl, rfl, rfl, trivial⟩, ⟨rfl, rfl, rfl, trivial⟩, trivial⟩, ⟨⟨rfl, rfl, trivial⟩, rfl, trivial⟩, trivial⟩

def impl_AddFractions (k : Nat) (a1 : Int) (a2 : Int) (a3 : Int) (a4 : Int) : Option (Int × Int × Bool) :=
  ((impl_two__AddFractions_1 k a1 a2 a3 a4 a1 a2 a3 a4).bind fun y5 => (if y5.2.2.1 = true then some (y5.1, y5.2.1, true) else some (y5.1, y5.2.1, false)))
set_option maxHeartbeats 4000000 in
set_option maxRecDepth 100000 in
theorem impl_AddFractions_ct {k : Nat} {a1 : Int} {a2 : Int} {a3 : Int} {a4 : Int} {r : Int × Int × Bool} (h : impl_AddFractions k a1 a2 a3 a4 = some r) : Ct prog 150 [.agg [.d (D.int .i64 a1), .d (D.int .i64 a2)], .agg [.d (D.int .i64 a3), .d (D.int .i64 a4)]] (⟨[], []⟩) (.tup [.agg [.d (D.int .i64 r.1), .d (D.int .i64 r.2.1)], .d (D.bool r.2.2)]) (⟨[], []⟩) := by
  rw [impl_AddFractions] at h
  refine Ct.of (c := _) mixed func150 ⟨rfl, rfl, rfl⟩ ?_ rfl
  conv => whnf
  refine Pick.no ?_
  conv => whnf
  obtain ⟨y5, e6, h⟩ := bind_ex h
  refine CallOk.of (impl_two__AddFractions_1_ct e6) ?_
  conv => whnf
  refine spl (fun g7 => ?_) (fun g7 => ?_)
  · replace h := iteT h g7
    conv => whnf
    refine CutK.go ?_
    conv => whnf
    cases h
    exact Done.of [] [] rfl rfl ⟨⟨rfl, rfl⟩, ⟨rfl, trivial⟩, ⟨⟨rfl, rfl, trivial⟩, rfl, trivial⟩, trivial⟩
  · replace h := iteF h g7
    conv => whnf
    refine CutK.go ?_
    conv => whnf
    cases h
    exact Done.of [] [] rfl rfl ⟨⟨rfl, rfl⟩, ⟨rfl, trivial⟩, ⟨⟨rfl, rfl, trivial⟩, rfl, trivial⟩, trivial⟩

def impl_sum_p4 (o203 : Rw) : Option (Rw × Bool) :=
  some (o203, true)
set_option maxHeartbeats 4000000 in
set_option maxRecDepth 100000 in
theorem impl_sum_p4_ct {o203 : Rw} {r : Rw × Bool} (h : impl_sum_p4 o203 = some r) : X prog 0 (tlF f99 4) (mk 119 [(4, .ptr 256 0), (6, .ptr 384 0)] [(256, .box 28 [.es]), (384, .box 28 [.os 1084000 o203.length]), (1084000, .arr 116 false o203)]) (finK prog f99 0 (.tup [.agg [.os 8 r.1.length], .d (D.bool r.2)]) (⟨[], [(116, false, r.1)]⟩)) := by
  rw [impl_sum_p4] at h
  conv => whnf
  cases h
  exact Done.of [some 1084000] [] rfl rfl ⟨⟨rfl, rfl⟩, ⟨rfl, ⟨rfl, rfl, rows_same⟩, trivial⟩, ⟨⟨⟨rfl, rfl⟩, trivial⟩, rfl, trivial⟩, trivial⟩
def impl_sum_l0 (k : Nat) (a1 : Rw) (a2 : Rw) (K0 : Rw → Option (Rw × Bool)) : Nat → Int → Rw → Int → Option (Rw × Bool)
  | 0, _, _, _ => none
  | n + 1, v211, v212, v228 => (if v211 < (a1.length : Int) then (if v228 = (a2.length : Int) then (row_sii a1 v211 fun x406 x407 x408 => (if v212.length + 1 ≤ cap then (impl_sum_l0 k a1 a2 K0 n (IntKind.i64.wrap (v211 + 1)) (v212 ++ ([[D.sl x406, D.int .i64 x407, D.int .i64 x408]])) v228) else none)) else (if v211 = (a1.length : Int) then (row_sii a2 v228 fun x413 x414 x415 => (if v212.length + 1 ≤ cap then (impl_sum_l0 k a1 a2 K0 n v211 (v212 ++ ([[D.sl x413, D.int .i64 x414, D.int .i64 x415]])) (IntKind.i64.wrap (v228 + 1))) else none)) else (row_sii a1 v211 fun x419 x420 x421 => (row_sii a2 v228 fun x424 x425 x426 => ((impl_order k x419 x424).bind fun y429 => (if y429 = (1 : Int) then (if v212.length + 1 ≤ cap then (impl_sum_l0 k a1 a2 K0 n (IntKind.i64.wrap (v211 + 1)) (v212 ++ ([[D.sl x419, D.int .i64 x420, D.int .i64 x421]])) v228) else none) else (if y429 = ((-1) : Int) then (if v212.length + 1 ≤ cap then (impl_sum_l0 k a1 a2 K0 n v211 (v212 ++ ([[D.sl x424, D.int .i64 x425, D.int .i64 x426]])) (IntKind.i64.wrap (v228 + 1))) else none) else ((impl_AddFractions k x420 x421 x425 x426).bind fun y435 => (if y435.2.2 = true then (if y435.1 = (0 : Int) then (impl_sum_l0 k a1 a2 K0 n (IntKind.i64.wrap (v211 + 1)) v212 (IntKind.i64.wrap (v228 + 1))) else (if v212.length + 1 ≤ cap then (impl_sum_l0 k a1 a2 K0 n (IntKind.i64.wrap (v211 + 1)) (v212 ++ ([[D.sl x419, D.int .i64 y435.1, D.int .i64 y435.2.1]])) (IntKind.i64.wrap (v228 + 1))) else none)) else some (([] : Rw), false)))))))))) else (if v228 < (a2.length : Int) then (if v228 = (a2.length : Int) then (row_sii a1 v211 fun x442 x443 x444 => (if v212.length + 1 ≤ cap then (impl_sum_l0 k a1 a2 K0 n (IntKind.i64.wrap (v211 + 1)) (v212 ++ ([[D.sl x442, D.int .i64 x443, D.int .i64 x444]])) v228) else none)) else (if v211 = (a1.length : Int) then (row_sii a2 v228 fun x449 x450 x451 => (if v212.length + 1 ≤ cap then (impl_sum_l0 k a1 a2 K0 n v211 (v212 ++ ([[D.sl x449, D.int .i64 x450, D.int .i64 x451]])) (IntKind.i64.wrap (v228 + 1))) else none)) else (row_sii a1 v211 fun x455 x456 x457 => (row_sii a2 v228 fun x460 x461 x462 => ((impl_order k x455 x460).bind fun y465 => (if y465 = (1 : Int) then (if v212.length + 1 ≤ cap then (impl_sum_l0 k a1 a2 K0 n (IntKind.i64.wrap (v211 + 1)) (v212 ++ ([[D.sl x455, D.int .i64 x456, D.int .i64 x457]])) v228) else none) else (if y465 = ((-1) : Int) then (if v212.length + 1 ≤ cap then (impl_sum_l0 k a1 a2 K0 n v211 (v212 ++ ([[D.sl x460, D.int .i64 x461, D.int .i64 x462]])) (IntKind.i64.wrap (v228 + 1))) else none) else ((impl_AddFractions k x456 x457 x461 x462).bind fun y471 => (if y471.2.2 = true then (if y471.1 = (0 : Int) then (impl_sum_l0 k a1 a2 K0 n (IntKind.i64.wrap (v211 + 1)) v212 (IntKind.i64.wrap (v228 + 1))) else (if v212.length + 1 ≤ cap then (impl_sum_l0 k a1 a2 K0 n (IntKind.i64.wrap (v211 + 1)) (v212 ++ ([[D.sl x455, D.int .i64 y471.1, D.int .i64 y471.2.1]])) (IntKind.i64.wrap (v228 + 1))) else none)) else some (([] : Rw), false)))))))))) else (K0 v212)))
set_option maxRecDepth 100000 in
theorem impl_sum_l0_ct {k : Nat} {a1 : Rw} {a2 : Rw} {K0 : Rw → Option (Rw × Bool)} {r : Rw × Bool} : ∀ (n : Nat) (v211 : Int) (v212 : Rw) (v228 : Int), impl_sum_l0 k a1 a2 K0 n v211 v212 v228 = some r → LoopOk prog 0 (lp f99 0) (mk 119 [(2, .ptr 128 0), (3, .ptr 192 0), (4, .ptr 256 0), (6, .ptr 384 0), (7, .d (D.int .i64 v211)), (8, .d (D.int .i64 v228))] [(128, .box 28 [.d (D.sl a1)]), (192, .box 28 [.d (D.sl a2)]), (256, .box 28 [.es]), (384, .box 28 [.os 64000 v212.length]), (64000, .arr 116 false v212)]) (LoopEnd prog f99 0 119 (.tup [.agg [.os 8 r.1.length], .d (D.bool r.2)]) (⟨[], [(116, false, r.1)]⟩) (fun i ts os => (i = 0 ∧ ∃ v331 : Rw, K0 v331 = some r ∧ ts = [(4, .ptr 256 0), (6, .ptr 384 0)] ∧ os = [(256, .box 28 [.es]), (384, .box 28 [.os 67001 v331.length]), (67001, .arr 116 false v331)])))
  | 0, _, _, _, h => by
      rw [impl_sum_l0] at h; cases h
  | n + 1, v211, v212, v228, h => by
      rw [impl_sum_l0] at h
      refine LoopOk.step ?_
      conv => whnf
      refine splD (fun g404 => ?_) (fun g404 => ?_)
      · replace h := iteP h g404
        conv => whnf
        refine splD (fun g405 => ?_) (fun g405 => ?_)
        · replace h := iteP h g405
          conv => whnf
          refine CutK.norm [2, 3, 4, 6, 7, 8, 9] [128, 192, 256, 384, 64000] ?_
          conv => whnf
          refine splD (fun _ => ?_) (fun g => absurd (by decide) g)
          conv => whnf
          obtain ⟨g410, x406, x407, x408, e409, h⟩ := row_sii_ex h
          refine Req.of g410 ?_
          refine Row.of _ e409 ?_
          conv => whnf
          refine Take.all (rfl) ?_
          conv => whnf
          refine Take.all (by first | rfl | exact List.length_append.symm | (simp; done) | omega) ?_
          conv => whnf
          obtain ⟨g411, h⟩ := req_ex h
          refine Req.of (room (b := 40) (by decide) g411 (wide1 rfl wide0)) ?_
          conv => whnf
          exact LoopOk.back (impl_sum_l0_ct  n _ _ _ h) [some 128, some 192, some 256, some 384, some 6400] [] ⟨⟨rfl, rfl⟩, ⟨rfl, ⟨rfl, rfl, trivial⟩, ⟨rfl, rfl, trivial⟩, ⟨rfl, trivial, trivial⟩, ⟨rfl, ⟨(by first | rfl | exact List.length_append.symm | (simp; done) | omega), rfl⟩, trivial⟩, ⟨rfl, rfl, rows_same⟩, trivial⟩, ⟨rfl, rfl⟩, ⟨rfl, rfl⟩, ⟨rfl, rfl⟩, ⟨rfl, rfl⟩, rfl, rfl, trivial⟩
        · replace h := iteN h g405
          conv => whnf
          refine splD (fun g412 => ?_) (fun g412 => ?_)
          · replace h := iteP h g412
            conv => whnf
            refine CutK.norm [2, 3, 4, 6, 7, 8, 9] [128, 192, 256, 384, 64000] ?_
            conv => whnf
            refine splD (fun g => absurd g (by decide)) (fun _ => ?_)
            conv => whnf
            refine splD (fun _ => ?_) (fun g => absurd (by decide) g)
            conv => whnf
            obtain ⟨g417, x413, x414, x415, e416, h⟩ := row_sii_ex h
            refine Req.of g417 ?_
            refine Row.of _ e416 ?_
            conv => whnf
            refine Take.all (rfl) ?_
            conv => whnf
            refine Take.all (by first | rfl | exact List.length_append.symm | (simp; done) | omega) ?_
            conv => whnf
            obtain ⟨g418, h⟩ := req_ex h
            refine Req.of (room (b := 40) (by decide) g418 (wide1 rfl wide0)) ?_
            conv => whnf
            exact LoopOk.back (impl_sum_l0_ct  n _ _ _ h) [some 128, some 192, some 256, some 384, some 7296] [] ⟨⟨rfl, rfl⟩, ⟨rfl, ⟨rfl, rfl, trivial⟩, ⟨rfl, rfl, trivial⟩, ⟨rfl, trivial, trivial⟩, ⟨rfl, ⟨(by first | rfl | exact List.length_append.symm | (simp; done) | omega), rfl⟩, trivial⟩, ⟨rfl, rfl, rows_same⟩, trivial⟩, ⟨rfl, rfl⟩, ⟨rfl, rfl⟩, ⟨rfl, rfl⟩, ⟨rfl, rfl⟩, rfl, rfl, trivial⟩
          · replace h := iteN h g412
            conv => whnf
            obtain ⟨g423, x419, x420, x421, e422, h⟩ := row_sii_ex h
            refine Req.of g423 ?_
            refine Row.of _ e422 ?_
            conv => whnf
            obtain ⟨g428, x424, x425, x426, e427, h⟩ := row_sii_ex h
            refine Req.of g428 ?_
            refine Row.of _ e427 ?_
            conv => whnf
            refine Pick.no ?_
            conv => whnf
            obtain ⟨y429, e430, h⟩ := bind_ex h
            refine CallOk.of (impl_order_ct e430) ?_
            conv => whnf
            refine CutK.norm [2, 3, 4, 6, 7, 8, 9] [128, 192, 256, 384, 64000] ?_
            conv => whnf
            refine splD (fun g431 => ?_) (fun g431 => ?_)
            · replace h := iteP h g431
              conv => whnf
              refine Req.of g423 ?_
              refine Row.of _ e422 ?_
              conv => whnf
              refine Take.all (rfl) ?_
              conv => whnf
              refine Take.all (by first | rfl | exact List.length_append.symm | (simp; done) | omega) ?_
              conv => whnf
              obtain ⟨g432, h⟩ := req_ex h
              refine Req.of (room (b := 40) (by decide) g432 (wide1 rfl wide0)) ?_
              conv => whnf
              exact LoopOk.back (impl_sum_l0_ct  n _ _ _ h) [some 128, some 192, some 256, some 384, some 6400] [] ⟨⟨rfl, rfl⟩, ⟨rfl, ⟨rfl, rfl, trivial⟩, ⟨rfl, rfl, trivial⟩, ⟨rfl, trivial, trivial⟩, ⟨rfl, ⟨(by first | rfl | exact List.length_append.symm | (simp; done) | omega), rfl⟩, trivial⟩, ⟨rfl, rfl, rows_same⟩, trivial⟩, ⟨rfl, rfl⟩, ⟨rfl, rfl⟩, ⟨rfl, rfl⟩, ⟨rfl, rfl⟩, rfl, rfl, trivial⟩
            · replace h := iteN h g431
              conv => whnf
              refine splD (fun g433 => ?_) (fun g433 => ?_)
              · replace h := iteP h g433
                conv => whnf
                refine Req.of g428 ?_
                refine Row.of _ e427 ?_
                conv => whnf
                refine Take.all (rfl) ?_
                conv => whnf
                refine Take.all (by first | rfl | exact List.length_append.symm | (simp; done) | omega) ?_
                conv => whnf
                obtain ⟨g434, h⟩ := req_ex h
                refine Req.of (room (b := 40) (by decide) g434 (wide1 rfl wide0)) ?_
                conv => whnf
                exact LoopOk.back (impl_sum_l0_ct  n _ _ _ h) [some 128, some 192, some 256, some 384, some 7296] [] ⟨⟨rfl, rfl⟩, ⟨rfl, ⟨rfl, rfl, trivial⟩, ⟨rfl, rfl, trivial⟩, ⟨rfl, trivial, trivial⟩, ⟨rfl, ⟨(by first | rfl | exact List.length_append.symm | (simp; done) | omega), rfl⟩, trivial⟩, ⟨rfl, rfl, rows_same⟩, trivial⟩, ⟨rfl, rfl⟩, ⟨rfl, rfl⟩, ⟨rfl, rfl⟩, ⟨rfl, rfl⟩, rfl, rfl, trivial⟩
              · replace h := iteN h g433
                conv => whnf
                refine Req.of g423 ?_
                refine Row.of _ e422 ?_
                conv => whnf
                refine Req.of g428 ?_
                refine Row.of _ e427 ?_
                conv => whnf
                refine Pick.no ?_
                conv => whnf
                obtain ⟨y435, e436, h⟩ := bind_ex h
                refine CallOk.of (impl_AddFractions_ct e436) ?_
                conv => whnf
                refine spl (fun g437 => ?_) (fun g437 => ?_)
                · replace h := iteT h g437
                  conv => whnf
                  refine CutK.norm [2, 3, 4, 6, 7, 8, 10, 11] [128, 192, 256, 384, 640, 64000] ?_
                  conv => whnf
                  refine splN (fun g438 => ?_) (fun g438 => ?_)
                  · replace h := iteN h g438
                    conv => whnf
                    refine Req.of g423 ?_
                    refine Row.of _ e422 ?_
                    conv => whnf
                    refine Take.all (rfl) ?_
                    conv => whnf
                    refine Take.all (by first | rfl | exact List.length_append.symm | (simp; done) | omega) ?_
                    conv => whnf
                    obtain ⟨g439, h⟩ := req_ex h
                    refine Req.of (room (b := 40) (by decide) g439 (wide1 rfl wide0)) ?_
                    conv => whnf
                    exact LoopOk.back (impl_sum_l0_ct  n _ _ _ h) [some 128, some 192, some 256, some 384, some 5376] [] ⟨⟨rfl, rfl⟩, ⟨rfl, ⟨rfl, rfl, trivial⟩, ⟨rfl, rfl, trivial⟩, ⟨rfl, trivial, trivial⟩, ⟨rfl, ⟨(by first | rfl | exact List.length_append.symm | (simp; done) | omega), rfl⟩, trivial⟩, ⟨rfl, rfl, rows_same⟩, trivial⟩, ⟨rfl, rfl⟩, ⟨rfl, rfl⟩, ⟨rfl, rfl⟩, ⟨rfl, rfl⟩, rfl, rfl, trivial⟩
                  · replace h := iteP h g438
                    conv => whnf
                    exact LoopOk.back (impl_sum_l0_ct  n _ _ _ h) [some 128, some 192, some 256, some 384, some 64000] [] ⟨⟨rfl, rfl⟩, ⟨rfl, ⟨rfl, rfl, trivial⟩, ⟨rfl, rfl, trivial⟩, ⟨rfl, trivial, trivial⟩, ⟨rfl, ⟨rfl, rfl⟩, trivial⟩, ⟨rfl, rfl, rows_same⟩, trivial⟩, ⟨rfl, rfl⟩, ⟨rfl, rfl⟩, ⟨rfl, rfl⟩, ⟨rfl, rfl⟩, rfl, rfl, trivial⟩
                · replace h := iteF h g437
                  conv => whnf
                  refine CutK.norm [2, 3, 4, 6, 7, 8, 10, 11] [128, 192, 256, 384, 640, 64000] ?_
                  conv => whnf
                  cases h
                  exact Done.of [none] [] rfl rfl ⟨⟨rfl, rfl⟩, ⟨rfl, rfl, trivial⟩, ⟨⟨⟨rfl, rfl⟩, trivial⟩, rfl, trivial⟩, trivial⟩
      · replace h := iteN h g404
        conv => whnf
        refine splD (fun g440 => ?_) (fun g440 => ?_)
        · replace h := iteP h g440
          conv => whnf
          refine splD (fun g441 => ?_) (fun g441 => ?_)
          · replace h := iteP h g441
            conv => whnf
            refine CutK.norm [2, 3, 4, 6, 7, 8, 9] [128, 192, 256, 384, 64000] ?_
            conv => whnf
            refine splD (fun _ => ?_) (fun g => absurd (by decide) g)
            conv => whnf
            obtain ⟨g446, x442, x443, x444, e445, h⟩ := row_sii_ex h
            refine Req.of g446 ?_
            refine Row.of _ e445 ?_
            conv => whnf
            refine Take.all (rfl) ?_
            conv => whnf
            refine Take.all (by first | rfl | exact List.length_append.symm | (simp; done) | omega) ?_
            conv => whnf
            obtain ⟨g447, h⟩ := req_ex h
            refine Req.of (room (b := 40) (by decide) g447 (wide1 rfl wide0)) ?_
            conv => whnf
            exact LoopOk.back (impl_sum_l0_ct  n _ _ _ h) [some 128, some 192, some 256, some 384, some 6400] [] ⟨⟨rfl, rfl⟩, ⟨rfl, ⟨rfl, rfl, trivial⟩, ⟨rfl, rfl, trivial⟩, ⟨rfl, trivial, trivial⟩, ⟨rfl, ⟨(by first | rfl | exact List.length_append.symm | (simp; done) | omega), rfl⟩, trivial⟩, ⟨rfl, rfl, rows_same⟩, trivial⟩, ⟨rfl, rfl⟩, ⟨rfl, rfl⟩, ⟨rfl, rfl⟩, ⟨rfl, rfl⟩, rfl, rfl, trivial⟩
          · replace h := iteN h g441
            conv => whnf
            refine splD (fun g448 => ?_) (fun g448 => ?_)
            · replace h := iteP h g448
              conv => whnf
              refine CutK.norm [2, 3, 4, 6, 7, 8, 9] [128, 192, 256, 384, 64000] ?_
              conv => whnf
              refine splD (fun g => absurd g (by decide)) (fun _ => ?_)
              conv => whnf
              refine splD (fun _ => ?_) (fun g => absurd (by decide) g)
              conv => whnf
              obtain ⟨g453, x449, x450, x451, e452, h⟩ := row_sii_ex h
              refine Req.of g453 ?_
              refine Row.of _ e452 ?_
              conv => whnf
              refine Take.all (rfl) ?_
              conv => whnf
              refine Take.all (by first | rfl | exact List.length_append.symm | (simp; done) | omega) ?_
              conv => whnf
              obtain ⟨g454, h⟩ := req_ex h
              refine Req.of (room (b := 40) (by decide) g454 (wide1 rfl wide0)) ?_
              conv => whnf
              exact LoopOk.back (impl_sum_l0_ct  n _ _ _ h) [some 128, some 192, some 256, some 384, some 7296] [] ⟨⟨rfl, rfl⟩, ⟨rfl, ⟨rfl, rfl, trivial⟩, ⟨rfl, rfl, trivial⟩, ⟨rfl, trivial, trivial⟩, ⟨rfl, ⟨(by first | rfl | exact List.length_append.symm | (simp; done) | omega), rfl⟩, trivial⟩, ⟨rfl, rfl, rows_same⟩, trivial⟩, ⟨rfl, rfl⟩, ⟨rfl, rfl⟩, ⟨rfl, rfl⟩, ⟨rfl, rfl⟩, rfl, rfl, trivial⟩
            · replace h := iteN h g448
              conv => whnf
              obtain ⟨g459, x455, x456, x457, e458, h⟩ := row_sii_ex h
              refine Req.of g459 ?_
              refine Row.of _ e458 ?_
              conv => whnf
              obtain ⟨g464, x460, x461, x462, e463, h⟩ := row_sii_ex h
              refine Req.of g464 ?_
              refine Row.of _ e463 ?_
              conv => whnf
              refine Pick.no ?_
              conv => whnf
              obtain ⟨y465, e466, h⟩ := bind_ex h
              refine CallOk.of (impl_order_ct e466) ?_
              conv => whnf
              refine CutK.norm [2, 3, 4, 6, 7, 8, 9] [128, 192, 256, 384, 64000] ?_
              conv => whnf
              refine splD (fun g467 => ?_) (fun g467 => ?_)
              · replace h := iteP h g467
                conv => whnf
                refine Req.of g459 ?_
                refine Row.of _ e458 ?_
                conv => whnf
                refine Take.all (rfl) ?_
                conv => whnf
                refine Take.all (by first | rfl | exact List.length_append.symm | (simp; done) | omega) ?_
                conv => whnf
                obtain ⟨g468, h⟩ := req_ex h
                refine Req.of (room (b := 40) (by decide) g468 (wide1 rfl wide0)) ?_
                conv => whnf
                exact LoopOk.back (impl_sum_l0_ct  n _ _ _ h) [some 128, some 192, some 256, some 384, some 6400] [] ⟨⟨rfl, rfl⟩, ⟨rfl, ⟨rfl, rfl, trivial⟩, ⟨rfl, rfl, trivial⟩, ⟨rfl, trivial, trivial⟩, ⟨rfl, ⟨(by first | rfl | exact List.length_append.symm | (simp; done) | omega), rfl⟩, trivial⟩, ⟨rfl, rfl, rows_same⟩, trivial⟩, ⟨rfl, rfl⟩, ⟨rfl, rfl⟩, ⟨rfl, rfl⟩, ⟨rfl, rfl⟩, rfl, rfl, trivial⟩
              · replace h := iteN h g467
                conv => whnf
                refine splD (fun g469 => ?_) (fun g469 => ?_)
                · replace h := iteP h g469
                  conv => whnf
                  refine Req.of g464 ?_
                  refine Row.of _ e463 ?_
                  conv => whnf
                  refine Take.all (rfl) ?_
                  conv => whnf
                  refine Take.all (by first | rfl | exact List.length_append.symm | (simp; done) | omega) ?_
                  conv => whnf
                  obtain ⟨g470, h⟩ := req_ex h
                  refine Req.of (room (b := 40) (by decide) g470 (wide1 rfl wide0)) ?_
                  conv => whnf
                  exact LoopOk.back (impl_sum_l0_ct  n _ _ _ h) [some 128, some 192, some 256, some 384, some 7296] [] ⟨⟨rfl, rfl⟩, ⟨rfl, ⟨rfl, rfl, trivial⟩, ⟨rfl, rfl, trivial⟩, ⟨rfl, trivial, trivial⟩, ⟨rfl, ⟨(by first | rfl | exact List.length_append.symm | (simp; done) | omega), rfl⟩, trivial⟩, ⟨rfl, rfl, rows_same⟩, trivial⟩, ⟨rfl, rfl⟩, ⟨rfl, rfl⟩, ⟨rfl, rfl⟩, ⟨rfl, rfl⟩, rfl, rfl, trivial⟩
                · replace h := iteN h g469
                  conv => whnf
                  refine Req.of g459 ?_
                  refine Row.of _ e458 ?_
                  conv => whnf
                  refine Req.of g464 ?_
                  refine Row.of _ e463 ?_
                  conv => whnf
                  refine Pick.no ?_
                  conv => whnf
                  obtain ⟨y471, e472, h⟩ := bind_ex h
                  refine CallOk.of (impl_AddFractions_ct e472) ?_
                  conv => whnf
                  refine spl (fun g473 => ?_) (fun g473 => ?_)
                  · replace h := iteT h g473
                    conv => whnf
                    refine CutK.norm [2, 3, 4, 6, 7, 8, 10, 11] [128, 192, 256, 384, 640, 64000] ?_
                    conv => whnf
                    refine splN (fun g474 => ?_) (fun g474 => ?_)
                    · replace h := iteN h g474
                      conv => whnf
                      refine Req.of g459 ?_
                      refine Row.of _ e458 ?_
                      conv => whnf
                      refine Take.all (rfl) ?_
                      conv => whnf
                      refine Take.all (by first | rfl | exact List.length_append.symm | (simp; done) | omega) ?_
                      conv => whnf
                      obtain ⟨g475, h⟩ := req_ex h
                      refine Req.of (room (b := 40) (by decide) g475 (wide1 rfl wide0)) ?_
                      conv => whnf
                      exact LoopOk.back (impl_sum_l0_ct  n _ _ _ h) [some 128, some 192, some 256, some 384, some 5376] [] ⟨⟨rfl, rfl⟩, ⟨rfl, ⟨rfl, rfl, trivial⟩, ⟨rfl, rfl, trivial⟩, ⟨rfl, trivial, trivial⟩, ⟨rfl, ⟨(by first | rfl | exact List.length_append.symm | (simp; done) | omega), rfl⟩, trivial⟩, ⟨rfl, rfl, rows_same⟩, trivial⟩, ⟨rfl, rfl⟩, ⟨rfl, rfl⟩, ⟨rfl, rfl⟩, ⟨rfl, rfl⟩, rfl, rfl, trivial⟩
                    · replace h := iteP h g474
                      conv => whnf
                      exact LoopOk.back (impl_sum_l0_ct  n _ _ _ h) [some 128, some 192, some 256, some 384, some 64000] [] ⟨⟨rfl, rfl⟩, ⟨rfl, ⟨rfl, rfl, trivial⟩, ⟨rfl, rfl, trivial⟩, ⟨rfl, trivial, trivial⟩, ⟨rfl, ⟨rfl, rfl⟩, trivial⟩, ⟨rfl, rfl, rows_same⟩, trivial⟩, ⟨rfl, rfl⟩, ⟨rfl, rfl⟩, ⟨rfl, rfl⟩, ⟨rfl, rfl⟩, rfl, rfl, trivial⟩
                  · replace h := iteF h g473
                    conv => whnf
                    refine CutK.norm [2, 3, 4, 6, 7, 8, 10, 11] [128, 192, 256, 384, 640, 64000] ?_
                    conv => whnf
                    cases h
                    exact Done.of [none] [] rfl rfl ⟨⟨rfl, rfl⟩, ⟨rfl, rfl, trivial⟩, ⟨⟨⟨rfl, rfl⟩, trivial⟩, rfl, trivial⟩, trivial⟩
        · replace h := iteN h g440
          conv => whnf
          exact ⟨_, _, [some 256, some 384, some 64000], [], ⟨rfl, _, h, rfl, rfl⟩, ⟨⟨rfl, rfl⟩, ⟨rfl, ⟨rfl, trivial, trivial⟩, ⟨rfl, ⟨rfl, rfl⟩, trivial⟩, ⟨rfl, rfl, rows_same⟩, trivial⟩, ⟨rfl, rfl⟩, ⟨rfl, rfl⟩, trivial⟩⟩
def impl_sum (k : Nat) (a1 : Rw) (a2 : Rw) : Option (Rw × Bool) :=
  (impl_sum_l0 k a1 a2 (fun (v331 : Rw) => (impl_sum_p4 v331)) k 0 ([] : Rw) 0)
set_option maxHeartbeats 4000000 in
set_option maxRecDepth 100000 in
theorem impl_sum_ct {k : Nat} {a1 : Rw} {a2 : Rw} {r : Rw × Bool} (h : impl_sum k a1 a2 = some r) : Ct prog 99 [.agg [.d (D.sl a1)], .agg [.d (D.sl a2)]] (⟨[], []⟩) (.tup [.agg [.os 8 r.1.length], .d (D.bool r.2)]) (⟨[], [(116, false, r.1)]⟩) := by
  rw [impl_sum] at h
  refine Ct.of (c := _) mixed func99 ⟨rfl, rfl, rfl⟩ ?_ rfl
  conv => whnf
  refine LoopOk.into (impl_sum_l0_ct  _ _ _ _ h) [some 128, some 192, some 256, some 384, none] [] ⟨⟨rfl, rfl⟩, ⟨rfl, ⟨rfl, rfl, trivial⟩, ⟨rfl, rfl, trivial⟩, ⟨rfl, trivial, trivial⟩, ⟨rfl, ⟨rfl, rfl⟩, trivial⟩, rfl, trivial⟩, ⟨rfl, rfl⟩, ⟨rfl, rfl⟩, ⟨rfl, rfl⟩, ⟨rfl, rfl⟩, rfl, rfl, trivial⟩ ?_ (fun _ hs => hs)
  rintro i ts os ⟨rfl, v331, h, rfl, rfl⟩
  conv => whnf
  exact CutK.piece (impl_sum_p4_ct  h) [some 256, some 384, some 67001] [] ⟨⟨rfl, rfl⟩, ⟨rfl, ⟨rfl, trivial, trivial⟩, ⟨rfl, ⟨rfl, rfl⟩, trivial⟩, ⟨rfl, rfl, rows_same⟩, trivial⟩, ⟨rfl, rfl⟩, ⟨rfl, rfl⟩, trivial⟩

def impl_cloneSurreal_l0 (rec_impl_cloneSurreal : Rw → Option Rw) (a1 : Rw) (K0 : Rw → Option Rw) : Rw → Rw → Option Rw
  | [], v11 => (K0 v11)
  | cs :: rest, v11 => (cell_sii cs fun x31 x32 x33 => ((rec_impl_cloneSurreal x31).bind fun y35 => (if v11.length + 1 ≤ cap then (impl_cloneSurreal_l0 rec_impl_cloneSurreal a1 K0 rest (v11 ++ ([[D.sl y35, D.int .i64 x32, D.int .i64 x33]]))) else none)))
set_option maxRecDepth 100000 in
theorem impl_cloneSurreal_l0_ct {rec_impl_cloneSurreal : Rw → Option Rw} {a1 : Rw} {K0 : Rw → Option Rw} (hrec_impl_cloneSurreal : ∀ (a1 : Rw) (r : Rw), rec_impl_cloneSurreal a1 = some r → Ct prog 79 [.agg [.d (D.sl a1)]] (⟨[], []⟩) (.agg [.os 8 r.length]) (⟨[], [(116, true, r)]⟩)) {r : Rw} (hx : a1.length ≤ cap) : ∀ (rest : Rw) (v10n : Nat) (v11 : Rw), a1.drop v10n = rest → impl_cloneSurreal_l0 rec_impl_cloneSurreal a1 K0 rest v11 = some r → LoopOk prog 0 (lp f79 0) (mk 27 [(2, .ptr 128 0), (3, .ptr 192 0), (8, .d (D.sl a1)), (9, .d (D.int .i64 (a1.length : Int))), (10, .d (D.int .i64 (v10n : Int)))] [(128, .box 28 [.es]), (192, .box 28 [.os 64000 v11.length]), (64000, .arr 116 true v11)]) (LoopEnd prog f79 0 27 (.agg [.os 8 r.length]) (⟨[], [(116, true, r)]⟩) (fun i ts os => (i = 0 ∧ ∃ v21 : Rw, K0 v21 = some r ∧ ts = [(2, .ptr 128 0), (3, .ptr 192 0)] ∧ os = [(128, .box 28 [.es]), (192, .box 28 [.os 67001 v21.length]), (67001, .arr 116 true v21)])))
  | [], v10n, v11, hd, h => by
      rw [impl_cloneSurreal_l0] at h
      have hn := drop_nil hd
      refine LoopOk.step ?_
      conv => whnf
      refine splD (fun g => absurd g hn) (fun _ => ?_)
      conv => whnf
      exact ⟨_, _, [some 128, some 192, some 64000], [], ⟨rfl, _, h, rfl, rfl⟩, ⟨⟨rfl, rfl⟩, ⟨rfl, ⟨rfl, trivial, trivial⟩, ⟨rfl, ⟨rfl, rfl⟩, trivial⟩, ⟨rfl, rfl, rows_same⟩, trivial⟩, ⟨rfl, rfl⟩, ⟨rfl, rfl⟩, trivial⟩⟩
  | cs :: rest, v10n, v11, hd, h => by
      rw [impl_cloneSurreal_l0] at h
      obtain ⟨hrow, hd1, hlt⟩ := drop_cons hd
      refine LoopOk.step ?_
      conv => whnf
      refine splD (fun _ => ?_) (fun g => absurd hlt g)
      conv => whnf
      obtain ⟨x31, x32, x33, e34, h⟩ := cell_sii_ex h
      rw [e34] at hrow
      refine Req.of (Int.natCast_nonneg _) ?_
      refine Row.of _ hrow ?_
      conv => whnf
      refine Pick.no ?_
      conv => whnf
      obtain ⟨y35, e36, h⟩ := bind_ex h
      refine CallOk.of (hrec_impl_cloneSurreal _ _ e36) ?_
      conv => whnf
      refine Take.all (rfl) ?_
      conv => whnf
      refine Take.all (rfl) ?_
      conv => whnf
      refine Take.all (by first | rfl | exact List.length_append.symm | (simp; done) | omega) ?_
      conv => whnf
      obtain ⟨g37, h⟩ := req_ex h
      refine Req.of (room (b := 40) (by decide) g37 (wide1 rfl wide0)) ?_
      conv => whnf
      refine CutK.go ?_
      conv => whnf
      exact LoopOk.back (impl_cloneSurreal_l0_ct hrec_impl_cloneSurreal hx rest (v10n + 1) _ hd1 h) [some 128, some 192, some 1472] [] ⟨⟨rfl, rfl⟩, ⟨rfl, ⟨rfl, trivial, trivial⟩, ⟨rfl, ⟨(by first | rfl | exact List.length_append.symm | (simp; done) | omega), rfl⟩, trivial⟩, ⟨rfl, rfl, rows_same⟩, trivial⟩, ⟨rfl, rfl⟩, ⟨rfl, rfl⟩, rfl, rfl, i64eq (wrap_up hlt hx), trivial⟩
def impl_cloneSurreal_b (rec_impl_cloneSurreal : Rw → Option Rw) (a1 : Rw) : Option Rw :=
  (if a1.length ≤ cap then (impl_cloneSurreal_l0 rec_impl_cloneSurreal a1 (fun (v21 : Rw) => some v21) a1 ([] : Rw)) else none)
set_option maxHeartbeats 4000000 in
set_option maxRecDepth 100000 in
theorem impl_cloneSurreal_b_ct {rec_impl_cloneSurreal : Rw → Option Rw} (hrec_impl_cloneSurreal : ∀ (a1 : Rw) (r : Rw), rec_impl_cloneSurreal a1 = some r → Ct prog 79 [.agg [.d (D.sl a1)]] (⟨[], []⟩) (.agg [.os 8 r.length]) (⟨[], [(116, true, r)]⟩)) {a1 : Rw} {r : Rw} (h : impl_cloneSurreal_b rec_impl_cloneSurreal a1 = some r) : Ct prog 79 [.agg [.d (D.sl a1)]] (⟨[], []⟩) (.agg [.os 8 r.length]) (⟨[], [(116, true, r)]⟩) := by
  rw [impl_cloneSurreal_b] at h
  refine Ct.of (c := _) mixed func79 ⟨rfl, rfl, rfl⟩ ?_ rfl
  conv => whnf
  obtain ⟨g38, h⟩ := req_ex h
  refine LoopOk.into (impl_cloneSurreal_l0_ct hrec_impl_cloneSurreal g38 _ _ _ rfl h) [some 128, some 192, none] [] ⟨⟨rfl, rfl⟩, ⟨rfl, ⟨rfl, trivial, trivial⟩, ⟨rfl, ⟨rfl, rfl⟩, trivial⟩, rfl, trivial⟩, ⟨rfl, rfl⟩, ⟨rfl, rfl⟩, rfl, rfl, rfl, trivial⟩ ?_ (fun _ hs => hs)
  rintro i ts os ⟨rfl, v21, h, rfl, rfl⟩
  conv => whnf
  refine CutK.go ?_
  conv => whnf
  cases h
  exact Done.of [some 67001] [] rfl rfl ⟨⟨rfl, rfl⟩, ⟨rfl, ⟨rfl, rfl, rows_same⟩, trivial⟩, ⟨⟨rfl, rfl⟩, trivial⟩, trivial⟩
def impl_cloneSurreal : Nat → Rw → Option Rw
  | 0, _ => none
  | k + 1, a1 => impl_cloneSurreal_b (impl_cloneSurreal k) a1
theorem impl_cloneSurreal_ct' : ∀ (k : Nat) (a1 : Rw) (r : Rw), impl_cloneSurreal k a1 = some r → Ct prog 79 [.agg [.d (D.sl a1)]] (⟨[], []⟩) (.agg [.os 8 r.length]) (⟨[], [(116, true, r)]⟩)
  | 0, _, _, h => by rw [impl_cloneSurreal] at h; cases h
  | k + 1, _, _, h => by rw [impl_cloneSurreal] at h; exact impl_cloneSurreal_b_ct (impl_cloneSurreal_ct' k) h
theorem impl_cloneSurreal_ct {k : Nat} {a1 : Rw} {r : Rw} (h : impl_cloneSurreal k a1 = some r) : Ct prog 79 [.agg [.d (D.sl a1)]] (⟨[], []⟩) (.agg [.os 8 r.length]) (⟨[], [(116, true, r)]⟩) := impl_cloneSurreal_ct' k _ _ h

def impl_toldSurreal (k : Nat) (a1 : Rw) (a2 : Bool) : Option (Rw × Bool) :=
  (cond a2 ((impl_IsSurreal k a1).bind fun y3 => (if y3 = true then ((impl_cloneSurreal k a1).bind fun y6 => some (y6, true)) else some (([] : Rw), false))) (some (([] : Rw), false)))
set_option maxHeartbeats 4000000 in
set_option maxRecDepth 100000 in
theorem impl_toldSurreal_ct {k : Nat} {a1 : Rw} {a2 : Bool} {r : Rw × Bool} (h : impl_toldSurreal k a1 a2 = some r) : Ct prog 97 [.agg [.d (D.sl a1)], .d (D.bool a2)] (⟨[], []⟩) (.tup [.agg [.os 8 r.1.length], .d (D.bool r.2)]) (⟨[], [(116, true, r.1)]⟩) := by
  rw [impl_toldSurreal] at h
  refine Ct.of (c := _) mixed func97 ⟨rfl, rfl, rfl⟩ ?_ rfl
  cases a2
  · replace h := condF h
    conv => whnf
    refine CutK.go ?_
    conv => whnf
    cases h
    exact Done.of [none] [] rfl rfl ⟨⟨rfl, rfl⟩, ⟨rfl, rfl, trivial⟩, ⟨⟨⟨rfl, rfl⟩, trivial⟩, rfl, trivial⟩, trivial⟩
  · replace h := condT h
    conv => whnf
    refine Pick.no ?_
    conv => whnf
    obtain ⟨y3, e4, h⟩ := bind_ex h
    refine CallOk.of (impl_IsSurreal_ct e4) ?_
    conv => whnf
    refine spl (fun g5 => ?_) (fun g5 => ?_)
    · replace h := iteT h g5
      conv => whnf
      refine CutK.go ?_
      conv => whnf
      refine CutK.go ?_
      conv => whnf
      refine Pick.no ?_
      conv => whnf
      obtain ⟨y6, e7, h⟩ := bind_ex h
      refine CallOk.of (impl_cloneSurreal_ct e7) ?_
      conv => whnf
      refine CutK.go ?_
      conv => whnf
      cases h
      exact Done.of [some 960] [] rfl rfl ⟨⟨rfl, rfl⟩, ⟨rfl, ⟨rfl, rfl, rows_same⟩, trivial⟩, ⟨⟨⟨rfl, rfl⟩, trivial⟩, rfl, trivial⟩, trivial⟩
    · replace h := iteF h g5
      conv => whnf
      refine CutK.go ?_
      conv => whnf
      cases h
      exact Done.of [none] [] rfl rfl ⟨⟨rfl, rfl⟩, ⟨rfl, rfl, trivial⟩, ⟨⟨⟨rfl, rfl⟩, trivial⟩, rfl, trivial⟩, trivial⟩

def impl_AddSurreals (k : Nat) (a1 : Rw) (a2 : Rw) : Option (Rw × Bool) :=
  ((impl_surreals k a1 a2).bind fun y3 => (if y3 = true then ((impl_sum k a1 a2).bind fun y6 => (if y6.2 = true then ((impl_toldSurreal k y6.1 true).bind fun y9 => (if y9.2 = true then some (y9.1, true) else some (y9.1, false))) else ((impl_toldSurreal k y6.1 false).bind fun y12 => (if y12.2 = true then some (y12.1, true) else some (y12.1, false))))) else some (([] : Rw), false)))
set_option maxHeartbeats 4000000 in
set_option maxRecDepth 100000 in
theorem impl_AddSurreals_ct {k : Nat} {a1 : Rw} {a2 : Rw} {r : Rw × Bool} (h : impl_AddSurreals k a1 a2 = some r) : Ct prog 37 [.agg [.d (D.sl a1)], .agg [.d (D.sl a2)]] (⟨[], []⟩) (.tup [.agg [.os 8 r.1.length], .d (D.bool r.2)]) (⟨[], [(116, true, r.1)]⟩) := by
  rw [impl_AddSurreals] at h
  refine Ct.of (c := _) mixed func37 ⟨rfl, rfl, rfl⟩ ?_ rfl
  conv => whnf
  refine Pick.no ?_
  conv => whnf
  obtain ⟨y3, e4, h⟩ := bind_ex h
  refine CallOk.of (impl_surreals_ct e4) ?_
  conv => whnf
  refine spl (fun g5 => ?_) (fun g5 => ?_)
  · replace h := iteT h g5
    conv => whnf
    refine CutK.go ?_
    conv => whnf
    refine CutK.go ?_
    conv => whnf
    refine Pick.no ?_
    conv => whnf
    obtain ⟨y6, e7, h⟩ := bind_ex h
    refine CallOk.of (impl_sum_ct e7) ?_
    conv => whnf
    refine spl (fun g8 => ?_) (fun g8 => ?_)
    · replace h := iteT h g8
      conv => whnf
      refine Pick.no ?_
      conv => whnf
      refine Take.all (rfl) ?_
      conv => whnf
      obtain ⟨y9, e10, h⟩ := bind_ex h
      refine CallOk.of (impl_toldSurreal_ct e10) ?_
      conv => whnf
      refine spl (fun g11 => ?_) (fun g11 => ?_)
      · replace h := iteT h g11
        conv => whnf
        refine CutK.go ?_
        conv => whnf
        cases h
        exact Done.of [some 1024] [] rfl rfl ⟨⟨rfl, rfl⟩, ⟨rfl, ⟨rfl, rfl, rows_same⟩, trivial⟩, ⟨⟨⟨rfl, rfl⟩, trivial⟩, rfl, trivial⟩, trivial⟩
      · replace h := iteF h g11
        conv => whnf
        refine CutK.go ?_
        conv => whnf
        cases h
        exact Done.of [some 1024] [] rfl rfl ⟨⟨rfl, rfl⟩, ⟨rfl, ⟨rfl, rfl, rows_same⟩, trivial⟩, ⟨⟨⟨rfl, rfl⟩, trivial⟩, rfl, trivial⟩, trivial⟩
    · replace h := iteF h g8
      conv => whnf
      refine Pick.no ?_
      conv => whnf
      refine Take.all (rfl) ?_
      conv => whnf
      obtain ⟨y12, e13, h⟩ := bind_ex h
      refine CallOk.of (impl_toldSurreal_ct e13) ?_
      conv => whnf
      refine spl (fun g14 => ?_) (fun g14 => ?_)
      · replace h := iteT h g14
        conv => whnf
        refine CutK.go ?_
        conv => whnf
        cases h
        exact Done.of [some 1024] [] rfl rfl ⟨⟨rfl, rfl⟩, ⟨rfl, ⟨rfl, rfl, rows_same⟩, trivial⟩, ⟨⟨⟨rfl, rfl⟩, trivial⟩, rfl, trivial⟩, trivial⟩
      · replace h := iteF h g14
        conv => whnf
        refine CutK.go ?_
        conv => whnf
        cases h
        exact Done.of [some 1024] [] rfl rfl ⟨⟨rfl, rfl⟩, ⟨rfl, ⟨rfl, rfl, rows_same⟩, trivial⟩, ⟨⟨⟨rfl, rfl⟩, trivial⟩, rfl, trivial⟩, trivial⟩
  · replace h := iteF h g5
    conv => whnf
    refine CutK.go ?_
    conv => whnf
    cases h
    exact Done.of [none] [] rfl rfl ⟨⟨rfl, rfl⟩, ⟨rfl, rfl, trivial⟩, ⟨⟨⟨rfl, rfl⟩, trivial⟩, rfl, trivial⟩, trivial⟩

def impl_SubtractSurreals (k : Nat) (a1 : Rw) (a2 : Rw) : Option (Rw × Bool) :=
  ((impl_negative a2).bind fun y3 => ((impl_AddSurreals k a1 y3).bind fun y5 => (if y5.2 = true then some (y5.1, true) else some (y5.1, false))))
set_option maxHeartbeats 4000000 in
set_option maxRecDepth 100000 in
theorem impl_SubtractSurreals_ct {k : Nat} {a1 : Rw} {a2 : Rw} {r : Rw × Bool} (h : impl_SubtractSurreals k a1 a2 = some r) : Ct prog 177 [.agg [.d (D.sl a1)], .agg [.d (D.sl a2)]] (⟨[], []⟩) (.tup [.agg [.os 8 r.1.length], .d (D.bool r.2)]) (⟨[], [(116, true, r.1)]⟩) := by
  rw [impl_SubtractSurreals] at h
  refine Ct.of (c := _) mixed func177 ⟨rfl, rfl, rfl⟩ ?_ rfl
  conv => whnf
  refine Pick.no ?_
  conv => whnf
  obtain ⟨y3, e4, h⟩ := bind_ex h
  refine CallOk.of (impl_negative_ct e4) ?_
  conv => whnf
  refine Pick.no ?_
  conv => whnf
  refine Take.all (rfl) ?_
  conv => whnf
  obtain ⟨y5, e6, h⟩ := bind_ex h
  refine CallOk.of (impl_AddSurreals_ct e6) ?_
  conv => whnf
  refine spl (fun g7 => ?_) (fun g7 => ?_)
  · replace h := iteT h g7
    conv => whnf
    refine CutK.go ?_
    conv => whnf
    cases h
    exact Done.of [some 576] [] rfl rfl ⟨⟨rfl, rfl⟩, ⟨rfl, ⟨rfl, rfl, rows_same⟩, trivial⟩, ⟨⟨⟨rfl, rfl⟩, trivial⟩, rfl, trivial⟩, trivial⟩
  · replace h := iteF h g7
    conv => whnf
    refine CutK.go ?_
    conv => whnf
    cases h
    exact Done.of [some 576] [] rfl rfl ⟨⟨rfl, rfl⟩, ⟨rfl, ⟨rfl, rfl, rows_same⟩, trivial⟩, ⟨⟨⟨rfl, rfl⟩, trivial⟩, rfl, trivial⟩, trivial⟩

def impl_maker_take_2  (a1 : Bool) (a2 : Rw) (a3 : Bool) : Option (Rw × Bool) :=
  (cond a1 (cond a3 (some (a2, true)) (some (a2, true))) (cond a3 (some (a2, false)) (some (a2, true))))
set_option maxHeartbeats 4000000 in
set_option maxRecDepth 100000 in
theorem impl_maker_take_2_ct  {a1 : Bool} {a2 : Rw} {a3 : Bool} {r : Rw × Bool} (h : impl_maker_take_2 a1 a2 a3 = some r) : Ct prog 123 [.ptr 0 0, .agg [.os 8 a2.length], .d (D.bool a3)] (⟨[(83, [.d (D.bool a1)])], [(116, true, a2)]⟩) (.agg [.os 8 r.1.length]) (⟨[(83, [.d (D.bool r.2)])], [(116, true, r.1)]⟩) := by
  rw [impl_maker_take_2] at h
  refine Ct.of (c := _) mixed func123 ⟨rfl, rfl, rfl⟩ ?_ rfl
  cases a1
  · replace h := condF h
    cases a3
    · replace h := condF h
      conv => whnf
      refine splF ?_
      conv => whnf
      cases h
      exact Done.of [some 0, some 8] [] rfl rfl ⟨⟨rfl, rfl⟩, ⟨rfl, ⟨rfl, rfl, trivial⟩, ⟨rfl, rfl, rows_same⟩, trivial⟩, ⟨⟨rfl, rfl⟩, trivial⟩, trivial⟩
    · replace h := condT h
      conv => whnf
      refine splF ?_
      conv => whnf
      cases h
      exact Done.of [some 0, some 8] [] rfl rfl ⟨⟨rfl, rfl⟩, ⟨rfl, ⟨rfl, rfl, trivial⟩, ⟨rfl, rfl, rows_same⟩, trivial⟩, ⟨⟨rfl, rfl⟩, trivial⟩, trivial⟩
  · replace h := condT h
    cases a3
    · replace h := condF h
      conv => whnf
      refine splT ?_
      conv => whnf
      cases h
      exact Done.of [some 0, some 8] [] rfl rfl ⟨⟨rfl, rfl⟩, ⟨rfl, ⟨rfl, rfl, trivial⟩, ⟨rfl, rfl, rows_same⟩, trivial⟩, ⟨⟨rfl, rfl⟩, trivial⟩, trivial⟩
    · replace h := condT h
      conv => whnf
      refine splT ?_
      conv => whnf
      cases h
      exact Done.of [some 0, some 8] [] rfl rfl ⟨⟨rfl, rfl⟩, ⟨rfl, ⟨rfl, rfl, trivial⟩, ⟨rfl, rfl, rows_same⟩, trivial⟩, ⟨⟨rfl, rfl⟩, trivial⟩, trivial⟩

def impl_maker_sub (k : Nat) (a1 : Bool) (a2 : Rw) (a3 : Rw) : Option (Rw × Bool) :=
  (cond a1 ((impl_SubtractSurreals k a2 a3).bind fun y11 => (if y11.2 = true then ((impl_maker_take_2 true y11.1 true).bind fun y14 => some (y14.1, y14.2)) else ((impl_maker_take_2 true y11.1 false).bind fun y16 => some (y16.1, y16.2)))) ((impl_SubtractSurreals k a2 a3).bind fun y4 => (if y4.2 = true then ((impl_maker_take_2 false y4.1 true).bind fun y7 => some (y7.1, y7.2)) else ((impl_maker_take_2 false y4.1 false).bind fun y9 => some (y9.1, y9.2)))))
set_option maxHeartbeats 4000000 in
set_option maxRecDepth 100000 in
theorem impl_maker_sub_ct {k : Nat} {a1 : Bool} {a2 : Rw} {a3 : Rw} {r : Rw × Bool} (h : impl_maker_sub k a1 a2 a3 = some r) : Ct prog 129 [.ptr 0 0, .agg [.d (D.sl a2)], .agg [.d (D.sl a3)]] (⟨[(83, [.d (D.bool a1)])], []⟩) (.agg [.os 8 r.1.length]) (⟨[(83, [.d (D.bool r.2)])], [(116, true, r.1)]⟩) := by
  rw [impl_maker_sub] at h
  refine Ct.of (c := _) mixed func129 ⟨rfl, rfl, rfl⟩ ?_ rfl
  cases a1
  · replace h := condF h
    conv => whnf
    refine Pick.no ?_
    conv => whnf
    obtain ⟨y4, e5, h⟩ := bind_ex h
    refine CallOk.of (impl_SubtractSurreals_ct e5) ?_
    conv => whnf
    refine spl (fun g6 => ?_) (fun g6 => ?_)
    · replace h := iteT h g6
      conv => whnf
      refine Pick.yes ?_
      conv => whnf
      refine Req.of (Nat.le_refl _) ?_
      conv => whnf
      obtain ⟨y7, e8, h⟩ := bind_ex h
      refine CallOk.of (impl_maker_take_2_ct e8) ?_
      conv => whnf
      refine CutK.go ?_
      conv => whnf
      cases h
      exact Done.of [some 0, some 832] [] rfl rfl ⟨⟨rfl, rfl⟩, ⟨rfl, ⟨rfl, rfl, trivial⟩, ⟨rfl, rfl, rows_same⟩, trivial⟩, ⟨⟨rfl, rfl⟩, trivial⟩, trivial⟩
    · replace h := iteF h g6
      conv => whnf
      refine Pick.yes ?_
      conv => whnf
      refine Req.of (Nat.le_refl _) ?_
      conv => whnf
      obtain ⟨y9, e10, h⟩ := bind_ex h
      refine CallOk.of (impl_maker_take_2_ct e10) ?_
      conv => whnf
      refine CutK.go ?_
      conv => whnf
      cases h
      exact Done.of [some 0, some 832] [] rfl rfl ⟨⟨rfl, rfl⟩, ⟨rfl, ⟨rfl, rfl, trivial⟩, ⟨rfl, rfl, rows_same⟩, trivial⟩, ⟨⟨rfl, rfl⟩, trivial⟩, trivial⟩
  · replace h := condT h
    conv => whnf
    refine Pick.no ?_
    conv => whnf
    obtain ⟨y11, e12, h⟩ := bind_ex h
    refine CallOk.of (impl_SubtractSurreals_ct e12) ?_
    conv => whnf
    refine spl (fun g13 => ?_) (fun g13 => ?_)
    · replace h := iteT h g13
      conv => whnf
      refine Pick.yes ?_
      conv => whnf
      refine Req.of (Nat.le_refl _) ?_
      conv => whnf
      obtain ⟨y14, e15, h⟩ := bind_ex h
      refine CallOk.of (impl_maker_take_2_ct e15) ?_
      conv => whnf
      refine CutK.go ?_
      conv => whnf
      cases h
      exact Done.of [some 0, some 832] [] rfl rfl ⟨⟨rfl, rfl⟩, ⟨rfl, ⟨rfl, rfl, trivial⟩, ⟨rfl, rfl, rows_same⟩, trivial⟩, ⟨⟨rfl, rfl⟩, trivial⟩, trivial⟩
    · replace h := iteF h g13
      conv => whnf
      refine Pick.yes ?_
      conv => whnf
      refine Req.of (Nat.le_refl _) ?_
      conv => whnf
      obtain ⟨y16, e17, h⟩ := bind_ex h
      refine CallOk.of (impl_maker_take_2_ct e17) ?_
      conv => whnf
      refine CutK.go ?_
      conv => whnf
      cases h
      exact Done.of [some 0, some 832] [] rfl rfl ⟨⟨rfl, rfl⟩, ⟨rfl, ⟨rfl, rfl, trivial⟩, ⟨rfl, rfl, rows_same⟩, trivial⟩, ⟨⟨rfl, rfl⟩, trivial⟩, trivial⟩

def impl_DivideFractions_1  (a1 : Int) (a2 : Int) (a3 : Int) (a4 : Int) : Option (Int × Int × Int × Int × Int × Int) :=
  some (IntKind.i64.wrap (a1 * a4), IntKind.i64.wrap (a2 * a3), a1, a2, a3, a4)
set_option maxHeartbeats 4000000 in
set_option maxRecDepth 100000 in
theorem impl_DivideFractions_1_ct  {a1 : Int} {a2 : Int} {a3 : Int} {a4 : Int} {r : Int × Int × Int × Int × Int × Int} (h : impl_DivideFractions_1 a1 a2 a3 a4 = some r) : Ct prog 179 [.ptr 0 0, .ptr 64 0] (⟨[(61, [.d (D.int .i64 a1), .d (D.int .i64 a2)]), (61, [.d (D.int .i64 a3), .d (D.int .i64 a4)])], []⟩) (.tup [.d (D.int .i64 r.1), .d (D.int .i64 r.2.1)]) (⟨[(61, [.d (D.int .i64 r.2.2.1), .d (D.int .i64 r.2.2.2.1)]), (61, [.d (D.int .i64 r.2.2.2.2.1), .d (D.int .i64 r.2.2.2.2.2)])], []⟩) := by
  rw [impl_DivideFractions_1] at h
  refine Ct.of (c := _) mixed func179 ⟨rfl, rfl, rfl⟩ ?_ rfl
  conv => whnf
  cases h
  exact Done.of [some 0, some 64] [] rfl rfl ⟨⟨rfl, rfl⟩, ⟨rfl, ⟨rfl, rfl, rfl, trivial⟩, ⟨rfl, rfl, rfl, trivial⟩, trivial⟩, ⟨rfl, rfl, trivial⟩, trivial⟩

def impl_two__DivideFractions_1 (k : Nat) (a1 : Int) (a2 : Int) (a3 : Int) (a4 : Int) (a5 : Int) (a6 : Int) (a7 : Int) (a8 : Int) : Option (Int × Int × Bool × Int × Int × Int × Int) :=
  ((impl_IsFraction k a1 a2).bind fun y9 => (if y9 = true then ((impl_IsFraction k a3 a4).bind fun y12 => (if y12 = true then ((impl_DivideFractions_1 a5 a6 a7 a8).bind fun y15 => ((impl_made k y15.1 y15.2.1).bind fun y17 => (if y17.2.2 = true then some (y17.1, y17.2.1, true, y15.2.2.1, y15.2.2.2.1, y15.2.2.2.2.1, y15.2.2.2.2.2) else some (y17.1, y17.2.1, false, y15.2.2.1, y15.2.2.2.1, y15.2.2.2.2.1, y15.2.2.2.2.2)))) else some (0, 0, false, a5, a6, a7, a8))) else some (0, 0, false, a5, a6, a7, a8)))
set_option maxHeartbeats 4000000 in
set_option maxRecDepth 100000 in
theorem impl_two__DivideFractions_1_ct {k : Nat} {a1 : Int} {a2 : Int} {a3 : Int} {a4 : Int} {a5 : Int} {a6 : Int} {a7 : Int} {a8 : Int} {r : Int × Int × Bool × Int × Int × Int × Int} (h : impl_two__DivideFractions_1 k a1 a2 a3 a4 a5 a6 a7 a8 = some r) : Ct prog 178 [.agg [.d (D.int .i64 a1), .d (D.int .i64 a2)], .agg [.d (D.int .i64 a3), .d (D.int .i64 a4)], .fn 179 [.ptr 0 0, .ptr 64 0]] (⟨[(61, [.d (D.int .i64 a5), .d (D.int .i64 a6)]), (61, [.d (D.int .i64 a7), .d (D.int .i64 a8)])], []⟩) (.tup [.agg [.d (D.int .i64 r.1), .d (D.int .i64 r.2.1)], .d (D.bool r.2.2.1)]) (⟨[(61, [.d (D.int .i64 r.2.2.2.1), .d (D.int .i64 r.2.2.2.2.1)]), (61, [.d (D.int .i64 r.2.2.2.2.2.1), .d (D.int .i64 r.2.2.2.2.2.2)])], []⟩) := by
  rw [impl_two__DivideFractions_1] at h
  refine Ct.of (c := _) mixed func178 ⟨rfl, rfl, rfl⟩ ?_ rfl
  conv => whnf
  refine Pick.no ?_
  conv => whnf
  obtain ⟨y9, e10, h⟩ := bind_ex h
  refine CallOk.of (impl_IsFraction_ct e10) ?_
  conv => whnf
  refine spl (fun g11 => ?_) (fun g11 => ?_)
  · replace h := iteT h g11
    conv => whnf
    refine Pick.no ?_
    conv => whnf
    obtain ⟨y12, e13, h⟩ := bind_ex h
    refine CallOk.of (impl_IsFraction_ct e13) ?_
    conv => whnf
    refine spl (fun g14 => ?_) (fun g14 => ?_)
    · replace h := iteT h g14
      conv => whnf
      refine CutK.go ?_
      conv => whnf
      refine CutK.go ?_
      conv => whnf
      refine Pick.no ?_
      conv => whnf
      obtain ⟨y15, e16, h⟩ := bind_ex h
      refine CallOk.of (impl_DivideFractions_1_ct e16) ?_
      conv => whnf
      refine Pick.no ?_
      conv => whnf
      obtain ⟨y17, e18, h⟩ := bind_ex h
      refine CallOk.of (impl_made_ct e18) ?_
      conv => whnf
      refine spl (fun g19 => ?_) (fun g19 => ?_)
      · replace h := iteT h g19
        conv => whnf
        refine CutK.go ?_
        conv => whnf
        cases h
        exact Done.of [some 0, some 64] [] rfl rfl ⟨⟨rfl, rfl⟩, ⟨rfl, ⟨rfl, rfl, rfl, trivial⟩, ⟨rfl, rfl, rfl, trivial⟩, trivial⟩, ⟨⟨rfl, rfl, trivial⟩, rfl, trivial⟩, trivial⟩
      · replace h := iteF h g19
        conv => whnf
        refine CutK.go ?_
        conv => whnf
        cases h
        exact Done.of [some 0, some 64] [] rfl rfl ⟨⟨rfl, rfl⟩, ⟨rfl, ⟨rfl, rfl, rfl, trivial⟩, ⟨rfl, rfl, rfl, trivial⟩, trivial⟩, ⟨⟨rfl, rfl, trivial⟩, rfl, trivial⟩, trivial⟩
    · replace h := iteF h g14
      conv => whnf
      refine CutK.go ?_
      conv => whnf
      cases h
      exact Done.of [some 0, some 64] [] rfl rfl ⟨⟨rfl, rfl⟩, ⟨rfl, ⟨rfl, rfl, rfl, trivial⟩, ⟨rfl, rfl, rfl, trivial⟩, trivial⟩, ⟨⟨rfl, rfl, trivial⟩, rfl, trivial⟩, trivial⟩
  · replace h := iteF h g11
    conv => whnf
    refine CutK.go ?_
    conv => whnf
    cases h
    exact Done.of [some 0, some 64] [] rfl rfl ⟨⟨rfl, rfl⟩, ⟨rfl, ⟨rfl, rfl, rfl, trivial⟩, ⟨rfl, rfl, rfl, trivial⟩, trivial⟩, ⟨⟨rfl, rfl, trivial⟩, rfl, trivial⟩, trivial⟩

def impl_DivideFractions (k : Nat) (a1 : Int) (a2 : Int) (a3 : Int) (a4 : Int) : Option (Int × Int × Bool) :=
  ((impl_two__DivideFractions_1 k a1 a2 a3 a4 a1 a2 a3 a4).bind fun y5 => (if y5.2.2.1 = true then some (y5.1, y5.2.1, true) else some (y5.1, y5.2.1, false)))
set_option maxHeartbeats 4000000 in
set_option maxRecDepth 100000 in
theorem impl_DivideFractions_ct {k : Nat} {a1 : Int} {a2 : Int} {a3 : Int} {a4 : Int} {r : Int × Int × Bool} (h : impl_DivideFractions k a1 a2 a3 a4 = some r) : Ct prog 131 [.agg [.d (D.int .i64 a1), .d (D.int .i64 a2)], .agg [.d (D.int .i64 a3), .d (D.int .i64 a4)]] (⟨[], []⟩) (.tup [.agg [.d (D.int .i64 r.1), .d (D.int .i64 r.2.1)], .d (D.bool r.2.2)]) (⟨[], []⟩) := by
  rw [impl_DivideFractions] at h
  refine Ct.of (c := _) mixed func131 ⟨rfl, rfl, rfl⟩ ?_ rfl
  conv => whnf
  refine Pick.no ?_
  conv => whnf
  obtain ⟨y5, e6, h⟩ := bind_ex h
  refine CallOk.of (impl_two__DivideFractions_1_ct e6) ?_
  conv => whnf
  refine spl (fun g7 => ?_) (fun g7 => ?_)
  · replace h := iteT h g7
    conv => whnf
    refine CutK.go ?_
    conv => whnf
    cases h
    exact Done.of [] [] rfl rfl ⟨⟨rfl, rfl⟩, ⟨rfl, trivial⟩, ⟨⟨rfl, rfl, trivial⟩, rfl, trivial⟩, trivial⟩
  · replace h := iteF h g7
    conv => whnf
    refine CutK.go ?_
    conv => whnf
    cases h
    exact Done.of [] [] rfl rfl ⟨⟨rfl, rfl⟩, ⟨rfl, trivial⟩, ⟨⟨rfl, rfl, trivial⟩, rfl, trivial⟩, trivial⟩

def impl_maker_coef  (a1 : Bool) (a2 : Int) (a3 : Int) (a4 : Bool) : Option (Int × Int × Bool) :=
  (cond a1 (cond a4 (some (a2, a3, true)) (some (a2, a3, true))) (cond a4 (some (a2, a3, false)) (some (a2, a3, true))))
set_option maxHeartbeats 4000000 in
set_option maxRecDepth 100000 in
theorem impl_maker_coef_ct  {a1 : Bool} {a2 : Int} {a3 : Int} {a4 : Bool} {r : Int × Int × Bool} (h : impl_maker_coef a1 a2 a3 a4 = some r) : Ct prog 130 [.ptr 0 0, .agg [.d (D.int .i64 a2), .d (D.int .i64 a3)], .d (D.bool a4)] (⟨[(83, [.d (D.bool a1)])], []⟩) (.agg [.d (D.int .i64 r.1), .d (D.int .i64 r.2.1)]) (⟨[(83, [.d (D.bool r.2.2)])], []⟩) := by
  rw [impl_maker_coef] at h
  refine Ct.of (c := _) mixed func130 ⟨rfl, rfl, rfl⟩ ?_ rfl
  cases a1
  · replace h := condF h
    cases a4
    · replace h := condF h
      conv => whnf
      refine splF ?_
      conv => whnf
      cases h
      exact Done.of [some 0] [] rfl rfl ⟨⟨rfl, rfl⟩, ⟨rfl, ⟨rfl, rfl, trivial⟩, trivial⟩, ⟨rfl, rfl, trivial⟩, trivial⟩
    · replace h := condT h
      conv => whnf
      refine splF ?_
      conv => whnf
      cases h
      exact Done.of [some 0] [] rfl rfl ⟨⟨rfl, rfl⟩, ⟨rfl, ⟨rfl, rfl, trivial⟩, trivial⟩, ⟨rfl, rfl, trivial⟩, trivial⟩
  · replace h := condT h
    cases a4
    · replace h := condF h
      conv => whnf
      refine splT ?_
      conv => whnf
      cases h
      exact Done.of [some 0] [] rfl rfl ⟨⟨rfl, rfl⟩, ⟨rfl, ⟨rfl, rfl, trivial⟩, trivial⟩, ⟨rfl, rfl, trivial⟩, trivial⟩
    · replace h := condT h
      conv => whnf
      refine splT ?_
      conv => whnf
      cases h
      exact Done.of [some 0] [] rfl rfl ⟨⟨rfl, rfl⟩, ⟨rfl, ⟨rfl, rfl, trivial⟩, trivial⟩, ⟨rfl, rfl, trivial⟩, trivial⟩

def impl_term  (a1 : Rw) (a2 : Int) (a3 : Int) : Option Rw :=
  (if a2 = (0 : Int) then some ([] : Rw) else some ([[D.sl a1, D.int .i64 a2, D.int .i64 a3]] : Rw))
set_option maxHeartbeats 4000000 in
set_option maxRecDepth 100000 in
theorem impl_term_ct  {a1 : Rw} {a2 : Int} {a3 : Int} {r : Rw} (h : impl_term a1 a2 a3 = some r) : Ct prog 122 [.agg [.d (D.sl a1)], .agg [.d (D.int .i64 a2), .d (D.int .i64 a3)]] (⟨[], []⟩) (.agg [.os 8 r.length]) (⟨[], [(116, false, r)]⟩) := by
  rw [impl_term] at h
  refine Ct.of (c := _) mixed func122 ⟨rfl, rfl, rfl⟩ ?_ rfl
  conv => whnf
  refine splD (fun g4 => ?_) (fun g4 => ?_)
  · replace h := iteP h g4
    conv => whnf
    cases h
    exact Done.of [none] [] rfl rfl ⟨⟨rfl, rfl⟩, ⟨rfl, rfl, trivial⟩, ⟨⟨rfl, rfl⟩, trivial⟩, trivial⟩
  · replace h := iteN h g4
    conv => whnf
    cases h
    exact Done.of [some 768] [] rfl rfl ⟨⟨rfl, rfl⟩, ⟨rfl, ⟨rfl, rfl, rows_same⟩, trivial⟩, ⟨⟨(by first | rfl | exact List.length_append.symm | (simp; done) | omega), rfl⟩, trivial⟩, trivial⟩

def impl_maker_add (k : Nat) (a1 : Bool) (a2 : Rw) (a3 : Rw) : Option (Rw × Bool) :=
  (cond a1 ((impl_AddSurreals k a2 a3).bind fun y11 => (if y11.2 = true then ((impl_maker_take_2 true y11.1 true).bind fun y14 => some (y14.1, y14.2)) else ((impl_maker_take_2 true y11.1 false).bind fun y16 => some (y16.1, y16.2)))) ((impl_AddSurreals k a2 a3).bind fun y4 => (if y4.2 = true then ((impl_maker_take_2 false y4.1 true).bind fun y7 => some (y7.1, y7.2)) else ((impl_maker_take_2 false y4.1 false).bind fun y9 => some (y9.1, y9.2)))))
set_option maxHeartbeats 4000000 in
set_option maxRecDepth 100000 in
theorem impl_maker_add_ct {k : Nat} {a1 : Bool} {a2 : Rw} {a3 : Rw} {r : Rw × Bool} (h : impl_maker_add k a1 a2 a3 = some r) : Ct prog 61 [.ptr 0 0, .agg [.d (D.sl a2)], .agg [.d (D.sl a3)]] (⟨[(83, [.d (D.bool a1)])], []⟩) (.agg [.os 8 r.1.length]) (⟨[(83, [.d (D.bool r.2)])], [(116, true, r.1)]⟩) := by
  rw [impl_maker_add] at h
  refine Ct.of (c := _) mixed func61 ⟨rfl, rfl, rfl⟩ ?_ rfl
  cases a1
  · replace h := condF h
    conv => whnf
    refine Pick.no ?_
    conv => whnf
    obtain ⟨y4, e5, h⟩ := bind_ex h
    refine CallOk.of (impl_AddSurreals_ct e5) ?_
    conv => whnf
    refine spl (fun g6 => ?_) (fun g6 => ?_)
    · replace h := iteT h g6
      conv => whnf
      refine Pick.yes ?_
      conv => whnf
      refine Req.of (Nat.le_refl _) ?_
      conv => whnf
      obtain ⟨y7, e8, h⟩ := bind_ex h
      refine CallOk.of (impl_maker_take_2_ct e8) ?_
      conv => whnf
      refine CutK.go ?_
      conv => whnf
      cases h
      exact Done.of [some 0, some 832] [] rfl rfl ⟨⟨rfl, rfl⟩, ⟨rfl, ⟨rfl, rfl, trivial⟩, ⟨rfl, rfl, rows_same⟩, trivial⟩, ⟨⟨rfl, rfl⟩, trivial⟩, trivial⟩
    · replace h := iteF h g6
      conv => whnf
      refine Pick.yes ?_
      conv => whnf
      refine Req.of (Nat.le_refl _) ?_
      conv => whnf
      obtain ⟨y9, e10, h⟩ := bind_ex h
      refine CallOk.of (impl_maker_take_2_ct e10) ?_
      conv => whnf
      refine CutK.go ?_
      conv => whnf
      cases h
      exact Done.of [some 0, some 832] [] rfl rfl ⟨⟨rfl, rfl⟩, ⟨rfl, ⟨rfl, rfl, trivial⟩, ⟨rfl, rfl, rows_same⟩, trivial⟩, ⟨⟨rfl, rfl⟩, trivial⟩, trivial⟩
  · replace h := condT h
    conv => whnf
    refine Pick.no ?_
    conv => whnf
    obtain ⟨y11, e12, h⟩ := bind_ex h
    refine CallOk.of (impl_AddSurreals_ct e12) ?_
    conv => whnf
    refine spl (fun g13 => ?_) (fun g13 => ?_)
    · replace h := iteT h g13
      conv => whnf
      refine Pick.yes ?_
      conv => whnf
      refine Req.of (Nat.le_refl _) ?_
      conv => whnf
      obtain ⟨y14, e15, h⟩ := bind_ex h
      refine CallOk.of (impl_maker_take_2_ct e15) ?_
      conv => whnf
      refine CutK.go ?_
      conv => whnf
      cases h
      exact Done.of [some 0, some 832] [] rfl rfl ⟨⟨rfl, rfl⟩, ⟨rfl, ⟨rfl, rfl, trivial⟩, ⟨rfl, rfl, rows_same⟩, trivial⟩, ⟨⟨rfl, rfl⟩, trivial⟩, trivial⟩
    · replace h := iteF h g13
      conv => whnf
      refine Pick.yes ?_
      conv => whnf
      refine Req.of (Nat.le_refl _) ?_
      conv => whnf
      obtain ⟨y16, e17, h⟩ := bind_ex h
      refine CallOk.of (impl_maker_take_2_ct e17) ?_
      conv => whnf
      refine CutK.go ?_
      conv => whnf
      cases h
      exact Done.of [some 0, some 832] [] rfl rfl ⟨⟨rfl, rfl⟩, ⟨rfl, ⟨rfl, rfl, trivial⟩, ⟨rfl, rfl, rows_same⟩, trivial⟩, ⟨⟨rfl, rfl⟩, trivial⟩, trivial⟩

def impl_MultiplyFractions_1  (a1 : Int) (a2 : Int) (a3 : Int) (a4 : Int) : Option (Int × Int × Int × Int × Int × Int) :=
  some (IntKind.i64.wrap (a1 * a3), IntKind.i64.wrap (a2 * a4), a1, a2, a3, a4)
set_option maxHeartbeats 4000000 in
set_option maxRecDepth 100000 in
theorem impl_MultiplyFractions_1_ct  {a1 : Int} {a2 : Int} {a3 : Int} {a4 : Int} {r : Int × Int × Int × Int × Int × Int} (h : impl_MultiplyFractions_1 a1 a2 a3 a4 = some r) : Ct prog 185 [.ptr 0 0, .ptr 64 0] (⟨[(61, [.d (D.int .i64 a1), .d (D.int .i64 a2)]), (61, [.d (D.int .i64 a3), .d (D.int .i64 a4)])], []⟩) (.tup [.d (D.int .i64 r.1), .d (D.int .i64 r.2.1)]) (⟨[(61, [.d (D.int .i64 r.2.2.1), .d (D.int .i64 r.2.2.2.1)]), (61, [.d (D.int .i64 r.2.2.2.2.1), .d (D.int .i64 r.2.2.2.2.2)])], []⟩) := by
  rw [impl_MultiplyFractions_1] at h
  refine Ct.of (c := _) mixed func185 ⟨rfl, rfl, rfl⟩ ?_ rfl
  conv => whnf
  cases h
  exact Done.of [some 0, some 64] [] rfl rfl ⟨⟨rfl, rfl⟩, ⟨rfl, ⟨rfl, rfl, rfl, trivial⟩, ⟨rfl, rfl, rfl, trivial⟩, trivial⟩, ⟨rfl, rfl, trivial⟩, trivial⟩

def impl_two__MultiplyFractions_1 (k : Nat) (a1 : Int) (a2 : Int) (a3 : Int) (a4 : Int) (a5 : Int) (a6 : Int) (a7 : Int) (a8 : Int) : Option (Int × Int × Bool × Int × Int × Int × Int) :=
  ((impl_IsFraction k a1 a2).bind fun y9 => (if y9 = true then ((impl_IsFraction k a3 a4).bind fun y12 => (if y12 = true then ((impl_MultiplyFractions_1 a5 a6 a7 a8).bind fun y15 => ((impl_made k y15.1 y15.2.1).bind fun y17 => (if y17.2.2 = true then some (y17.1, y17.2.1, true, y15.2.2.1, y15.2.2.2.1, y15.2.2.2.2.1, y15.2.2.2.2.2) else some (y17.1, y17.2.1, false, y15.2.2.1, y15.2.2.2.1, y15.2.2.2.2.1, y15.2.2.2.2.2)))) else some (0, 0, false, a5, a6, a7, a8))) else some (0, 0, false, a5, a6, a7, a8)))
set_option maxHeartbeats 4000000 in
set_option maxRecDepth 100000 in
theorem impl_two__MultiplyFractions_1_ct {k : Nat} {a1 : Int} {a2 : Int} {a3 : Int} {a4 : Int} {a5 : Int} {a6 : Int} {a7 : Int} {a8 : Int} {r : Int × Int × Bool × Int × Int × Int × Int} (h : impl_two__MultiplyFractions_1 k a1 a2 a3 a4 a5 a6 a7 a8 = some r) : Ct prog 178 [.agg [.d (D.int .i64 a1), .d (D.int .i64 a2)], .agg [.d (D.int .i64 a3), .d (D.int .i64 a4)], .fn 185 [.ptr 0 0, .ptr 64 0]] (⟨[(61, [.d (D.int .i64 a5), .d (D.int .i64 a6)]), (61, [.d (D.int .i64 a7), .d (D.int .i64 a8)])], []⟩) (.tup [.agg [.d (D.int .i64 r.1), .d (D.int .i64 r.2.1)], .d (D.bool r.2.2.1)]) (⟨[(61, [.d (D.int .i64 r.2.2.2.1), .d (D.int .i64 r.2.2.2.2.1)]), (61, [.d (D.int .i64 r.2.2.2.2.2.1), .d (D.int .i64 r.2.2.2.2.2.2)])], []⟩) := by
  rw [impl_two__MultiplyFractions_1] at h
  refine Ct.of (c := _) mixed func178 ⟨rfl, rfl, rfl⟩ ?_ rfl
  conv => whnf
  refine Pick.no ?_
  conv => whnf
  obtain ⟨y9, e10, h⟩ := bind_ex h
  refine CallOk.of (impl_IsFraction_ct e10) ?_
  conv => whnf
  refine spl (fun g11 => ?_) (fun g11 => ?_)
  · replace h := iteT h g11
    conv => whnf
    refine Pick.no ?_
    conv => whnf
    obtain ⟨y12, e13, h⟩ := bind_ex h
    refine CallOk.of (impl_IsFraction_ct e13) ?_
    conv => whnf
    refine spl (fun g14 => ?_) (fun g14 => ?_)
    · replace h := iteT h g14
      conv => whnf
      refine CutK.go ?_
      conv => whnf
      refine CutK.go ?_
      conv => whnf
      refine Pick.no ?_
      conv => whnf
      obtain ⟨y15, e16, h⟩ := bind_ex h
      refine CallOk.of (impl_MultiplyFractions_1_ct e16) ?_
      conv => whnf
      refine Pick.no ?_
      conv => whnf
      obtain ⟨y17, e18, h⟩ := bind_ex h
      refine CallOk.of (impl_made_ct e18) ?_
      conv => whnf
      refine spl (fun g19 => ?_) (fun g19 => ?_)
      · replace h := iteT h g19
        conv => whnf
        refine CutK.go ?_
        conv => whnf
        cases h
        exact Done.of [some 0, some 64] [] rfl rfl ⟨⟨rfl, rfl⟩, ⟨rfl, ⟨rfl, rfl, rfl, trivial⟩, ⟨rfl, rfl, rfl, trivial⟩, trivial⟩, ⟨⟨rfl, rfl, trivial⟩, rfl, trivial⟩, trivial⟩
      · replace h := iteF h g19
        conv => whnf
        refine CutK.go ?_
        conv => whnf
        cases h
        exact Done.of [some 0, some 64] [] rfl rfl ⟨⟨rfl, rfl⟩, ⟨rfl, ⟨rfl, rfl, rfl, trivial⟩, ⟨rfl, rfl, rfl, trivial⟩, trivial⟩, ⟨⟨rfl, rfl, trivial⟩, rfl, trivial⟩, trivial⟩
    · replace h := iteF h g14
      conv => whnf
      refine CutK.go ?_
      conv => whnf
      cases h
      exact Done.of [some 0, some 64] [] rfl rfl ⟨⟨rfl, rfl⟩, ⟨rfl, ⟨rfl, rfl, rfl, trivial⟩, ⟨rfl, rfl, rfl, trivial⟩, trivial⟩, ⟨⟨rfl, rfl, trivial⟩, rfl, trivial⟩, trivial⟩
  · replace h := iteF h g11
    conv => whnf
    refine CutK.go ?_
    conv => whnf
    cases h
    exact Done.of [some 0, some 64] [] rfl rfl ⟨⟨rfl, rfl⟩, ⟨rfl, ⟨rfl, rfl, rfl, trivial⟩, ⟨rfl, rfl, rfl, trivial⟩, trivial⟩, ⟨⟨rfl, rfl, trivial⟩, rfl, trivial⟩, trivial⟩

def impl_MultiplyFractions (k : Nat) (a1 : Int) (a2 : Int) (a3 : Int) (a4 : Int) : Option (Int × Int × Bool) :=
  ((impl_two__MultiplyFractions_1 k a1 a2 a3 a4 a1 a2 a3 a4).bind fun y5 => (if y5.2.2.1 = true then some (y5.1, y5.2.1, true) else some (y5.1, y5.2.1, false)))
set_option maxHeartbeats 4000000 in
set_option maxRecDepth 100000 in
theorem impl_MultiplyFractions_ct {k : Nat} {a1 : Int} {a2 : Int} {a3 : Int} {a4 : Int} {r : Int × Int × Bool} (h : impl_MultiplyFractions k a1 a2 a3 a4 = some r) : Ct prog 149 [.agg [.d (D.int .i64 a1), .d (D.int .i64 a2)], .agg [.d (D.int .i64 a3), .d (D.int .i64 a4)]] (⟨[], []⟩) (.tup [.agg [.d (D.int .i64 r.1), .d (D.int .i64 r.2.1)], .d (D.bool r.2.2)]) (⟨[], []⟩) := by
  rw [impl_MultiplyFractions] at h
  refine Ct.of (c := _) mixed func149 ⟨rfl, rfl, rfl⟩ ?_ rfl
  conv => whnf
  refine Pick.no ?_
  conv => whnf
  obtain ⟨y5, e6, h⟩ := bind_ex h
  refine CallOk.of (impl_two__MultiplyFractions_1_ct e6) ?_
  conv => whnf
  refine spl (fun g7 => ?_) (fun g7 => ?_)
  · replace h := iteT h g7
    conv => whnf
    refine CutK.go ?_
    conv => whnf
    cases h
    exact Done.of [] [] rfl rfl ⟨⟨rfl, rfl⟩, ⟨rfl, trivial⟩, ⟨⟨rfl, rfl, trivial⟩, rfl, trivial⟩, trivial⟩
  · replace h := iteF h g7
    conv => whnf
    refine CutK.go ?_
    conv => whnf
    cases h
    exact Done.of [] [] rfl rfl ⟨⟨rfl, rfl⟩, ⟨rfl, trivial⟩, ⟨⟨rfl, rfl, trivial⟩, rfl, trivial⟩, trivial⟩

def impl_MultiplySurreals_p5 (o220 : Rw) (v221 : Bool) : Option (Rw × Bool) :=
  (cond v221 (some (o220, true)) (some (o220, false)))
set_option maxHeartbeats 4000000 in
set_option maxRecDepth 100000 in
theorem impl_MultiplySurreals_p5_ct {o220 : Rw} {v221 : Bool} {r : Rw × Bool} (h : impl_MultiplySurreals_p5 o220 v221 = some r) : X prog 0 (tlF f124 5) (mk 78 [(4, .ptr 256 0), (5, .d (D.bool v221))] [(256, .box 28 [.os 1089000 o220.length]), (1089000, .arr 116 true o220)]) (finK prog f124 0 (.tup [.agg [.os 8 r.1.length], .d (D.bool r.2)]) (⟨[], [(116, true, r.1)]⟩)) := by
  rw [impl_MultiplySurreals_p5] at h
  cases v221
  · replace h := condF h
    conv => whnf
    cases h
    exact Done.of [some 1089000] [] rfl rfl ⟨⟨rfl, rfl⟩, ⟨rfl, ⟨rfl, rfl, rows_same⟩, trivial⟩, ⟨⟨⟨rfl, rfl⟩, trivial⟩, rfl, trivial⟩, trivial⟩
  · replace h := condT h
    conv => whnf
    cases h
    exact Done.of [some 1089000] [] rfl rfl ⟨⟨rfl, rfl⟩, ⟨rfl, ⟨rfl, rfl, rows_same⟩, trivial⟩, ⟨⟨⟨rfl, rfl⟩, trivial⟩, rfl, trivial⟩, trivial⟩
def impl_MultiplySurreals_p4 (k : Nat) (o216 : Rw) : Option (Rw × Bool) :=
  ((impl_toldSurreal k o216 true).bind fun y222 => (if y222.2 = true then (impl_MultiplySurreals_p5 y222.1 true) else (impl_MultiplySurreals_p5 y222.1 false)))
set_option maxHeartbeats 4000000 in
set_option maxRecDepth 100000 in
theorem impl_MultiplySurreals_p4_ct {k : Nat} {o216 : Rw} {r : Rw × Bool} (h : impl_MultiplySurreals_p4 k o216 = some r) : X prog 0 (tlF f124 4) (mk 78 [(4, .ptr 256 0), (6, .ptr 384 0)] [(256, .box 28 [.es]), (384, .box 28 [.os 1084000 o216.length]), (1084000, .arr 116 false o216)]) (finK prog f124 0 (.tup [.agg [.os 8 r.1.length], .d (D.bool r.2)]) (⟨[], [(116, true, r.1)]⟩)) := by
  rw [impl_MultiplySurreals_p4] at h
  conv => whnf
  refine Pick.no ?_
  conv => whnf
  refine Take.all (rfl) ?_
  conv => whnf
  obtain ⟨y222, e223, h⟩ := bind_ex h
  refine CallOk.of (impl_toldSurreal_ct e223) ?_
  conv => whnf
  refine spl (fun g224 => ?_) (fun g224 => ?_)
  · replace h := iteT h g224
    conv => whnf
    exact CutK.piece (impl_MultiplySurreals_p5_ct  h) [some 256, some 4800] [] ⟨⟨rfl, rfl⟩, ⟨rfl, ⟨rfl, ⟨rfl, rfl⟩, trivial⟩, ⟨rfl, rfl, rows_same⟩, trivial⟩, ⟨rfl, rfl⟩, rfl, trivial⟩
  · replace h := iteF h g224
    conv => whnf
    exact CutK.piece (impl_MultiplySurreals_p5_ct  h) [some 256, some 4800] [] ⟨⟨rfl, rfl⟩, ⟨rfl, ⟨rfl, ⟨rfl, rfl⟩, trivial⟩, ⟨rfl, rfl, rows_same⟩, trivial⟩, ⟨rfl, rfl⟩, rfl, trivial⟩
def impl_MultiplySurreals_l1 (k : Nat) (a1 : Rw) (a2 : Rw) (v294n : Nat) (x435 : Rw) (x436 : Int) (x437 : Int) (K2 : Rw → Option (Rw × Bool)) : Rw → Rw → Option (Rw × Bool)
  | [], v457 => (K2 v457)
  | cs :: rest, v457 => (cell_sii cs fun x502 x503 x504 => ((impl_AddSurreals k x435 x502).bind fun y506 => (if y506.2 = true then ((impl_MultiplyFractions k x436 x437 x503 x504).bind fun y509 => (if y509.2.2 = true then ((impl_term y506.1 y509.1 y509.2.1).bind fun y512 => ((impl_sum k v457 y512).bind fun y514 => (if y514.2 = true then (impl_MultiplySurreals_l1 k a1 a2 v294n x435 x436 x437 K2 rest y514.1) else some (([] : Rw), false)))) else some (([] : Rw), false))) else ((impl_MultiplyFractions k x436 x437 x503 x504).bind fun y517 => (if y517.2.2 = true then some (([] : Rw), false) else some (([] : Rw), false))))))
set_option maxRecDepth 100000 in
theorem impl_MultiplySurreals_l1_ct {k : Nat} {a1 : Rw} {a2 : Rw} {v294n : Nat} {x435 : Rw} {x436 : Int} {x437 : Int} {K2 : Rw → Option (Rw × Bool)} {r : Rw × Bool} (hx : a2.length ≤ cap) : ∀ (rest : Rw) (v456n : Nat) (v457 : Rw), a2.drop v456n = rest → impl_MultiplySurreals_l1 k a1 a2 v294n x435 x436 x437 K2 rest v457 = some r → LoopOk prog 0 (lp f124 1) (mk 78 [(3, .ptr 192 0), (4, .ptr 256 0), (6, .ptr 384 0), (8, .ptr 512 0), (24, .d (D.sl a1)), (25, .d (D.int .i64 (a1.length : Int))), (26, .d (D.int .i64 (v294n : Int))), (31, .d (D.sl a2)), (32, .d (D.int .i64 (a2.length : Int))), (33, .d (D.int .i64 (v456n : Int)))] [(192, .box 28 [.d (D.sl a2)]), (256, .box 28 [.es]), (384, .box 28 [.os 76800 v457.length]), (512, .box 116 [.d (D.sl x435), .d (D.int .i64 x436), .d (D.int .i64 x437)]), (76800, .arr 116 false v457)]) (LoopEnd prog f124 0 78 (.tup [.agg [.os 8 r.1.length], .d (D.bool r.2)]) (⟨[], [(116, true, r.1)]⟩) (fun i ts os => (i = 2 ∧ ∃ v481 : Rw, K2 v481 = some r ∧ ts = [(3, .ptr 192 0), (4, .ptr 256 0), (6, .ptr 384 0), (24, .d (D.sl a1)), (25, .d (D.int .i64 (a1.length : Int))), (26, .d (D.int .i64 (v294n : Int)))] ∧ os = [(192, .box 28 [.d (D.sl a2)]), (256, .box 28 [.es]), (384, .box 28 [.os 79801 v481.length]), (79801, .arr 116 false v481)])))
  | [], v456n, v457, hd, h => by
      rw [impl_MultiplySurreals_l1] at h
      have hn := drop_nil hd
      refine LoopOk.step ?_
      conv => whnf
      refine splD (fun g => absurd g hn) (fun _ => ?_)
      conv => whnf
      exact ⟨_, _, [some 192, some 256, some 384, some 76800], [], ⟨rfl, _, h, rfl, rfl⟩, ⟨⟨rfl, rfl⟩, ⟨rfl, ⟨rfl, rfl, trivial⟩, ⟨rfl, trivial, trivial⟩, ⟨rfl, ⟨rfl, rfl⟩, trivial⟩, ⟨rfl, rfl, rows_same⟩, trivial⟩, ⟨rfl, rfl⟩, ⟨rfl, rfl⟩, ⟨rfl, rfl⟩, rfl, rfl, rfl, trivial⟩⟩
  | cs :: rest, v456n, v457, hd, h => by
      rw [impl_MultiplySurreals_l1] at h
      obtain ⟨hrow, hd1, hlt⟩ := drop_cons hd
      refine LoopOk.step ?_
      conv => whnf
      refine splD (fun _ => ?_) (fun g => absurd hlt g)
      conv => whnf
      obtain ⟨x502, x503, x504, e505, h⟩ := cell_sii_ex h
      rw [e505] at hrow
      refine Req.of (Int.natCast_nonneg _) ?_
      refine Row.of _ hrow ?_
      conv => whnf
      refine Pick.no ?_
      conv => whnf
      obtain ⟨y506, e507, h⟩ := bind_ex h
      refine CallOk.of (impl_AddSurreals_ct e507) ?_
      conv => whnf
      refine spl (fun g508 => ?_) (fun g508 => ?_)
      · replace h := iteT h g508
        conv => whnf
        refine CutK.norm [3, 4, 6, 8, 10, 11, 12, 24, 25, 26, 31, 32, 33] [192, 256, 384, 512, 640, 704, 2688, 76800] ?_
        conv => whnf
        refine Pick.no ?_
        conv => whnf
        obtain ⟨y509, e510, h⟩ := bind_ex h
        refine CallOk.of (impl_MultiplyFractions_ct e510) ?_
        conv => whnf
        refine spl (fun g511 => ?_) (fun g511 => ?_)
        · replace h := iteT h g511
          conv => whnf
          refine CutK.norm [3, 4, 6, 8, 11, 12, 13, 14, 24, 25, 26, 31, 32, 33] [192, 256, 384, 512, 704, 832, 2688, 76800] ?_
          conv => whnf
          refine Pick.no ?_
          conv => whnf
          refine Take.all (rfl) ?_
          conv => whnf
          obtain ⟨y512, e513, h⟩ := bind_ex h
          refine CallOk.of (impl_term_ct e513) ?_
          conv => whnf
          refine Pick.no ?_
          conv => whnf
          refine Take.all (rfl) ?_
          conv => whnf
          refine Take.all (rfl) ?_
          conv => whnf
          obtain ⟨y514, e515, h⟩ := bind_ex h
          refine CallOk.of (impl_sum_ct e515) ?_
          conv => whnf
          refine spl (fun g516 => ?_) (fun g516 => ?_)
          · replace h := iteT h g516
            conv => whnf
            refine CutK.norm [3, 4, 6, 8, 15, 16, 24, 25, 26, 31, 32, 33] [192, 256, 384, 512, 960, 4160, 76800] ?_
            conv => whnf
            refine CutK.norm [3, 4, 6, 8, 24, 25, 26, 31, 32, 33] [192, 256, 384, 512, 4160] ?_
            conv => whnf
            exact LoopOk.back (impl_MultiplySurreals_l1_ct hx rest (v456n + 1) _ hd1 h) [some 192, some 256, some 384, some 512, some 4160] [] ⟨⟨rfl, rfl⟩, ⟨rfl, ⟨rfl, rfl, trivial⟩, ⟨rfl, trivial, trivial⟩, ⟨rfl, ⟨rfl, rfl⟩, trivial⟩, ⟨rfl, rfl, rfl, rfl, trivial⟩, ⟨rfl, rfl, rows_same⟩, trivial⟩, ⟨rfl, rfl⟩, ⟨rfl, rfl⟩, ⟨rfl, rfl⟩, ⟨rfl, rfl⟩, rfl, rfl, rfl, rfl, rfl, i64eq (wrap_up hlt hx), trivial⟩
          · replace h := iteF h g516
            conv => whnf
            refine CutK.norm [3, 4, 6, 8, 15, 16, 24, 25, 26, 31, 32, 33] [192, 256, 384, 512, 960, 4160, 76800] ?_
            conv => whnf
            cases h
            exact Done.of [none] [] rfl rfl ⟨⟨rfl, rfl⟩, ⟨rfl, rfl, trivial⟩, ⟨⟨⟨rfl, rfl⟩, trivial⟩, rfl, trivial⟩, trivial⟩
        · replace h := iteF h g511
          conv => whnf
          refine CutK.norm [3, 4, 6, 8, 11, 12, 13, 14, 24, 25, 26, 31, 32, 33] [192, 256, 384, 512, 704, 832, 2688, 76800] ?_
          conv => whnf
          cases h
          exact Done.of [none] [] rfl rfl ⟨⟨rfl, rfl⟩, ⟨rfl, rfl, trivial⟩, ⟨⟨⟨rfl, rfl⟩, trivial⟩, rfl, trivial⟩, trivial⟩
      · replace h := iteF h g508
        conv => whnf
        refine CutK.norm [3, 4, 6, 8, 10, 11, 12, 24, 25, 26, 31, 32, 33] [192, 256, 384, 512, 640, 704, 2688, 76800] ?_
        conv => whnf
        refine Pick.no ?_
        conv => whnf
        obtain ⟨y517, e518, h⟩ := bind_ex h
        refine CallOk.of (impl_MultiplyFractions_ct e518) ?_
        conv => whnf
        refine spl (fun g519 => ?_) (fun g519 => ?_)
        · replace h := iteT h g519
          conv => whnf
          refine CutK.norm [3, 4, 6, 8, 11, 12, 13, 14, 24, 25, 26, 31, 32, 33] [192, 256, 384, 512, 704, 832, 2688, 76800] ?_
          conv => whnf
          cases h
          exact Done.of [none] [] rfl rfl ⟨⟨rfl, rfl⟩, ⟨rfl, rfl, trivial⟩, ⟨⟨⟨rfl, rfl⟩, trivial⟩, rfl, trivial⟩, trivial⟩
        · replace h := iteF h g519
          conv => whnf
          refine CutK.norm [3, 4, 6, 8, 11, 12, 13, 14, 24, 25, 26, 31, 32, 33] [192, 256, 384, 512, 704, 832, 2688, 76800] ?_
          conv => whnf
          cases h
          exact Done.of [none] [] rfl rfl ⟨⟨rfl, rfl⟩, ⟨rfl, rfl, trivial⟩, ⟨⟨⟨rfl, rfl⟩, trivial⟩, rfl, trivial⟩, trivial⟩
def impl_MultiplySurreals_l0 (k : Nat) (a1 : Rw) (a2 : Rw) (K0 : Rw → Option (Rw × Bool)) : Rw → Nat → Rw → Option (Rw × Bool)
  | [], v294n, v295 => (K0 v295)
  | cs :: rest, v294n, v295 => (cell_sii cs fun x435 x436 x437 => (if a2.length ≤ cap then (impl_MultiplySurreals_l1 k a1 a2 v294n x435 x436 x437 (fun (v481 : Rw) => (impl_MultiplySurreals_l0 k a1 a2 K0 rest (v294n + 1) v481)) a2 v295) else none))
set_option maxRecDepth 100000 in
theorem impl_MultiplySurreals_l0_ct {k : Nat} {a1 : Rw} {a2 : Rw} {K0 : Rw → Option (Rw × Bool)} {r : Rw × Bool} (hx : a1.length ≤ cap) : ∀ (rest : Rw) (v294n : Nat) (v295 : Rw), a1.drop v294n = rest → impl_MultiplySurreals_l0 k a1 a2 K0 rest v294n v295 = some r → LoopOk prog 0 (lp f124 0) (mk 78 [(3, .ptr 192 0), (4, .ptr 256 0), (6, .ptr 384 0), (24, .d (D.sl a1)), (25, .d (D.int .i64 (a1.length : Int))), (26, .d (D.int .i64 (v294n : Int)))] [(192, .box 28 [.d (D.sl a2)]), (256, .box 28 [.es]), (384, .box 28 [.os 64000 v295.length]), (64000, .arr 116 false v295)]) (LoopEnd prog f124 0 78 (.tup [.agg [.os 8 r.1.length], .d (D.bool r.2)]) (⟨[], [(116, true, r.1)]⟩) (fun i ts os => (i = 0 ∧ ∃ v365 : Rw, K0 v365 = some r ∧ ts = [(4, .ptr 256 0), (6, .ptr 384 0)] ∧ os = [(256, .box 28 [.es]), (384, .box 28 [.os 67001 v365.length]), (67001, .arr 116 false v365)])))
  | [], v294n, v295, hd, h => by
      rw [impl_MultiplySurreals_l0] at h
      have hn := drop_nil hd
      refine LoopOk.step ?_
      conv => whnf
      refine splD (fun g => absurd g hn) (fun _ => ?_)
      conv => whnf
      exact ⟨_, _, [some 256, some 384, some 64000], [], ⟨rfl, _, h, rfl, rfl⟩, ⟨⟨rfl, rfl⟩, ⟨rfl, ⟨rfl, trivial, trivial⟩, ⟨rfl, ⟨rfl, rfl⟩, trivial⟩, ⟨rfl, rfl, rows_same⟩, trivial⟩, ⟨rfl, rfl⟩, ⟨rfl, rfl⟩, trivial⟩⟩
  | cs :: rest, v294n, v295, hd, h => by
      rw [impl_MultiplySurreals_l0] at h
      obtain ⟨hrow, hd1, hlt⟩ := drop_cons hd
      refine LoopOk.step ?_
      conv => whnf
      refine splD (fun _ => ?_) (fun g => absurd hlt g)
      conv => whnf
      obtain ⟨x435, x436, x437, e438, h⟩ := cell_sii_ex h
      rw [e438] at hrow
      refine Req.of (Int.natCast_nonneg _) ?_
      refine Row.of _ hrow ?_
      conv => whnf
      obtain ⟨g520, h⟩ := req_ex h
      refine LoopOk.into (impl_MultiplySurreals_l1_ct  g520 _ _ _ rfl h) [some 192, some 256, some 384, some 512, some 64000] [] ⟨⟨rfl, rfl⟩, ⟨rfl, ⟨rfl, rfl, trivial⟩, ⟨rfl, trivial, trivial⟩, ⟨rfl, ⟨rfl, rfl⟩, trivial⟩, ⟨rfl, rfl, rfl, rfl, trivial⟩, ⟨rfl, rfl, rows_same⟩, trivial⟩, ⟨rfl, rfl⟩, ⟨rfl, rfl⟩, ⟨rfl, rfl⟩, ⟨rfl, rfl⟩, rfl, rfl, rfl, rfl, rfl, rfl, trivial⟩ ?_ (fun _ hs => hs)
      rintro i ts os ⟨rfl, v481, h, rfl, rfl⟩
      conv => whnf
      refine CutK.norm [3, 4, 6, 24, 25, 26] [192, 256, 384, 79801] ?_
      conv => whnf
      exact LoopOk.back (impl_MultiplySurreals_l0_ct hx rest (v294n + 1) _ hd1 h) [some 192, some 256, some 384, some 79801] [] ⟨⟨rfl, rfl⟩, ⟨rfl, ⟨rfl, rfl, trivial⟩, ⟨rfl, trivial, trivial⟩, ⟨rfl, ⟨rfl, rfl⟩, trivial⟩, ⟨rfl, rfl, rows_same⟩, trivial⟩, ⟨rfl, rfl⟩, ⟨rfl, rfl⟩, ⟨rfl, rfl⟩, rfl, rfl, i64eq (wrap_up hlt hx), trivial⟩
def impl_MultiplySurreals_p2 (k : Nat) (a1 : Rw) (a2 : Rw) : Option (Rw × Bool) :=
  (if a1.length ≤ cap then (impl_MultiplySurreals_l0 k a1 a2 (fun (v365 : Rw) => (impl_MultiplySurreals_p4 k v365)) a1 0 ([] : Rw)) else none)
set_option maxHeartbeats 4000000 in
set_option maxRecDepth 100000 in
theorem impl_MultiplySurreals_p2_ct {k : Nat} {a1 : Rw} {a2 : Rw} {r : Rw × Bool} (h : impl_MultiplySurreals_p2 k a1 a2 = some r) : X prog 0 (tlF f124 2) (mk 78 [(2, .ptr 128 0), (3, .ptr 192 0), (4, .ptr 256 0)] [(128, .box 28 [.d (D.sl a1)]), (192, .box 28 [.d (D.sl a2)]), (256, .box 28 [.es])]) (finK prog f124 0 (.tup [.agg [.os 8 r.1.length], .d (D.bool r.2)]) (⟨[], [(116, true, r.1)]⟩)) := by
  rw [impl_MultiplySurreals_p2] at h
  conv => whnf
  obtain ⟨g521, h⟩ := req_ex h
  refine LoopOk.into (impl_MultiplySurreals_l0_ct  g521 _ _ _ rfl h) [some 192, some 256, some 384, none] [] ⟨⟨rfl, rfl⟩, ⟨rfl, ⟨rfl, rfl, trivial⟩, ⟨rfl, trivial, trivial⟩, ⟨rfl, ⟨rfl, rfl⟩, trivial⟩, rfl, trivial⟩, ⟨rfl, rfl⟩, ⟨rfl, rfl⟩, ⟨rfl, rfl⟩, rfl, rfl, rfl, trivial⟩ ?_ (fun _ hs => hs)
  rintro i ts os ⟨rfl, v365, h, rfl, rfl⟩
  conv => whnf
  exact CutK.piece (impl_MultiplySurreals_p4_ct  h) [some 256, some 384, some 67001] [] ⟨⟨rfl, rfl⟩, ⟨rfl, ⟨rfl, trivial, trivial⟩, ⟨rfl, ⟨rfl, rfl⟩, trivial⟩, ⟨rfl, rfl, rows_same⟩, trivial⟩, ⟨rfl, rfl⟩, ⟨rfl, rfl⟩, trivial⟩
def impl_MultiplySurreals (k : Nat) (a1 : Rw) (a2 : Rw) : Option (Rw × Bool) :=
  ((impl_surreals k a1 a2).bind fun y522 => (if y522 = true then (impl_MultiplySurreals_p2 k a1 a2) else some (([] : Rw), false)))
set_option maxHeartbeats 4000000 in
set_option maxRecDepth 100000 in
theorem impl_MultiplySurreals_ct {k : Nat} {a1 : Rw} {a2 : Rw} {r : Rw × Bool} (h : impl_MultiplySurreals k a1 a2 = some r) : Ct prog 124 [.agg [.d (D.sl a1)], .agg [.d (D.sl a2)]] (⟨[], []⟩) (.tup [.agg [.os 8 r.1.length], .d (D.bool r.2)]) (⟨[], [(116, true, r.1)]⟩) := by
  rw [impl_MultiplySurreals] at h
  refine Ct.of (c := _) mixed func124 ⟨rfl, rfl, rfl⟩ ?_ rfl
  conv => whnf
  refine Pick.no ?_
  conv => whnf
  obtain ⟨y522, e523, h⟩ := bind_ex h
  refine CallOk.of (impl_surreals_ct e523) ?_
  conv => whnf
  refine spl (fun g524 => ?_) (fun g524 => ?_)
  · replace h := iteT h g524
    conv => whnf
    refine CutK.norm [2, 3, 4, 20] [128, 192, 256] ?_
    conv => whnf
    exact CutK.piece (impl_MultiplySurreals_p2_ct  h) [some 128, some 192, some 256] [] ⟨⟨rfl, rfl⟩, ⟨rfl, ⟨rfl, rfl, trivial⟩, ⟨rfl, rfl, trivial⟩, ⟨rfl, trivial, trivial⟩, trivial⟩, ⟨rfl, rfl⟩, ⟨rfl, rfl⟩, ⟨rfl, rfl⟩, trivial⟩
  · replace h := iteF h g524
    conv => whnf
    refine CutK.norm [2, 3, 4, 20] [128, 192, 256] ?_
    conv => whnf
    cases h
    exact Done.of [none] [] rfl rfl ⟨⟨rfl, rfl⟩, ⟨rfl, rfl, trivial⟩, ⟨⟨⟨rfl, rfl⟩, trivial⟩, rfl, trivial⟩, trivial⟩

def impl_maker_mul (k : Nat) (a1 : Bool) (a2 : Rw) (a3 : Rw) : Option (Rw × Bool) :=
  (cond a1 ((impl_MultiplySurreals k a2 a3).bind fun y11 => (if y11.2 = true then ((impl_maker_take_2 true y11.1 true).bind fun y14 => some (y14.1, y14.2)) else ((impl_maker_take_2 true y11.1 false).bind fun y16 => some (y16.1, y16.2)))) ((impl_MultiplySurreals k a2 a3).bind fun y4 => (if y4.2 = true then ((impl_maker_take_2 false y4.1 true).bind fun y7 => some (y7.1, y7.2)) else ((impl_maker_take_2 false y4.1 false).bind fun y9 => some (y9.1, y9.2)))))
set_option maxHeartbeats 4000000 in
set_option maxRecDepth 100000 in
theorem impl_maker_mul_ct {k : Nat} {a1 : Bool} {a2 : Rw} {a3 : Rw} {r : Rw × Bool} (h : impl_maker_mul k a1 a2 a3 = some r) : Ct prog 60 [.ptr 0 0, .agg [.d (D.sl a2)], .agg [.d (D.sl a3)]] (⟨[(83, [.d (D.bool a1)])], []⟩) (.agg [.os 8 r.1.length]) (⟨[(83, [.d (D.bool r.2)])], [(116, true, r.1)]⟩) := by
  rw [impl_maker_mul] at h
  refine Ct.of (c := _) mixed func60 ⟨rfl, rfl, rfl⟩ ?_ rfl
  cases a1
  · replace h := condF h
    conv => whnf
    refine Pick.no ?_
    conv => whnf
    obtain ⟨y4, e5, h⟩ := bind_ex h
    refine CallOk.of (impl_MultiplySurreals_ct e5) ?_
    conv => whnf
    refine spl (fun g6 => ?_) (fun g6 => ?_)
    · replace h := iteT h g6
      conv => whnf
      refine Pick.yes ?_
      conv => whnf
      refine Req.of (Nat.le_refl _) ?_
      conv => whnf
      obtain ⟨y7, e8, h⟩ := bind_ex h
      refine CallOk.of (impl_maker_take_2_ct e8) ?_
      conv => whnf
      refine CutK.go ?_
      conv => whnf
      cases h
      exact Done.of [some 0, some 832] [] rfl rfl ⟨⟨rfl, rfl⟩, ⟨rfl, ⟨rfl, rfl, trivial⟩, ⟨rfl, rfl, rows_same⟩, trivial⟩, ⟨⟨rfl, rfl⟩, trivial⟩, trivial⟩
    · replace h := iteF h g6
      conv => whnf
      refine Pick.yes ?_
      conv => whnf
      refine Req.of (Nat.le_refl _) ?_
      conv => whnf
      obtain ⟨y9, e10, h⟩ := bind_ex h
      refine CallOk.of (impl_maker_take_2_ct e10) ?_
      conv => whnf
      refine CutK.go ?_
      conv => whnf
      cases h
      exact Done.of [some 0, some 832] [] rfl rfl ⟨⟨rfl, rfl⟩, ⟨rfl, ⟨rfl, rfl, trivial⟩, ⟨rfl, rfl, rows_same⟩, trivial⟩, ⟨⟨rfl, rfl⟩, trivial⟩, trivial⟩
  · replace h := condT h
    conv => whnf
    refine Pick.no ?_
    conv => whnf
    obtain ⟨y11, e12, h⟩ := bind_ex h
    refine CallOk.of (impl_MultiplySurreals_ct e12) ?_
    conv => whnf
    refine spl (fun g13 => ?_) (fun g13 => ?_)
    · replace h := iteT h g13
      conv => whnf
      refine Pick.yes ?_
      conv => whnf
      refine Req.of (Nat.le_refl _) ?_
      conv => whnf
      obtain ⟨y14, e15, h⟩ := bind_ex h
      refine CallOk.of (impl_maker_take_2_ct e15) ?_
      conv => whnf
      refine CutK.go ?_
      conv => whnf
      cases h
      exact Done.of [some 0, some 832] [] rfl rfl ⟨⟨rfl, rfl⟩, ⟨rfl, ⟨rfl, rfl, trivial⟩, ⟨rfl, rfl, rows_same⟩, trivial⟩, ⟨⟨rfl, rfl⟩, trivial⟩, trivial⟩
    · replace h := iteF h g13
      conv => whnf
      refine Pick.yes ?_
      conv => whnf
      refine Req.of (Nat.le_refl _) ?_
      conv => whnf
      obtain ⟨y16, e17, h⟩ := bind_ex h
      refine CallOk.of (impl_maker_take_2_ct e17) ?_
      conv => whnf
      refine CutK.go ?_
      conv => whnf
      cases h
      exact Done.of [some 0, some 832] [] rfl rfl ⟨⟨rfl, rfl⟩, ⟨rfl, ⟨rfl, rfl, trivial⟩, ⟨rfl, rfl, rows_same⟩, trivial⟩, ⟨⟨rfl, rfl⟩, trivial⟩, trivial⟩

def impl_maker_divided_p3 (o137 : Rw) (o138 : Rw) (v139 : Bool) : Option (Rw × Rw × Bool) :=
  (cond v139 (some (o137, o138, true)) (some (o137, o138, false)))
set_option maxHeartbeats 4000000 in
set_option maxRecDepth 100000 in
theorem impl_maker_divided_p3_ct {o137 : Rw} {o138 : Rw} {v139 : Bool} {r : Rw × Rw × Bool} (h : impl_maker_divided_p3 o137 o138 v139 = some r) : X prog 1 (tlF f71 3) (mk 79 [(8, .ptr 512 0), (9, .ptr 576 0), (10, .ptr 640 0), (11, .ptr 704 0)] [(0, .box 83 [.d (D.bool v139)]), (512, .box 28 [.es]), (576, .box 28 [.es]), (640, .box 28 [.os 1079000 o137.length]), (704, .box 28 [.os 1079001 o138.length]), (1079000, .arr 116 true o137), (1079001, .arr 116 true o138)]) (finK prog f71 1 (.tup [.agg [.os 8 r.1.length], .agg [.os 9 r.2.1.length]]) (⟨[(83, [.d (D.bool r.2.2)])], [(116, true, r.1), (116, true, r.2.1)]⟩)) := by
  rw [impl_maker_divided_p3] at h
  cases v139
  · replace h := condF h
    conv => whnf
    cases h
    exact Done.of [some 0, some 1079000, some 1079001] [] rfl rfl ⟨⟨rfl, rfl⟩, ⟨rfl, ⟨rfl, rfl, trivial⟩, ⟨rfl, rfl, rows_same⟩, ⟨rfl, rfl, rows_same⟩, trivial⟩, ⟨⟨⟨rfl, rfl⟩, trivial⟩, ⟨⟨rfl, rfl⟩, trivial⟩, trivial⟩, trivial⟩
  · replace h := condT h
    conv => whnf
    cases h
    exact Done.of [some 0, some 1079000, some 1079001] [] rfl rfl ⟨⟨rfl, rfl⟩, ⟨rfl, ⟨rfl, rfl, trivial⟩, ⟨rfl, rfl, rows_same⟩, ⟨rfl, rfl, rows_same⟩, trivial⟩, ⟨⟨⟨rfl, rfl⟩, trivial⟩, ⟨⟨rfl, rfl⟩, trivial⟩, trivial⟩, trivial⟩
def impl_maker_divided_l0 (k : Nat) (a3 : Rw) (a4 : Int) (K0 : Rw → Rw → Bool → Option (Rw × Rw × Bool)) : Nat → Int → Bool → Rw → Rw → Option (Rw × Rw × Bool)
  | 0, _, _, _, _ => none
  | n + 1, v171, v172, v173, v174 => (cond v172 (if v171 < a4 then (K0 v173 v174 true) else (K0 v173 v174 true)) (if v171 < a4 then ((impl_isNothing v174).bind fun y269 => (if y269 = true then (K0 v173 v174 false) else (row_sii v174 0 fun x272 x273 x274 => (row_sii a3 0 fun x277 x278 x279 => ((impl_maker_sub k false x272 x277).bind fun y282 => ((impl_DivideFractions k x273 x274 x278 x279).bind fun y284 => (if y284.2.2 = true then ((impl_maker_coef y282.2 y284.1 y284.2.1 true).bind fun y287 => ((impl_term y282.1 y287.1 y287.2.1).bind fun y289 => ((impl_maker_add k y287.2.2 v173 y289).bind fun y291 => ((impl_maker_mul k y291.2 y289 a3).bind fun y293 => ((impl_maker_sub k y293.2 v174 y293.1).bind fun y295 => (impl_maker_divided_l0 k a3 a4 K0 n (IntKind.i64.wrap (v171 + 1)) y295.2 y291.1 y295.1)))))) else ((impl_maker_coef y282.2 y284.1 y284.2.1 false).bind fun y297 => ((impl_term y282.1 y297.1 y297.2.1).bind fun y299 => ((impl_maker_add k y297.2.2 v173 y299).bind fun y301 => ((impl_maker_mul k y301.2 y299 a3).bind fun y303 => ((impl_maker_sub k y303.2 v174 y303.1).bind fun y305 => (impl_maker_divided_l0 k a3 a4 K0 n (IntKind.i64.wrap (v171 + 1)) y305.2 y301.1 y305.1))))))))))))) else (K0 v173 v174 false)))
set_option maxRecDepth 100000 in
theorem impl_maker_divided_l0_ct {k : Nat} {a3 : Rw} {a4 : Int} {K0 : Rw → Rw → Bool → Option (Rw × Rw × Bool)} {r : Rw × Rw × Bool} : ∀ (n : Nat) (v171 : Int) (v172 : Bool) (v173 : Rw) (v174 : Rw), impl_maker_divided_l0 k a3 a4 K0 n v171 v172 v173 v174 = some r → LoopOk prog 1 (lp f71 0) (mk 79 [(0, .ptr 0 0), (3, .d (D.int .i64 a4)), (6, .ptr 384 0), (8, .ptr 512 0), (9, .ptr 576 0), (10, .ptr 640 0), (11, .ptr 704 0), (12, .d (D.int .i64 v171))] [(0, .box 83 [.d (D.bool v172)]), (384, .box 28 [.d (D.sl a3)]), (512, .box 28 [.es]), (576, .box 28 [.es]), (640, .box 28 [.os 64001 v173.length]), (704, .box 28 [.os 64000 v174.length]), (64000, .arr 116 true v174), (64001, .arr 116 true v173)]) (LoopEnd prog f71 1 79 (.tup [.agg [.os 8 r.1.length], .agg [.os 9 r.2.1.length]]) (⟨[(83, [.d (D.bool r.2.2)])], [(116, true, r.1), (116, true, r.2.1)]⟩) (fun i ts os => (i = 0 ∧ ∃ v189 : Rw, ∃ v190 : Rw, ∃ v227 : Bool, K0 v189 v190 v227 = some r ∧ ts = [(8, .ptr 512 0), (9, .ptr 576 0), (10, .ptr 640 0), (11, .ptr 704 0)] ∧ os = [(0, .box 83 [.d (D.bool v227)]), (512, .box 28 [.es]), (576, .box 28 [.es]), (640, .box 28 [.os 67002 v189.length]), (704, .box 28 [.os 67001 v190.length]), (67001, .arr 116 true v190), (67002, .arr 116 true v189)])))
  | 0, _, _, _, _, h => by
      rw [impl_maker_divided_l0] at h; cases h
  | n + 1, v171, v172, v173, v174, h => by
      rw [impl_maker_divided_l0] at h
      cases v172
      · replace h := condF h
        refine LoopOk.step ?_
        conv => whnf
        refine splD (fun g268 => ?_) (fun g268 => ?_)
        · replace h := iteP h g268
          conv => whnf
          refine splF ?_
          conv => whnf
          refine Pick.no ?_
          conv => whnf
          refine Take.all (rfl) ?_
          conv => whnf
          obtain ⟨y269, e270, h⟩ := bind_ex h
          refine CallOk.of (impl_isNothing_ct e270) ?_
          conv => whnf
          refine spl (fun g271 => ?_) (fun g271 => ?_)
          · replace h := iteT h g271
            conv => whnf
            refine CutK.norm [0, 3, 6, 8, 9, 10, 11, 12, 33] [0, 384, 512, 576, 640, 704, 64000, 64001] ?_
            conv => whnf
            exact ⟨_, _, [some 0, some 512, some 576, some 640, some 704, some 64000, some 64001], [], ⟨rfl, _, _, _, h, rfl, rfl⟩, ⟨⟨rfl, rfl⟩, ⟨rfl, ⟨rfl, rfl, trivial⟩, ⟨rfl, trivial, trivial⟩, ⟨rfl, trivial, trivial⟩, ⟨rfl, ⟨rfl, rfl⟩, trivial⟩, ⟨rfl, ⟨rfl, rfl⟩, trivial⟩, ⟨rfl, rfl, rows_same⟩, ⟨rfl, rfl, rows_same⟩, trivial⟩, ⟨rfl, rfl⟩, ⟨rfl, rfl⟩, ⟨rfl, rfl⟩, ⟨rfl, rfl⟩, trivial⟩⟩
          · replace h := iteF h g271
            conv => whnf
            refine CutK.norm [0, 3, 6, 8, 9, 10, 11, 12, 33] [0, 384, 512, 576, 640, 704, 64000, 64001] ?_
            conv => whnf
            refine CutK.to (n := 79) (ts := [(0, .ptr 0 0), (3, .d (D.int .i64 a4)), (6, .ptr 384 0), (8, .ptr 512 0), (9, .ptr 576 0), (10, .ptr 640 0), (11, .ptr 704 0), (12, .d (D.int .i64 v171))]) (os := [(0, .box 83 [.d (D.bool false)]), (384, .box 28 [.d (D.sl a3)]), (512, .box 28 [.es]), (576, .box 28 [.es]), (640, .box 28 [.os 64001 v173.length]), (704, .box 28 [.d (D.sl v174)]), (64001, .arr 116 true v173)]) [some 0, some 384, some 512, some 576, some 640, some 704, some 64001] [64000] ⟨⟨rfl, rfl⟩, ⟨rfl, ⟨rfl, rfl, trivial⟩, ⟨rfl, rfl, trivial⟩, ⟨rfl, trivial, trivial⟩, ⟨rfl, trivial, trivial⟩, ⟨rfl, ⟨rfl, rfl⟩, trivial⟩, ⟨rfl, ⟨rfl, Nat.le_of_eq rfl, eq_take rfl⟩, trivial⟩, ⟨rfl, rfl, rows_same⟩, trivial⟩, ⟨rfl, rfl⟩, rfl, ⟨rfl, rfl⟩, ⟨rfl, rfl⟩, ⟨rfl, rfl⟩, ⟨rfl, rfl⟩, ⟨rfl, rfl⟩, rfl, trivial⟩ ?_
            conv => whnf
            obtain ⟨g276, x272, x273, x274, e275, h⟩ := row_sii_ex h
            refine Req.of g276 ?_
            refine Row.of _ e275 ?_
            conv => whnf
            obtain ⟨g281, x277, x278, x279, e280, h⟩ := row_sii_ex h
            refine Req.of g281 ?_
            refine Row.of _ e280 ?_
            conv => whnf
            refine Pick.no ?_
            conv => whnf
            obtain ⟨y282, e283, h⟩ := bind_ex h
            refine CallOk.of (impl_maker_sub_ct e283) ?_
            conv => whnf
            refine CutK.norm [0, 3, 6, 8, 9, 10, 11, 12, 13] [0, 384, 512, 576, 640, 704, 832, 3008, 64001] ?_
            conv => whnf
            refine Req.of g276 ?_
            refine Row.of _ e275 ?_
            conv => whnf
            refine Req.of g281 ?_
            refine Row.of _ e280 ?_
            conv => whnf
            refine Pick.no ?_
            conv => whnf
            obtain ⟨y284, e285, h⟩ := bind_ex h
            refine CallOk.of (impl_DivideFractions_ct e285) ?_
            conv => whnf
            refine spl (fun g286 => ?_) (fun g286 => ?_)
            · replace h := iteT h g286
              conv => whnf
              refine Pick.no ?_
              conv => whnf
              obtain ⟨y287, e288, h⟩ := bind_ex h
              refine CallOk.of (impl_maker_coef_ct e288) ?_
              conv => whnf
              refine CutK.norm [0, 3, 6, 8, 9, 10, 11, 12, 13, 14] [0, 384, 512, 576, 640, 704, 832, 896, 3008, 64001] ?_
              conv => whnf
              refine Pick.no ?_
              conv => whnf
              refine Take.all (rfl) ?_
              conv => whnf
              obtain ⟨y289, e290, h⟩ := bind_ex h
              refine CallOk.of (impl_term_ct e290) ?_
              conv => whnf
              refine CutK.norm [0, 3, 6, 8, 9, 10, 11, 12, 15] [0, 384, 512, 576, 640, 704, 960, 4160, 64001] ?_
              conv => whnf
              refine Pick.no ?_
              conv => whnf
              refine Take.all (rfl) ?_
              conv => whnf
              refine Take.all (rfl) ?_
              conv => whnf
              obtain ⟨y291, e292, h⟩ := bind_ex h
              refine CallOk.of (impl_maker_add_ct e292) ?_
              conv => whnf
              refine Pick.no ?_
              conv => whnf
              refine Take.all (rfl) ?_
              conv => whnf
              obtain ⟨y293, e294, h⟩ := bind_ex h
              refine CallOk.of (impl_maker_mul_ct e294) ?_
              conv => whnf
              refine Pick.no ?_
              conv => whnf
              refine Take.all (rfl) ?_
              conv => whnf
              obtain ⟨y295, e296, h⟩ := bind_ex h
              refine CallOk.of (impl_maker_sub_ct e296) ?_
              conv => whnf
              refine CutK.norm [0, 3, 6, 8, 9, 10, 11, 12] [0, 384, 512, 576, 640, 704, 4416, 4864] ?_
              conv => whnf
              exact LoopOk.back (impl_maker_divided_l0_ct  n _ _ _ _ h) [some 0, some 384, some 512, some 576, some 640, some 704, some 4864, some 4416] [] ⟨⟨rfl, rfl⟩, ⟨rfl, ⟨rfl, rfl, trivial⟩, ⟨rfl, rfl, trivial⟩, ⟨rfl, trivial, trivial⟩, ⟨rfl, trivial, trivial⟩, ⟨rfl, ⟨rfl, rfl⟩, trivial⟩, ⟨rfl, ⟨rfl, rfl⟩, trivial⟩, ⟨rfl, rfl, rows_same⟩, ⟨rfl, rfl, rows_same⟩, trivial⟩, ⟨rfl, rfl⟩, rfl, ⟨rfl, rfl⟩, ⟨rfl, rfl⟩, ⟨rfl, rfl⟩, ⟨rfl, rfl⟩, ⟨rfl, rfl⟩, rfl, trivial⟩
            · replace h := iteF h g286
              conv => whnf
              refine Pick.no ?_
              conv => whnf
              obtain ⟨y297, e298, h⟩ := bind_ex h
              refine CallOk.of (impl_maker_coef_ct e298) ?_
              conv => whnf
              refine CutK.norm [0, 3, 6, 8, 9, 10, 11, 12, 13, 14] [0, 384, 512, 576, 640, 704, 832, 896, 3008, 64001] ?_
              conv => whnf
              refine Pick.no ?_
              conv => whnf
              refine Take.all (rfl) ?_
              conv => whnf
              obtain ⟨y299, e300, h⟩ := bind_ex h
              refine CallOk.of (impl_term_ct e300) ?_
              conv => whnf
              refine CutK.norm [0, 3, 6, 8, 9, 10, 11, 12, 15] [0, 384, 512, 576, 640, 704, 960, 4160, 64001] ?_
              conv => whnf
              refine Pick.no ?_
              conv => whnf
              refine Take.all (rfl) ?_
              conv => whnf
              refine Take.all (rfl) ?_
              conv => whnf
              obtain ⟨y301, e302, h⟩ := bind_ex h
              refine CallOk.of (impl_maker_add_ct e302) ?_
              conv => whnf
              refine Pick.no ?_
              conv => whnf
              refine Take.all (rfl) ?_
              conv => whnf
              obtain ⟨y303, e304, h⟩ := bind_ex h
              refine CallOk.of (impl_maker_mul_ct e304) ?_
              conv => whnf
              refine Pick.no ?_
              conv => whnf
              refine Take.all (rfl) ?_
              conv => whnf
              obtain ⟨y305, e306, h⟩ := bind_ex h
              refine CallOk.of (impl_maker_sub_ct e306) ?_
              conv => whnf
              refine CutK.norm [0, 3, 6, 8, 9, 10, 11, 12] [0, 384, 512, 576, 640, 704, 4416, 4864] ?_
              conv => whnf
              exact LoopOk.back (impl_maker_divided_l0_ct  n _ _ _ _ h) [some 0, some 384, some 512, some 576, some 640, some 704, some 4864, some 4416] [] ⟨⟨rfl, rfl⟩, ⟨rfl, ⟨rfl, rfl, trivial⟩, ⟨rfl, rfl, trivial⟩, ⟨rfl, trivial, trivial⟩, ⟨rfl, trivial, trivial⟩, ⟨rfl, ⟨rfl, rfl⟩, trivial⟩, ⟨rfl, ⟨rfl, rfl⟩, trivial⟩, ⟨rfl, rfl, rows_same⟩, ⟨rfl, rfl, rows_same⟩, trivial⟩, ⟨rfl, rfl⟩, rfl, ⟨rfl, rfl⟩, ⟨rfl, rfl⟩, ⟨rfl, rfl⟩, ⟨rfl, rfl⟩, ⟨rfl, rfl⟩, rfl, trivial⟩
        · replace h := iteN h g268
          conv => whnf
          refine CutK.norm [0, 3, 6, 8, 9, 10, 11, 12, 33] [0, 384, 512, 576, 640, 704, 64000, 64001] ?_
          conv => whnf
          exact ⟨_, _, [some 0, some 512, some 576, some 640, some 704, some 64000, some 64001], [], ⟨rfl, _, _, _, h, rfl, rfl⟩, ⟨⟨rfl, rfl⟩, ⟨rfl, ⟨rfl, rfl, trivial⟩, ⟨rfl, trivial, trivial⟩, ⟨rfl, trivial, trivial⟩, ⟨rfl, ⟨rfl, rfl⟩, trivial⟩, ⟨rfl, ⟨rfl, rfl⟩, trivial⟩, ⟨rfl, rfl, rows_same⟩, ⟨rfl, rfl, rows_same⟩, trivial⟩, ⟨rfl, rfl⟩, ⟨rfl, rfl⟩, ⟨rfl, rfl⟩, ⟨rfl, rfl⟩, trivial⟩⟩
      · replace h := condT h
        refine LoopOk.step ?_
        conv => whnf
        refine splD (fun g307 => ?_) (fun g307 => ?_)
        · replace h := iteP h g307
          conv => whnf
          refine splT ?_
          conv => whnf
          refine CutK.norm [0, 3, 6, 8, 9, 10, 11, 12, 33] [0, 384, 512, 576, 640, 704, 64000, 64001] ?_
          conv => whnf
          exact ⟨_, _, [some 0, some 512, some 576, some 640, some 704, some 64000, some 64001], [], ⟨rfl, _, _, _, h, rfl, rfl⟩, ⟨⟨rfl, rfl⟩, ⟨rfl, ⟨rfl, rfl, trivial⟩, ⟨rfl, trivial, trivial⟩, ⟨rfl, trivial, trivial⟩, ⟨rfl, ⟨rfl, rfl⟩, trivial⟩, ⟨rfl, ⟨rfl, rfl⟩, trivial⟩, ⟨rfl, rfl, rows_same⟩, ⟨rfl, rfl, rows_same⟩, trivial⟩, ⟨rfl, rfl⟩, ⟨rfl, rfl⟩, ⟨rfl, rfl⟩, ⟨rfl, rfl⟩, trivial⟩⟩
        · replace h := iteN h g307
          conv => whnf
          refine CutK.norm [0, 3, 6, 8, 9, 10, 11, 12, 33] [0, 384, 512, 576, 640, 704, 64000, 64001] ?_
          conv => whnf
          exact ⟨_, _, [some 0, some 512, some 576, some 640, some 704, some 64000, some 64001], [], ⟨rfl, _, _, _, h, rfl, rfl⟩, ⟨⟨rfl, rfl⟩, ⟨rfl, ⟨rfl, rfl, trivial⟩, ⟨rfl, trivial, trivial⟩, ⟨rfl, trivial, trivial⟩, ⟨rfl, ⟨rfl, rfl⟩, trivial⟩, ⟨rfl, ⟨rfl, rfl⟩, trivial⟩, ⟨rfl, rfl, rows_same⟩, ⟨rfl, rfl, rows_same⟩, trivial⟩, ⟨rfl, rfl⟩, ⟨rfl, rfl⟩, ⟨rfl, rfl⟩, ⟨rfl, rfl⟩, trivial⟩⟩
def impl_maker_divided_l0_2 (a3 : Rw) (a4 : Int) (o7 : Rw) (K0 : Option (Rw × Rw × Bool)) : Nat → Option (Rw × Rw × Bool)
  | 0 => none
  | n + 1 => (if (0 : Int) < a4 then (K0) else (K0))
set_option maxRecDepth 100000 in
theorem impl_maker_divided_l0_2_ct {a3 : Rw} {a4 : Int} {o7 : Rw} {K0 : Option (Rw × Rw × Bool)} {r : Rw × Rw × Bool} : ∀ (n : Nat), impl_maker_divided_l0_2 a3 a4 o7 K0 n = some r → LoopOk prog 1 (lp f71 0) (mk 79 [(0, .ptr 0 0), (3, .d (D.int .i64 a4)), (6, .ptr 384 0), (8, .ptr 512 0), (9, .ptr 576 0), (10, .ptr 640 0), (11, .ptr 704 0), (12, .d (D.int .i64 0))] [(0, .box 83 [.d (D.bool true)]), (384, .box 28 [.d (D.sl a3)]), (512, .box 28 [.es]), (576, .box 28 [.es]), (640, .box 28 [.es]), (704, .box 28 [.os 64000 o7.length]), (64000, .arr 116 true o7)]) (LoopEnd prog f71 1 79 (.tup [.agg [.os 8 r.1.length], .agg [.os 9 r.2.1.length]]) (⟨[(83, [.d (D.bool r.2.2)])], [(116, true, r.1), (116, true, r.2.1)]⟩) (fun i ts os => (i = 0 ∧ K0 = some r ∧ ts = [(8, .ptr 512 0), (9, .ptr 576 0), (10, .ptr 640 0), (11, .ptr 704 0)] ∧ os = [(0, .box 83 [.d (D.bool true)]), (512, .box 28 [.es]), (576, .box 28 [.es]), (640, .box 28 [.es]), (704, .box 28 [.os 67001 o7.length]), (67001, .arr 116 true o7)])))
  | 0, h => by
      rw [impl_maker_divided_l0_2] at h; cases h
  | n + 1, h => by
      rw [impl_maker_divided_l0_2] at h
      refine LoopOk.step ?_
      conv => whnf
      refine splD (fun g310 => ?_) (fun g310 => ?_)
      · replace h := iteP h g310
        conv => whnf
        refine splT ?_
        conv => whnf
        refine CutK.norm [0, 3, 6, 8, 9, 10, 11, 12, 33] [0, 384, 512, 576, 640, 704, 64000] ?_
        conv => whnf
        exact ⟨_, _, [some 0, some 512, some 576, some 640, some 704, some 64000], [], ⟨rfl, h, rfl, rfl⟩, ⟨⟨rfl, rfl⟩, ⟨rfl, ⟨rfl, rfl, trivial⟩, ⟨rfl, trivial, trivial⟩, ⟨rfl, trivial, trivial⟩, ⟨rfl, trivial, trivial⟩, ⟨rfl, ⟨rfl, rfl⟩, trivial⟩, ⟨rfl, rfl, rows_same⟩, trivial⟩, ⟨rfl, rfl⟩, ⟨rfl, rfl⟩, ⟨rfl, rfl⟩, ⟨rfl, rfl⟩, trivial⟩⟩
      · replace h := iteN h g310
        conv => whnf
        refine CutK.norm [0, 3, 6, 8, 9, 10, 11, 12, 33] [0, 384, 512, 576, 640, 704, 64000] ?_
        conv => whnf
        exact ⟨_, _, [some 0, some 512, some 576, some 640, some 704, some 64000], [], ⟨rfl, h, rfl, rfl⟩, ⟨⟨rfl, rfl⟩, ⟨rfl, ⟨rfl, rfl, trivial⟩, ⟨rfl, trivial, trivial⟩, ⟨rfl, trivial, trivial⟩, ⟨rfl, trivial, trivial⟩, ⟨rfl, ⟨rfl, rfl⟩, trivial⟩, ⟨rfl, rfl, rows_same⟩, trivial⟩, ⟨rfl, rfl⟩, ⟨rfl, rfl⟩, ⟨rfl, rfl⟩, ⟨rfl, rfl⟩, trivial⟩⟩
def impl_maker_divided_p2 (k : Nat) (a3 : Rw) (a4 : Int) (o7 : Rw) (v10 : Bool) : Option (Rw × Rw × Bool) :=
  (cond v10 (impl_maker_divided_l0_2 a3 a4 o7 (impl_maker_divided_p3 ([] : Rw) o7 true) k) (impl_maker_divided_l0 k a3 a4 (fun (v189 : Rw) (v190 : Rw) (v227 : Bool) => (cond v227 (impl_maker_divided_p3 v189 v190 true) (impl_maker_divided_p3 v189 v190 false))) k 0 false ([] : Rw) o7))
set_option maxHeartbeats 4000000 in
set_option maxRecDepth 100000 in
theorem impl_maker_divided_p2_ct {k : Nat} {a3 : Rw} {a4 : Int} {o7 : Rw} {v10 : Bool} {r : Rw × Rw × Bool} (h : impl_maker_divided_p2 k a3 a4 o7 v10 = some r) : X prog 1 (tlF f71 2) (mk 79 [(0, .ptr 0 0), (3, .d (D.int .i64 a4)), (6, .ptr 384 0), (8, .ptr 512 0), (9, .ptr 576 0), (10, .ptr 640 0), (11, .ptr 704 0)] [(0, .box 83 [.d (D.bool v10)]), (384, .box 28 [.d (D.sl a3)]), (512, .box 28 [.es]), (576, .box 28 [.es]), (640, .box 28 [.es]), (704, .box 28 [.os 1074000 o7.length]), (1074000, .arr 116 true o7)]) (finK prog f71 1 (.tup [.agg [.os 8 r.1.length], .agg [.os 9 r.2.1.length]]) (⟨[(83, [.d (D.bool r.2.2)])], [(116, true, r.1), (116, true, r.2.1)]⟩)) := by
  rw [impl_maker_divided_p2] at h
  cases v10
  · replace h := condF h
    conv => whnf
    refine LoopOk.into (impl_maker_divided_l0_ct  _ _ _ _ _ h) [some 0, some 384, some 512, some 576, some 640, some 704, some 1074000, none] [] ⟨⟨rfl, rfl⟩, ⟨rfl, ⟨rfl, rfl, trivial⟩, ⟨rfl, rfl, trivial⟩, ⟨rfl, trivial, trivial⟩, ⟨rfl, trivial, trivial⟩, ⟨rfl, ⟨rfl, rfl⟩, trivial⟩, ⟨rfl, ⟨rfl, rfl⟩, trivial⟩, ⟨rfl, rfl, rows_same⟩, rfl, trivial⟩, ⟨rfl, rfl⟩, rfl, ⟨rfl, rfl⟩, ⟨rfl, rfl⟩, ⟨rfl, rfl⟩, ⟨rfl, rfl⟩, ⟨rfl, rfl⟩, rfl, trivial⟩ ?_ (fun _ hs => hs)
    rintro i ts os ⟨rfl, v189, v190, v227, h, rfl, rfl⟩
    cases v227
    · replace h := condF h
      conv => whnf
      exact CutK.piece (impl_maker_divided_p3_ct  h) [some 0, some 512, some 576, some 640, some 704, some 67002, some 67001] [] ⟨⟨rfl, rfl⟩, ⟨rfl, ⟨rfl, rfl, trivial⟩, ⟨rfl, trivial, trivial⟩, ⟨rfl, trivial, trivial⟩, ⟨rfl, ⟨rfl, rfl⟩, trivial⟩, ⟨rfl, ⟨rfl, rfl⟩, trivial⟩, ⟨rfl, rfl, rows_same⟩, ⟨rfl, rfl, rows_same⟩, trivial⟩, ⟨rfl, rfl⟩, ⟨rfl, rfl⟩, ⟨rfl, rfl⟩, ⟨rfl, rfl⟩, trivial⟩
    · replace h := condT h
      conv => whnf
      exact CutK.piece (impl_maker_divided_p3_ct  h) [some 0, some 512, some 576, some 640, some 704, some 67002, some 67001] [] ⟨⟨rfl, rfl⟩, ⟨rfl, ⟨rfl, rfl, trivial⟩, ⟨rfl, trivial, trivial⟩, ⟨rfl, trivial, trivial⟩, ⟨rfl, ⟨rfl, rfl⟩, trivial⟩, ⟨rfl, ⟨rfl, rfl⟩, trivial⟩, ⟨rfl, rfl, rows_same⟩, ⟨rfl, rfl, rows_same⟩, trivial⟩, ⟨rfl, rfl⟩, ⟨rfl, rfl⟩, ⟨rfl, rfl⟩, ⟨rfl, rfl⟩, trivial⟩
  · replace h := condT h
    conv => whnf
    refine LoopOk.into (impl_maker_divided_l0_2_ct  _  h) [some 0, some 384, some 512, some 576, some 640, some 704, some 1074000] [] ⟨⟨rfl, rfl⟩, ⟨rfl, ⟨rfl, rfl, trivial⟩, ⟨rfl, rfl, trivial⟩, ⟨rfl, trivial, trivial⟩, ⟨rfl, trivial, trivial⟩, ⟨rfl, trivial, trivial⟩, ⟨rfl, ⟨rfl, rfl⟩, trivial⟩, ⟨rfl, rfl, rows_same⟩, trivial⟩, ⟨rfl, rfl⟩, rfl, ⟨rfl, rfl⟩, ⟨rfl, rfl⟩, ⟨rfl, rfl⟩, ⟨rfl, rfl⟩, ⟨rfl, rfl⟩, rfl, trivial⟩ ?_ (fun _ hs => hs)
    rintro i ts os ⟨rfl, h, rfl, rfl⟩
    conv => whnf
    exact CutK.piece (impl_maker_divided_p3_ct  h) [some 0, some 512, some 576, some 640, some 704, none, some 67001] [] ⟨⟨rfl, rfl⟩, ⟨rfl, ⟨rfl, rfl, trivial⟩, ⟨rfl, trivial, trivial⟩, ⟨rfl, trivial, trivial⟩, ⟨rfl, ⟨rfl, rfl⟩, trivial⟩, ⟨rfl, ⟨rfl, rfl⟩, trivial⟩, rfl, ⟨rfl, rfl, rows_same⟩, trivial⟩, ⟨rfl, rfl⟩, ⟨rfl, rfl⟩, ⟨rfl, rfl⟩, ⟨rfl, rfl⟩, trivial⟩
def impl_maker_divided (k : Nat) (a1 : Bool) (a2 : Rw) (a3 : Rw) (a4 : Int) : Option (Rw × Rw × Bool) :=
  (cond a1 ((impl_cloneSurreal k a2).bind fun y313 => (impl_maker_divided_p2 k a3 a4 y313 true)) ((impl_cloneSurreal k a2).bind fun y311 => (impl_maker_divided_p2 k a3 a4 y311 false)))
set_option maxHeartbeats 4000000 in
set_option maxRecDepth 100000 in
theorem impl_maker_divided_ct {k : Nat} {a1 : Bool} {a2 : Rw} {a3 : Rw} {a4 : Int} {r : Rw × Rw × Bool} (h : impl_maker_divided k a1 a2 a3 a4 = some r) : Ct prog 71 [.ptr 0 0, .agg [.d (D.sl a2)], .agg [.d (D.sl a3)], .d (D.int .i64 a4)] (⟨[(83, [.d (D.bool a1)])], []⟩) (.tup [.agg [.os 8 r.1.length], .agg [.os 9 r.2.1.length]]) (⟨[(83, [.d (D.bool r.2.2)])], [(116, true, r.1), (116, true, r.2.1)]⟩) := by
  rw [impl_maker_divided] at h
  refine Ct.of (c := _) mixed func71 ⟨rfl, rfl, rfl⟩ ?_ rfl
  cases a1
  · replace h := condF h
    conv => whnf
    refine Pick.no ?_
    conv => whnf
    obtain ⟨y311, e312, h⟩ := bind_ex h
    refine CallOk.of (impl_cloneSurreal_ct e312) ?_
    conv => whnf
    exact CutK.piece (impl_maker_divided_p2_ct  h) [some 0, some 384, some 512, some 576, some 640, some 704, some 1152] [] ⟨⟨rfl, rfl⟩, ⟨rfl, ⟨rfl, rfl, trivial⟩, ⟨rfl, rfl, trivial⟩, ⟨rfl, trivial, trivial⟩, ⟨rfl, trivial, trivial⟩, ⟨rfl, trivial, trivial⟩, ⟨rfl, ⟨rfl, rfl⟩, trivial⟩, ⟨rfl, rfl, rows_same⟩, trivial⟩, ⟨rfl, rfl⟩, rfl, ⟨rfl, rfl⟩, ⟨rfl, rfl⟩, ⟨rfl, rfl⟩, ⟨rfl, rfl⟩, ⟨rfl, rfl⟩, trivial⟩
  · replace h := condT h
    conv => whnf
    refine Pick.no ?_
    conv => whnf
    obtain ⟨y313, e314, h⟩ := bind_ex h
    refine CallOk.of (impl_cloneSurreal_ct e314) ?_
    conv => whnf
    exact CutK.piece (impl_maker_divided_p2_ct  h) [some 0, some 384, some 512, some 576, some 640, some 704, some 1152] [] ⟨⟨rfl, rfl⟩, ⟨rfl, ⟨rfl, rfl, trivial⟩, ⟨rfl, rfl, trivial⟩, ⟨rfl, trivial, trivial⟩, ⟨rfl, trivial, trivial⟩, ⟨rfl, trivial, trivial⟩, ⟨rfl, ⟨rfl, rfl⟩, trivial⟩, ⟨rfl, rfl, rows_same⟩, trivial⟩, ⟨rfl, rfl⟩, rfl, ⟨rfl, rfl⟩, ⟨rfl, rfl⟩, ⟨rfl, rfl⟩, ⟨rfl, rfl⟩, ⟨rfl, rfl⟩, trivial⟩

def impl_maker_twoTold  (a1 : Bool) (a2 : Rw) (a3 : Rw) : Option (Rw × Rw × Bool × Bool) :=
  (cond a1 (some (([] : Rw), ([] : Rw), false, true)) (some (a2, a3, true, false)))
set_option maxHeartbeats 4000000 in
set_option maxRecDepth 100000 in
theorem impl_maker_twoTold_ct  {a1 : Bool} {a2 : Rw} {a3 : Rw} {r : Rw × Rw × Bool × Bool} (h : impl_maker_twoTold a1 a2 a3 = some r) : Ct prog 72 [.ptr 0 0, .agg [.os 8 a2.length], .agg [.os 9 a3.length]] (⟨[(83, [.d (D.bool a1)])], [(116, true, a2), (116, true, a3)]⟩) (.tup [.agg [.os 8 r.1.length], .agg [.os 9 r.2.1.length], .d (D.bool r.2.2.1)]) (⟨[(83, [.d (D.bool r.2.2.2)])], [(116, true, r.1), (116, true, r.2.1)]⟩) := by
  rw [impl_maker_twoTold] at h
  refine Ct.of (c := _) mixed func72 ⟨rfl, rfl, rfl⟩ ?_ rfl
  cases a1
  · replace h := condF h
    conv => whnf
    refine splF ?_
    conv => whnf
    cases h
    exact Done.of [some 0, some 8, some 9] [] rfl rfl ⟨⟨rfl, rfl⟩, ⟨rfl, ⟨rfl, rfl, trivial⟩, ⟨rfl, rfl, rows_same⟩, ⟨rfl, rfl, rows_same⟩, trivial⟩, ⟨⟨⟨rfl, rfl⟩, trivial⟩, ⟨⟨rfl, rfl⟩, trivial⟩, rfl, trivial⟩, trivial⟩
  · replace h := condT h
    conv => whnf
    refine splT ?_
    conv => whnf
    cases h
    exact Done.of [some 0, none, none] [] rfl rfl ⟨⟨rfl, rfl⟩, ⟨rfl, ⟨rfl, rfl, trivial⟩, rfl, rfl, trivial⟩, ⟨⟨⟨rfl, rfl⟩, trivial⟩, ⟨⟨rfl, rfl⟩, trivial⟩, rfl, trivial⟩, trivial⟩

def impl_QuotientTerms (k : Nat) (a1 : Rw) (a2 : Rw) (a3 : Int) : Option (Rw × Rw × Bool) :=
  ((impl_surreals k a1 a2).bind fun y4 => (if y4 = true then ((impl_isNothing a2).bind fun y7 => (if y7 = true then some (([] : Rw), ([] : Rw), false) else ((impl_stepsOk a3).bind fun y10 => (if y10 = true then ((impl_maker_divided k false a1 a2 a3).bind fun y13 => ((impl_maker_twoTold y13.2.2 y13.1 y13.2.1).bind fun y15 => (if y15.2.2.1 = true then some (y15.1, y15.2.1, true) else some (y15.1, y15.2.1, false)))) else some (([] : Rw), ([] : Rw), false))))) else some (([] : Rw), ([] : Rw), false)))
set_option maxHeartbeats 4000000 in
set_option maxRecDepth 100000 in
theorem impl_QuotientTerms_ct {k : Nat} {a1 : Rw} {a2 : Rw} {a3 : Int} {r : Rw × Rw × Bool} (h : impl_QuotientTerms k a1 a2 a3 = some r) : Ct prog 18 [.agg [.d (D.sl a1)], .agg [.d (D.sl a2)], .d (D.int .i64 a3)] (⟨[], []⟩) (.tup [.agg [.os 8 r.1.length], .agg [.os 9 r.2.1.length], .d (D.bool r.2.2)]) (⟨[], [(116, true, r.1), (116, true, r.2.1)]⟩) := by
  rw [impl_QuotientTerms] at h
  refine Ct.of (c := _) mixed func18 ⟨rfl, rfl, rfl⟩ ?_ rfl
  conv => whnf
  refine Pick.no ?_
  conv => whnf
  obtain ⟨y4, e5, h⟩ := bind_ex h
  refine CallOk.of (impl_surreals_ct e5) ?_
  conv => whnf
  refine spl (fun g6 => ?_) (fun g6 => ?_)
  · replace h := iteT h g6
    conv => whnf
    refine Pick.no ?_
    conv => whnf
    obtain ⟨y7, e8, h⟩ := bind_ex h
    refine CallOk.of (impl_isNothing_ct e8) ?_
    conv => whnf
    refine spl (fun g9 => ?_) (fun g9 => ?_)
    · replace h := iteT h g9
      conv => whnf
      refine CutK.norm [2, 3, 4, 6, 7, 24] [192, 256, 384, 448] ?_
      conv => whnf
      cases h
      exact Done.of [none, none] [] rfl rfl ⟨⟨rfl, rfl⟩, ⟨rfl, rfl, rfl, trivial⟩, ⟨⟨⟨rfl, rfl⟩, trivial⟩, ⟨⟨rfl, rfl⟩, trivial⟩, rfl, trivial⟩, trivial⟩
    · replace h := iteF h g9
      conv => whnf
      refine Pick.no ?_
      conv => whnf
      obtain ⟨y10, e11, h⟩ := bind_ex h
      refine CallOk.of (impl_stepsOk_ct e11) ?_
      conv => whnf
      refine spl (fun g12 => ?_) (fun g12 => ?_)
      · replace h := iteT h g12
        conv => whnf
        refine CutK.norm [2, 3, 4, 6, 7, 24] [192, 256, 384, 448] ?_
        conv => whnf
        refine CutK.norm [2, 3, 4, 6, 7] [192, 256, 384, 448] ?_
        conv => whnf
        refine Pick.no ?_
        conv => whnf
        obtain ⟨y13, e14, h⟩ := bind_ex h
        refine CallOk.of (impl_maker_divided_ct e14) ?_
        conv => whnf
        refine CutK.norm [6, 7, 9, 10, 11] [384, 448, 576, 640, 704, 2048, 2049] ?_
        conv => whnf
        refine Pick.yes ?_
        conv => whnf
        refine Req.of (Nat.le_refl _) ?_
        conv => whnf
        refine Req.of (Nat.le_refl _) ?_
        conv => whnf
        obtain ⟨y15, e16, h⟩ := bind_ex h
        refine CallOk.of (impl_maker_twoTold_ct e16) ?_
        conv => whnf
        refine spl (fun g17 => ?_) (fun g17 => ?_)
        · replace h := iteT h g17
          conv => whnf
          refine CutK.norm [6, 7, 8] [384, 448, 2368, 2369] ?_
          conv => whnf
          cases h
          exact Done.of [some 2368, some 2369] [] rfl rfl ⟨⟨rfl, rfl⟩, ⟨rfl, ⟨rfl, rfl, rows_same⟩, ⟨rfl, rfl, rows_same⟩, trivial⟩, ⟨⟨⟨rfl, rfl⟩, trivial⟩, ⟨⟨rfl, rfl⟩, trivial⟩, rfl, trivial⟩, trivial⟩
        · replace h := iteF h g17
          conv => whnf
          refine CutK.norm [6, 7, 8] [384, 448, 2368, 2369] ?_
          conv => whnf
          cases h
          exact Done.of [some 2368, some 2369] [] rfl rfl ⟨⟨rfl, rfl⟩, ⟨rfl, ⟨rfl, rfl, rows_same⟩, ⟨rfl, rfl, rows_same⟩, trivial⟩, ⟨⟨⟨rfl, rfl⟩, trivial⟩, ⟨⟨rfl, rfl⟩, trivial⟩, rfl, trivial⟩, trivial⟩
      · replace h := iteF h g12
        conv => whnf
        refine CutK.norm [2, 3, 4, 6, 7, 24] [192, 256, 384, 448] ?_
        conv => whnf
        cases h
        exact Done.of [none, none] [] rfl rfl ⟨⟨rfl, rfl⟩, ⟨rfl, rfl, rfl, trivial⟩, ⟨⟨⟨rfl, rfl⟩, trivial⟩, ⟨⟨rfl, rfl⟩, trivial⟩, rfl, trivial⟩, trivial⟩
  · replace h := iteF h g6
    conv => whnf
    refine CutK.norm [2, 3, 4, 6, 7, 24] [192, 256, 384, 448] ?_
    conv => whnf
    cases h
    exact Done.of [none, none] [] rfl rfl ⟨⟨rfl, rfl⟩, ⟨rfl, rfl, rfl, trivial⟩, ⟨⟨⟨rfl, rfl⟩, trivial⟩, ⟨⟨rfl, rfl⟩, trivial⟩, rfl, trivial⟩, trivial⟩

def impl_ExactQuotient (k : Nat) (a1 : Rw) (a2 : Rw) : Option (Rw × Bool) :=
  ((impl_QuotientTerms k a1 a2 12).bind fun y3 => (if y3.2.2 = true then ((impl_isNothing y3.2.1).bind fun y6 => (if y6 = true then some (y3.1, true) else some (([] : Rw), false))) else some (([] : Rw), false)))
set_option maxHeartbeats 4000000 in
set_option maxRecDepth 100000 in
theorem impl_ExactQuotient_ct {k : Nat} {a1 : Rw} {a2 : Rw} {r : Rw × Bool} (h : impl_ExactQuotient k a1 a2 = some r) : Ct prog 20 [.agg [.d (D.sl a1)], .agg [.d (D.sl a2)]] (⟨[], []⟩) (.tup [.agg [.os 8 r.1.length], .d (D.bool r.2)]) (⟨[], [(116, true, r.1)]⟩) := by
  rw [impl_ExactQuotient] at h
  refine Ct.of (c := _) mixed func20 ⟨rfl, rfl, rfl⟩ ?_ rfl
  conv => whnf
  refine Pick.no ?_
  conv => whnf
  obtain ⟨y3, e4, h⟩ := bind_ex h
  refine CallOk.of (impl_QuotientTerms_ct e4) ?_
  conv => whnf
  refine spl (fun g5 => ?_) (fun g5 => ?_)
  · replace h := iteT h g5
    conv => whnf
    refine CutK.go ?_
    conv => whnf
    refine Pick.no ?_
    conv => whnf
    refine Take.all (rfl) ?_
    conv => whnf
    obtain ⟨y6, e7, h⟩ := bind_ex h
    refine CallOk.of (impl_isNothing_ct e7) ?_
    conv => whnf
    refine spl (fun g8 => ?_) (fun g8 => ?_)
    · replace h := iteT h g8
      conv => whnf
      refine CutK.go ?_
      conv => whnf
      refine CutK.go ?_
      conv => whnf
      cases h
      exact Done.of [some 768] [] rfl rfl ⟨⟨rfl, rfl⟩, ⟨rfl, ⟨rfl, rfl, rows_same⟩, trivial⟩, ⟨⟨⟨rfl, rfl⟩, trivial⟩, rfl, trivial⟩, trivial⟩
    · replace h := iteF h g8
      conv => whnf
      refine CutK.go ?_
      conv => whnf
      cases h
      exact Done.of [none] [] rfl rfl ⟨⟨rfl, rfl⟩, ⟨rfl, rfl, trivial⟩, ⟨⟨⟨rfl, rfl⟩, trivial⟩, rfl, trivial⟩, trivial⟩
  · replace h := iteF h g5
    conv => whnf
    refine CutK.go ?_
    conv => whnf
    refine CutK.go ?_
    conv => whnf
    cases h
    exact Done.of [none] [] rfl rfl ⟨⟨rfl, rfl⟩, ⟨rfl, rfl, trivial⟩, ⟨⟨⟨rfl, rfl⟩, trivial⟩, rfl, trivial⟩, trivial⟩

def laws_markSurrealTermS_2_l0 (a1 : Int) (K0 : Option Int) : Nat → Option Int
  | 0 => none
  | n + 1 => (K0)
set_option maxRecDepth 100000 in
theorem laws_markSurrealTermS_2_l0_ct {a1 : Int} {K0 : Option Int} {r : Int} : ∀ (n : Nat), laws_markSurrealTermS_2_l0 a1 K0 n = some r → LoopOk prog 0 (lp f64 0) (mk 37 [(0, .d (.sl [])), (1, .d (D.int .i64 a1)), (5, .d (D.int .i64 0))] []) (LoopEnd prog f64 0 37 (.d (D.int .i64 r)) (⟨[], []⟩) (fun i ts os => (i = 0 ∧ K0 = some r ∧ ts = [(1, .d (D.int .i64 a1))] ∧ os = [])))
  | 0, h => by
      rw [laws_markSurrealTermS_2_l0] at h; cases h
  | n + 1, h => by
      rw [laws_markSurrealTermS_2_l0] at h
      refine LoopOk.step ?_
      conv => whnf
      refine splD (fun g => absurd g (by decide)) (fun _ => ?_)
      conv => whnf
      exact ⟨_, _, [], [], ⟨rfl, h, rfl, rfl⟩, ⟨⟨rfl, rfl⟩, ⟨rfl, trivial⟩, rfl, trivial⟩⟩
def laws_markSurrealTermS_2 (k : Nat) (a1 : Int) : Option Int :=
  (laws_markSurrealTermS_2_l0 a1 (some a1) k)
set_option maxHeartbeats 4000000 in
set_option maxRecDepth 100000 in
theorem laws_markSurrealTermS_2_ct {k : Nat} {a1 : Int} {r : Int} (h : laws_markSurrealTermS_2 k a1 = some r) : Ct prog 64 [.d (.sl []), .d (D.int .i64 a1)] (⟨[], []⟩) (.d (D.int .i64 r)) (⟨[], []⟩) := by
  rw [laws_markSurrealTermS_2] at h
  refine Ct.of (c := _) mixed func64 ⟨rfl, rfl, rfl⟩ ?_ rfl
  conv => whnf
  refine LoopOk.into (laws_markSurrealTermS_2_l0_ct  _  h) [] [] ⟨⟨rfl, rfl⟩, ⟨rfl, trivial⟩, rfl, rfl, rfl, trivial⟩ ?_ (fun _ hs => hs)
  rintro i ts os ⟨rfl, h, rfl, rfl⟩
  conv => whnf
  refine CutK.norm [1] [] ?_
  conv => whnf
  cases h
  exact Done.of [] [] rfl rfl ⟨⟨rfl, rfl⟩, ⟨rfl, trivial⟩, rfl, trivial⟩

def laws_markSurreal_2 (k : Nat) (a1 : Int) : Option Int :=
  ((laws_markSurrealTermS_2 k a1).bind fun y2 => some y2)
set_option maxHeartbeats 4000000 in
set_option maxRecDepth 100000 in
theorem laws_markSurreal_2_ct {k : Nat} {a1 : Int} {r : Int} (h : laws_markSurreal_2 k a1 = some r) : Ct prog 15 [.agg [.d (.sl [])], .d (D.int .i64 a1)] (⟨[], []⟩) (.d (D.int .i64 r)) (⟨[], []⟩) := by
  rw [laws_markSurreal_2] at h
  refine Ct.of (c := _) mixed func15 ⟨rfl, rfl, rfl⟩ ?_ rfl
  conv => whnf
  refine Pick.no ?_
  conv => whnf
  obtain ⟨y2, e3, h⟩ := bind_ex h
  refine CallOk.of (laws_markSurrealTermS_2_ct e3) ?_
  conv => whnf
  refine CutK.go ?_
  conv => whnf
  cases h
  exact Done.of [] [] rfl rfl ⟨⟨rfl, rfl⟩, ⟨rfl, trivial⟩, rfl, trivial⟩

def laws_markSurrealTermS_l0 (rec_laws_markSurrealTermS : Rw → Int → Option (Int × Rw)) (K0 : Int → Rw → Option (Int × Rw)) : Nat → Rw → Int → Int → Option (Int × Rw)
  | 0, _, _, _ => none
  | n + 1, v22, v23, v24 => (if v24 < (v22.length : Int) then (if 0 ≤ v24 ∧ v24 < (v22.length : Int) then (row_sii v22 v24 fun x67 x68 x69 => ((rec_laws_markSurrealTermS x67 v23).bind fun y72 => (row_sii (v22.set ((v24 : Int).toNat) [D.sl y72.2, D.int .i64 x68, D.int .i64 x69]) v24 fun x74 x75 x76 => (row_sii ((v22.set ((v24 : Int).toNat) [D.sl y72.2, D.int .i64 x68, D.int .i64 x69]).set ((v24 : Int).toNat) [D.sl x74, D.int .i64 y72.1, D.int .i64 x76]) v24 fun x79 x80 x81 => (laws_markSurrealTermS_l0 rec_laws_markSurrealTermS K0 n (((v22.set ((v24 : Int).toNat) [D.sl y72.2, D.int .i64 x68, D.int .i64 x69]).set ((v24 : Int).toNat) [D.sl x74, D.int .i64 y72.1, D.int .i64 x76]).set ((v24 : Int).toNat) [D.sl x79, D.int .i64 x80, D.int .i64 (IntKind.i64.wrap (y72.1 + 1))]) (IntKind.i64.wrap ((IntKind.i64.wrap (y72.1 + 1)) + 1)) (IntKind.i64.wrap (v24 + 1))))))) else none) else (K0 v23 v22))
set_option maxRecDepth 100000 in
theorem laws_markSurrealTermS_l0_ct {rec_laws_markSurrealTermS : Rw → Int → Option (Int × Rw)} {K0 : Int → Rw → Option (Int × Rw)} {T : TypeId} (hrec_laws_markSurrealTermS : ∀ (a1 : Rw) (a2 : Int) (r : Int × Rw), rec_laws_markSurrealTermS a1 a2 = some r → CtM prog 64 false [.int .i64 a2] a1 (.int .i64 r.1) r.2) {r : Int × Rw} : ∀ (n : Nat) (v22 : Rw) (v23 : Int) (v24 : Int), laws_markSurrealTermS_l0 rec_laws_markSurrealTermS K0 n v22 v23 v24 = some r → LoopOk prog 1 (lp f64 0) (mk 37 [(0, .os 0 v22.length), (1, .d (D.int .i64 v23)), (5, .d (D.int .i64 v24))] [(0, .arr T true v22)]) (LoopEndM 1 37 (fun i ts os => (i = 0 ∧ ∃ v44 : Int, ∃ v45 : Rw, K0 v44 v45 = some r ∧ ts = [(1, .d (D.int .i64 v44))] ∧ os = [(0, .arr T true v45)])))
  | 0, _, _, _, h => by
      rw [laws_markSurrealTermS_l0] at h; cases h
  | n + 1, v22, v23, v24, h => by
      rw [laws_markSurrealTermS_l0] at h
      refine LoopOk.step ?_
      conv => whnf
      refine splD (fun g65 => ?_) (fun g65 => ?_)
      · replace h := iteP h g65
        conv => whnf
        obtain ⟨g66, h⟩ := req_ex h
        refine Req.of g66 ?_
        conv => whnf
        obtain ⟨g71, x67, x68, x69, e70, h⟩ := row_sii_ex h
        refine Row.of _ e70 ?_
        conv => whnf
        obtain ⟨y72, e73, h⟩ := bind_ex h
        refine MarkOk.of (hrec_laws_markSurrealTermS _ _ _ e73) ?_
        conv => whnf
        refine CutK.norm [0, 1, 5] [0] ?_
        conv => whnf
        refine Req.of g66 ?_
        conv => whnf
        obtain ⟨g78, x74, x75, x76, e77, h⟩ := row_sii_ex h
        refine Row.of _ e77 ?_
        conv => whnf
        refine Req.of g66 ?_
        conv => whnf
        obtain ⟨g83, x79, x80, x81, e82, h⟩ := row_sii_ex h
        refine Row.of _ e82 ?_
        conv => whnf
        refine CutK.norm [0, 1, 5] [0] ?_
        conv => whnf
        exact LoopOk.back (laws_markSurrealTermS_l0_ct hrec_laws_markSurrealTermS n _ _ _ h) [some 0] [] ⟨⟨rfl, rfl⟩, ⟨rfl, ⟨rfl, rfl, rows_same⟩, trivial⟩, ⟨(by first | rfl | exact List.length_append.symm | (simp; done) | omega), rfl⟩, rfl, rfl, trivial⟩
      · replace h := iteN h g65
        conv => whnf
        exact ⟨_, _, [some 0], [], ⟨rfl, _, _, h, rfl, rfl⟩, ⟨⟨rfl, rfl⟩, ⟨rfl, ⟨rfl, rfl, rows_same⟩, trivial⟩, rfl, trivial⟩⟩
def laws_markSurrealTermS_b (k : Nat) (rec_laws_markSurrealTermS : Rw → Int → Option (Int × Rw)) (a1 : Rw) (a2 : Int) : Option (Int × Rw) :=
  (if a1.isEmpty = true then ((laws_markSurrealTermS_2 k a2).bind fun y => some (y, ([] : Rw))) else (laws_markSurrealTermS_l0 rec_laws_markSurrealTermS (fun (v44 : Int) (v45 : Rw) => (if v45.length = a1.length then some (v44, v45) else none)) k a1 a2 0))
set_option maxHeartbeats 4000000 in
set_option maxRecDepth 100000 in
theorem laws_markSurrealTermS_b_ct {k : Nat} {rec_laws_markSurrealTermS : Rw → Int → Option (Int × Rw)} (hrec_laws_markSurrealTermS : ∀ (a1 : Rw) (a2 : Int) (r : Int × Rw), rec_laws_markSurrealTermS a1 a2 = some r → CtM prog 64 false [.int .i64 a2] a1 (.int .i64 r.1) r.2) {a1 : Rw} {a2 : Int} {r : Int × Rw} (h : laws_markSurrealTermS_b k rec_laws_markSurrealTermS a1 a2 = some r) : CtM prog 64 false [.int .i64 a2] a1 (.int .i64 r.1) r.2 := by
  rw [laws_markSurrealTermS_b] at h
  refine CtM.of (c := _) mixed func64 ⟨rfl, rfl, rfl⟩ rfl (fun hne T => ?_) (fun h0 => ?_)
  · replace h := iteF h (by cases a1 with | nil => exact absurd rfl hne | cons _ _ => rfl)
    conv => whnf
    refine LoopOk.intoM (laws_markSurrealTermS_l0_ct hrec_laws_markSurrealTermS _ _ _ _ h) [some 0] [] ⟨⟨rfl, rfl⟩, ⟨rfl, ⟨rfl, rfl, rows_same⟩, trivial⟩, ⟨rfl, rfl⟩, rfl, rfl, trivial⟩ ?_
    rintro i ts os ⟨rfl, v44, v45, h, rfl, rfl⟩
    conv => whnf
    refine CutK.norm [1] [0] ?_
    conv => whnf
    obtain ⟨g84, h⟩ := req_ex h
    cases h
    exact DoneM.of [some 0] [] rfl g84 ⟨⟨rfl, rfl⟩, ⟨rfl, ⟨rfl, rfl, rows_same⟩, trivial⟩, rfl, trivial⟩
  · subst h0
    replace h := iteT h rfl
    obtain ⟨y, e, h⟩ := bind_ex h
    cases h
    exact ⟨rfl, laws_markSurrealTermS_2_ct e⟩
def laws_markSurrealTermS : Nat → Rw → Int → Option (Int × Rw)
  | 0, _, _ => none
  | k + 1, a1, a2 => laws_markSurrealTermS_b k (laws_markSurrealTermS k) a1 a2
theorem laws_markSurrealTermS_ct' : ∀ (k : Nat) (a1 : Rw) (a2 : Int) (r : Int × Rw), laws_markSurrealTermS k a1 a2 = some r → CtM prog 64 false [.int .i64 a2] a1 (.int .i64 r.1) r.2
  | 0, _, _, _, h => by rw [laws_markSurrealTermS] at h; cases h
  | k + 1, _, _, _, h => by rw [laws_markSurrealTermS] at h; exact laws_markSurrealTermS_b_ct (laws_markSurrealTermS_ct' k) h
theorem laws_markSurrealTermS_ct {k : Nat} {a1 : Rw} {a2 : Int} {r : Int × Rw} (h : laws_markSurrealTermS k a1 a2 = some r) : CtM prog 64 false [.int .i64 a2] a1 (.int .i64 r.1) r.2 := laws_markSurrealTermS_ct' k _ _ _ h

def laws_markSurreal (k : Nat) (a1 : Rw) (a2 : Int) : Option (Int × Rw) :=
  (if a1.isEmpty = true then ((laws_markSurreal_2 k a2).bind fun y => some (y, ([] : Rw))) else ((laws_markSurrealTermS k a1 a2).bind fun y3 => (if y3.2.length = a1.length then some (y3.1, y3.2) else none)))
set_option maxHeartbeats 4000000 in
set_option maxRecDepth 100000 in
theorem laws_markSurreal_ct {k : Nat} {a1 : Rw} {a2 : Int} {r : Int × Rw} (h : laws_markSurreal k a1 a2 = some r) : CtM prog 15 true [.int .i64 a2] a1 (.int .i64 r.1) r.2 := by
  rw [laws_markSurreal] at h
  refine CtM.of (c := _) mixed func15 ⟨rfl, rfl, rfl⟩ rfl (fun hne T => ?_) (fun h0 => ?_)
  · replace h := iteF h (by cases a1 with | nil => exact absurd rfl hne | cons _ _ => rfl)
    conv => whnf
    refine Choice.new ?_
    conv => whnf
    refine Req.of (rfl) ?_
    conv => whnf
    obtain ⟨y3, e4, h⟩ := bind_ex h
    refine MarkOk.of (laws_markSurrealTermS_ct e4) ?_
    conv => whnf
    refine CutK.go ?_
    conv => whnf
    obtain ⟨g5, h⟩ := req_ex h
    cases h
    exact DoneM.of [some 0] [] rfl g5 ⟨⟨rfl, rfl⟩, ⟨rfl, ⟨rfl, rfl, rows_same⟩, trivial⟩, rfl, trivial⟩
  · subst h0
    replace h := iteT h rfl
    obtain ⟨y, e, h⟩ := bind_ex h
    cases h
    exact ⟨rfl, laws_markSurreal_2_ct e⟩

def spec_suOwn_l0 (rec_spec_suOwn : Rw → Option Rw) (a1 : Rw) (K0 : Rw → Option Rw) : Rw → Rw → Option Rw
  | [], v11 => (K0 v11)
  | cs :: rest, v11 => (cell_sii cs fun x31 x32 x33 => ((rec_spec_suOwn x31).bind fun y35 => (if v11.length + 1 ≤ cap then (spec_suOwn_l0 rec_spec_suOwn a1 K0 rest (v11 ++ ([[D.sl y35, D.int .i64 x32, D.int .i64 x33]]))) else none)))
set_option maxRecDepth 100000 in
theorem spec_suOwn_l0_ct {rec_spec_suOwn : Rw → Option Rw} {a1 : Rw} {K0 : Rw → Option Rw} (hrec_spec_suOwn : ∀ (a1 : Rw) (r : Rw), rec_spec_suOwn a1 = some r → Ct prog 68 [.agg [.d (D.sl a1)]] (⟨[], []⟩) (.agg [.os 8 r.length]) (⟨[], [(116, true, r)]⟩)) {r : Rw} (hx : a1.length ≤ cap) : ∀ (rest : Rw) (v10n : Nat) (v11 : Rw), a1.drop v10n = rest → spec_suOwn_l0 rec_spec_suOwn a1 K0 rest v11 = some r → LoopOk prog 0 (lp f68 0) (mk 27 [(2, .ptr 128 0), (3, .ptr 192 0), (8, .d (D.sl a1)), (9, .d (D.int .i64 (a1.length : Int))), (10, .d (D.int .i64 (v10n : Int)))] [(128, .box 28 [.es]), (192, .box 28 [.os 64000 v11.length]), (64000, .arr 116 true v11)]) (LoopEnd prog f68 0 27 (.agg [.os 8 r.length]) (⟨[], [(116, true, r)]⟩) (fun i ts os => (i = 0 ∧ ∃ v21 : Rw, K0 v21 = some r ∧ ts = [(2, .ptr 128 0), (3, .ptr 192 0)] ∧ os = [(128, .box 28 [.es]), (192, .box 28 [.os 67001 v21.length]), (67001, .arr 116 true v21)])))
  | [], v10n, v11, hd, h => by
      rw [spec_suOwn_l0] at h
      have hn := drop_nil hd
      refine LoopOk.step ?_
      conv => whnf
      refine splD (fun g => absurd g hn) (fun _ => ?_)
      conv => whnf
      exact ⟨_, _, [some 128, some 192, some 64000], [], ⟨rfl, _, h, rfl, rfl⟩, ⟨⟨rfl, rfl⟩, ⟨rfl, ⟨rfl, trivial, trivial⟩, ⟨rfl, ⟨rfl, rfl⟩, trivial⟩, ⟨rfl, rfl, rows_same⟩, trivial⟩, ⟨rfl, rfl⟩, ⟨rfl, rfl⟩, trivial⟩⟩
  | cs :: rest, v10n, v11, hd, h => by
      rw [spec_suOwn_l0] at h
      obtain ⟨hrow, hd1, hlt⟩ := drop_cons hd
      refine LoopOk.step ?_
      conv => whnf
      refine splD (fun _ => ?_) (fun g => absurd hlt g)
      conv => whnf
      obtain ⟨x31, x32, x33, e34, h⟩ := cell_sii_ex h
      rw [e34] at hrow
      refine Req.of (Int.natCast_nonneg _) ?_
      refine Row.of _ hrow ?_
      conv => whnf
      refine Pick.no ?_
      conv => whnf
      obtain ⟨y35, e36, h⟩ := bind_ex h
      refine CallOk.of (hrec_spec_suOwn _ _ e36) ?_
      conv => whnf
      refine Take.all (rfl) ?_
      conv => whnf
      refine Take.all (rfl) ?_
      conv => whnf
      refine Take.all (by first | rfl | exact List.length_append.symm | (simp; done) | omega) ?_
      conv => whnf
      obtain ⟨g37, h⟩ := req_ex h
      refine Req.of (room (b := 40) (by decide) g37 (wide1 rfl wide0)) ?_
      conv => whnf
      refine CutK.go ?_
      conv => whnf
      exact LoopOk.back (spec_suOwn_l0_ct hrec_spec_suOwn hx rest (v10n + 1) _ hd1 h) [some 128, some 192, some 1472] [] ⟨⟨rfl, rfl⟩, ⟨rfl, ⟨rfl, trivial, trivial⟩, ⟨rfl, ⟨(by first | rfl | exact List.length_append.symm | (simp; done) | omega), rfl⟩, trivial⟩, ⟨rfl, rfl, rows_same⟩, trivial⟩, ⟨rfl, rfl⟩, ⟨rfl, rfl⟩, rfl, rfl, i64eq (wrap_up hlt hx), trivial⟩
def spec_suOwn_b (rec_spec_suOwn : Rw → Option Rw) (a1 : Rw) : Option Rw :=
  (if a1.length ≤ cap then (spec_suOwn_l0 rec_spec_suOwn a1 (fun (v21 : Rw) => some v21) a1 ([] : Rw)) else none)
set_option maxHeartbeats 4000000 in
set_option maxRecDepth 100000 in
theorem spec_suOwn_b_ct {rec_spec_suOwn : Rw → Option Rw} (hrec_spec_suOwn : ∀ (a1 : Rw) (r : Rw), rec_spec_suOwn a1 = some r → Ct prog 68 [.agg [.d (D.sl a1)]] (⟨[], []⟩) (.agg [.os 8 r.length]) (⟨[], [(116, true, r)]⟩)) {a1 : Rw} {r : Rw} (h : spec_suOwn_b rec_spec_suOwn a1 = some r) : Ct prog 68 [.agg [.d (D.sl a1)]] (⟨[], []⟩) (.agg [.os 8 r.length]) (⟨[], [(116, true, r)]⟩) := by
  rw [spec_suOwn_b] at h
  refine Ct.of (c := _) mixed func68 ⟨rfl, rfl, rfl⟩ ?_ rfl
  conv => whnf
  obtain ⟨g38, h⟩ := req_ex h
  refine LoopOk.into (spec_suOwn_l0_ct hrec_spec_suOwn g38 _ _ _ rfl h) [some 128, some 192, none] [] ⟨⟨rfl, rfl⟩, ⟨rfl, ⟨rfl, trivial, trivial⟩, ⟨rfl, ⟨rfl, rfl⟩, trivial⟩, rfl, trivial⟩, ⟨rfl, rfl⟩, ⟨rfl, rfl⟩, rfl, rfl, rfl, trivial⟩ ?_ (fun _ hs => hs)
  rintro i ts os ⟨rfl, v21, h, rfl, rfl⟩
  conv => whnf
  refine CutK.go ?_
  conv => whnf
  cases h
  exact Done.of [some 67001] [] rfl rfl ⟨⟨rfl, rfl⟩, ⟨rfl, ⟨rfl, rfl, rows_same⟩, trivial⟩, ⟨⟨rfl, rfl⟩, trivial⟩, trivial⟩
def spec_suOwn : Nat → Rw → Option Rw
  | 0, _ => none
  | k + 1, a1 => spec_suOwn_b (spec_suOwn k) a1
theorem spec_suOwn_ct' : ∀ (k : Nat) (a1 : Rw) (r : Rw), spec_suOwn k a1 = some r → Ct prog 68 [.agg [.d (D.sl a1)]] (⟨[], []⟩) (.agg [.os 8 r.length]) (⟨[], [(116, true, r)]⟩)
  | 0, _, _, h => by rw [spec_suOwn] at h; cases h
  | k + 1, _, _, h => by rw [spec_suOwn] at h; exact spec_suOwn_b_ct (spec_suOwn_ct' k) h
theorem spec_suOwn_ct {k : Nat} {a1 : Rw} {r : Rw} (h : spec_suOwn k a1 = some r) : Ct prog 68 [.agg [.d (D.sl a1)]] (⟨[], []⟩) (.agg [.os 8 r.length]) (⟨[], [(116, true, r)]⟩) := spec_suOwn_ct' k _ _ h

def spec_suZero  (a1 : Rw) : Option Bool :=
  (if (a1.length : Int) = (0 : Int) then some true else some false)
set_option maxHeartbeats 4000000 in
set_option maxRecDepth 100000 in
theorem spec_suZero_ct  {a1 : Rw} {r : Bool} (h : spec_suZero a1 = some r) : Ct prog 66 [.agg [.d (D.sl a1)]] (⟨[], []⟩) (.d (D.bool r)) (⟨[], []⟩) := by
  rw [spec_suZero] at h
  refine Ct.of (c := _) mixed func66 ⟨rfl, rfl, rfl⟩ ?_ rfl
  conv => whnf
  refine splD (fun g2 => ?_) (fun g2 => ?_)
  · replace h := iteP h g2
    conv => whnf
    cases h
    exact Done.of [] [] rfl rfl ⟨⟨rfl, rfl⟩, ⟨rfl, trivial⟩, rfl, trivial⟩
  · replace h := iteN h g2
    conv => whnf
    cases h
    exact Done.of [] [] rfl rfl ⟨⟨rfl, rfl⟩, ⟨rfl, trivial⟩, rfl, trivial⟩

def spec_shNeg  (a1 : Int) (a2 : Int) : Option (Int × Int) :=
  some (IntKind.i64.wrap (0 - a1), a2)
set_option maxHeartbeats 4000000 in
set_option maxRecDepth 100000 in
theorem spec_shNeg_ct  {a1 : Int} {a2 : Int} {r : Int × Int} (h : spec_shNeg a1 a2 = some r) : Ct prog 161 [.agg [.d (D.int .i64 a1), .d (D.int .i64 a2)]] (⟨[], []⟩) (.agg [.d (D.int .i64 r.1), .d (D.int .i64 r.2)]) (⟨[], []⟩) := by
  rw [spec_shNeg] at h
  refine Ct.of (c := _) mixed func161 ⟨rfl, rfl, rfl⟩ ?_ rfl
  conv => whnf
  cases h
  exact Done.of [] [] rfl rfl ⟨⟨rfl, rfl⟩, ⟨rfl, trivial⟩, ⟨rfl, rfl, trivial⟩, trivial⟩

def spec_suNeg_l0 (a1 : Rw) (K0 : Rw → Option Rw) : Rw → Rw → Option Rw
  | [], v11 => (K0 v11)
  | cs :: rest, v11 => (cell_sii cs fun x31 x32 x33 => ((spec_shNeg x32 x33).bind fun y35 => (if v11.length + 1 ≤ cap then (spec_suNeg_l0 a1 K0 rest (v11 ++ ([[D.sl x31, D.int .i64 y35.1, D.int .i64 y35.2]]))) else none)))
set_option maxRecDepth 100000 in
theorem spec_suNeg_l0_ct {a1 : Rw} {K0 : Rw → Option Rw} {r : Rw} (hx : a1.length ≤ cap) : ∀ (rest : Rw) (v10n : Nat) (v11 : Rw), a1.drop v10n = rest → spec_suNeg_l0 a1 K0 rest v11 = some r → LoopOk prog 0 (lp f175 0) (mk 27 [(2, .ptr 128 0), (3, .ptr 192 0), (8, .d (D.sl a1)), (9, .d (D.int .i64 (a1.length : Int))), (10, .d (D.int .i64 (v10n : Int)))] [(128, .box 28 [.es]), (192, .box 28 [.os 64000 v11.length]), (64000, .arr 116 false v11)]) (LoopEnd prog f175 0 27 (.agg [.os 8 r.length]) (⟨[], [(116, false, r)]⟩) (fun i ts os => (i = 0 ∧ ∃ v21 : Rw, K0 v21 = some r ∧ ts = [(2, .ptr 128 0), (3, .ptr 192 0)] ∧ os = [(128, .box 28 [.es]), (192, .box 28 [.os 67001 v21.length]), (67001, .arr 116 false v21)])))
  | [], v10n, v11, hd, h => by
      rw [spec_suNeg_l0] at h
      have hn := drop_nil hd
      refine LoopOk.step ?_
      conv => whnf
      refine splD (fun g => absurd g hn) (fun _ => ?_)
      conv => whnf
      exact ⟨_, _, [some 128, some 192, some 64000], [], ⟨rfl, _, h, rfl, rfl⟩, ⟨⟨rfl, rfl⟩, ⟨rfl, ⟨rfl, trivial, trivial⟩, ⟨rfl, ⟨rfl, rfl⟩, trivial⟩, ⟨rfl, rfl, rows_same⟩, trivial⟩, ⟨rfl, rfl⟩, ⟨rfl, rfl⟩, trivial⟩⟩
  | cs :: rest, v10n, v11, hd, h => by
      rw [spec_suNeg_l0] at h
      obtain ⟨hrow, hd1, hlt⟩ := drop_cons hd
      refine LoopOk.step ?_
      conv => whnf
      refine splD (fun _ => ?_) (fun g => absurd hlt g)
      conv => whnf
      obtain ⟨x31, x32, x33, e34, h⟩ := cell_sii_ex h
      rw [e34] at hrow
      refine Req.of (Int.natCast_nonneg _) ?_
      refine Row.of _ hrow ?_
      conv => whnf
      refine Pick.no ?_
      conv => whnf
      obtain ⟨y35, e36, h⟩ := bind_ex h
      refine CallOk.of (spec_shNeg_ct e36) ?_
      conv => whnf
      refine Take.all (rfl) ?_
      conv => whnf
      refine Take.all (by first | rfl | exact List.length_append.symm | (simp; done) | omega) ?_
      conv => whnf
      obtain ⟨g37, h⟩ := req_ex h
      refine Req.of (room (b := 40) (by decide) g37 (wide1 rfl wide0)) ?_
      conv => whnf
      refine CutK.go ?_
      conv => whnf
      exact LoopOk.back (spec_suNeg_l0_ct hx rest (v10n + 1) _ hd1 h) [some 128, some 192, some 1472] [] ⟨⟨rfl, rfl⟩, ⟨rfl, ⟨rfl, trivial, trivial⟩, ⟨rfl, ⟨(by first | rfl | exact List.length_append.symm | (simp; done) | omega), rfl⟩, trivial⟩, ⟨rfl, rfl, rows_same⟩, trivial⟩, ⟨rfl, rfl⟩, ⟨rfl, rfl⟩, rfl, rfl, i64eq (wrap_up hlt hx), trivial⟩
def spec_suNeg  (a1 : Rw) : Option Rw :=
  (if a1.length ≤ cap then (spec_suNeg_l0 a1 (fun (v21 : Rw) => some v21) a1 ([] : Rw)) else none)
set_option maxHeartbeats 4000000 in
set_option maxRecDepth 100000 in
theorem spec_suNeg_ct  {a1 : Rw} {r : Rw} (h : spec_suNeg a1 = some r) : Ct prog 175 [.agg [.d (D.sl a1)]] (⟨[], []⟩) (.agg [.os 8 r.length]) (⟨[], [(116, false, r)]⟩) := by
  rw [spec_suNeg] at h
  refine Ct.of (c := _) mixed func175 ⟨rfl, rfl, rfl⟩ ?_ rfl
  conv => whnf
  obtain ⟨g38, h⟩ := req_ex h
  refine LoopOk.into (spec_suNeg_l0_ct  g38 _ _ _ rfl h) [some 128, some 192, none] [] ⟨⟨rfl, rfl⟩, ⟨rfl, ⟨rfl, trivial, trivial⟩, ⟨rfl, ⟨rfl, rfl⟩, trivial⟩, rfl, trivial⟩, ⟨rfl, rfl⟩, ⟨rfl, rfl⟩, rfl, rfl, rfl, trivial⟩ ?_ (fun _ hs => hs)
  rintro i ts os ⟨rfl, v21, h, rfl, rfl⟩
  conv => whnf
  refine CutK.go ?_
  conv => whnf
  cases h
  exact Done.of [some 67001] [] rfl rfl ⟨⟨rfl, rfl⟩, ⟨rfl, ⟨rfl, rfl, rows_same⟩, trivial⟩, ⟨⟨rfl, rfl⟩, trivial⟩, trivial⟩

def spec_l1Sign  (a1 : Int) : Option Int :=
  (if (0 : Int) < a1 then some 1 else (if a1 < (0 : Int) then some (-1) else some 0))
set_option maxHeartbeats 4000000 in
set_option maxRecDepth 100000 in
theorem spec_l1Sign_ct  {a1 : Int} {r : Int} (h : spec_l1Sign a1 = some r) : Ct prog 151 [.d (D.int .i64 a1)] (⟨[], []⟩) (.d (D.int .i64 r)) (⟨[], []⟩) := by
  rw [spec_l1Sign] at h
  refine Ct.of (c := _) mixed func151 ⟨rfl, rfl, rfl⟩ ?_ rfl
  conv => whnf
  refine splD (fun g2 => ?_) (fun g2 => ?_)
  · replace h := iteP h g2
    conv => whnf
    cases h
    exact Done.of [] [] rfl rfl ⟨⟨rfl, rfl⟩, ⟨rfl, trivial⟩, rfl, trivial⟩
  · replace h := iteN h g2
    conv => whnf
    refine splD (fun g3 => ?_) (fun g3 => ?_)
    · replace h := iteP h g3
      conv => whnf
      cases h
      exact Done.of [] [] rfl rfl ⟨⟨rfl, rfl⟩, ⟨rfl, trivial⟩, rfl, trivial⟩
    · replace h := iteN h g3
      conv => whnf
      cases h
      exact Done.of [] [] rfl rfl ⟨⟨rfl, rfl⟩, ⟨rfl, trivial⟩, rfl, trivial⟩

def spec_suSign  (a1 : Rw) : Option Int :=
  (if (a1.length : Int) = (0 : Int) then some 0 else (row_sii a1 0 fun x3 x4 x5 => ((spec_l1Sign x4).bind fun y8 => some y8)))
set_option maxHeartbeats 4000000 in
set_option maxRecDepth 100000 in
theorem spec_suSign_ct  {a1 : Rw} {r : Int} (h : spec_suSign a1 = some r) : Ct prog 169 [.d (D.sl a1)] (⟨[], []⟩) (.d (D.int .i64 r)) (⟨[], []⟩) := by
  rw [spec_suSign] at h
  refine Ct.of (c := _) mixed func169 ⟨rfl, rfl, rfl⟩ ?_ rfl
  conv => whnf
  refine splD (fun g2 => ?_) (fun g2 => ?_)
  · replace h := iteP h g2
    conv => whnf
    cases h
    exact Done.of [] [] rfl rfl ⟨⟨rfl, rfl⟩, ⟨rfl, trivial⟩, rfl, trivial⟩
  · replace h := iteN h g2
    conv => whnf
    obtain ⟨g7, x3, x4, x5, e6, h⟩ := row_sii_ex h
    refine Req.of g7 ?_
    refine Row.of _ e6 ?_
    conv => whnf
    refine Pick.no ?_
    conv => whnf
    obtain ⟨y8, e9, h⟩ := bind_ex h
    refine CallOk.of (spec_l1Sign_ct e9) ?_
    conv => whnf
    refine CutK.go ?_
    conv => whnf
    cases h
    exact Done.of [] [] rfl rfl ⟨⟨rfl, rfl⟩, ⟨rfl, trivial⟩, rfl, trivial⟩

def spec_shCmp  (a1 : Int) (a2 : Int) (a3 : Int) (a4 : Int) : Option Int :=
  ((spec_l1Sign (IntKind.i64.wrap ((IntKind.i64.wrap (a1 * a4)) - (IntKind.i64.wrap (a3 * a2))))).bind fun y5 => some y5)
set_option maxHeartbeats 4000000 in
set_option maxRecDepth 100000 in
theorem spec_shCmp_ct  {a1 : Int} {a2 : Int} {a3 : Int} {a4 : Int} {r : Int} (h : spec_shCmp a1 a2 a3 a4 = some r) : Ct prog 102 [.agg [.d (D.int .i64 a1), .d (D.int .i64 a2)], .agg [.d (D.int .i64 a3), .d (D.int .i64 a4)]] (⟨[], []⟩) (.d (D.int .i64 r)) (⟨[], []⟩) := by
  rw [spec_shCmp] at h
  refine Ct.of (c := _) mixed func102 ⟨rfl, rfl, rfl⟩ ?_ rfl
  conv => whnf
  refine Pick.no ?_
  conv => whnf
  obtain ⟨y5, e6, h⟩ := bind_ex h
  refine CallOk.of (spec_l1Sign_ct e6) ?_
  conv => whnf
  refine CutK.go ?_
  conv => whnf
  cases h
  exact Done.of [] [] rfl rfl ⟨⟨rfl, rfl⟩, ⟨rfl, trivial⟩, rfl, trivial⟩
end
end Go.Proofs.Try
