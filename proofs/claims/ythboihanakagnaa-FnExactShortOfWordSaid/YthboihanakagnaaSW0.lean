/- Printed by program (axgen): pure functions, and that the Go functions compute them. -/
import Derived.Test.YthboihanakagnaaProg
import Derived.Test.YthboihanakagnaaAxC
import Derived.KernelRfl
import Derived.Test.YthboihanakagnaaShelf
set_option linter.unusedVariables false
set_option linter.unusedSimpArgs false
namespace Go.Proofs.Try
open Go Go.AX
theorem mixed : prog.follows .mixedOrders = true := by kernel_rfl
def cell_bs {α : Type} (cs : List D) (K : Bool → Rw → Option α) : Option α := match cs with | [.bool a0, .sl a1] => K a0 a1 | _ => none
def row_bs {α : Type} (es : Rw) (i : Int) (K : Bool → Rw → Option α) : Option α := if 0 ≤ i then (match es[i.toNat]? with | some cs => cell_bs cs K | none => none) else none
theorem cell_bs_ex {α : Type} {cs : List D} {K : Bool → Rw → Option α} {r : α} (h : cell_bs cs K = some r) : ∃ a0 a1, cs = [.bool a0, .sl a1] ∧ K a0 a1 = some r := by
  unfold cell_bs at h
  split at h
  · exact ⟨_, _, rfl, h⟩
  · cases h
theorem row_bs_ex {α : Type} {es : Rw} {i : Int} {K : Bool → Rw → Option α} {r : α} (h : row_bs es i K = some r) : 0 ≤ i ∧ ∃ a0 a1, es[i.toNat]? = some [.bool a0, .sl a1] ∧ K a0 a1 = some r := by
  unfold row_bs at h
  obtain ⟨g, h⟩ := req_ex h
  split at h
  · rename_i cs e
    obtain ⟨a0, a1, rfl, h⟩ := cell_bs_ex h
    exact ⟨g, a0, a1, e, h⟩
  · cases h
def cell_si {α : Type} (cs : List D) (K : Rw → Int → Option α) : Option α := match cs with | [.sl a0, .int .i64 a1] => K a0 a1 | _ => none
def row_si {α : Type} (es : Rw) (i : Int) (K : Rw → Int → Option α) : Option α := if 0 ≤ i then (match es[i.toNat]? with | some cs => cell_si cs K | none => none) else none
theorem cell_si_ex {α : Type} {cs : List D} {K : Rw → Int → Option α} {r : α} (h : cell_si cs K = some r) : ∃ a0 a1, cs = [.sl a0, .int .i64 a1] ∧ K a0 a1 = some r := by
  unfold cell_si at h
  split at h
  · exact ⟨_, _, rfl, h⟩
  · cases h
theorem row_si_ex {α : Type} {es : Rw} {i : Int} {K : Rw → Int → Option α} {r : α} (h : row_si es i K = some r) : 0 ≤ i ∧ ∃ a0 a1, es[i.toNat]? = some [.sl a0, .int .i64 a1] ∧ K a0 a1 = some r := by
  unfold row_si at h
  obtain ⟨g, h⟩ := req_ex h
  split at h
  · rename_i cs e
    obtain ⟨a0, a1, rfl, h⟩ := cell_si_ex h
    exact ⟨g, a0, a1, e, h⟩
  · cases h
noncomputable section
def laws_szOrdinalTerm (rec_laws_szOrdinal : Rw → Int → Option Int) (a1 : Rw) (a2 : Int) (a3 : Int) : Option Int :=
  ((rec_laws_szOrdinal a1 a3).bind fun y4 => (if y4 < (0 : Int) then some (-1) else some y4))
set_option maxHeartbeats 4000000 in
set_option maxRecDepth 100000 in
theorem laws_szOrdinalTerm_ct {rec_laws_szOrdinal : Rw → Int → Option Int} (hrec_laws_szOrdinal : ∀ (a1 : Rw) (a2 : Int) (r : Int), rec_laws_szOrdinal a1 a2 = some r → Ct prog 124 [.agg [.d (D.sl a1)], .d (D.int .i64 a2)] (⟨[], []⟩) (.d (D.int .i64 r)) (⟨[], []⟩)) {a1 : Rw} {a2 : Int} {a3 : Int} {r : Int} (h : laws_szOrdinalTerm rec_laws_szOrdinal a1 a2 a3 = some r) : Ct prog 163 [.agg [.d (D.sl a1), .d (D.int .i64 a2)], .d (D.int .i64 a3)] (⟨[], []⟩) (.d (D.int .i64 r)) (⟨[], []⟩) := by
  rw [laws_szOrdinalTerm] at h
  refine Ct.of (c := _) mixed func163 ⟨rfl, rfl, rfl⟩ ?_ rfl
  conv => whnf
  refine Pick.no ?_
  conv => whnf
  obtain ⟨y4, e5, h⟩ := bind_ex h
  refine CallOk.of (hrec_laws_szOrdinal _ _ _ e5) ?_
  conv => whnf
  refine CutK.go ?_
  conv => whnf
  refine splD (fun g6 => ?_) (fun g6 => ?_)
  · replace h := iteP h g6
    conv => whnf
    cases h
    exact Done.of [] [] rfl rfl ⟨⟨rfl, rfl⟩, ⟨rfl, trivial⟩, rfl, trivial⟩
  · replace h := iteN h g6
    conv => whnf
    cases h
    exact Done.of [] [] rfl rfl ⟨⟨rfl, rfl⟩, ⟨rfl, trivial⟩, rfl, trivial⟩

def laws_szOrdinalTermS_l0 (rec_laws_szOrdinal : Rw → Int → Option Int) (a1 : Rw) (K0 : Int → Option Int) : Rw → Int → Option Int
  | [], v12 => (K0 v12)
  | cs :: rest, v12 => (cell_si cs fun x31 x32 => ((laws_szOrdinalTerm rec_laws_szOrdinal x31 x32 v12).bind fun y34 => (if y34 < (0 : Int) then some (-1) else (laws_szOrdinalTermS_l0 rec_laws_szOrdinal a1 K0 rest y34))))
set_option maxRecDepth 100000 in
theorem laws_szOrdinalTermS_l0_ct {rec_laws_szOrdinal : Rw → Int → Option Int} {a1 : Rw} {K0 : Int → Option Int} (hrec_laws_szOrdinal : ∀ (a1 : Rw) (a2 : Int) (r : Int), rec_laws_szOrdinal a1 a2 = some r → Ct prog 124 [.agg [.d (D.sl a1)], .d (D.int .i64 a2)] (⟨[], []⟩) (.d (D.int .i64 r)) (⟨[], []⟩)) {r : Int} (hx : a1.length ≤ cap) : ∀ (rest : Rw) (v13n : Nat) (v12 : Int), a1.drop v13n = rest → laws_szOrdinalTermS_l0 rec_laws_szOrdinal a1 K0 rest v12 = some r → LoopOk prog 0 (lp f151 0) (mk 27 [(0, .d (D.sl a1)), (1, .d (D.int .i64 v12)), (5, .d (D.int .i64 (v13n : Int)))] []) (LoopEnd prog f151 0 27 (.d (D.int .i64 r)) (⟨[], []⟩) (fun i ts os => (i = 0 ∧ ∃ v22 : Int, K0 v22 = some r ∧ ts = [(1, .d (D.int .i64 v22))] ∧ os = [])))
  | [], v13n, v12, hd, h => by
      rw [laws_szOrdinalTermS_l0] at h
      have hn := drop_nil hd
      refine LoopOk.step ?_
      conv => whnf
      refine splD (fun g => absurd g hn) (fun _ => ?_)
      conv => whnf
      exact ⟨_, _, [], [], ⟨rfl, _, h, rfl, rfl⟩, ⟨⟨rfl, rfl⟩, ⟨rfl, trivial⟩, rfl, trivial⟩⟩
  | cs :: rest, v13n, v12, hd, h => by
      rw [laws_szOrdinalTermS_l0] at h
      obtain ⟨hrow, hd1, hlt⟩ := drop_cons hd
      refine LoopOk.step ?_
      conv => whnf
      refine splD (fun _ => ?_) (fun g => absurd hlt g)
      conv => whnf
      obtain ⟨x31, x32, e33, h⟩ := cell_si_ex h
      rw [e33] at hrow
      refine Req.of (Int.natCast_nonneg _) ?_
      refine Row.of _ hrow ?_
      conv => whnf
      refine Pick.no ?_
      conv => whnf
      obtain ⟨y34, e35, h⟩ := bind_ex h
      refine CallOk.of (laws_szOrdinalTerm_ct hrec_laws_szOrdinal e35) ?_
      conv => whnf
      refine CutK.go ?_
      conv => whnf
      refine splD (fun g36 => ?_) (fun g36 => ?_)
      · replace h := iteP h g36
        conv => whnf
        cases h
        exact Done.of [] [] rfl rfl ⟨⟨rfl, rfl⟩, ⟨rfl, trivial⟩, rfl, trivial⟩
      · replace h := iteN h g36
        conv => whnf
        refine CutK.go ?_
        conv => whnf
        exact LoopOk.back (laws_szOrdinalTermS_l0_ct hrec_laws_szOrdinal hx rest (v13n + 1) _ hd1 h) [] [] ⟨⟨rfl, rfl⟩, ⟨rfl, trivial⟩, rfl, rfl, i64eq (wrap_up hlt hx), trivial⟩
def laws_szOrdinalTermS (rec_laws_szOrdinal : Rw → Int → Option Int) (a1 : Rw) (a2 : Int) : Option Int :=
  (if (IntKind.i64.wrap (a2 - (a1.length : Int))) < (0 : Int) then some (-1) else (if a1.length ≤ cap then (laws_szOrdinalTermS_l0 rec_laws_szOrdinal a1 (fun (v22 : Int) => some v22) a1 (IntKind.i64.wrap (a2 - (a1.length : Int)))) else none))
set_option maxHeartbeats 4000000 in
set_option maxRecDepth 100000 in
theorem laws_szOrdinalTermS_ct {rec_laws_szOrdinal : Rw → Int → Option Int} (hrec_laws_szOrdinal : ∀ (a1 : Rw) (a2 : Int) (r : Int), rec_laws_szOrdinal a1 a2 = some r → Ct prog 124 [.agg [.d (D.sl a1)], .d (D.int .i64 a2)] (⟨[], []⟩) (.d (D.int .i64 r)) (⟨[], []⟩)) {a1 : Rw} {a2 : Int} {r : Int} (h : laws_szOrdinalTermS rec_laws_szOrdinal a1 a2 = some r) : Ct prog 151 [.d (D.sl a1), .d (D.int .i64 a2)] (⟨[], []⟩) (.d (D.int .i64 r)) (⟨[], []⟩) := by
  rw [laws_szOrdinalTermS] at h
  refine Ct.of (c := _) mixed func151 ⟨rfl, rfl, rfl⟩ ?_ rfl
  conv => whnf
  refine splD (fun g3 => ?_) (fun g3 => ?_)
  · replace h := iteP h g3
    conv => whnf
    cases h
    exact Done.of [] [] rfl rfl ⟨⟨rfl, rfl⟩, ⟨rfl, trivial⟩, rfl, trivial⟩
  · replace h := iteN h g3
    conv => whnf
    obtain ⟨g37, h⟩ := req_ex h
    refine LoopOk.into (laws_szOrdinalTermS_l0_ct hrec_laws_szOrdinal g37 _ _ _ rfl h) [] [] ⟨⟨rfl, rfl⟩, ⟨rfl, trivial⟩, rfl, rfl, rfl, trivial⟩ ?_ (fun _ hs => hs)
    rintro i ts os ⟨rfl, v22, h, rfl, rfl⟩
    conv => whnf
    refine CutK.go ?_
    conv => whnf
    cases h
    exact Done.of [] [] rfl rfl ⟨⟨rfl, rfl⟩, ⟨rfl, trivial⟩, rfl, trivial⟩

def laws_szOrdinal_b (rec_laws_szOrdinal : Rw → Int → Option Int) (a1 : Rw) (a2 : Int) : Option Int :=
  ((laws_szOrdinalTermS rec_laws_szOrdinal a1 a2).bind fun y3 => (if y3 < (0 : Int) then some (-1) else some y3))
set_option maxHeartbeats 4000000 in
set_option maxRecDepth 100000 in
theorem laws_szOrdinal_b_ct {rec_laws_szOrdinal : Rw → Int → Option Int} (hrec_laws_szOrdinal : ∀ (a1 : Rw) (a2 : Int) (r : Int), rec_laws_szOrdinal a1 a2 = some r → Ct prog 124 [.agg [.d (D.sl a1)], .d (D.int .i64 a2)] (⟨[], []⟩) (.d (D.int .i64 r)) (⟨[], []⟩)) {a1 : Rw} {a2 : Int} {r : Int} (h : laws_szOrdinal_b rec_laws_szOrdinal a1 a2 = some r) : Ct prog 124 [.agg [.d (D.sl a1)], .d (D.int .i64 a2)] (⟨[], []⟩) (.d (D.int .i64 r)) (⟨[], []⟩) := by
  rw [laws_szOrdinal_b] at h
  refine Ct.of (c := _) mixed func124 ⟨rfl, rfl, rfl⟩ ?_ rfl
  conv => whnf
  refine Pick.no ?_
  conv => whnf
  obtain ⟨y3, e4, h⟩ := bind_ex h
  refine CallOk.of (laws_szOrdinalTermS_ct hrec_laws_szOrdinal e4) ?_
  conv => whnf
  refine CutK.go ?_
  conv => whnf
  refine splD (fun g5 => ?_) (fun g5 => ?_)
  · replace h := iteP h g5
    conv => whnf
    cases h
    exact Done.of [] [] rfl rfl ⟨⟨rfl, rfl⟩, ⟨rfl, trivial⟩, rfl, trivial⟩
  · replace h := iteN h g5
    conv => whnf
    cases h
    exact Done.of [] [] rfl rfl ⟨⟨rfl, rfl⟩, ⟨rfl, trivial⟩, rfl, trivial⟩
def laws_szOrdinal : Nat → Rw → Int → Option Int
  | 0, _, _ => none
  | k + 1, a1, a2 => laws_szOrdinal_b (laws_szOrdinal k) a1 a2
theorem laws_szOrdinal_ct' : ∀ (k : Nat) (a1 : Rw) (a2 : Int) (r : Int), laws_szOrdinal k a1 a2 = some r → Ct prog 124 [.agg [.d (D.sl a1)], .d (D.int .i64 a2)] (⟨[], []⟩) (.d (D.int .i64 r)) (⟨[], []⟩)
  | 0, _, _, _, h => by rw [laws_szOrdinal] at h; cases h
  | k + 1, _, _, _, h => by rw [laws_szOrdinal] at h; exact laws_szOrdinal_b_ct (laws_szOrdinal_ct' k) h
theorem laws_szOrdinal_ct {k : Nat} {a1 : Rw} {a2 : Int} {r : Int} (h : laws_szOrdinal k a1 a2 = some r) : Ct prog 124 [.agg [.d (D.sl a1)], .d (D.int .i64 a2)] (⟨[], []⟩) (.d (D.int .i64 r)) (⟨[], []⟩) := laws_szOrdinal_ct' k _ _ _ h

def laws_szRun (k : Nat) (a1 : Bool) (a2 : Rw) (a3 : Int) : Option Int :=
  (cond a1 ((laws_szOrdinal k a2 a3).bind fun y7 => (if y7 < (0 : Int) then some (-1) else some y7)) ((laws_szOrdinal k a2 a3).bind fun y4 => (if y4 < (0 : Int) then some (-1) else some y4)))
set_option maxHeartbeats 4000000 in
set_option maxRecDepth 100000 in
theorem laws_szRun_ct {k : Nat} {a1 : Bool} {a2 : Rw} {a3 : Int} {r : Int} (h : laws_szRun k a1 a2 a3 = some r) : Ct prog 88 [.agg [.d (D.bool a1), .d (D.sl a2)], .d (D.int .i64 a3)] (⟨[], []⟩) (.d (D.int .i64 r)) (⟨[], []⟩) := by
  rw [laws_szRun] at h
  refine Ct.of (c := _) mixed func88 ⟨rfl, rfl, rfl⟩ ?_ rfl
  cases a1
  · replace h := condF h
    conv => whnf
    refine Pick.no ?_
    conv => whnf
    obtain ⟨y4, e5, h⟩ := bind_ex h
    refine CallOk.of (laws_szOrdinal_ct e5) ?_
    conv => whnf
    refine CutK.go ?_
    conv => whnf
    refine splD (fun g6 => ?_) (fun g6 => ?_)
    · replace h := iteP h g6
      conv => whnf
      cases h
      exact Done.of [] [] rfl rfl ⟨⟨rfl, rfl⟩, ⟨rfl, trivial⟩, rfl, trivial⟩
    · replace h := iteN h g6
      conv => whnf
      cases h
      exact Done.of [] [] rfl rfl ⟨⟨rfl, rfl⟩, ⟨rfl, trivial⟩, rfl, trivial⟩
  · replace h := condT h
    conv => whnf
    refine Pick.no ?_
    conv => whnf
    obtain ⟨y7, e8, h⟩ := bind_ex h
    refine CallOk.of (laws_szOrdinal_ct e8) ?_
    conv => whnf
    refine CutK.go ?_
    conv => whnf
    refine splD (fun g9 => ?_) (fun g9 => ?_)
    · replace h := iteP h g9
      conv => whnf
      cases h
      exact Done.of [] [] rfl rfl ⟨⟨rfl, rfl⟩, ⟨rfl, trivial⟩, rfl, trivial⟩
    · replace h := iteN h g9
      conv => whnf
      cases h
      exact Done.of [] [] rfl rfl ⟨⟨rfl, rfl⟩, ⟨rfl, trivial⟩, rfl, trivial⟩

def laws_szRunS_l0 (k : Nat) (a1 : Rw) (K0 : Int → Option Int) : Rw → Int → Option Int
  | [], v13 => (K0 v13)
  | cs :: rest, v13 => (cell_bs cs fun x43 x44 => (if x43 = true then ((laws_szRun k true x44 v13).bind fun y47 => (if y47 < (0 : Int) then some (-1) else (laws_szRunS_l0 k a1 K0 rest y47))) else ((laws_szRun k false x44 v13).bind fun y50 => (if y50 < (0 : Int) then some (-1) else (laws_szRunS_l0 k a1 K0 rest y50)))))
set_option maxRecDepth 100000 in
theorem laws_szRunS_l0_ct {k : Nat} {a1 : Rw} {K0 : Int → Option Int} {r : Int} (hx : a1.length ≤ cap) : ∀ (rest : Rw) (v14n : Nat) (v13 : Int), a1.drop v14n = rest → laws_szRunS_l0 k a1 K0 rest v13 = some r → LoopOk prog 0 (lp f45 0) (mk 27 [(0, .d (D.sl a1)), (1, .d (D.int .i64 v13)), (5, .d (D.int .i64 (v14n : Int)))] []) (LoopEnd prog f45 0 27 (.d (D.int .i64 r)) (⟨[], []⟩) (fun i ts os => (i = 0 ∧ ∃ v30 : Int, K0 v30 = some r ∧ ts = [(1, .d (D.int .i64 v30))] ∧ os = [])))
  | [], v14n, v13, hd, h => by
      rw [laws_szRunS_l0] at h
      have hn := drop_nil hd
      refine LoopOk.step ?_
      conv => whnf
      refine splD (fun g => absurd g hn) (fun _ => ?_)
      conv => whnf
      exact ⟨_, _, [], [], ⟨rfl, _, h, rfl, rfl⟩, ⟨⟨rfl, rfl⟩, ⟨rfl, trivial⟩, rfl, trivial⟩⟩
  | cs :: rest, v14n, v13, hd, h => by
      rw [laws_szRunS_l0] at h
      obtain ⟨hrow, hd1, hlt⟩ := drop_cons hd
      refine LoopOk.step ?_
      conv => whnf
      refine splD (fun _ => ?_) (fun g => absurd hlt g)
      conv => whnf
      obtain ⟨x43, x44, e45, h⟩ := cell_bs_ex h
      rw [e45] at hrow
      refine Req.of (Int.natCast_nonneg _) ?_
      refine Row.of _ hrow ?_
      conv => whnf
      refine spl (fun g46 => ?_) (fun g46 => ?_)
      · replace h := iteT h g46
        conv => whnf
        refine Pick.no ?_
        conv => whnf
        obtain ⟨y47, e48, h⟩ := bind_ex h
        refine CallOk.of (laws_szRun_ct e48) ?_
        conv => whnf
        refine CutK.go ?_
        conv => whnf
        refine splD (fun g49 => ?_) (fun g49 => ?_)
        · replace h := iteP h g49
          conv => whnf
          cases h
          exact Done.of [] [] rfl rfl ⟨⟨rfl, rfl⟩, ⟨rfl, trivial⟩, rfl, trivial⟩
        · replace h := iteN h g49
          conv => whnf
          refine CutK.go ?_
          conv => whnf
          exact LoopOk.back (laws_szRunS_l0_ct hx rest (v14n + 1) _ hd1 h) [] [] ⟨⟨rfl, rfl⟩, ⟨rfl, trivial⟩, rfl, rfl, i64eq (wrap_up hlt hx), trivial⟩
      · replace h := iteF h g46
        conv => whnf
        refine Pick.no ?_
        conv => whnf
        obtain ⟨y50, e51, h⟩ := bind_ex h
        refine CallOk.of (laws_szRun_ct e51) ?_
        conv => whnf
        refine CutK.go ?_
        conv => whnf
        refine splD (fun g52 => ?_) (fun g52 => ?_)
        · replace h := iteP h g52
          conv => whnf
          cases h
          exact Done.of [] [] rfl rfl ⟨⟨rfl, rfl⟩, ⟨rfl, trivial⟩, rfl, trivial⟩
        · replace h := iteN h g52
          conv => whnf
          refine CutK.go ?_
          conv => whnf
          exact LoopOk.back (laws_szRunS_l0_ct hx rest (v14n + 1) _ hd1 h) [] [] ⟨⟨rfl, rfl⟩, ⟨rfl, trivial⟩, rfl, rfl, i64eq (wrap_up hlt hx), trivial⟩
def laws_szRunS (k : Nat) (a1 : Rw) (a2 : Int) : Option Int :=
  (if (IntKind.i64.wrap (a2 - (a1.length : Int))) < (0 : Int) then some (-1) else (if a1.length ≤ cap then (laws_szRunS_l0 k a1 (fun (v30 : Int) => some v30) a1 (IntKind.i64.wrap (a2 - (a1.length : Int)))) else none))
set_option maxHeartbeats 4000000 in
set_option maxRecDepth 100000 in
theorem laws_szRunS_ct {k : Nat} {a1 : Rw} {a2 : Int} {r : Int} (h : laws_szRunS k a1 a2 = some r) : Ct prog 45 [.d (D.sl a1), .d (D.int .i64 a2)] (⟨[], []⟩) (.d (D.int .i64 r)) (⟨[], []⟩) := by
  rw [laws_szRunS] at h
  refine Ct.of (c := _) mixed func45 ⟨rfl, rfl, rfl⟩ ?_ rfl
  conv => whnf
  refine splD (fun g3 => ?_) (fun g3 => ?_)
  · replace h := iteP h g3
    conv => whnf
    cases h
    exact Done.of [] [] rfl rfl ⟨⟨rfl, rfl⟩, ⟨rfl, trivial⟩, rfl, trivial⟩
  · replace h := iteN h g3
    conv => whnf
    obtain ⟨g53, h⟩ := req_ex h
    refine LoopOk.into (laws_szRunS_l0_ct  g53 _ _ _ rfl h) [] [] ⟨⟨rfl, rfl⟩, ⟨rfl, trivial⟩, rfl, rfl, rfl, trivial⟩ ?_ (fun _ hs => hs)
    rintro i ts os ⟨rfl, v30, h, rfl, rfl⟩
    conv => whnf
    refine CutK.go ?_
    conv => whnf
    cases h
    exact Done.of [] [] rfl rfl ⟨⟨rfl, rfl⟩, ⟨rfl, trivial⟩, rfl, trivial⟩

def laws_szWord (k : Nat) (a1 : Rw) (a2 : Int) : Option Int :=
  ((laws_szRunS k a1 a2).bind fun y3 => (if y3 < (0 : Int) then some (-1) else some y3))
set_option maxHeartbeats 4000000 in
set_option maxRecDepth 100000 in
theorem laws_szWord_ct {k : Nat} {a1 : Rw} {a2 : Int} {r : Int} (h : laws_szWord k a1 a2 = some r) : Ct prog 17 [.agg [.d (D.sl a1)], .d (D.int .i64 a2)] (⟨[], []⟩) (.d (D.int .i64 r)) (⟨[], []⟩) := by
  rw [laws_szWord] at h
  refine Ct.of (c := _) mixed func17 ⟨rfl, rfl, rfl⟩ ?_ rfl
  conv => whnf
  refine Pick.no ?_
  conv => whnf
  obtain ⟨y3, e4, h⟩ := bind_ex h
  refine CallOk.of (laws_szRunS_ct e4) ?_
  conv => whnf
  refine CutK.go ?_
  conv => whnf
  refine splD (fun g5 => ?_) (fun g5 => ?_)
  · replace h := iteP h g5
    conv => whnf
    cases h
    exact Done.of [] [] rfl rfl ⟨⟨rfl, rfl⟩, ⟨rfl, trivial⟩, rfl, trivial⟩
  · replace h := iteN h g5
    conv => whnf
    cases h
    exact Done.of [] [] rfl rfl ⟨⟨rfl, rfl⟩, ⟨rfl, trivial⟩, rfl, trivial⟩

def laws_toOrdinalTerm (rec_laws_toOrdinal : Rw → Option Rw) (a1 : Rw) (a2 : Int) : Option (Rw × Int) :=
  ((rec_laws_toOrdinal a1).bind fun y3 => some (y3, a2))
set_option maxHeartbeats 4000000 in
set_option maxRecDepth 100000 in
theorem laws_toOrdinalTerm_ct {rec_laws_toOrdinal : Rw → Option Rw} (hrec_laws_toOrdinal : ∀ (a1 : Rw) (r : Rw), rec_laws_toOrdinal a1 = some r → Ct prog 128 [.agg [.d (D.sl a1)]] (⟨[], []⟩) (.agg [.os 8 r.length]) (⟨[], [(92, true, r)]⟩)) {a1 : Rw} {a2 : Int} {r : Rw × Int} (h : laws_toOrdinalTerm rec_laws_toOrdinal a1 a2 = some r) : Ct prog 164 [.agg [.d (D.sl a1), .d (D.int .i64 a2)]] (⟨[], []⟩) (.agg [.os 8 r.1.length, .d (D.int .i64 r.2)]) (⟨[], [(92, true, r.1)]⟩) := by
  rw [laws_toOrdinalTerm] at h
  refine Ct.of (c := _) mixed func164 ⟨rfl, rfl, rfl⟩ ?_ rfl
  conv => whnf
  refine Pick.no ?_
  conv => whnf
  obtain ⟨y3, e4, h⟩ := bind_ex h
  refine CallOk.of (hrec_laws_toOrdinal _ _ e4) ?_
  conv => whnf
  refine CutK.go ?_
  conv => whnf
  cases h
  exact Done.of [some 384] [] rfl rfl ⟨⟨rfl, rfl⟩, ⟨rfl, ⟨rfl, rfl, rows_same⟩, trivial⟩, ⟨⟨rfl, rfl⟩, rfl, trivial⟩, trivial⟩

def laws_toOrdinalTermS_l0 (rec_laws_toOrdinal : Rw → Option Rw) (a1 : Rw) (K0 : Rw → Option Rw) : Rw → Nat → Rw → Option Rw
  | [], v16n, v15 => (K0 v15)
  | cs :: rest, v16n, v15 => (cell_si cs fun x42 x43 => ((laws_toOrdinalTerm rec_laws_toOrdinal x42 x43).bind fun y45 => (if 0 ≤ (v16n : Int) ∧ (v16n : Int) < (v15.length : Int) then (row_si v15 (v16n : Int) fun x48 x49 => (laws_toOrdinalTermS_l0 rec_laws_toOrdinal a1 K0 rest (v16n + 1) (v15.set (((v16n : Int) : Int).toNat) [D.sl y45.1, D.int .i64 y45.2]))) else none)))
set_option maxRecDepth 100000 in
theorem laws_toOrdinalTermS_l0_ct {rec_laws_toOrdinal : Rw → Option Rw} {a1 : Rw} {K0 : Rw → Option Rw} (hrec_laws_toOrdinal : ∀ (a1 : Rw) (r : Rw), rec_laws_toOrdinal a1 = some r → Ct prog 128 [.agg [.d (D.sl a1)]] (⟨[], []⟩) (.agg [.os 8 r.length]) (⟨[], [(92, true, r)]⟩)) {r : Rw} (hx : a1.length ≤ cap) : ∀ (rest : Rw) (v16n : Nat) (v15 : Rw), a1.drop v16n = rest → laws_toOrdinalTermS_l0 rec_laws_toOrdinal a1 K0 rest v16n v15 = some r → LoopOk prog 0 (lp f152 0) (mk 23 [(0, .d (D.sl a1)), (3, .os 64000 v15.length), (4, .d (D.int .i64 (v16n : Int)))] [(64000, .arr 92 true v15)]) (LoopEnd prog f152 0 23 (.os 8 r.length) (⟨[], [(92, true, r)]⟩) (fun i ts os => (i = 0 ∧ ∃ v29 : Rw, K0 v29 = some r ∧ ts = [(3, .os 67001 v29.length)] ∧ os = [(67001, .arr 92 true v29)])))
  | [], v16n, v15, hd, h => by
      rw [laws_toOrdinalTermS_l0] at h
      have hn := drop_nil hd
      refine LoopOk.step ?_
      conv => whnf
      refine splD (fun g => absurd g hn) (fun _ => ?_)
      conv => whnf
      exact ⟨_, _, [some 64000], [], ⟨rfl, _, h, rfl, rfl⟩, ⟨⟨rfl, rfl⟩, ⟨rfl, ⟨rfl, rfl, rows_same⟩, trivial⟩, ⟨rfl, rfl⟩, trivial⟩⟩
  | cs :: rest, v16n, v15, hd, h => by
      rw [laws_toOrdinalTermS_l0] at h
      obtain ⟨hrow, hd1, hlt⟩ := drop_cons hd
      refine LoopOk.step ?_
      conv => whnf
      refine splD (fun _ => ?_) (fun g => absurd hlt g)
      conv => whnf
      obtain ⟨x42, x43, e44, h⟩ := cell_si_ex h
      rw [e44] at hrow
      refine Req.of (Int.natCast_nonneg _) ?_
      refine Row.of _ hrow ?_
      conv => whnf
      refine Pick.no ?_
      conv => whnf
      obtain ⟨y45, e46, h⟩ := bind_ex h
      refine CallOk.of (laws_toOrdinalTerm_ct hrec_laws_toOrdinal e46) ?_
      conv => whnf
      obtain ⟨g47, h⟩ := req_ex h
      refine Req.of g47 ?_
      conv => whnf
      refine Take.all (rfl) ?_
      conv => whnf
      obtain ⟨g51, x48, x49, e50, h⟩ := row_si_ex h
      refine Row.of _ e50 ?_
      conv => whnf
      refine CutK.go ?_
      conv => whnf
      exact LoopOk.back (laws_toOrdinalTermS_l0_ct hrec_laws_toOrdinal hx rest (v16n + 1) _ hd1 h) [some 64000] [] ⟨⟨rfl, rfl⟩, ⟨rfl, ⟨rfl, rfl, rows_same⟩, trivial⟩, rfl, ⟨(by first | rfl | exact List.length_append.symm | (simp; done) | omega), rfl⟩, i64eq (wrap_up hlt hx), trivial⟩
def laws_toOrdinalTermS (rec_laws_toOrdinal : Rw → Option Rw) (a1 : Rw) : Option Rw :=
  (if 0 ≤ (a1.length : Int) ∧ (a1.length : Int) ≤ 1099511627776 then (if a1.length ≤ cap then (laws_toOrdinalTermS_l0 rec_laws_toOrdinal a1 (fun (v29 : Rw) => some v29) a1 0 (List.replicate ((a1.length : Int) : Int).toNat [D.sl ([]), D.int .i64 0] : Rw)) else none) else none)
set_option maxHeartbeats 4000000 in
set_option maxRecDepth 100000 in
theorem laws_toOrdinalTermS_ct {rec_laws_toOrdinal : Rw → Option Rw} (hrec_laws_toOrdinal : ∀ (a1 : Rw) (r : Rw), rec_laws_toOrdinal a1 = some r → Ct prog 128 [.agg [.d (D.sl a1)]] (⟨[], []⟩) (.agg [.os 8 r.length]) (⟨[], [(92, true, r)]⟩)) {a1 : Rw} {r : Rw} (h : laws_toOrdinalTermS rec_laws_toOrdinal a1 = some r) : Ct prog 152 [.d (D.sl a1)] (⟨[], []⟩) (.os 8 r.length) (⟨[], [(92, true, r)]⟩) := by
  rw [laws_toOrdinalTermS] at h
  refine Ct.of (c := _) mixed func152 ⟨rfl, rfl, rfl⟩ ?_ rfl
  conv => whnf
  obtain ⟨g2, h⟩ := req_ex h
  refine Req.of (makeRoom (b := 32) (by decide) g2) ?_
  conv => whnf
  obtain ⟨g52, h⟩ := req_ex h
  refine LoopOk.into (laws_toOrdinalTermS_l0_ct hrec_laws_toOrdinal g52 _ _ _ rfl h) [some 448] [] ⟨⟨rfl, rfl⟩, ⟨rfl, ⟨rfl, rfl, rows_same⟩, trivial⟩, rfl, ⟨(by first | rfl | exact List.length_append.symm | (simp; done) | omega), rfl⟩, rfl, trivial⟩ ?_ (fun _ hs => hs)
  rintro i ts os ⟨rfl, v29, h, rfl, rfl⟩
  conv => whnf
  refine CutK.go ?_
  conv => whnf
  cases h
  exact Done.of [some 67001] [] rfl rfl ⟨⟨rfl, rfl⟩, ⟨rfl, ⟨rfl, rfl, rows_same⟩, trivial⟩, ⟨rfl, rfl⟩, trivial⟩

def laws_toOrdinal_b (rec_laws_toOrdinal : Rw → Option Rw) (a1 : Rw) : Option Rw :=
  ((laws_toOrdinalTermS rec_laws_toOrdinal a1).bind fun y2 => some y2)
set_option maxHeartbeats 4000000 in
set_option maxRecDepth 100000 in
theorem laws_toOrdinal_b_ct {rec_laws_toOrdinal : Rw → Option Rw} (hrec_laws_toOrdinal : ∀ (a1 : Rw) (r : Rw), rec_laws_toOrdinal a1 = some r → Ct prog 128 [.agg [.d (D.sl a1)]] (⟨[], []⟩) (.agg [.os 8 r.length]) (⟨[], [(92, true, r)]⟩)) {a1 : Rw} {r : Rw} (h : laws_toOrdinal_b rec_laws_toOrdinal a1 = some r) : Ct prog 128 [.agg [.d (D.sl a1)]] (⟨[], []⟩) (.agg [.os 8 r.length]) (⟨[], [(92, true, r)]⟩) := by
  rw [laws_toOrdinal_b] at h
  refine Ct.of (c := _) mixed func128 ⟨rfl, rfl, rfl⟩ ?_ rfl
  conv => whnf
  refine Pick.no ?_
  conv => whnf
  obtain ⟨y2, e3, h⟩ := bind_ex h
  refine CallOk.of (laws_toOrdinalTermS_ct hrec_laws_toOrdinal e3) ?_
  conv => whnf
  refine CutK.go ?_
  conv => whnf
  cases h
  exact Done.of [some 384] [] rfl rfl ⟨⟨rfl, rfl⟩, ⟨rfl, ⟨rfl, rfl, rows_same⟩, trivial⟩, ⟨⟨rfl, rfl⟩, trivial⟩, trivial⟩
def laws_toOrdinal : Nat → Rw → Option Rw
  | 0, _ => none
  | k + 1, a1 => laws_toOrdinal_b (laws_toOrdinal k) a1
theorem laws_toOrdinal_ct' : ∀ (k : Nat) (a1 : Rw) (r : Rw), laws_toOrdinal k a1 = some r → Ct prog 128 [.agg [.d (D.sl a1)]] (⟨[], []⟩) (.agg [.os 8 r.length]) (⟨[], [(92, true, r)]⟩)
  | 0, _, _, h => by rw [laws_toOrdinal] at h; cases h
  | k + 1, _, _, h => by rw [laws_toOrdinal] at h; exact laws_toOrdinal_b_ct (laws_toOrdinal_ct' k) h
theorem laws_toOrdinal_ct {k : Nat} {a1 : Rw} {r : Rw} (h : laws_toOrdinal k a1 = some r) : Ct prog 128 [.agg [.d (D.sl a1)]] (⟨[], []⟩) (.agg [.os 8 r.length]) (⟨[], [(92, true, r)]⟩) := laws_toOrdinal_ct' k _ _ h

def laws_toRun (k : Nat) (a1 : Bool) (a2 : Rw) : Option (Bool × Rw) :=
  (cond a1 ((laws_toOrdinal k a2).bind fun y5 => some (true, y5)) ((laws_toOrdinal k a2).bind fun y3 => some (false, y3)))
set_option maxHeartbeats 4000000 in
set_option maxRecDepth 100000 in
theorem laws_toRun_ct {k : Nat} {a1 : Bool} {a2 : Rw} {r : Bool × Rw} (h : laws_toRun k a1 a2 = some r) : Ct prog 91 [.agg [.d (D.bool a1), .d (D.sl a2)]] (⟨[], []⟩) (.agg [.d (D.bool r.1), .os 8 r.2.length]) (⟨[], [(92, true, r.2)]⟩) := by
  rw [laws_toRun] at h
  refine Ct.of (c := _) mixed func91 ⟨rfl, rfl, rfl⟩ ?_ rfl
  cases a1
  · replace h := condF h
    conv => whnf
    refine splF ?_
    conv => whnf
    refine Pick.no ?_
    conv => whnf
    obtain ⟨y3, e4, h⟩ := bind_ex h
    refine CallOk.of (laws_toOrdinal_ct e4) ?_
    conv => whnf
    refine CutK.go ?_
    conv => whnf
    refine splF ?_
    conv => whnf
    cases h
    exact Done.of [some 576] [] rfl rfl ⟨⟨rfl, rfl⟩, ⟨rfl, ⟨rfl, rfl, rows_same⟩, trivial⟩, ⟨rfl, ⟨rfl, rfl⟩, trivial⟩, trivial⟩
  · replace h := condT h
    conv => whnf
    refine splT ?_
    conv => whnf
    refine Pick.no ?_
    conv => whnf
    obtain ⟨y5, e6, h⟩ := bind_ex h
    refine CallOk.of (laws_toOrdinal_ct e6) ?_
    conv => whnf
    refine CutK.go ?_
    conv => whnf
    refine splT ?_
    conv => whnf
    cases h
    exact Done.of [some 576] [] rfl rfl ⟨⟨rfl, rfl⟩, ⟨rfl, ⟨rfl, rfl, rows_same⟩, trivial⟩, ⟨rfl, ⟨rfl, rfl⟩, trivial⟩, trivial⟩

def laws_toRunS_l0 (k : Nat) (a1 : Rw) (K0 : Rw → Option Rw) : Rw → Nat → Rw → Option Rw
  | [], v18n, v17 => (K0 v17)
  | cs :: rest, v18n, v17 => (cell_bs cs fun x102 x103 => (if x102 = true then ((laws_toRun k true x103).bind fun y106 => (if y106.1 = true then (if 0 ≤ (v18n : Int) ∧ (v18n : Int) < (v17.length : Int) then (row_bs v17 (v18n : Int) fun x110 x111 => (laws_toRunS_l0 k a1 K0 rest (v18n + 1) (v17.set (((v18n : Int) : Int).toNat) [D.bool true, D.sl y106.2]))) else none) else (if 0 ≤ (v18n : Int) ∧ (v18n : Int) < (v17.length : Int) then (row_bs v17 (v18n : Int) fun x115 x116 => (laws_toRunS_l0 k a1 K0 rest (v18n + 1) (v17.set (((v18n : Int) : Int).toNat) [D.bool false, D.sl y106.2]))) else none))) else ((laws_toRun k false x103).bind fun y119 => (if y119.1 = true then (if 0 ≤ (v18n : Int) ∧ (v18n : Int) < (v17.length : Int) then (row_bs v17 (v18n : Int) fun x123 x124 => (laws_toRunS_l0 k a1 K0 rest (v18n + 1) (v17.set (((v18n : Int) : Int).toNat) [D.bool true, D.sl y119.2]))) else none) else (if 0 ≤ (v18n : Int) ∧ (v18n : Int) < (v17.length : Int) then (row_bs v17 (v18n : Int) fun x128 x129 => (laws_toRunS_l0 k a1 K0 rest (v18n + 1) (v17.set (((v18n : Int) : Int).toNat) [D.bool false, D.sl y119.2]))) else none)))))
set_option maxRecDepth 100000 in
theorem laws_toRunS_l0_ct {k : Nat} {a1 : Rw} {K0 : Rw → Option Rw} {r : Rw} (hx : a1.length ≤ cap) : ∀ (rest : Rw) (v18n : Nat) (v17 : Rw), a1.drop v18n = rest → laws_toRunS_l0 k a1 K0 rest v18n v17 = some r → LoopOk prog 0 (lp f49 0) (mk 23 [(0, .d (D.sl a1)), (3, .os 64000 v17.length), (4, .d (D.int .i64 (v18n : Int)))] [(64000, .arr 82 true v17)]) (LoopEnd prog f49 0 23 (.os 8 r.length) (⟨[], [(82, true, r)]⟩) (fun i ts os => (i = 0 ∧ ∃ v69 : Rw, K0 v69 = some r ∧ ts = [(3, .os 67001 v69.length)] ∧ os = [(67001, .arr 82 true v69)])))
  | [], v18n, v17, hd, h => by
      rw [laws_toRunS_l0] at h
      have hn := drop_nil hd
      refine LoopOk.step ?_
      conv => whnf
      refine splD (fun g => absurd g hn) (fun _ => ?_)
      conv => whnf
      exact ⟨_, _, [some 64000], [], ⟨rfl, _, h, rfl, rfl⟩, ⟨⟨rfl, rfl⟩, ⟨rfl, ⟨rfl, rfl, rows_same⟩, trivial⟩, ⟨rfl, rfl⟩, trivial⟩⟩
  | cs :: rest, v18n, v17, hd, h => by
      rw [laws_toRunS_l0] at h
      obtain ⟨hrow, hd1, hlt⟩ := drop_cons hd
      refine LoopOk.step ?_
      conv => whnf
      refine splD (fun _ => ?_) (fun g => absurd hlt g)
      conv => whnf
      obtain ⟨x102, x103, e104, h⟩ := cell_bs_ex h
      rw [e104] at hrow
      refine Req.of (Int.natCast_nonneg _) ?_
      refine Row.of _ hrow ?_
      conv => whnf
      refine spl (fun g105 => ?_) (fun g105 => ?_)
      · replace h := iteT h g105
        conv => whnf
        refine Pick.no ?_
        conv => whnf
        obtain ⟨y106, e107, h⟩ := bind_ex h
        refine CallOk.of (laws_toRun_ct e107) ?_
        conv => whnf
        refine spl (fun g108 => ?_) (fun g108 => ?_)
        · replace h := iteT h g108
          conv => whnf
          obtain ⟨g109, h⟩ := req_ex h
          refine Req.of g109 ?_
          conv => whnf
          refine Take.all (rfl) ?_
          conv => whnf
          obtain ⟨g113, x110, x111, e112, h⟩ := row_bs_ex h
          refine Row.of _ e112 ?_
          conv => whnf
          refine CutK.go ?_
          conv => whnf
          exact LoopOk.back (laws_toRunS_l0_ct hx rest (v18n + 1) _ hd1 h) [some 64000] [] ⟨⟨rfl, rfl⟩, ⟨rfl, ⟨rfl, rfl, rows_same⟩, trivial⟩, rfl, ⟨(by first | rfl | exact List.length_append.symm | (simp; done) | omega), rfl⟩, i64eq (wrap_up hlt hx), trivial⟩
        · replace h := iteF h g108
          conv => whnf
          obtain ⟨g114, h⟩ := req_ex h
          refine Req.of g114 ?_
          conv => whnf
          refine Take.all (rfl) ?_
          conv => whnf
          obtain ⟨g118, x115, x116, e117, h⟩ := row_bs_ex h
          refine Row.of _ e117 ?_
          conv => whnf
          refine CutK.go ?_
          conv => whnf
          exact LoopOk.back (laws_toRunS_l0_ct hx rest (v18n + 1) _ hd1 h) [some 64000] [] ⟨⟨rfl, rfl⟩, ⟨rfl, ⟨rfl, rfl, rows_same⟩, trivial⟩, rfl, ⟨(by first | rfl | exact List.length_append.symm | (simp; done) | omega), rfl⟩, i64eq (wrap_up hlt hx), trivial⟩
      · replace h := iteF h g105
        conv => whnf
        refine Pick.no ?_
        conv => whnf
        obtain ⟨y119, e120, h⟩ := bind_ex h
        refine CallOk.of (laws_toRun_ct e120) ?_
        conv => whnf
        refine spl (fun g121 => ?_) (fun g121 => ?_)
        · replace h := iteT h g121
          conv => whnf
          obtain ⟨g122, h⟩ := req_ex h
          refine Req.of g122 ?_
          conv => whnf
          refine Take.all (rfl) ?_
          conv => whnf
          obtain ⟨g126, x123, x124, e125, h⟩ := row_bs_ex h
          refine Row.of _ e125 ?_
          conv => whnf
          refine CutK.go ?_
          conv => whnf
          exact LoopOk.back (laws_toRunS_l0_ct hx rest (v18n + 1) _ hd1 h) [some 64000] [] ⟨⟨rfl, rfl⟩, ⟨rfl, ⟨rfl, rfl, rows_same⟩, trivial⟩, rfl, ⟨(by first | rfl | exact List.length_append.symm | (simp; done) | omega), rfl⟩, i64eq (wrap_up hlt hx), trivial⟩
        · replace h := iteF h g121
          conv => whnf
          obtain ⟨g127, h⟩ := req_ex h
          refine Req.of g127 ?_
          conv => whnf
          refine Take.all (rfl) ?_
          conv => whnf
          obtain ⟨g131, x128, x129, e130, h⟩ := row_bs_ex h
          refine Row.of _ e130 ?_
          conv => whnf
          refine CutK.go ?_
          conv => whnf
          exact LoopOk.back (laws_toRunS_l0_ct hx rest (v18n + 1) _ hd1 h) [some 64000] [] ⟨⟨rfl, rfl⟩, ⟨rfl, ⟨rfl, rfl, rows_same⟩, trivial⟩, rfl, ⟨(by first | rfl | exact List.length_append.symm | (simp; done) | omega), rfl⟩, i64eq (wrap_up hlt hx), trivial⟩
def laws_toRunS (k : Nat) (a1 : Rw) : Option Rw :=
  (if 0 ≤ (a1.length : Int) ∧ (a1.length : Int) ≤ 1099511627776 then (if a1.length ≤ cap then (laws_toRunS_l0 k a1 (fun (v69 : Rw) => some v69) a1 0 (List.replicate ((a1.length : Int) : Int).toNat [D.bool false, D.sl ([])] : Rw)) else none) else none)
set_option maxHeartbeats 4000000 in
set_option maxRecDepth 100000 in
theorem laws_toRunS_ct {k : Nat} {a1 : Rw} {r : Rw} (h : laws_toRunS k a1 = some r) : Ct prog 49 [.d (D.sl a1)] (⟨[], []⟩) (.os 8 r.length) (⟨[], [(82, true, r)]⟩) := by
  rw [laws_toRunS] at h
  refine Ct.of (c := _) mixed func49 ⟨rfl, rfl, rfl⟩ ?_ rfl
  conv => whnf
  obtain ⟨g2, h⟩ := req_ex h
  refine Req.of (makeRoom (b := 32) (by decide) g2) ?_
  conv => whnf
  obtain ⟨g132, h⟩ := req_ex h
  refine LoopOk.into (laws_toRunS_l0_ct  g132 _ _ _ rfl h) [some 448] [] ⟨⟨rfl, rfl⟩, ⟨rfl, ⟨rfl, rfl, rows_same⟩, trivial⟩, rfl, ⟨(by first | rfl | exact List.length_append.symm | (simp; done) | omega), rfl⟩, rfl, trivial⟩ ?_ (fun _ hs => hs)
  rintro i ts os ⟨rfl, v69, h, rfl, rfl⟩
  conv => whnf
  refine CutK.go ?_
  conv => whnf
  cases h
  exact Done.of [some 67001] [] rfl rfl ⟨⟨rfl, rfl⟩, ⟨rfl, ⟨rfl, rfl, rows_same⟩, trivial⟩, ⟨rfl, rfl⟩, trivial⟩

def laws_toWord (k : Nat) (a1 : Rw) : Option Rw :=
  ((laws_toRunS k a1).bind fun y2 => some y2)
set_option maxHeartbeats 4000000 in
set_option maxRecDepth 100000 in
theorem laws_toWord_ct {k : Nat} {a1 : Rw} {r : Rw} (h : laws_toWord k a1 = some r) : Ct prog 19 [.agg [.d (D.sl a1)]] (⟨[], []⟩) (.agg [.os 8 r.length]) (⟨[], [(82, true, r)]⟩) := by
  rw [laws_toWord] at h
  refine Ct.of (c := _) mixed func19 ⟨rfl, rfl, rfl⟩ ?_ rfl
  conv => whnf
  refine Pick.no ?_
  conv => whnf
  obtain ⟨y2, e3, h⟩ := bind_ex h
  refine CallOk.of (laws_toRunS_ct e3) ?_
  conv => whnf
  refine CutK.go ?_
  conv => whnf
  cases h
  exact Done.of [some 384] [] rfl rfl ⟨⟨rfl, rfl⟩, ⟨rfl, ⟨rfl, rfl, rows_same⟩, trivial⟩, ⟨⟨rfl, rfl⟩, trivial⟩, trivial⟩

def spec_odZero  (a1 : Rw) : Option Bool :=
  (if (a1.length : Int) = (0 : Int) then some true else some false)
set_option maxHeartbeats 4000000 in
set_option maxRecDepth 100000 in
theorem spec_odZero_ct  {a1 : Rw} {r : Bool} (h : spec_odZero a1 = some r) : Ct prog 48 [.agg [.d (D.sl a1)]] (⟨[], []⟩) (.d (D.bool r)) (⟨[], []⟩) := by
  rw [spec_odZero] at h
  refine Ct.of (c := _) mixed func48 ⟨rfl, rfl, rfl⟩ ?_ rfl
  conv => whnf
  refine splD (fun g2 => ?_) (fun g2 => ?_)
  · replace h := iteP h g2
    conv => whnf
    cases h
    exact Done.of [] [] rfl rfl ⟨⟨rfl, rfl⟩, ⟨rfl, trivial⟩, rfl, trivial⟩
  · replace h := iteN h g2
    conv => whnf
    cases h
    exact Done.of [] [] rfl rfl ⟨⟨rfl, rfl⟩, ⟨rfl, trivial⟩, rfl, trivial⟩

def spec_odFinite  (a1 : Rw) : Option (Int × Rw) :=
  (if (0 : Int) ≤ (IntKind.i64.wrap ((a1.length : Int) - 1)) then (row_si a1 (IntKind.i64.wrap ((a1.length : Int) - 1)) fun x3 x4 => ((spec_odZero x3).bind fun y7 => (if y7 = true then (if 0 ≤ (IntKind.i64.wrap ((a1.length : Int) - 1)) ∧ (IntKind.i64.wrap ((a1.length : Int) - 1)) ≤ (a1.length : Int) ∧ (∀ cs ∈ a1, cs.length = 2) then some (x4, a1.take (IntKind.i64.wrap ((a1.length : Int) - 1) : Int).toNat) else none) else some (0, a1)))) else some (0, a1))
set_option maxHeartbeats 4000000 in
set_option maxRecDepth 100000 in
theorem spec_odFinite_ct  {a1 : Rw} {r : Int × Rw} (h : spec_odFinite a1 = some r) : Ct prog 47 [.agg [.d (D.sl a1)]] (⟨[], []⟩) (.tup [.d (D.int .i64 r.1), .agg [.d (D.sl r.2)]]) (⟨[], []⟩) := by
  rw [spec_odFinite] at h
  refine Ct.of (c := _) mixed func47 ⟨rfl, rfl, rfl⟩ ?_ rfl
  conv => whnf
  refine splD (fun g2 => ?_) (fun g2 => ?_)
  · replace h := iteP h g2
    conv => whnf
    obtain ⟨g6, x3, x4, e5, h⟩ := row_si_ex h
    refine Req.of g6 ?_
    refine Row.of _ e5 ?_
    conv => whnf
    refine Pick.no ?_
    conv => whnf
    obtain ⟨y7, e8, h⟩ := bind_ex h
    refine CallOk.of (spec_odZero_ct e8) ?_
    conv => whnf
    refine spl (fun g9 => ?_) (fun g9 => ?_)
    · replace h := iteT h g9
      conv => whnf
      refine CutK.norm [1, 3, 4, 19] [64, 192] ?_
      conv => whnf
      refine Req.of g6 ?_
      refine Row.of _ e5 ?_
      conv => whnf
      obtain ⟨g10, h⟩ := req_ex h
      refine Req.of g10 ?_
      conv => whnf
      cases h
      exact Done.of [] [] rfl rfl ⟨⟨rfl, rfl⟩, ⟨rfl, trivial⟩, ⟨rfl, ⟨rfl, trivial⟩, trivial⟩, trivial⟩
    · replace h := iteF h g9
      conv => whnf
      refine CutK.norm [1, 3, 4, 19] [64, 192] ?_
      conv => whnf
      refine CutK.norm [1, 3] [64, 192] ?_
      conv => whnf
      cases h
      exact Done.of [] [] rfl rfl ⟨⟨rfl, rfl⟩, ⟨rfl, trivial⟩, ⟨rfl, ⟨rfl, trivial⟩, trivial⟩, trivial⟩
  · replace h := iteN h g2
    conv => whnf
    refine CutK.norm [1, 3, 4, 19] [64, 192] ?_
    conv => whnf
    refine CutK.norm [1, 3] [64, 192] ?_
    conv => whnf
    cases h
    exact Done.of [] [] rfl rfl ⟨⟨rfl, rfl⟩, ⟨rfl, trivial⟩, ⟨rfl, ⟨rfl, trivial⟩, trivial⟩, trivial⟩

def spec_odLeft_l0 (rec_spec_odLeft : Rw → Int → Int → Option Int) (a1 : Rw) (a2 : Int) (K0 : Int → Option Int) : Rw → Int → Option Int
  | [], v13 => (K0 v13)
  | cs :: rest, v13 => (cell_si cs fun x34 x35 => (if v13 < (0 : Int) then some (-1) else (if a2 = (0 : Int) then some (-1) else ((rec_spec_odLeft x34 (IntKind.i64.wrap (a2 - 1)) (IntKind.i64.wrap (v13 - 1))).bind fun y39 => (spec_odLeft_l0 rec_spec_odLeft a1 a2 K0 rest y39)))))
set_option maxRecDepth 100000 in
theorem spec_odLeft_l0_ct {rec_spec_odLeft : Rw → Int → Int → Option Int} {a1 : Rw} {a2 : Int} {K0 : Int → Option Int} (hrec_spec_odLeft : ∀ (a1 : Rw) (a2 : Int) (a3 : Int) (r : Int), rec_spec_odLeft a1 a2 a3 = some r → Ct prog 125 [.agg [.d (D.sl a1)], .d (D.int .i64 a2), .d (D.int .i64 a3)] (⟨[], []⟩) (.d (D.int .i64 r)) (⟨[], []⟩)) {r : Int} (hx : a1.length ≤ cap) : ∀ (rest : Rw) (v14n : Nat) (v13 : Int), a1.drop v14n = rest → spec_odLeft_l0 rec_spec_odLeft a1 a2 K0 rest v13 = some r → LoopOk prog 0 (lp f125 0) (mk 33 [(1, .d (D.int .i64 a2)), (2, .d (D.int .i64 v13)), (12, .d (D.sl a1)), (13, .d (D.int .i64 (a1.length : Int))), (14, .d (D.int .i64 (v14n : Int)))] []) (LoopEnd prog f125 0 33 (.d (D.int .i64 r)) (⟨[], []⟩) (fun i ts os => (i = 0 ∧ ∃ v24 : Int, K0 v24 = some r ∧ ts = [(2, .d (D.int .i64 v24))] ∧ os = [])))
  | [], v14n, v13, hd, h => by
      rw [spec_odLeft_l0] at h
      have hn := drop_nil hd
      refine LoopOk.step ?_
      conv => whnf
      refine splD (fun g => absurd g hn) (fun _ => ?_)
      conv => whnf
      exact ⟨_, _, [], [], ⟨rfl, _, h, rfl, rfl⟩, ⟨⟨rfl, rfl⟩, ⟨rfl, trivial⟩, rfl, trivial⟩⟩
  | cs :: rest, v14n, v13, hd, h => by
      rw [spec_odLeft_l0] at h
      obtain ⟨hrow, hd1, hlt⟩ := drop_cons hd
      refine LoopOk.step ?_
      conv => whnf
      refine splD (fun _ => ?_) (fun g => absurd hlt g)
      conv => whnf
      obtain ⟨x34, x35, e36, h⟩ := cell_si_ex h
      rw [e36] at hrow
      refine Req.of (Int.natCast_nonneg _) ?_
      refine Row.of _ hrow ?_
      conv => whnf
      refine splD (fun g37 => ?_) (fun g37 => ?_)
      · replace h := iteP h g37
        conv => whnf
        cases h
        exact Done.of [] [] rfl rfl ⟨⟨rfl, rfl⟩, ⟨rfl, trivial⟩, rfl, trivial⟩
      · replace h := iteN h g37
        conv => whnf
        refine splD (fun g38 => ?_) (fun g38 => ?_)
        · replace h := iteP h g38
          conv => whnf
          cases h
          exact Done.of [] [] rfl rfl ⟨⟨rfl, rfl⟩, ⟨rfl, trivial⟩, rfl, trivial⟩
        · replace h := iteN h g38
          conv => whnf
          refine Pick.no ?_
          conv => whnf
          obtain ⟨y39, e40, h⟩ := bind_ex h
          refine CallOk.of (hrec_spec_odLeft _ _ _ _ e40) ?_
          conv => whnf
          refine CutK.norm [1, 2, 12, 13, 14] [] ?_
          conv => whnf
          exact LoopOk.back (spec_odLeft_l0_ct hrec_spec_odLeft hx rest (v14n + 1) _ hd1 h) [] [] ⟨⟨rfl, rfl⟩, ⟨rfl, trivial⟩, rfl, rfl, rfl, rfl, i64eq (wrap_up hlt hx), trivial⟩
def spec_odLeft_b (rec_spec_odLeft : Rw → Int → Int → Option Int) (a1 : Rw) (a2 : Int) (a3 : Int) : Option Int :=
  (if a1.length ≤ cap then (spec_odLeft_l0 rec_spec_odLeft a1 a2 (fun (v24 : Int) => some v24) a1 (IntKind.i64.wrap (a3 - 1))) else none)
set_option maxHeartbeats 4000000 in
set_option maxRecDepth 100000 in
theorem spec_odLeft_b_ct {rec_spec_odLeft : Rw → Int → Int → Option Int} (hrec_spec_odLeft : ∀ (a1 : Rw) (a2 : Int) (a3 : Int) (r : Int), rec_spec_odLeft a1 a2 a3 = some r → Ct prog 125 [.agg [.d (D.sl a1)], .d (D.int .i64 a2), .d (D.int .i64 a3)] (⟨[], []⟩) (.d (D.int .i64 r)) (⟨[], []⟩)) {a1 : Rw} {a2 : Int} {a3 : Int} {r : Int} (h : spec_odLeft_b rec_spec_odLeft a1 a2 a3 = some r) : Ct prog 125 [.agg [.d (D.sl a1)], .d (D.int .i64 a2), .d (D.int .i64 a3)] (⟨[], []⟩) (.d (D.int .i64 r)) (⟨[], []⟩) := by
  rw [spec_odLeft_b] at h
  refine Ct.of (c := _) mixed func125 ⟨rfl, rfl, rfl⟩ ?_ rfl
  conv => whnf
  obtain ⟨g41, h⟩ := req_ex h
  refine LoopOk.into (spec_odLeft_l0_ct hrec_spec_odLeft g41 _ _ _ rfl h) [] [] ⟨⟨rfl, rfl⟩, ⟨rfl, trivial⟩, rfl, rfl, rfl, rfl, rfl, trivial⟩ ?_ (fun _ hs => hs)
  rintro i ts os ⟨rfl, v24, h, rfl, rfl⟩
  conv => whnf
  refine CutK.norm [2] [] ?_
  conv => whnf
  cases h
  exact Done.of [] [] rfl rfl ⟨⟨rfl, rfl⟩, ⟨rfl, trivial⟩, rfl, trivial⟩
def spec_odLeft : Nat → Rw → Int → Int → Option Int
  | 0, _, _, _ => none
  | k + 1, a1, a2, a3 => spec_odLeft_b (spec_odLeft k) a1 a2 a3
theorem spec_odLeft_ct' : ∀ (k : Nat) (a1 : Rw) (a2 : Int) (a3 : Int) (r : Int), spec_odLeft k a1 a2 a3 = some r → Ct prog 125 [.agg [.d (D.sl a1)], .d (D.int .i64 a2), .d (D.int .i64 a3)] (⟨[], []⟩) (.d (D.int .i64 r)) (⟨[], []⟩)
  | 0, _, _, _, _, h => by rw [spec_odLeft] at h; cases h
  | k + 1, _, _, _, _, h => by rw [spec_odLeft] at h; exact spec_odLeft_b_ct (spec_odLeft_ct' k) h
theorem spec_odLeft_ct {k : Nat} {a1 : Rw} {a2 : Int} {a3 : Int} {r : Int} (h : spec_odLeft k a1 a2 a3 = some r) : Ct prog 125 [.agg [.d (D.sl a1)], .d (D.int .i64 a2), .d (D.int .i64 a3)] (⟨[], []⟩) (.d (D.int .i64 r)) (⟨[], []⟩) := spec_odLeft_ct' k _ _ _ _ h

def spec_l1In  (a1 : Int) (a2 : Int) (a3 : Int) : Option Bool :=
  (if a2 ≤ a1 then (if a1 ≤ a3 then some true else some false) else some false)
set_option maxHeartbeats 4000000 in
set_option maxRecDepth 100000 in
theorem spec_l1In_ct  {a1 : Int} {a2 : Int} {a3 : Int} {r : Bool} (h : spec_l1In a1 a2 a3 = some r) : Ct prog 137 [.d (D.int .i64 a1), .d (D.int .i64 a2), .d (D.int .i64 a3)] (⟨[], []⟩) (.d (D.bool r)) (⟨[], []⟩) := by
  rw [spec_l1In] at h
  refine Ct.of (c := _) mixed func137 ⟨rfl, rfl, rfl⟩ ?_ rfl
  conv => whnf
  refine splD (fun g4 => ?_) (fun g4 => ?_)
  · replace h := iteP h g4
    conv => whnf
    refine splD (fun g5 => ?_) (fun g5 => ?_)
    · replace h := iteP h g5
      conv => whnf
      cases h
      exact Done.of [] [] rfl rfl ⟨⟨rfl, rfl⟩, ⟨rfl, trivial⟩, rfl, trivial⟩
    · replace h := iteN h g5
      conv => whnf
      cases h
      exact Done.of [] [] rfl rfl ⟨⟨rfl, rfl⟩, ⟨rfl, trivial⟩, rfl, trivial⟩
  · replace h := iteN h g4
    conv => whnf
    cases h
    exact Done.of [] [] rfl rfl ⟨⟨rfl, rfl⟩, ⟨rfl, trivial⟩, rfl, trivial⟩

def spec_l1Sign  (a1 : Int) : Option Int :=
  (if (0 : Int) < a1 then some 1 else (if a1 < (0 : Int) then some (-1) else some 0))
set_option maxHeartbeats 4000000 in
set_option maxRecDepth 100000 in
theorem spec_l1Sign_ct  {a1 : Int} {r : Int} (h : spec_l1Sign a1 = some r) : Ct prog 80 [.d (D.int .i64 a1)] (⟨[], []⟩) (.d (D.int .i64 r)) (⟨[], []⟩) := by
  rw [spec_l1Sign] at h
  refine Ct.of (c := _) mixed func80 ⟨rfl, rfl, rfl⟩ ?_ rfl
  conv => whnf
  refine splD (fun g2 => ?_) (fun g2 => ?_)
  · replace h := iteP h g2
    conv => whnf
    cases h
    exact Done.of [] [] rfl rfl ⟨⟨rfl, rfl⟩, ⟨rfl, trivial⟩, rfl, trivial⟩
  · replace h := iteN h g2
    conv => whnf
    refine splD (fun g3 => ?_) (fun g3 => ?_)
    · replace h := iteP h g3
      conv => whnf
      cases h
      exact Done.of [] [] rfl rfl ⟨⟨rfl, rfl⟩, ⟨rfl, trivial⟩, rfl, trivial⟩
    · replace h := iteN h g3
      conv => whnf
      cases h
      exact Done.of [] [] rfl rfl ⟨⟨rfl, rfl⟩, ⟨rfl, trivial⟩, rfl, trivial⟩

def spec_odCmp_p2 (a1 : Rw) (a2 : Rw) : Option Int :=
  (if (a1.length : Int) < (a2.length : Int) then some (-1) else some 0)
set_option maxHeartbeats 4000000 in
set_option maxRecDepth 100000 in
theorem spec_odCmp_p2_ct {a1 : Rw} {a2 : Rw} {r : Int} (h : spec_odCmp_p2 a1 a2 = some r) : X prog 0 (tlF f142 2) (mk 60 [(2, .ptr 128 0), (3, .ptr 192 0)] [(128, .box 80 [.d (D.sl a1)]), (192, .box 80 [.d (D.sl a2)])]) (finK prog f142 0 (.d (D.int .i64 r)) (⟨[], []⟩)) := by
  rw [spec_odCmp_p2] at h
  conv => whnf
  refine splD (fun g37 => ?_) (fun g37 => ?_)
  · replace h := iteP h g37
    conv => whnf
    cases h
    exact Done.of [] [] rfl rfl ⟨⟨rfl, rfl⟩, ⟨rfl, trivial⟩, rfl, trivial⟩
  · replace h := iteN h g37
    conv => whnf
    cases h
    exact Done.of [] [] rfl rfl ⟨⟨rfl, rfl⟩, ⟨rfl, trivial⟩, rfl, trivial⟩
def spec_odCmp_l0 (rec_spec_odCmp : Rw → Rw → Option Int) (a1 : Rw) (a2 : Rw) (K0 : Option Int) : Rw → Nat → Option Int
  | [], v54n => (K0)
  | cs :: rest, v54n => (cell_si cs fun x71 x72 => (if (v54n : Int) = (a2.length : Int) then some 1 else (row_si a2 (v54n : Int) fun x75 x76 => ((rec_spec_odCmp x71 x75).bind fun y79 => (if y79 = (0 : Int) then (if x72 = x76 then (spec_odCmp_l0 rec_spec_odCmp a1 a2 K0 rest (v54n + 1)) else ((spec_l1Sign (IntKind.i64.wrap (x72 - x76))).bind fun y83 => some y83)) else some y79)))))
set_option maxRecDepth 100000 in
theorem spec_odCmp_l0_ct {rec_spec_odCmp : Rw → Rw → Option Int} {a1 : Rw} {a2 : Rw} {K0 : Option Int} (hrec_spec_odCmp : ∀ (a1 : Rw) (a2 : Rw) (r : Int), rec_spec_odCmp a1 a2 = some r → Ct prog 142 [.agg [.d (D.sl a1)], .agg [.d (D.sl a2)]] (⟨[], []⟩) (.d (D.int .i64 r)) (⟨[], []⟩)) {r : Int} (hx : a1.length ≤ cap) : ∀ (rest : Rw) (v54n : Nat), a1.drop v54n = rest → spec_odCmp_l0 rec_spec_odCmp a1 a2 K0 rest v54n = some r → LoopOk prog 0 (lp f142 0) (mk 60 [(2, .ptr 128 0), (3, .ptr 192 0), (9, .d (D.sl a1)), (10, .d (D.int .i64 (a1.length : Int))), (11, .d (D.int .i64 (v54n : Int)))] [(128, .box 80 [.d (D.sl a1)]), (192, .box 80 [.d (D.sl a2)])]) (LoopEnd prog f142 0 60 (.d (D.int .i64 r)) (⟨[], []⟩) (fun i ts os => (i = 0 ∧ K0 = some r ∧ ts = [(2, .ptr 128 0), (3, .ptr 192 0)] ∧ os = [(128, .box 80 [.d (D.sl a1)]), (192, .box 80 [.d (D.sl a2)])])))
  | [], v54n, hd, h => by
      rw [spec_odCmp_l0] at h
      have hn := drop_nil hd
      refine LoopOk.step ?_
      conv => whnf
      refine splD (fun g => absurd g hn) (fun _ => ?_)
      conv => whnf
      exact ⟨_, _, [some 128, some 192], [], ⟨rfl, h, rfl, rfl⟩, ⟨⟨rfl, rfl⟩, ⟨rfl, ⟨rfl, rfl, trivial⟩, ⟨rfl, rfl, trivial⟩, trivial⟩, ⟨rfl, rfl⟩, ⟨rfl, rfl⟩, trivial⟩⟩
  | cs :: rest, v54n, hd, h => by
      rw [spec_odCmp_l0] at h
      obtain ⟨hrow, hd1, hlt⟩ := drop_cons hd
      refine LoopOk.step ?_
      conv => whnf
      refine splD (fun _ => ?_) (fun g => absurd hlt g)
      conv => whnf
      obtain ⟨x71, x72, e73, h⟩ := cell_si_ex h
      rw [e73] at hrow
      refine Req.of (Int.natCast_nonneg _) ?_
      refine Row.of _ hrow ?_
      conv => whnf
      refine splD (fun g74 => ?_) (fun g74 => ?_)
      · replace h := iteP h g74
        conv => whnf
        cases h
        exact Done.of [] [] rfl rfl ⟨⟨rfl, rfl⟩, ⟨rfl, trivial⟩, rfl, trivial⟩
      · replace h := iteN h g74
        conv => whnf
        obtain ⟨g78, x75, x76, e77, h⟩ := row_si_ex h
        refine Req.of g78 ?_
        refine Row.of _ e77 ?_
        conv => whnf
        refine Pick.no ?_
        conv => whnf
        obtain ⟨y79, e80, h⟩ := bind_ex h
        refine CallOk.of (hrec_spec_odCmp _ _ _ e80) ?_
        conv => whnf
        refine CutK.norm [2, 3, 5, 6, 7, 9, 10, 11] [128, 192, 384] ?_
        conv => whnf
        refine splN (fun g81 => ?_) (fun g81 => ?_)
        · replace h := iteN h g81
          conv => whnf
          cases h
          exact Done.of [] [] rfl rfl ⟨⟨rfl, rfl⟩, ⟨rfl, trivial⟩, rfl, trivial⟩
        · replace h := iteP h g81
          conv => whnf
          refine CutK.norm [2, 3, 5, 6, 9, 10, 11] [128, 192, 384] ?_
          conv => whnf
          refine Req.of g78 ?_
          refine Row.of _ e77 ?_
          conv => whnf
          refine splN (fun g82 => ?_) (fun g82 => ?_)
          · replace h := iteN h g82
            conv => whnf
            refine Req.of g78 ?_
            refine Row.of _ e77 ?_
            conv => whnf
            refine Pick.no ?_
            conv => whnf
            obtain ⟨y83, e84, h⟩ := bind_ex h
            refine CallOk.of (spec_l1Sign_ct e84) ?_
            conv => whnf
            refine CutK.norm [4] [] ?_
            conv => whnf
            cases h
            exact Done.of [] [] rfl rfl ⟨⟨rfl, rfl⟩, ⟨rfl, trivial⟩, rfl, trivial⟩
          · replace h := iteP h g82
            conv => whnf
            refine CutK.norm [2, 3, 9, 10, 11] [128, 192] ?_
            conv => whnf
            exact LoopOk.back (spec_odCmp_l0_ct hrec_spec_odCmp hx rest (v54n + 1)  hd1 h) [some 128, some 192] [] ⟨⟨rfl, rfl⟩, ⟨rfl, ⟨rfl, rfl, trivial⟩, ⟨rfl, rfl, trivial⟩, trivial⟩, ⟨rfl, rfl⟩, ⟨rfl, rfl⟩, rfl, rfl, i64eq (wrap_up hlt hx), trivial⟩
def spec_odCmp_b (rec_spec_odCmp : Rw → Rw → Option Int) (a1 : Rw) (a2 : Rw) : Option Int :=
  (if a1.length ≤ cap then (spec_odCmp_l0 rec_spec_odCmp a1 a2 (spec_odCmp_p2 a1 a2) a1 0) else none)
set_option maxHeartbeats 4000000 in
set_option maxRecDepth 100000 in
theorem spec_odCmp_b_ct {rec_spec_odCmp : Rw → Rw → Option Int} (hrec_spec_odCmp : ∀ (a1 : Rw) (a2 : Rw) (r : Int), rec_spec_odCmp a1 a2 = some r → Ct prog 142 [.agg [.d (D.sl a1)], .agg [.d (D.sl a2)]] (⟨[], []⟩) (.d (D.int .i64 r)) (⟨[], []⟩)) {a1 : Rw} {a2 : Rw} {r : Int} (h : spec_odCmp_b rec_spec_odCmp a1 a2 = some r) : Ct prog 142 [.agg [.d (D.sl a1)], .agg [.d (D.sl a2)]] (⟨[], []⟩) (.d (D.int .i64 r)) (⟨[], []⟩) := by
  rw [spec_odCmp_b] at h
  refine Ct.of (c := _) mixed func142 ⟨rfl, rfl, rfl⟩ ?_ rfl
  conv => whnf
  obtain ⟨g85, h⟩ := req_ex h
  refine LoopOk.into (spec_odCmp_l0_ct hrec_spec_odCmp g85 _ _  rfl h) [some 128, some 192] [] ⟨⟨rfl, rfl⟩, ⟨rfl, ⟨rfl, rfl, trivial⟩, ⟨rfl, rfl, trivial⟩, trivial⟩, ⟨rfl, rfl⟩, ⟨rfl, rfl⟩, rfl, rfl, rfl, trivial⟩ ?_ (fun _ hs => hs)
  rintro i ts os ⟨rfl, h, rfl, rfl⟩
  conv => whnf
  exact CutK.piece (spec_odCmp_p2_ct  h) [some 128, some 192] [] ⟨⟨rfl, rfl⟩, ⟨rfl, ⟨rfl, rfl, trivial⟩, ⟨rfl, rfl, trivial⟩, trivial⟩, ⟨rfl, rfl⟩, ⟨rfl, rfl⟩, trivial⟩
def spec_odCmp : Nat → Rw → Rw → Option Int
  | 0, _, _ => none
  | k + 1, a1, a2 => spec_odCmp_b (spec_odCmp k) a1 a2
theorem spec_odCmp_ct' : ∀ (k : Nat) (a1 : Rw) (a2 : Rw) (r : Int), spec_odCmp k a1 a2 = some r → Ct prog 142 [.agg [.d (D.sl a1)], .agg [.d (D.sl a2)]] (⟨[], []⟩) (.d (D.int .i64 r)) (⟨[], []⟩)
  | 0, _, _, _, h => by rw [spec_odCmp] at h; cases h
  | k + 1, _, _, _, h => by rw [spec_odCmp] at h; exact spec_odCmp_b_ct (spec_odCmp_ct' k) h
theorem spec_odCmp_ct {k : Nat} {a1 : Rw} {a2 : Rw} {r : Int} (h : spec_odCmp k a1 a2 = some r) : Ct prog 142 [.agg [.d (D.sl a1)], .agg [.d (D.sl a2)]] (⟨[], []⟩) (.d (D.int .i64 r)) (⟨[], []⟩) := spec_odCmp_ct' k _ _ _ h

def spec_odForm_p3  : Option Bool :=
  some true
set_option maxHeartbeats 4000000 in
set_option maxRecDepth 100000 in
theorem spec_odForm_p3_ct  {r : Bool} (h : spec_odForm_p3 = some r) : X prog 0 (tlF f126 3) (mk 47 [] []) (finK prog f126 0 (.d (D.bool r)) (⟨[], []⟩)) := by
  rw [spec_odForm_p3] at h
  conv => whnf
  cases h
  exact Done.of [] [] rfl rfl ⟨⟨rfl, rfl⟩, ⟨rfl, trivial⟩, rfl, trivial⟩
def spec_odForm_l0 (k : Nat) (rec_spec_odForm : Rw → Int → Option Bool) (a1 : Rw) (a2 : Int) (K0 : Option Bool) : Rw → Nat → Option Bool
  | [], v47n => (K0)
  | cs :: rest, v47n => (cell_si cs fun x67 x68 => ((spec_l1In x68 1 1000000).bind fun y70 => (if y70 = true then ((rec_spec_odForm x67 (IntKind.i64.wrap (a2 - 1))).bind fun y73 => (if y73 = true then (if (0 : Int) < (v47n : Int) then (row_si a1 (IntKind.i64.wrap ((v47n : Int) - 1)) fun x77 x78 => ((spec_odCmp k x77 x67).bind fun y81 => (if y81 ≤ (0 : Int) then some false else (spec_odForm_l0 k rec_spec_odForm a1 a2 K0 rest (v47n + 1))))) else (spec_odForm_l0 k rec_spec_odForm a1 a2 K0 rest (v47n + 1))) else some false)) else some false)))
set_option maxRecDepth 100000 in
theorem spec_odForm_l0_ct {k : Nat} {rec_spec_odForm : Rw → Int → Option Bool} {a1 : Rw} {a2 : Int} {K0 : Option Bool} (hrec_spec_odForm : ∀ (a1 : Rw) (a2 : Int) (r : Bool), rec_spec_odForm a1 a2 = some r → Ct prog 126 [.agg [.d (D.sl a1)], .d (D.int .i64 a2)] (⟨[], []⟩) (.d (D.bool r)) (⟨[], []⟩)) {r : Bool} (hx : a1.length ≤ cap) : ∀ (rest : Rw) (v47n : Nat), a1.drop v47n = rest → spec_odForm_l0 k rec_spec_odForm a1 a2 K0 rest v47n = some r → LoopOk prog 0 (lp f126 0) (mk 47 [(1, .d (D.int .i64 a2)), (2, .ptr 128 0), (10, .d (D.sl a1)), (11, .d (D.int .i64 (a1.length : Int))), (12, .d (D.int .i64 (v47n : Int)))] [(128, .box 80 [.d (D.sl a1)])]) (LoopEnd prog f126 0 47 (.d (D.bool r)) (⟨[], []⟩) (fun i ts os => (i = 0 ∧ K0 = some r ∧ ts = [] ∧ os = [])))
  | [], v47n, hd, h => by
      rw [spec_odForm_l0] at h
      have hn := drop_nil hd
      refine LoopOk.step ?_
      conv => whnf
      refine splD (fun g => absurd g hn) (fun _ => ?_)
      conv => whnf
      exact ⟨_, _, [], [], ⟨rfl, h, rfl, rfl⟩, ⟨⟨rfl, rfl⟩, ⟨rfl, trivial⟩, trivial⟩⟩
  | cs :: rest, v47n, hd, h => by
      rw [spec_odForm_l0] at h
      obtain ⟨hrow, hd1, hlt⟩ := drop_cons hd
      refine LoopOk.step ?_
      conv => whnf
      refine splD (fun _ => ?_) (fun g => absurd hlt g)
      conv => whnf
      obtain ⟨x67, x68, e69, h⟩ := cell_si_ex h
      rw [e69] at hrow
      refine Req.of (Int.natCast_nonneg _) ?_
      refine Row.of _ hrow ?_
      conv => whnf
      refine Pick.no ?_
      conv => whnf
      obtain ⟨y70, e71, h⟩ := bind_ex h
      refine CallOk.of (spec_l1In_ct e71) ?_
      conv => whnf
      refine spl (fun g72 => ?_) (fun g72 => ?_)
      · replace h := iteT h g72
        conv => whnf
        refine Pick.no ?_
        conv => whnf
        obtain ⟨y73, e74, h⟩ := bind_ex h
        refine CallOk.of (hrec_spec_odForm _ _ _ e74) ?_
        conv => whnf
        refine spl (fun g75 => ?_) (fun g75 => ?_)
        · replace h := iteT h g75
          conv => whnf
          refine splD (fun g76 => ?_) (fun g76 => ?_)
          · replace h := iteP h g76
            conv => whnf
            obtain ⟨g80, x77, x78, e79, h⟩ := row_si_ex h
            refine Req.of g80 ?_
            refine Row.of _ e79 ?_
            conv => whnf
            refine Pick.no ?_
            conv => whnf
            obtain ⟨y81, e82, h⟩ := bind_ex h
            refine CallOk.of (spec_odCmp_ct e82) ?_
            conv => whnf
            refine splD (fun g83 => ?_) (fun g83 => ?_)
            · replace h := iteP h g83
              conv => whnf
              refine CutK.norm [1, 2, 10, 11, 12, 45] [128] ?_
              conv => whnf
              cases h
              exact Done.of [] [] rfl rfl ⟨⟨rfl, rfl⟩, ⟨rfl, trivial⟩, rfl, trivial⟩
            · replace h := iteN h g83
              conv => whnf
              refine CutK.norm [1, 2, 10, 11, 12, 45] [128] ?_
              conv => whnf
              refine CutK.norm [1, 2, 10, 11, 12] [128] ?_
              conv => whnf
              exact LoopOk.back (spec_odForm_l0_ct hrec_spec_odForm hx rest (v47n + 1)  hd1 h) [some 128] [] ⟨⟨rfl, rfl⟩, ⟨rfl, ⟨rfl, rfl, trivial⟩, trivial⟩, rfl, ⟨rfl, rfl⟩, rfl, rfl, i64eq (wrap_up hlt hx), trivial⟩
          · replace h := iteN h g76
            conv => whnf
            refine CutK.norm [1, 2, 10, 11, 12, 45] [128] ?_
            conv => whnf
            refine CutK.norm [1, 2, 10, 11, 12] [128] ?_
            conv => whnf
            exact LoopOk.back (spec_odForm_l0_ct hrec_spec_odForm hx rest (v47n + 1)  hd1 h) [some 128] [] ⟨⟨rfl, rfl⟩, ⟨rfl, ⟨rfl, rfl, trivial⟩, trivial⟩, rfl, ⟨rfl, rfl⟩, rfl, rfl, i64eq (wrap_up hlt hx), trivial⟩
        · replace h := iteF h g75
          conv => whnf
          refine CutK.norm [1, 2, 10, 11, 12, 45] [128] ?_
          conv => whnf
          cases h
          exact Done.of [] [] rfl rfl ⟨⟨rfl, rfl⟩, ⟨rfl, trivial⟩, rfl, trivial⟩
      · replace h := iteF h g72
        conv => whnf
        refine CutK.norm [1, 2, 10, 11, 12, 45] [128] ?_
        conv => whnf
        cases h
        exact Done.of [] [] rfl rfl ⟨⟨rfl, rfl⟩, ⟨rfl, trivial⟩, rfl, trivial⟩
def spec_odForm_b (k : Nat) (rec_spec_odForm : Rw → Int → Option Bool) (a1 : Rw) (a2 : Int) : Option Bool :=
  (if a2 < (0 : Int) then some false else (if a1.length ≤ cap then (spec_odForm_l0 k rec_spec_odForm a1 a2 (spec_odForm_p3) a1 0) else none))
set_option maxHeartbeats 4000000 in
set_option maxRecDepth 100000 in
theorem spec_odForm_b_ct {k : Nat} {rec_spec_odForm : Rw → Int → Option Bool} (hrec_spec_odForm : ∀ (a1 : Rw) (a2 : Int) (r : Bool), rec_spec_odForm a1 a2 = some r → Ct prog 126 [.agg [.d (D.sl a1)], .d (D.int .i64 a2)] (⟨[], []⟩) (.d (D.bool r)) (⟨[], []⟩)) {a1 : Rw} {a2 : Int} {r : Bool} (h : spec_odForm_b k rec_spec_odForm a1 a2 = some r) : Ct prog 126 [.agg [.d (D.sl a1)], .d (D.int .i64 a2)] (⟨[], []⟩) (.d (D.bool r)) (⟨[], []⟩) := by
  rw [spec_odForm_b] at h
  refine Ct.of (c := _) mixed func126 ⟨rfl, rfl, rfl⟩ ?_ rfl
  conv => whnf
  refine splD (fun g35 => ?_) (fun g35 => ?_)
  · replace h := iteP h g35
    conv => whnf
    cases h
    exact Done.of [] [] rfl rfl ⟨⟨rfl, rfl⟩, ⟨rfl, trivial⟩, rfl, trivial⟩
  · replace h := iteN h g35
    conv => whnf
    obtain ⟨g84, h⟩ := req_ex h
    refine LoopOk.into (spec_odForm_l0_ct hrec_spec_odForm g84 _ _  rfl h) [some 128] [] ⟨⟨rfl, rfl⟩, ⟨rfl, ⟨rfl, rfl, trivial⟩, trivial⟩, rfl, ⟨rfl, rfl⟩, rfl, rfl, rfl, trivial⟩ ?_ (fun _ hs => hs)
    rintro i ts os ⟨rfl, h, rfl, rfl⟩
    conv => whnf
    exact CutK.piece (spec_odForm_p3_ct  h) [] [] ⟨⟨rfl, rfl⟩, ⟨rfl, trivial⟩, trivial⟩
def spec_odForm : Nat → Rw → Int → Option Bool
  | 0, _, _ => none
  | k + 1, a1, a2 => spec_odForm_b k (spec_odForm k) a1 a2
theorem spec_odForm_ct' : ∀ (k : Nat) (a1 : Rw) (a2 : Int) (r : Bool), spec_odForm k a1 a2 = some r → Ct prog 126 [.agg [.d (D.sl a1)], .d (D.int .i64 a2)] (⟨[], []⟩) (.d (D.bool r)) (⟨[], []⟩)
  | 0, _, _, _, h => by rw [spec_odForm] at h; cases h
  | k + 1, _, _, _, h => by rw [spec_odForm] at h; exact spec_odForm_b_ct (spec_odForm_ct' k) h
theorem spec_odForm_ct {k : Nat} {a1 : Rw} {a2 : Int} {r : Bool} (h : spec_odForm k a1 a2 = some r) : Ct prog 126 [.agg [.d (D.sl a1)], .d (D.int .i64 a2)] (⟨[], []⟩) (.d (D.bool r)) (⟨[], []⟩) := spec_odForm_ct' k _ _ _ h

def spec_odGood (k : Nat) (a1 : Rw) : Option Bool :=
  ((spec_odLeft k a1 6 60).bind fun y2 => (if (0 : Int) ≤ y2 then ((spec_odForm k a1 6).bind fun y5 => (if y5 = true then some true else some false)) else some false))
set_option maxHeartbeats 4000000 in
set_option maxRecDepth 100000 in
theorem spec_odGood_ct {k : Nat} {a1 : Rw} {r : Bool} (h : spec_odGood k a1 = some r) : Ct prog 89 [.agg [.d (D.sl a1)]] (⟨[], []⟩) (.d (D.bool r)) (⟨[], []⟩) := by
  rw [spec_odGood] at h
  refine Ct.of (c := _) mixed func89 ⟨rfl, rfl, rfl⟩ ?_ rfl
  conv => whnf
  refine Pick.no ?_
  conv => whnf
  obtain ⟨y2, e3, h⟩ := bind_ex h
  refine CallOk.of (spec_odLeft_ct e3) ?_
  conv => whnf
  refine splD (fun g4 => ?_) (fun g4 => ?_)
  · replace h := iteP h g4
    conv => whnf
    refine Pick.no ?_
    conv => whnf
    obtain ⟨y5, e6, h⟩ := bind_ex h
    refine CallOk.of (spec_odForm_ct e6) ?_
    conv => whnf
    refine spl (fun g7 => ?_) (fun g7 => ?_)
    · replace h := iteT h g7
      conv => whnf
      refine CutK.go ?_
      conv => whnf
      cases h
      exact Done.of [] [] rfl rfl ⟨⟨rfl, rfl⟩, ⟨rfl, trivial⟩, rfl, trivial⟩
    · replace h := iteF h g7
      conv => whnf
      refine CutK.go ?_
      conv => whnf
      cases h
      exact Done.of [] [] rfl rfl ⟨⟨rfl, rfl⟩, ⟨rfl, trivial⟩, rfl, trivial⟩
  · replace h := iteN h g4
    conv => whnf
    refine CutK.go ?_
    conv => whnf
    cases h
    exact Done.of [] [] rfl rfl ⟨⟨rfl, rfl⟩, ⟨rfl, trivial⟩, rfl, trivial⟩

def spec_odSize_l0 (rec_spec_odSize : Rw → Option Int) (a1 : Rw) (K0 : Int → Option Int) : Rw → Int → Option Int
  | [], v9 => (K0 v9)
  | cs :: rest, v9 => (cell_si cs fun x26 x27 => ((rec_spec_odSize x26).bind fun y29 => (spec_odSize_l0 rec_spec_odSize a1 K0 rest (IntKind.i64.wrap (v9 + (IntKind.i64.wrap (1 + y29)))))))
set_option maxRecDepth 100000 in
theorem spec_odSize_l0_ct {rec_spec_odSize : Rw → Option Int} {a1 : Rw} {K0 : Int → Option Int} (hrec_spec_odSize : ∀ (a1 : Rw) (r : Int), rec_spec_odSize a1 = some r → Ct prog 127 [.agg [.d (D.sl a1)]] (⟨[], []⟩) (.d (D.int .i64 r)) (⟨[], []⟩)) {r : Int} (hx : a1.length ≤ cap) : ∀ (rest : Rw) (v10n : Nat) (v9 : Int), a1.drop v10n = rest → spec_odSize_l0 rec_spec_odSize a1 K0 rest v9 = some r → LoopOk prog 0 (lp f127 0) (mk 21 [(3, .d (D.int .i64 v9)), (7, .d (D.sl a1)), (8, .d (D.int .i64 (a1.length : Int))), (9, .d (D.int .i64 (v10n : Int)))] []) (LoopEnd prog f127 0 21 (.d (D.int .i64 r)) (⟨[], []⟩) (fun i ts os => (i = 0 ∧ ∃ v18 : Int, K0 v18 = some r ∧ ts = [(3, .d (D.int .i64 v18))] ∧ os = [])))
  | [], v10n, v9, hd, h => by
      rw [spec_odSize_l0] at h
      have hn := drop_nil hd
      refine LoopOk.step ?_
      conv => whnf
      refine splD (fun g => absurd g hn) (fun _ => ?_)
      conv => whnf
      exact ⟨_, _, [], [], ⟨rfl, _, h, rfl, rfl⟩, ⟨⟨rfl, rfl⟩, ⟨rfl, trivial⟩, rfl, trivial⟩⟩
  | cs :: rest, v10n, v9, hd, h => by
      rw [spec_odSize_l0] at h
      obtain ⟨hrow, hd1, hlt⟩ := drop_cons hd
      refine LoopOk.step ?_
      conv => whnf
      refine splD (fun _ => ?_) (fun g => absurd hlt g)
      conv => whnf
      obtain ⟨x26, x27, e28, h⟩ := cell_si_ex h
      rw [e28] at hrow
      refine Req.of (Int.natCast_nonneg _) ?_
      refine Row.of _ hrow ?_
      conv => whnf
      refine Pick.no ?_
      conv => whnf
      obtain ⟨y29, e30, h⟩ := bind_ex h
      refine CallOk.of (hrec_spec_odSize _ _ e30) ?_
      conv => whnf
      refine CutK.go ?_
      conv => whnf
      exact LoopOk.back (spec_odSize_l0_ct hrec_spec_odSize hx rest (v10n + 1) _ hd1 h) [] [] ⟨⟨rfl, rfl⟩, ⟨rfl, trivial⟩, rfl, rfl, rfl, i64eq (wrap_up hlt hx), trivial⟩
def spec_odSize_b (rec_spec_odSize : Rw → Option Int) (a1 : Rw) : Option Int :=
  (if a1.length ≤ cap then (spec_odSize_l0 rec_spec_odSize a1 (fun (v18 : Int) => some v18) a1 1) else none)
set_option maxHeartbeats 4000000 in
set_option maxRecDepth 100000 in
theorem spec_odSize_b_ct {rec_spec_odSize : Rw → Option Int} (hrec_spec_odSize : ∀ (a1 : Rw) (r : Int), rec_spec_odSize a1 = some r → Ct prog 127 [.agg [.d (D.sl a1)]] (⟨[], []⟩) (.d (D.int .i64 r)) (⟨[], []⟩)) {a1 : Rw} {r : Int} (h : spec_odSize_b rec_spec_odSize a1 = some r) : Ct prog 127 [.agg [.d (D.sl a1)]] (⟨[], []⟩) (.d (D.int .i64 r)) (⟨[], []⟩) := by
  rw [spec_odSize_b] at h
  refine Ct.of (c := _) mixed func127 ⟨rfl, rfl, rfl⟩ ?_ rfl
  conv => whnf
  obtain ⟨g31, h⟩ := req_ex h
  refine LoopOk.into (spec_odSize_l0_ct hrec_spec_odSize g31 _ _ _ rfl h) [] [] ⟨⟨rfl, rfl⟩, ⟨rfl, trivial⟩, rfl, rfl, rfl, rfl, trivial⟩ ?_ (fun _ hs => hs)
  rintro i ts os ⟨rfl, v18, h, rfl, rfl⟩
  conv => whnf
  refine CutK.go ?_
  conv => whnf
  cases h
  exact Done.of [] [] rfl rfl ⟨⟨rfl, rfl⟩, ⟨rfl, trivial⟩, rfl, trivial⟩
def spec_odSize : Nat → Rw → Option Int
  | 0, _ => none
  | k + 1, a1 => spec_odSize_b (spec_odSize k) a1
theorem spec_odSize_ct' : ∀ (k : Nat) (a1 : Rw) (r : Int), spec_odSize k a1 = some r → Ct prog 127 [.agg [.d (D.sl a1)]] (⟨[], []⟩) (.d (D.int .i64 r)) (⟨[], []⟩)
  | 0, _, _, h => by rw [spec_odSize] at h; cases h
  | k + 1, _, _, h => by rw [spec_odSize] at h; exact spec_odSize_b_ct (spec_odSize_ct' k) h
theorem spec_odSize_ct {k : Nat} {a1 : Rw} {r : Int} (h : spec_odSize k a1 = some r) : Ct prog 127 [.agg [.d (D.sl a1)]] (⟨[], []⟩) (.d (D.int .i64 r)) (⟨[], []⟩) := spec_odSize_ct' k _ _ h

def spec_woSize_l0 (k : Nat) (a1 : Rw) (K0 : Int → Option Int) : Rw → Int → Option Int
  | [], v10 => (K0 v10)
  | cs :: rest, v10 => (cell_bs cs fun x35 x36 => (if x35 = true then ((spec_odSize k x36).bind fun y39 => (spec_woSize_l0 k a1 K0 rest (IntKind.i64.wrap (v10 + (IntKind.i64.wrap (1 + y39)))))) else ((spec_odSize k x36).bind fun y41 => (spec_woSize_l0 k a1 K0 rest (IntKind.i64.wrap (v10 + (IntKind.i64.wrap (1 + y41))))))))
set_option maxRecDepth 100000 in
theorem spec_woSize_l0_ct {k : Nat} {a1 : Rw} {K0 : Int → Option Int} {r : Int} (hx : a1.length ≤ cap) : ∀ (rest : Rw) (v11n : Nat) (v10 : Int), a1.drop v11n = rest → spec_woSize_l0 k a1 K0 rest v10 = some r → LoopOk prog 0 (lp f90 0) (mk 21 [(3, .d (D.int .i64 v10)), (7, .d (D.sl a1)), (8, .d (D.int .i64 (a1.length : Int))), (9, .d (D.int .i64 (v11n : Int)))] []) (LoopEnd prog f90 0 21 (.d (D.int .i64 r)) (⟨[], []⟩) (fun i ts os => (i = 0 ∧ ∃ v24 : Int, K0 v24 = some r ∧ ts = [(3, .d (D.int .i64 v24))] ∧ os = [])))
  | [], v11n, v10, hd, h => by
      rw [spec_woSize_l0] at h
      have hn := drop_nil hd
      refine LoopOk.step ?_
      conv => whnf
      refine splD (fun g => absurd g hn) (fun _ => ?_)
      conv => whnf
      exact ⟨_, _, [], [], ⟨rfl, _, h, rfl, rfl⟩, ⟨⟨rfl, rfl⟩, ⟨rfl, trivial⟩, rfl, trivial⟩⟩
  | cs :: rest, v11n, v10, hd, h => by
      rw [spec_woSize_l0] at h
      obtain ⟨hrow, hd1, hlt⟩ := drop_cons hd
      refine LoopOk.step ?_
      conv => whnf
      refine splD (fun _ => ?_) (fun g => absurd hlt g)
      conv => whnf
      obtain ⟨x35, x36, e37, h⟩ := cell_bs_ex h
      rw [e37] at hrow
      refine Req.of (Int.natCast_nonneg _) ?_
      refine Row.of _ hrow ?_
      conv => whnf
      refine spl (fun g38 => ?_) (fun g38 => ?_)
      · replace h := iteT h g38
        conv => whnf
        refine Pick.no ?_
        conv => whnf
        obtain ⟨y39, e40, h⟩ := bind_ex h
        refine CallOk.of (spec_odSize_ct e40) ?_
        conv => whnf
        refine CutK.go ?_
        conv => whnf
        exact LoopOk.back (spec_woSize_l0_ct hx rest (v11n + 1) _ hd1 h) [] [] ⟨⟨rfl, rfl⟩, ⟨rfl, trivial⟩, rfl, rfl, rfl, i64eq (wrap_up hlt hx), trivial⟩
      · replace h := iteF h g38
        conv => whnf
        refine Pick.no ?_
        conv => whnf
        obtain ⟨y41, e42, h⟩ := bind_ex h
        refine CallOk.of (spec_odSize_ct e42) ?_
        conv => whnf
        refine CutK.go ?_
        conv => whnf
        exact LoopOk.back (spec_woSize_l0_ct hx rest (v11n + 1) _ hd1 h) [] [] ⟨⟨rfl, rfl⟩, ⟨rfl, trivial⟩, rfl, rfl, rfl, i64eq (wrap_up hlt hx), trivial⟩
def spec_woSize (k : Nat) (a1 : Rw) : Option Int :=
  (if a1.length ≤ cap then (spec_woSize_l0 k a1 (fun (v24 : Int) => some v24) a1 1) else none)
set_option maxHeartbeats 4000000 in
set_option maxRecDepth 100000 in
theorem spec_woSize_ct {k : Nat} {a1 : Rw} {r : Int} (h : spec_woSize k a1 = some r) : Ct prog 90 [.agg [.d (D.sl a1)]] (⟨[], []⟩) (.d (D.int .i64 r)) (⟨[], []⟩) := by
  rw [spec_woSize] at h
  refine Ct.of (c := _) mixed func90 ⟨rfl, rfl, rfl⟩ ?_ rfl
  conv => whnf
  obtain ⟨g43, h⟩ := req_ex h
  refine LoopOk.into (spec_woSize_l0_ct  g43 _ _ _ rfl h) [] [] ⟨⟨rfl, rfl⟩, ⟨rfl, trivial⟩, rfl, rfl, rfl, rfl, trivial⟩ ?_ (fun _ hs => hs)
  rintro i ts os ⟨rfl, v24, h, rfl, rfl⟩
  conv => whnf
  refine CutK.go ?_
  conv => whnf
  cases h
  exact Done.of [] [] rfl rfl ⟨⟨rfl, rfl⟩, ⟨rfl, trivial⟩, rfl, trivial⟩

def spec_woGood_l0 (k : Nat) (a1 : Rw) (K0 : Option Bool) : Rw → Nat → Option Bool
  | [], v14n => (K0)
  | cs :: rest, v14n => (cell_bs cs fun x51 x52 => (if x51 = true then ((spec_odGood k x52).bind fun y55 => (if y55 = true then ((spec_odZero x52).bind fun y58 => (if y58 = true then some false else (if (0 : Int) < (v14n : Int) then (row_bs a1 (IntKind.i64.wrap ((v14n : Int) - 1)) fun x62 x63 => (if x62 = true then some false else (spec_woGood_l0 k a1 K0 rest (v14n + 1)))) else (spec_woGood_l0 k a1 K0 rest (v14n + 1))))) else some false)) else ((spec_odGood k x52).bind fun y67 => (if y67 = true then ((spec_odZero x52).bind fun y70 => (if y70 = true then some false else (if (0 : Int) < (v14n : Int) then (row_bs a1 (IntKind.i64.wrap ((v14n : Int) - 1)) fun x74 x75 => (if x74 = true then (spec_woGood_l0 k a1 K0 rest (v14n + 1)) else some false)) else (spec_woGood_l0 k a1 K0 rest (v14n + 1))))) else some false))))
set_option maxRecDepth 100000 in
theorem spec_woGood_l0_ct {k : Nat} {a1 : Rw} {K0 : Option Bool} {r : Bool} (hx : a1.length ≤ cap) : ∀ (rest : Rw) (v14n : Nat), a1.drop v14n = rest → spec_woGood_l0 k a1 K0 rest v14n = some r → LoopOk prog 0 (lp f46 0) (mk 42 [(1, .ptr 64 0), (6, .d (D.sl a1)), (7, .d (D.int .i64 (a1.length : Int))), (8, .d (D.int .i64 (v14n : Int)))] [(64, .box 46 [.d (D.sl a1)])]) (LoopEnd prog f46 0 42 (.d (D.bool r)) (⟨[], []⟩) (fun i ts os => (i = 0 ∧ K0 = some r ∧ ts = [(1, .ptr 64 0)] ∧ os = [(64, .box 46 [.d (D.sl a1)])])))
  | [], v14n, hd, h => by
      rw [spec_woGood_l0] at h
      have hn := drop_nil hd
      refine LoopOk.step ?_
      conv => whnf
      refine splD (fun g => absurd g hn) (fun _ => ?_)
      conv => whnf
      exact ⟨_, _, [some 64], [], ⟨rfl, h, rfl, rfl⟩, ⟨⟨rfl, rfl⟩, ⟨rfl, ⟨rfl, rfl, trivial⟩, trivial⟩, ⟨rfl, rfl⟩, trivial⟩⟩
  | cs :: rest, v14n, hd, h => by
      rw [spec_woGood_l0] at h
      obtain ⟨hrow, hd1, hlt⟩ := drop_cons hd
      refine LoopOk.step ?_
      conv => whnf
      refine splD (fun _ => ?_) (fun g => absurd hlt g)
      conv => whnf
      obtain ⟨x51, x52, e53, h⟩ := cell_bs_ex h
      rw [e53] at hrow
      refine Req.of (Int.natCast_nonneg _) ?_
      refine Row.of _ hrow ?_
      conv => whnf
      refine spl (fun g54 => ?_) (fun g54 => ?_)
      · replace h := iteT h g54
        conv => whnf
        refine Pick.no ?_
        conv => whnf
        obtain ⟨y55, e56, h⟩ := bind_ex h
        refine CallOk.of (spec_odGood_ct e56) ?_
        conv => whnf
        refine spl (fun g57 => ?_) (fun g57 => ?_)
        · replace h := iteT h g57
          conv => whnf
          refine Pick.no ?_
          conv => whnf
          obtain ⟨y58, e59, h⟩ := bind_ex h
          refine CallOk.of (spec_odZero_ct e59) ?_
          conv => whnf
          refine spl (fun g60 => ?_) (fun g60 => ?_)
          · replace h := iteT h g60
            conv => whnf
            refine CutK.norm [1, 6, 7, 8, 37] [64] ?_
            conv => whnf
            cases h
            exact Done.of [] [] rfl rfl ⟨⟨rfl, rfl⟩, ⟨rfl, trivial⟩, rfl, trivial⟩
          · replace h := iteF h g60
            conv => whnf
            refine splD (fun g61 => ?_) (fun g61 => ?_)
            · replace h := iteP h g61
              conv => whnf
              obtain ⟨g65, x62, x63, e64, h⟩ := row_bs_ex h
              refine Req.of g65 ?_
              refine Row.of _ e64 ?_
              conv => whnf
              refine spl (fun g66 => ?_) (fun g66 => ?_)
              · replace h := iteT h g66
                conv => whnf
                refine splT ?_
                conv => whnf
                refine splT ?_
                conv => whnf
                refine CutK.norm [1, 6, 7, 8, 37] [64] ?_
                conv => whnf
                cases h
                exact Done.of [] [] rfl rfl ⟨⟨rfl, rfl⟩, ⟨rfl, trivial⟩, rfl, trivial⟩
              · replace h := iteF h g66
                conv => whnf
                refine splT ?_
                conv => whnf
                refine splF ?_
                conv => whnf
                refine CutK.norm [1, 6, 7, 8, 37] [64] ?_
                conv => whnf
                refine CutK.norm [1, 6, 7, 8] [64] ?_
                conv => whnf
                exact LoopOk.back (spec_woGood_l0_ct hx rest (v14n + 1)  hd1 h) [some 64] [] ⟨⟨rfl, rfl⟩, ⟨rfl, ⟨rfl, rfl, trivial⟩, trivial⟩, ⟨rfl, rfl⟩, rfl, rfl, i64eq (wrap_up hlt hx), trivial⟩
            · replace h := iteN h g61
              conv => whnf
              refine CutK.norm [1, 6, 7, 8, 37] [64] ?_
              conv => whnf
              refine CutK.norm [1, 6, 7, 8] [64] ?_
              conv => whnf
              exact LoopOk.back (spec_woGood_l0_ct hx rest (v14n + 1)  hd1 h) [some 64] [] ⟨⟨rfl, rfl⟩, ⟨rfl, ⟨rfl, rfl, trivial⟩, trivial⟩, ⟨rfl, rfl⟩, rfl, rfl, i64eq (wrap_up hlt hx), trivial⟩
        · replace h := iteF h g57
          conv => whnf
          refine CutK.norm [1, 6, 7, 8, 37] [64] ?_
          conv => whnf
          cases h
          exact Done.of [] [] rfl rfl ⟨⟨rfl, rfl⟩, ⟨rfl, trivial⟩, rfl, trivial⟩
      · replace h := iteF h g54
        conv => whnf
        refine Pick.no ?_
        conv => whnf
        obtain ⟨y67, e68, h⟩ := bind_ex h
        refine CallOk.of (spec_odGood_ct e68) ?_
        conv => whnf
        refine spl (fun g69 => ?_) (fun g69 => ?_)
        · replace h := iteT h g69
          conv => whnf
          refine Pick.no ?_
          conv => whnf
          obtain ⟨y70, e71, h⟩ := bind_ex h
          refine CallOk.of (spec_odZero_ct e71) ?_
          conv => whnf
          refine spl (fun g72 => ?_) (fun g72 => ?_)
          · replace h := iteT h g72
            conv => whnf
            refine CutK.norm [1, 6, 7, 8, 37] [64] ?_
            conv => whnf
            cases h
            exact Done.of [] [] rfl rfl ⟨⟨rfl, rfl⟩, ⟨rfl, trivial⟩, rfl, trivial⟩
          · replace h := iteF h g72
            conv => whnf
            refine splD (fun g73 => ?_) (fun g73 => ?_)
            · replace h := iteP h g73
              conv => whnf
              obtain ⟨g77, x74, x75, e76, h⟩ := row_bs_ex h
              refine Req.of g77 ?_
              refine Row.of _ e76 ?_
              conv => whnf
              refine spl (fun g78 => ?_) (fun g78 => ?_)
              · replace h := iteT h g78
                conv => whnf
                refine splF ?_
                conv => whnf
                refine splF ?_
                conv => whnf
                refine CutK.norm [1, 6, 7, 8, 37] [64] ?_
                conv => whnf
                refine CutK.norm [1, 6, 7, 8] [64] ?_
                conv => whnf
                exact LoopOk.back (spec_woGood_l0_ct hx rest (v14n + 1)  hd1 h) [some 64] [] ⟨⟨rfl, rfl⟩, ⟨rfl, ⟨rfl, rfl, trivial⟩, trivial⟩, ⟨rfl, rfl⟩, rfl, rfl, i64eq (wrap_up hlt hx), trivial⟩
              · replace h := iteF h g78
                conv => whnf
                refine splF ?_
                conv => whnf
                refine splT ?_
                conv => whnf
                refine CutK.norm [1, 6, 7, 8, 37] [64] ?_
                conv => whnf
                cases h
                exact Done.of [] [] rfl rfl ⟨⟨rfl, rfl⟩, ⟨rfl, trivial⟩, rfl, trivial⟩
            · replace h := iteN h g73
              conv => whnf
              refine CutK.norm [1, 6, 7, 8, 37] [64] ?_
              conv => whnf
              refine CutK.norm [1, 6, 7, 8] [64] ?_
              conv => whnf
              exact LoopOk.back (spec_woGood_l0_ct hx rest (v14n + 1)  hd1 h) [some 64] [] ⟨⟨rfl, rfl⟩, ⟨rfl, ⟨rfl, rfl, trivial⟩, trivial⟩, ⟨rfl, rfl⟩, rfl, rfl, i64eq (wrap_up hlt hx), trivial⟩
        · replace h := iteF h g69
          conv => whnf
          refine CutK.norm [1, 6, 7, 8, 37] [64] ?_
          conv => whnf
          cases h
          exact Done.of [] [] rfl rfl ⟨⟨rfl, rfl⟩, ⟨rfl, trivial⟩, rfl, trivial⟩
def spec_woGood (k : Nat) (a1 : Rw) : Option Bool :=
  (if a1.length ≤ cap then (spec_woGood_l0 k a1 ((spec_woSize k a1).bind fun y80 => (if y80 ≤ (60 : Int) then some true else some false)) a1 0) else none)
set_option maxHeartbeats 4000000 in
set_option maxRecDepth 100000 in
theorem spec_woGood_ct {k : Nat} {a1 : Rw} {r : Bool} (h : spec_woGood k a1 = some r) : Ct prog 46 [.agg [.d (D.sl a1)]] (⟨[], []⟩) (.d (D.bool r)) (⟨[], []⟩) := by
  rw [spec_woGood] at h
  refine Ct.of (c := _) mixed func46 ⟨rfl, rfl, rfl⟩ ?_ rfl
  conv => whnf
  obtain ⟨g79, h⟩ := req_ex h
  refine LoopOk.into (spec_woGood_l0_ct  g79 _ _  rfl h) [some 64] [] ⟨⟨rfl, rfl⟩, ⟨rfl, ⟨rfl, rfl, trivial⟩, trivial⟩, ⟨rfl, rfl⟩, rfl, rfl, rfl, trivial⟩ ?_ (fun _ hs => hs)
  rintro i ts os ⟨rfl, h, rfl, rfl⟩
  conv => whnf
  refine CutK.norm [1] [64] ?_
  conv => whnf
  refine Pick.no ?_
  conv => whnf
  obtain ⟨y80, e81, h⟩ := bind_ex h
  refine CallOk.of (spec_woSize_ct e81) ?_
  conv => whnf
  refine splD (fun g82 => ?_) (fun g82 => ?_)
  · replace h := iteP h g82
    conv => whnf
    refine CutK.norm [2] [] ?_
    conv => whnf
    cases h
    exact Done.of [] [] rfl rfl ⟨⟨rfl, rfl⟩, ⟨rfl, trivial⟩, rfl, trivial⟩
  · replace h := iteN h g82
    conv => whnf
    refine CutK.norm [2] [] ?_
    conv => whnf
    cases h
    exact Done.of [] [] rfl rfl ⟨⟨rfl, rfl⟩, ⟨rfl, trivial⟩, rfl, trivial⟩

def spec_ShortOfWord_p4 (o116 : ByteArray) : Option (ByteArray × Bool) :=
  (if (20 : Int) < (o116.size : Int) then some ((ByteArray.mk #[]), false) else some (o116, true))
set_option maxHeartbeats 4000000 in
set_option maxRecDepth 100000 in
theorem spec_ShortOfWord_p4_ct {o116 : ByteArray} {r : ByteArray × Bool} (h : spec_ShortOfWord_p4 o116 = some r) : X prog 0 (tlF f18 4) (mk 47 [(4, .d (D.str o116))] []) (finK prog f18 0 (.tup [.d (D.str r.1), .d (D.bool r.2)]) (⟨[], []⟩)) := by
  rw [spec_ShortOfWord_p4] at h
  conv => whnf
  refine splD (fun g118 => ?_) (fun g118 => ?_)
  · replace h := iteP h g118
    conv => whnf
    cases h
    exact Done.of [] [] rfl rfl ⟨⟨rfl, rfl⟩, ⟨rfl, trivial⟩, ⟨rfl, rfl, trivial⟩, trivial⟩
  · replace h := iteN h g118
    conv => whnf
    cases h
    exact Done.of [] [] rfl rfl ⟨⟨rfl, rfl⟩, ⟨rfl, trivial⟩, ⟨rfl, rfl, trivial⟩, trivial⟩
def spec_ShortOfWord_l1 (a1 : Rw) (v141n : Nat) (x231 : Rw) (K2 : ByteArray → Option (ByteArray × Bool)) : Nat → ByteArray → Int → Option (ByteArray × Bool)
  | 0, _, _ => none
  | n + 1, v242, v243 => (if (0 : Int) < v243 then (if v242.size + (ByteArray.mk #[43]).size ≤ 9223372036854775807 then (spec_ShortOfWord_l1 a1 v141n x231 K2 n (v242 ++ (ByteArray.mk #[43])) (IntKind.i64.wrap (v243 - 1))) else none) else (K2 v242))
set_option maxRecDepth 100000 in
theorem spec_ShortOfWord_l1_ct {a1 : Rw} {v141n : Nat} {x231 : Rw} {K2 : ByteArray → Option (ByteArray × Bool)} {r : ByteArray × Bool} : ∀ (n : Nat) (v242 : ByteArray) (v243 : Int), spec_ShortOfWord_l1 a1 v141n x231 K2 n v242 v243 = some r → LoopOk prog 0 (lp f18 1) (mk 47 [(4, .d (D.str v242)), (6, .ptr 384 0), (7, .d (D.int .i64 v243)), (13, .d (D.sl a1)), (14, .d (D.int .i64 (a1.length : Int))), (15, .d (D.int .i64 (v141n : Int)))] [(384, .box 82 [.d (D.bool true), .d (D.sl x231)])]) (LoopEnd prog f18 0 47 (.tup [.d (D.str r.1), .d (D.bool r.2)]) (⟨[], []⟩) (fun i ts os => (i = 2 ∧ ∃ v246 : ByteArray, K2 v246 = some r ∧ ts = [(4, .d (D.str v246)), (13, .d (D.sl a1)), (14, .d (D.int .i64 (a1.length : Int))), (15, .d (D.int .i64 (v141n : Int)))] ∧ os = [])))
  | 0, _, _, h => by
      rw [spec_ShortOfWord_l1] at h; cases h
  | n + 1, v242, v243, h => by
      rw [spec_ShortOfWord_l1] at h
      refine LoopOk.step ?_
      conv => whnf
      refine splD (fun g249 => ?_) (fun g249 => ?_)
      · replace h := iteP h g249
        conv => whnf
        refine splT ?_
        conv => whnf
        obtain ⟨g250, h⟩ := req_ex h
        refine Req.of g250 ?_
        conv => whnf
        exact LoopOk.back (spec_ShortOfWord_l1_ct  n _ _ h) [some 384] [] ⟨⟨rfl, rfl⟩, ⟨rfl, ⟨rfl, rfl, rfl, trivial⟩, trivial⟩, rfl, ⟨rfl, rfl⟩, rfl, rfl, rfl, rfl, trivial⟩
      · replace h := iteN h g249
        conv => whnf
        exact ⟨_, _, [], [], ⟨rfl, _, h, rfl, rfl⟩, ⟨⟨rfl, rfl⟩, ⟨rfl, trivial⟩, rfl, rfl, rfl, rfl, trivial⟩⟩
def spec_ShortOfWord_l1_2 (a1 : Rw) (v141n : Nat) (x231 : Rw) (K2 : ByteArray → Option (ByteArray × Bool)) : Nat → ByteArray → Int → Option (ByteArray × Bool)
  | 0, _, _ => none
  | n + 1, v259, v260 => (if (0 : Int) < v260 then (if v259.size + (ByteArray.mk #[45]).size ≤ 9223372036854775807 then (spec_ShortOfWord_l1_2 a1 v141n x231 K2 n (v259 ++ (ByteArray.mk #[45])) (IntKind.i64.wrap (v260 - 1))) else none) else (K2 v259))
set_option maxRecDepth 100000 in
theorem spec_ShortOfWord_l1_2_ct {a1 : Rw} {v141n : Nat} {x231 : Rw} {K2 : ByteArray → Option (ByteArray × Bool)} {r : ByteArray × Bool} : ∀ (n : Nat) (v259 : ByteArray) (v260 : Int), spec_ShortOfWord_l1_2 a1 v141n x231 K2 n v259 v260 = some r → LoopOk prog 0 (lp f18 1) (mk 47 [(4, .d (D.str v259)), (6, .ptr 384 0), (7, .d (D.int .i64 v260)), (13, .d (D.sl a1)), (14, .d (D.int .i64 (a1.length : Int))), (15, .d (D.int .i64 (v141n : Int)))] [(384, .box 82 [.d (D.bool false), .d (D.sl x231)])]) (LoopEnd prog f18 0 47 (.tup [.d (D.str r.1), .d (D.bool r.2)]) (⟨[], []⟩) (fun i ts os => (i = 2 ∧ ∃ v263 : ByteArray, K2 v263 = some r ∧ ts = [(4, .d (D.str v263)), (13, .d (D.sl a1)), (14, .d (D.int .i64 (a1.length : Int))), (15, .d (D.int .i64 (v141n : Int)))] ∧ os = [])))
  | 0, _, _, h => by
      rw [spec_ShortOfWord_l1_2] at h; cases h
  | n + 1, v259, v260, h => by
      rw [spec_ShortOfWord_l1_2] at h
      refine LoopOk.step ?_
      conv => whnf
      refine splD (fun g266 => ?_) (fun g266 => ?_)
      · replace h := iteP h g266
        conv => whnf
        refine splF ?_
        conv => whnf
        obtain ⟨g267, h⟩ := req_ex h
        refine Req.of g267 ?_
        conv => whnf
        exact LoopOk.back (spec_ShortOfWord_l1_2_ct  n _ _ h) [some 384] [] ⟨⟨rfl, rfl⟩, ⟨rfl, ⟨rfl, rfl, rfl, trivial⟩, trivial⟩, rfl, ⟨rfl, rfl⟩, rfl, rfl, rfl, rfl, trivial⟩
      · replace h := iteN h g266
        conv => whnf
        exact ⟨_, _, [], [], ⟨rfl, _, h, rfl, rfl⟩, ⟨⟨rfl, rfl⟩, ⟨rfl, trivial⟩, rfl, rfl, rfl, rfl, trivial⟩⟩
def spec_ShortOfWord_l0 (k : Nat) (a1 : Rw) (K0 : ByteArray → Option (ByteArray × Bool)) : Rw → Nat → ByteArray → Option (ByteArray × Bool)
  | [], v141n, v140 => (K0 v140)
  | cs :: rest, v141n, v140 => (cell_bs cs fun x230 x231 => (if x230 = true then ((spec_odFinite x231).bind fun y234 => ((spec_odZero y234.2).bind fun y236 => (if y236 = true then (if (20 : Int) < y234.1 then some ((ByteArray.mk #[]), false) else (spec_ShortOfWord_l1 a1 v141n x231 (fun (v246 : ByteArray) => (spec_ShortOfWord_l0 k a1 K0 rest (v141n + 1) v246)) k v140 y234.1)) else some ((ByteArray.mk #[]), false)))) else ((spec_odFinite x231).bind fun y251 => ((spec_odZero y251.2).bind fun y253 => (if y253 = true then (if (20 : Int) < y251.1 then some ((ByteArray.mk #[]), false) else (spec_ShortOfWord_l1_2 a1 v141n x231 (fun (v263 : ByteArray) => (spec_ShortOfWord_l0 k a1 K0 rest (v141n + 1) v263)) k v140 y251.1)) else some ((ByteArray.mk #[]), false))))))
set_option maxRecDepth 100000 in
theorem spec_ShortOfWord_l0_ct {k : Nat} {a1 : Rw} {K0 : ByteArray → Option (ByteArray × Bool)} {r : ByteArray × Bool} (hx : a1.length ≤ cap) : ∀ (rest : Rw) (v141n : Nat) (v140 : ByteArray), a1.drop v141n = rest → spec_ShortOfWord_l0 k a1 K0 rest v141n v140 = some r → LoopOk prog 0 (lp f18 0) (mk 47 [(4, .d (D.str v140)), (13, .d (D.sl a1)), (14, .d (D.int .i64 (a1.length : Int))), (15, .d (D.int .i64 (v141n : Int)))] []) (LoopEnd prog f18 0 47 (.tup [.d (D.str r.1), .d (D.bool r.2)]) (⟨[], []⟩) (fun i ts os => (i = 0 ∧ ∃ v193 : ByteArray, K0 v193 = some r ∧ ts = [(4, .d (D.str v193))] ∧ os = [])))
  | [], v141n, v140, hd, h => by
      rw [spec_ShortOfWord_l0] at h
      have hn := drop_nil hd
      refine LoopOk.step ?_
      conv => whnf
      refine splD (fun g => absurd g hn) (fun _ => ?_)
      conv => whnf
      exact ⟨_, _, [], [], ⟨rfl, _, h, rfl, rfl⟩, ⟨⟨rfl, rfl⟩, ⟨rfl, trivial⟩, rfl, trivial⟩⟩
  | cs :: rest, v141n, v140, hd, h => by
      rw [spec_ShortOfWord_l0] at h
      obtain ⟨hrow, hd1, hlt⟩ := drop_cons hd
      refine LoopOk.step ?_
      conv => whnf
      refine splD (fun _ => ?_) (fun g => absurd hlt g)
      conv => whnf
      obtain ⟨x230, x231, e232, h⟩ := cell_bs_ex h
      rw [e232] at hrow
      refine Req.of (Int.natCast_nonneg _) ?_
      refine Row.of _ hrow ?_
      conv => whnf
      refine spl (fun g233 => ?_) (fun g233 => ?_)
      · replace h := iteT h g233
        conv => whnf
        refine Pick.no ?_
        conv => whnf
        obtain ⟨y234, e235, h⟩ := bind_ex h
        refine CallOk.of (spec_odFinite_ct e235) ?_
        conv => whnf
        refine CutK.norm [4, 6, 7, 8, 13, 14, 15] [384, 512] ?_
        conv => whnf
        refine Pick.no ?_
        conv => whnf
        obtain ⟨y236, e237, h⟩ := bind_ex h
        refine CallOk.of (spec_odZero_ct e237) ?_
        conv => whnf
        refine spl (fun g238 => ?_) (fun g238 => ?_)
        · replace h := iteT h g238
          conv => whnf
          refine splD (fun g239 => ?_) (fun g239 => ?_)
          · replace h := iteP h g239
            conv => whnf
            refine CutK.norm [4, 6, 7, 13, 14, 15, 31] [384] ?_
            conv => whnf
            cases h
            exact Done.of [] [] rfl rfl ⟨⟨rfl, rfl⟩, ⟨rfl, trivial⟩, ⟨rfl, rfl, trivial⟩, trivial⟩
          · replace h := iteN h g239
            conv => whnf
            refine CutK.norm [4, 6, 7, 13, 14, 15, 31] [384] ?_
            conv => whnf
            refine CutK.norm [4, 6, 7, 13, 14, 15] [384] ?_
            conv => whnf
            refine LoopOk.into (spec_ShortOfWord_l1_ct  _ _ _ h) [some 384] [] ⟨⟨rfl, rfl⟩, ⟨rfl, ⟨rfl, rfl, rfl, trivial⟩, trivial⟩, rfl, ⟨rfl, rfl⟩, rfl, rfl, rfl, rfl, trivial⟩ ?_ (fun _ hs => hs)
            rintro i ts os ⟨rfl, v246, h, rfl, rfl⟩
            conv => whnf
            refine CutK.norm [4, 13, 14, 15] [] ?_
            conv => whnf
            exact LoopOk.back (spec_ShortOfWord_l0_ct hx rest (v141n + 1) _ hd1 h) [] [] ⟨⟨rfl, rfl⟩, ⟨rfl, trivial⟩, rfl, rfl, rfl, i64eq (wrap_up hlt hx), trivial⟩
        · replace h := iteF h g238
          conv => whnf
          refine CutK.norm [4, 6, 7, 13, 14, 15, 31] [384] ?_
          conv => whnf
          cases h
          exact Done.of [] [] rfl rfl ⟨⟨rfl, rfl⟩, ⟨rfl, trivial⟩, ⟨rfl, rfl, trivial⟩, trivial⟩
      · replace h := iteF h g233
        conv => whnf
        refine Pick.no ?_
        conv => whnf
        obtain ⟨y251, e252, h⟩ := bind_ex h
        refine CallOk.of (spec_odFinite_ct e252) ?_
        conv => whnf
        refine CutK.norm [4, 6, 7, 8, 13, 14, 15] [384, 512] ?_
        conv => whnf
        refine Pick.no ?_
        conv => whnf
        obtain ⟨y253, e254, h⟩ := bind_ex h
        refine CallOk.of (spec_odZero_ct e254) ?_
        conv => whnf
        refine spl (fun g255 => ?_) (fun g255 => ?_)
        · replace h := iteT h g255
          conv => whnf
          refine splD (fun g256 => ?_) (fun g256 => ?_)
          · replace h := iteP h g256
            conv => whnf
            refine CutK.norm [4, 6, 7, 13, 14, 15, 31] [384] ?_
            conv => whnf
            cases h
            exact Done.of [] [] rfl rfl ⟨⟨rfl, rfl⟩, ⟨rfl, trivial⟩, ⟨rfl, rfl, trivial⟩, trivial⟩
          · replace h := iteN h g256
            conv => whnf
            refine CutK.norm [4, 6, 7, 13, 14, 15, 31] [384] ?_
            conv => whnf
            refine CutK.norm [4, 6, 7, 13, 14, 15] [384] ?_
            conv => whnf
            refine LoopOk.into (spec_ShortOfWord_l1_2_ct  _ _ _ h) [some 384] [] ⟨⟨rfl, rfl⟩, ⟨rfl, ⟨rfl, rfl, rfl, trivial⟩, trivial⟩, rfl, ⟨rfl, rfl⟩, rfl, rfl, rfl, rfl, trivial⟩ ?_ (fun _ hs => hs)
            rintro i ts os ⟨rfl, v263, h, rfl, rfl⟩
            conv => whnf
            refine CutK.norm [4, 13, 14, 15] [] ?_
            conv => whnf
            exact LoopOk.back (spec_ShortOfWord_l0_ct hx rest (v141n + 1) _ hd1 h) [] [] ⟨⟨rfl, rfl⟩, ⟨rfl, trivial⟩, rfl, rfl, rfl, i64eq (wrap_up hlt hx), trivial⟩
        · replace h := iteF h g255
          conv => whnf
          refine CutK.norm [4, 6, 7, 13, 14, 15, 31] [384] ?_
          conv => whnf
          cases h
          exact Done.of [] [] rfl rfl ⟨⟨rfl, rfl⟩, ⟨rfl, trivial⟩, ⟨rfl, rfl, trivial⟩, trivial⟩
def spec_ShortOfWord_p2 (k : Nat) (a1 : Rw) : Option (ByteArray × Bool) :=
  (if a1.length ≤ cap then (spec_ShortOfWord_l0 k a1 (fun (v193 : ByteArray) => (spec_ShortOfWord_p4 v193)) a1 0 (ByteArray.mk #[])) else none)
set_option maxHeartbeats 4000000 in
set_option maxRecDepth 100000 in
theorem spec_ShortOfWord_p2_ct {k : Nat} {a1 : Rw} {r : ByteArray × Bool} (h : spec_ShortOfWord_p2 k a1 = some r) : X prog 0 (tlF f18 2) (mk 47 [(1, .ptr 64 0)] [(64, .box 46 [.d (D.sl a1)])]) (finK prog f18 0 (.tup [.d (D.str r.1), .d (D.bool r.2)]) (⟨[], []⟩)) := by
  rw [spec_ShortOfWord_p2] at h
  conv => whnf
  obtain ⟨g268, h⟩ := req_ex h
  refine LoopOk.into (spec_ShortOfWord_l0_ct  g268 _ _ _ rfl h) [] [] ⟨⟨rfl, rfl⟩, ⟨rfl, trivial⟩, rfl, rfl, rfl, rfl, trivial⟩ ?_ (fun _ hs => hs)
  rintro i ts os ⟨rfl, v193, h, rfl, rfl⟩
  conv => whnf
  exact CutK.piece (spec_ShortOfWord_p4_ct  h) [] [] ⟨⟨rfl, rfl⟩, ⟨rfl, trivial⟩, rfl, trivial⟩
def spec_ShortOfWord (k : Nat) (a1 : Rw) : Option (ByteArray × Bool) :=
  ((spec_woGood k a1).bind fun y269 => (if y269 = true then (spec_ShortOfWord_p2 k a1) else some ((ByteArray.mk #[]), false)))
set_option maxHeartbeats 4000000 in
set_option maxRecDepth 100000 in
theorem spec_ShortOfWord_ct {k : Nat} {a1 : Rw} {r : ByteArray × Bool} (h : spec_ShortOfWord k a1 = some r) : Ct prog 18 [.agg [.d (D.sl a1)]] (⟨[], []⟩) (.tup [.d (D.str r.1), .d (D.bool r.2)]) (⟨[], []⟩) := by
  rw [spec_ShortOfWord] at h
  refine Ct.of (c := _) mixed func18 ⟨rfl, rfl, rfl⟩ ?_ rfl
  conv => whnf
  refine Pick.no ?_
  conv => whnf
  obtain ⟨y269, e270, h⟩ := bind_ex h
  refine CallOk.of (spec_woGood_ct e270) ?_
  conv => whnf
  refine spl (fun g271 => ?_) (fun g271 => ?_)
  · replace h := iteT h g271
    conv => whnf
    refine CutK.norm [1, 11] [64] ?_
    conv => whnf
    exact CutK.piece (spec_ShortOfWord_p2_ct  h) [some 64] [] ⟨⟨rfl, rfl⟩, ⟨rfl, ⟨rfl, rfl, trivial⟩, trivial⟩, ⟨rfl, rfl⟩, trivial⟩
  · replace h := iteF h g271
    conv => whnf
    refine CutK.norm [1, 11] [64] ?_
    conv => whnf
    cases h
    exact Done.of [] [] rfl rfl ⟨⟨rfl, rfl⟩, ⟨rfl, trivial⟩, ⟨rfl, rfl, trivial⟩, trivial⟩

def impl_in  (a1 : Int) (a2 : Int) (a3 : Int) : Option Bool :=
  (if a2 ≤ a1 then (if a1 ≤ a3 then some true else some false) else some false)
set_option maxHeartbeats 4000000 in
set_option maxRecDepth 100000 in
theorem impl_in_ct  {a1 : Int} {a2 : Int} {a3 : Int} {r : Bool} (h : impl_in a1 a2 a3 = some r) : Ct prog 149 [.d (D.int .i64 a1), .d (D.int .i64 a2), .d (D.int .i64 a3)] (⟨[], []⟩) (.d (D.bool r)) (⟨[], []⟩) := by
  rw [impl_in] at h
  refine Ct.of (c := _) mixed func149 ⟨rfl, rfl, rfl⟩ ?_ rfl
  conv => whnf
  refine splD (fun g4 => ?_) (fun g4 => ?_)
  · replace h := iteP h g4
    conv => whnf
    refine splD (fun g5 => ?_) (fun g5 => ?_)
    · replace h := iteP h g5
      conv => whnf
      cases h
      exact Done.of [] [] rfl rfl ⟨⟨rfl, rfl⟩, ⟨rfl, trivial⟩, rfl, trivial⟩
    · replace h := iteN h g5
      conv => whnf
      cases h
      exact Done.of [] [] rfl rfl ⟨⟨rfl, rfl⟩, ⟨rfl, trivial⟩, rfl, trivial⟩
  · replace h := iteN h g4
    conv => whnf
    cases h
    exact Done.of [] [] rfl rfl ⟨⟨rfl, rfl⟩, ⟨rfl, trivial⟩, rfl, trivial⟩

def impl_compare  (a1 : Int) (a2 : Int) : Option Int :=
  (if a1 < a2 then some (-1) else (if a2 < a1 then some 1 else some 0))
set_option maxHeartbeats 4000000 in
set_option maxRecDepth 100000 in
theorem impl_compare_ct  {a1 : Int} {a2 : Int} {r : Int} (h : impl_compare a1 a2 = some r) : Ct prog 76 [.d (D.int .i64 a1), .d (D.int .i64 a2)] (⟨[], []⟩) (.d (D.int .i64 r)) (⟨[], []⟩) := by
  rw [impl_compare] at h
  refine Ct.of (c := _) mixed func76 ⟨rfl, rfl, rfl⟩ ?_ rfl
  conv => whnf
  refine splD (fun g3 => ?_) (fun g3 => ?_)
  · replace h := iteP h g3
    conv => whnf
    cases h
    exact Done.of [] [] rfl rfl ⟨⟨rfl, rfl⟩, ⟨rfl, trivial⟩, rfl, trivial⟩
  · replace h := iteN h g3
    conv => whnf
    refine splD (fun g4 => ?_) (fun g4 => ?_)
    · replace h := iteP h g4
      conv => whnf
      cases h
      exact Done.of [] [] rfl rfl ⟨⟨rfl, rfl⟩, ⟨rfl, trivial⟩, rfl, trivial⟩
    · replace h := iteN h g4
      conv => whnf
      cases h
      exact Done.of [] [] rfl rfl ⟨⟨rfl, rfl⟩, ⟨rfl, trivial⟩, rfl, trivial⟩

def impl_cmpTerms (rec_impl_cmp : Rw → Rw → Option Int) (a1 : Rw) (a2 : Int) (a3 : Rw) (a4 : Int) : Option Int :=
  ((rec_impl_cmp a1 a3).bind fun y5 => (if y5 = (0 : Int) then ((impl_compare a2 a4).bind fun y8 => some y8) else some y5))
set_option maxHeartbeats 4000000 in
set_option maxRecDepth 100000 in
theorem impl_cmpTerms_ct {rec_impl_cmp : Rw → Rw → Option Int} (hrec_impl_cmp : ∀ (a1 : Rw) (a2 : Rw) (r : Int), rec_impl_cmp a1 a2 = some r → Ct prog 51 [.agg [.d (D.sl a1)], .agg [.d (D.sl a2)]] (⟨[], []⟩) (.d (D.int .i64 r)) (⟨[], []⟩)) {a1 : Rw} {a2 : Int} {a3 : Rw} {a4 : Int} {r : Int} (h : impl_cmpTerms rec_impl_cmp a1 a2 a3 a4 = some r) : Ct prog 95 [.agg [.d (D.sl a1), .d (D.int .i64 a2)], .agg [.d (D.sl a3), .d (D.int .i64 a4)]] (⟨[], []⟩) (.d (D.int .i64 r)) (⟨[], []⟩) := by
  rw [impl_cmpTerms] at h
  refine Ct.of (c := _) mixed func95 ⟨rfl, rfl, rfl⟩ ?_ rfl
  conv => whnf
  refine Pick.no ?_
  conv => whnf
  obtain ⟨y5, e6, h⟩ := bind_ex h
  refine CallOk.of (hrec_impl_cmp _ _ _ e6) ?_
  conv => whnf
  refine CutK.go ?_
  conv => whnf
  refine splN (fun g7 => ?_) (fun g7 => ?_)
  · replace h := iteN h g7
    conv => whnf
    cases h
    exact Done.of [] [] rfl rfl ⟨⟨rfl, rfl⟩, ⟨rfl, trivial⟩, rfl, trivial⟩
  · replace h := iteP h g7
    conv => whnf
    refine CutK.go ?_
    conv => whnf
    refine Pick.no ?_
    conv => whnf
    obtain ⟨y8, e9, h⟩ := bind_ex h
    refine CallOk.of (impl_compare_ct e9) ?_
    conv => whnf
    refine CutK.go ?_
    conv => whnf
    cases h
    exact Done.of [] [] rfl rfl ⟨⟨rfl, rfl⟩, ⟨rfl, trivial⟩, rfl, trivial⟩

def slices_CompareFunc__cmpTerms_l0 (rec_impl_cmp : Rw → Rw → Option Int) (a1 : Rw) (a2 : Rw) (K0 : Option Int) : Rw → Nat → Option Int
  | [], v16n => (K0)
  | cs :: rest, v16n => (cell_si cs fun x30 x31 => (if (a2.length : Int) ≤ (v16n : Int) then some 1 else (row_si a2 (v16n : Int) fun x34 x35 => ((impl_cmpTerms rec_impl_cmp x30 x31 x34 x35).bind fun y38 => (if y38 = (0 : Int) then (slices_CompareFunc__cmpTerms_l0 rec_impl_cmp a1 a2 K0 rest (v16n + 1)) else some y38)))))
set_option maxRecDepth 100000 in
theorem slices_CompareFunc__cmpTerms_l0_ct {rec_impl_cmp : Rw → Rw → Option Int} {a1 : Rw} {a2 : Rw} {K0 : Option Int} (hrec_impl_cmp : ∀ (a1 : Rw) (a2 : Rw) (r : Int), rec_impl_cmp a1 a2 = some r → Ct prog 51 [.agg [.d (D.sl a1)], .agg [.d (D.sl a2)]] (⟨[], []⟩) (.d (D.int .i64 r)) (⟨[], []⟩)) {r : Int} (hx : a1.length ≤ cap) : ∀ (rest : Rw) (v16n : Nat), a1.drop v16n = rest → slices_CompareFunc__cmpTerms_l0 rec_impl_cmp a1 a2 K0 rest v16n = some r → LoopOk prog 0 (lp f94 0) (mk 39 [(0, .d (D.sl a1)), (1, .d (D.sl a2)), (2, .fn 95 []), (11, .d (D.sl a1)), (12, .d (D.int .i64 (a1.length : Int))), (13, .d (D.int .i64 (v16n : Int)))] []) (LoopEnd prog f94 0 39 (.d (D.int .i64 r)) (⟨[], []⟩) (fun i ts os => (i = 0 ∧ K0 = some r ∧ ts = [(0, .d (D.sl a1)), (1, .d (D.sl a2))] ∧ os = [])))
  | [], v16n, hd, h => by
      rw [slices_CompareFunc__cmpTerms_l0] at h
      have hn := drop_nil hd
      refine LoopOk.step ?_
      conv => whnf
      refine splD (fun g => absurd g hn) (fun _ => ?_)
      conv => whnf
      exact ⟨_, _, [], [], ⟨rfl, h, rfl, rfl⟩, ⟨⟨rfl, rfl⟩, ⟨rfl, trivial⟩, rfl, rfl, trivial⟩⟩
  | cs :: rest, v16n, hd, h => by
      rw [slices_CompareFunc__cmpTerms_l0] at h
      obtain ⟨hrow, hd1, hlt⟩ := drop_cons hd
      refine LoopOk.step ?_
      conv => whnf
      refine splD (fun _ => ?_) (fun g => absurd hlt g)
      conv => whnf
      obtain ⟨x30, x31, e32, h⟩ := cell_si_ex h
      rw [e32] at hrow
      refine Req.of (Int.natCast_nonneg _) ?_
      refine Row.of _ hrow ?_
      conv => whnf
      refine splD (fun g33 => ?_) (fun g33 => ?_)
      · replace h := iteP h g33
        conv => whnf
        cases h
        exact Done.of [] [] rfl rfl ⟨⟨rfl, rfl⟩, ⟨rfl, trivial⟩, rfl, trivial⟩
      · replace h := iteN h g33
        conv => whnf
        obtain ⟨g37, x34, x35, e36, h⟩ := row_si_ex h
        refine Req.of g37 ?_
        refine Row.of _ e36 ?_
        conv => whnf
        refine Pick.no ?_
        conv => whnf
        obtain ⟨y38, e39, h⟩ := bind_ex h
        refine CallOk.of (impl_cmpTerms_ct hrec_impl_cmp e39) ?_
        conv => whnf
        refine CutK.norm [0, 1, 2, 10, 11, 12, 13] [] ?_
        conv => whnf
        refine splN (fun g40 => ?_) (fun g40 => ?_)
        · replace h := iteN h g40
          conv => whnf
          cases h
          exact Done.of [] [] rfl rfl ⟨⟨rfl, rfl⟩, ⟨rfl, trivial⟩, rfl, trivial⟩
        · replace h := iteP h g40
          conv => whnf
          refine CutK.norm [0, 1, 2, 11, 12, 13] [] ?_
          conv => whnf
          exact LoopOk.back (slices_CompareFunc__cmpTerms_l0_ct hrec_impl_cmp hx rest (v16n + 1)  hd1 h) [] [] ⟨⟨rfl, rfl⟩, ⟨rfl, trivial⟩, rfl, rfl, ⟨rfl, trivial⟩, rfl, rfl, i64eq (wrap_up hlt hx), trivial⟩
def slices_CompareFunc__cmpTerms (rec_impl_cmp : Rw → Rw → Option Int) (a1 : Rw) (a2 : Rw) : Option Int :=
  (if a1.length ≤ cap then (slices_CompareFunc__cmpTerms_l0 rec_impl_cmp a1 a2 (if (a1.length : Int) < (a2.length : Int) then some (-1) else some 0) a1 0) else none)
set_option maxHeartbeats 4000000 in
set_option maxRecDepth 100000 in
theorem slices_CompareFunc__cmpTerms_ct {rec_impl_cmp : Rw → Rw → Option Int} (hrec_impl_cmp : ∀ (a1 : Rw) (a2 : Rw) (r : Int), rec_impl_cmp a1 a2 = some r → Ct prog 51 [.agg [.d (D.sl a1)], .agg [.d (D.sl a2)]] (⟨[], []⟩) (.d (D.int .i64 r)) (⟨[], []⟩)) {a1 : Rw} {a2 : Rw} {r : Int} (h : slices_CompareFunc__cmpTerms rec_impl_cmp a1 a2 = some r) : Ct prog 94 [.d (D.sl a1), .d (D.sl a2), .fn 95 []] (⟨[], []⟩) (.d (D.int .i64 r)) (⟨[], []⟩) := by
  rw [slices_CompareFunc__cmpTerms] at h
  refine Ct.of (c := _) mixed func94 ⟨rfl, rfl, rfl⟩ ?_ rfl
  conv => whnf
  obtain ⟨g41, h⟩ := req_ex h
  refine LoopOk.into (slices_CompareFunc__cmpTerms_l0_ct hrec_impl_cmp g41 _ _  rfl h) [] [] ⟨⟨rfl, rfl⟩, ⟨rfl, trivial⟩, rfl, rfl, ⟨rfl, trivial⟩, rfl, rfl, rfl, trivial⟩ ?_ (fun _ hs => hs)
  rintro i ts os ⟨rfl, h, rfl, rfl⟩
  conv => whnf
  refine CutK.norm [0, 1] [] ?_
  conv => whnf
  refine splD (fun g42 => ?_) (fun g42 => ?_)
  · replace h := iteP h g42
    conv => whnf
    cases h
    exact Done.of [] [] rfl rfl ⟨⟨rfl, rfl⟩, ⟨rfl, trivial⟩, rfl, trivial⟩
  · replace h := iteN h g42
    conv => whnf
    cases h
    exact Done.of [] [] rfl rfl ⟨⟨rfl, rfl⟩, ⟨rfl, trivial⟩, rfl, trivial⟩

def impl_cmp_b (rec_impl_cmp : Rw → Rw → Option Int) (a1 : Rw) (a2 : Rw) : Option Int :=
  ((slices_CompareFunc__cmpTerms rec_impl_cmp a1 a2).bind fun y3 => some y3)
set_option maxHeartbeats 4000000 in
set_option maxRecDepth 100000 in
theorem impl_cmp_b_ct {rec_impl_cmp : Rw → Rw → Option Int} (hrec_impl_cmp : ∀ (a1 : Rw) (a2 : Rw) (r : Int), rec_impl_cmp a1 a2 = some r → Ct prog 51 [.agg [.d (D.sl a1)], .agg [.d (D.sl a2)]] (⟨[], []⟩) (.d (D.int .i64 r)) (⟨[], []⟩)) {a1 : Rw} {a2 : Rw} {r : Int} (h : impl_cmp_b rec_impl_cmp a1 a2 = some r) : Ct prog 51 [.agg [.d (D.sl a1)], .agg [.d (D.sl a2)]] (⟨[], []⟩) (.d (D.int .i64 r)) (⟨[], []⟩) := by
  rw [impl_cmp_b] at h
  refine Ct.of (c := _) mixed func51 ⟨rfl, rfl, rfl⟩ ?_ rfl
  conv => whnf
  refine Pick.no ?_
  conv => whnf
  obtain ⟨y3, e4, h⟩ := bind_ex h
  refine CallOk.of (slices_CompareFunc__cmpTerms_ct hrec_impl_cmp e4) ?_
  conv => whnf
  refine CutK.go ?_
  conv => whnf
  cases h
  exact Done.of [] [] rfl rfl ⟨⟨rfl, rfl⟩, ⟨rfl, trivial⟩, rfl, trivial⟩
def impl_cmp : Nat → Rw → Rw → Option Int
  | 0, _, _ => none
  | k + 1, a1, a2 => impl_cmp_b (impl_cmp k) a1 a2
theorem impl_cmp_ct' : ∀ (k : Nat) (a1 : Rw) (a2 : Rw) (r : Int), impl_cmp k a1 a2 = some r → Ct prog 51 [.agg [.d (D.sl a1)], .agg [.d (D.sl a2)]] (⟨[], []⟩) (.d (D.int .i64 r)) (⟨[], []⟩)
  | 0, _, _, _, h => by rw [impl_cmp] at h; cases h
  | k + 1, _, _, _, h => by rw [impl_cmp] at h; exact impl_cmp_b_ct (impl_cmp_ct' k) h
theorem impl_cmp_ct {k : Nat} {a1 : Rw} {a2 : Rw} {r : Int} (h : impl_cmp k a1 a2 = some r) : Ct prog 51 [.agg [.d (D.sl a1)], .agg [.d (D.sl a2)]] (⟨[], []⟩) (.d (D.int .i64 r)) (⟨[], []⟩) := impl_cmp_ct' k _ _ _ h

def impl_ordinalAt_2_p3 (o62 : Int) : Option (Bool × Int) :=
  some (true, o62)
set_option maxHeartbeats 4000000 in
set_option maxRecDepth 100000 in
theorem impl_ordinalAt_2_p3_ct {o62 : Int} {r : Bool × Int} (h : impl_ordinalAt_2_p3 o62 = some r) : X prog 1 (tlF f129 3) (mk 83 [] [(0, .box 3 [.d (D.int .i64 o62)])]) (finK prog f129 1 (.d (D.bool r.1)) (⟨[(3, [.d (D.int .i64 r.2)])], []⟩)) := by
  rw [impl_ordinalAt_2_p3] at h
  conv => whnf
  cases h
  exact Done.of [some 0] [] rfl rfl ⟨⟨rfl, rfl⟩, ⟨rfl, ⟨rfl, rfl, trivial⟩, trivial⟩, rfl, trivial⟩
def impl_ordinalAt_2_l0 (k : Nat) (rec_impl_ordinalAt_2 : Rw → Int → Int → Int → Option (Bool × Int)) (a1 : Rw) (a2 : Int) (a3 : Int) (K0 : Int → Option (Bool × Int)) : Rw → Nat → Int → Option (Bool × Int)
  | [], v77n, v78 => (K0 v78)
  | cs :: rest, v77n, v78 => (cell_si cs fun x120 x121 => (if (60 : Int) < (IntKind.i64.wrap (v78 + 1)) then some (false, IntKind.i64.wrap (v78 + 1)) else ((impl_in x121 1 1000000).bind fun y124 => (if y124 = true then ((rec_impl_ordinalAt_2 x120 x121 (IntKind.i64.wrap (a3 + 1)) (IntKind.i64.wrap (v78 + 1))).bind fun y127 => (if y127.1 = true then (if (0 : Int) < (v77n : Int) then (row_si a1 (IntKind.i64.wrap ((v77n : Int) - 1)) fun x131 x132 => ((impl_cmp k x131 x120).bind fun y135 => (if y135 ≤ (0 : Int) then some (false, y127.2) else (impl_ordinalAt_2_l0 k rec_impl_ordinalAt_2 a1 a2 a3 K0 rest (v77n + 1) y127.2)))) else (impl_ordinalAt_2_l0 k rec_impl_ordinalAt_2 a1 a2 a3 K0 rest (v77n + 1) y127.2)) else some (false, y127.2))) else some (false, IntKind.i64.wrap (v78 + 1))))))
set_option maxRecDepth 100000 in
theorem impl_ordinalAt_2_l0_ct {k : Nat} {rec_impl_ordinalAt_2 : Rw → Int → Int → Int → Option (Bool × Int)} {a1 : Rw} {a2 : Int} {a3 : Int} {K0 : Int → Option (Bool × Int)} (hrec_impl_ordinalAt_2 : ∀ (a1 : Rw) (a2 : Int) (a3 : Int) (a4 : Int) (r : Bool × Int), rec_impl_ordinalAt_2 a1 a2 a3 a4 = some r → Ct prog 129 [.dp [D.sl a1, D.int .i64 a2], .d (D.int .i64 a3), .ptr 0 0] (⟨[(3, [.d (D.int .i64 a4)])], []⟩) (.d (D.bool r.1)) (⟨[(3, [.d (D.int .i64 r.2)])], []⟩)) {r : Bool × Int} (hx : a1.length ≤ cap) : ∀ (rest : Rw) (v77n : Nat) (v78 : Int), a1.drop v77n = rest → impl_ordinalAt_2_l0 k rec_impl_ordinalAt_2 a1 a2 a3 K0 rest v77n v78 = some r → LoopOk prog 1 (lp f129 0) (mk 83 [(0, .dp [D.sl a1, D.int .i64 a2]), (1, .d (D.int .i64 a3)), (2, .ptr 0 0), (26, .d (D.int .i64 (a1.length : Int))), (27, .d (D.int .i64 (v77n : Int)))] [(0, .box 3 [.d (D.int .i64 v78)])]) (LoopEnd prog f129 1 83 (.d (D.bool r.1)) (⟨[(3, [.d (D.int .i64 r.2)])], []⟩) (fun i ts os => (i = 0 ∧ ∃ v99 : Int, K0 v99 = some r ∧ ts = [] ∧ os = [(0, .box 3 [.d (D.int .i64 v99)])])))
  | [], v77n, v78, hd, h => by
      rw [impl_ordinalAt_2_l0] at h
      have hn := drop_nil hd
      refine LoopOk.step ?_
      conv => whnf
      refine splD (fun g => absurd g hn) (fun _ => ?_)
      conv => whnf
      exact ⟨_, _, [some 0], [], ⟨rfl, _, h, rfl, rfl⟩, ⟨⟨rfl, rfl⟩, ⟨rfl, ⟨rfl, rfl, trivial⟩, trivial⟩, trivial⟩⟩
  | cs :: rest, v77n, v78, hd, h => by
      rw [impl_ordinalAt_2_l0] at h
      obtain ⟨hrow, hd1, hlt⟩ := drop_cons hd
      refine LoopOk.step ?_
      conv => whnf
      refine splD (fun _ => ?_) (fun g => absurd hlt g)
      conv => whnf
      obtain ⟨x120, x121, e122, h⟩ := cell_si_ex h
      rw [e122] at hrow
      refine Req.of (Int.natCast_nonneg _) ?_
      refine Row.of _ hrow ?_
      conv => whnf
      refine splD (fun g123 => ?_) (fun g123 => ?_)
      · replace h := iteP h g123
        conv => whnf
        refine CutK.norm [0, 1, 2, 7, 8, 26, 27, 62] [0] ?_
        conv => whnf
        cases h
        exact Done.of [some 0] [] rfl rfl ⟨⟨rfl, rfl⟩, ⟨rfl, ⟨rfl, rfl, trivial⟩, trivial⟩, rfl, trivial⟩
      · replace h := iteN h g123
        conv => whnf
        refine Pick.no ?_
        conv => whnf
        obtain ⟨y124, e125, h⟩ := bind_ex h
        refine CallOk.of (impl_in_ct e125) ?_
        conv => whnf
        refine spl (fun g126 => ?_) (fun g126 => ?_)
        · replace h := iteT h g126
          conv => whnf
          refine Pick.no ?_
          conv => whnf
          obtain ⟨y127, e128, h⟩ := bind_ex h
          refine CallOk.of (hrec_impl_ordinalAt_2 _ _ _ _ _ e128) ?_
          conv => whnf
          refine spl (fun g129 => ?_) (fun g129 => ?_)
          · replace h := iteT h g129
            conv => whnf
            refine CutK.norm [0, 1, 2, 7, 8, 26, 27, 62] [0] ?_
            conv => whnf
            refine CutK.norm [0, 1, 2, 7, 8, 26, 27] [0] ?_
            conv => whnf
            refine splD (fun g130 => ?_) (fun g130 => ?_)
            · replace h := iteP h g130
              conv => whnf
              obtain ⟨g134, x131, x132, e133, h⟩ := row_si_ex h
              refine Req.of g134 ?_
              refine Row.of _ e133 ?_
              conv => whnf
              refine Pick.no ?_
              conv => whnf
              obtain ⟨y135, e136, h⟩ := bind_ex h
              refine CallOk.of (impl_cmp_ct e136) ?_
              conv => whnf
              refine splD (fun g137 => ?_) (fun g137 => ?_)
              · replace h := iteP h g137
                conv => whnf
                refine CutK.norm [0, 1, 2, 26, 27, 81] [0] ?_
                conv => whnf
                cases h
                exact Done.of [some 0] [] rfl rfl ⟨⟨rfl, rfl⟩, ⟨rfl, ⟨rfl, rfl, trivial⟩, trivial⟩, rfl, trivial⟩
              · replace h := iteN h g137
                conv => whnf
                refine CutK.norm [0, 1, 2, 26, 27, 81] [0] ?_
                conv => whnf
                refine CutK.norm [0, 1, 2, 26, 27] [0] ?_
                conv => whnf
                exact LoopOk.back (impl_ordinalAt_2_l0_ct hrec_impl_ordinalAt_2 hx rest (v77n + 1) _ hd1 h) [some 0] [] ⟨⟨rfl, rfl⟩, ⟨rfl, ⟨rfl, rfl, trivial⟩, trivial⟩, rfl, rfl, ⟨rfl, rfl⟩, rfl, i64eq (wrap_up hlt hx), trivial⟩
            · replace h := iteN h g130
              conv => whnf
              refine CutK.norm [0, 1, 2, 26, 27, 81] [0] ?_
              conv => whnf
              refine CutK.norm [0, 1, 2, 26, 27] [0] ?_
              conv => whnf
              exact LoopOk.back (impl_ordinalAt_2_l0_ct hrec_impl_ordinalAt_2 hx rest (v77n + 1) _ hd1 h) [some 0] [] ⟨⟨rfl, rfl⟩, ⟨rfl, ⟨rfl, rfl, trivial⟩, trivial⟩, rfl, rfl, ⟨rfl, rfl⟩, rfl, i64eq (wrap_up hlt hx), trivial⟩
          · replace h := iteF h g129
            conv => whnf
            refine CutK.norm [0, 1, 2, 7, 8, 26, 27, 62] [0] ?_
            conv => whnf
            cases h
            exact Done.of [some 0] [] rfl rfl ⟨⟨rfl, rfl⟩, ⟨rfl, ⟨rfl, rfl, trivial⟩, trivial⟩, rfl, trivial⟩
        · replace h := iteF h g126
          conv => whnf
          refine CutK.norm [0, 1, 2, 7, 8, 26, 27, 62] [0] ?_
          conv => whnf
          cases h
          exact Done.of [some 0] [] rfl rfl ⟨⟨rfl, rfl⟩, ⟨rfl, ⟨rfl, rfl, trivial⟩, trivial⟩, rfl, trivial⟩
def impl_ordinalAt_2_b (k : Nat) (rec_impl_ordinalAt_2 : Rw → Int → Int → Int → Option (Bool × Int)) (a1 : Rw) (a2 : Int) (a3 : Int) (a4 : Int) : Option (Bool × Int) :=
  (if (60 : Int) < (IntKind.i64.wrap (a4 + 1)) then some (false, IntKind.i64.wrap (a4 + 1)) else (if (6 : Int) < a3 then some (false, IntKind.i64.wrap (a4 + 1)) else (if a1.length ≤ cap then (impl_ordinalAt_2_l0 k rec_impl_ordinalAt_2 a1 a2 a3 (fun (v99 : Int) => (impl_ordinalAt_2_p3 v99)) a1 0 (IntKind.i64.wrap (a4 + 1))) else none)))
set_option maxHeartbeats 4000000 in
set_option maxRecDepth 100000 in
theorem impl_ordinalAt_2_b_ct {k : Nat} {rec_impl_ordinalAt_2 : Rw → Int → Int → Int → Option (Bool × Int)} (hrec_impl_ordinalAt_2 : ∀ (a1 : Rw) (a2 : Int) (a3 : Int) (a4 : Int) (r : Bool × Int), rec_impl_ordinalAt_2 a1 a2 a3 a4 = some r → Ct prog 129 [.dp [D.sl a1, D.int .i64 a2], .d (D.int .i64 a3), .ptr 0 0] (⟨[(3, [.d (D.int .i64 a4)])], []⟩) (.d (D.bool r.1)) (⟨[(3, [.d (D.int .i64 r.2)])], []⟩)) {a1 : Rw} {a2 : Int} {a3 : Int} {a4 : Int} {r : Bool × Int} (h : impl_ordinalAt_2_b k rec_impl_ordinalAt_2 a1 a2 a3 a4 = some r) : Ct prog 129 [.dp [D.sl a1, D.int .i64 a2], .d (D.int .i64 a3), .ptr 0 0] (⟨[(3, [.d (D.int .i64 a4)])], []⟩) (.d (D.bool r.1)) (⟨[(3, [.d (D.int .i64 r.2)])], []⟩) := by
  rw [impl_ordinalAt_2_b] at h
  refine Ct.of (c := _) mixed func129 ⟨rfl, rfl, rfl⟩ ?_ rfl
  conv => whnf
  refine splD (fun g63 => ?_) (fun g63 => ?_)
  · replace h := iteP h g63
    conv => whnf
    cases h
    exact Done.of [some 0] [] rfl rfl ⟨⟨rfl, rfl⟩, ⟨rfl, ⟨rfl, rfl, trivial⟩, trivial⟩, rfl, trivial⟩
  · replace h := iteN h g63
    conv => whnf
    refine splD (fun g64 => ?_) (fun g64 => ?_)
    · replace h := iteP h g64
      conv => whnf
      cases h
      exact Done.of [some 0] [] rfl rfl ⟨⟨rfl, rfl⟩, ⟨rfl, ⟨rfl, rfl, trivial⟩, trivial⟩, rfl, trivial⟩
    · replace h := iteN h g64
      conv => whnf
      obtain ⟨g138, h⟩ := req_ex h
      refine LoopOk.into (impl_ordinalAt_2_l0_ct hrec_impl_ordinalAt_2 g138 _ _ _ rfl h) [some 0] [] ⟨⟨rfl, rfl⟩, ⟨rfl, ⟨rfl, rfl, trivial⟩, trivial⟩, rfl, rfl, ⟨rfl, rfl⟩, rfl, rfl, trivial⟩ ?_ (fun _ hs => hs)
      rintro i ts os ⟨rfl, v99, h, rfl, rfl⟩
      conv => whnf
      exact CutK.piece (impl_ordinalAt_2_p3_ct  h) [some 0] [] ⟨⟨rfl, rfl⟩, ⟨rfl, ⟨rfl, rfl, trivial⟩, trivial⟩, trivial⟩
def impl_ordinalAt_2 : Nat → Rw → Int → Int → Int → Option (Bool × Int)
  | 0, _, _, _, _ => none
  | k + 1, a1, a2, a3, a4 => impl_ordinalAt_2_b k (impl_ordinalAt_2 k) a1 a2 a3 a4
theorem impl_ordinalAt_2_ct' : ∀ (k : Nat) (a1 : Rw) (a2 : Int) (a3 : Int) (a4 : Int) (r : Bool × Int), impl_ordinalAt_2 k a1 a2 a3 a4 = some r → Ct prog 129 [.dp [D.sl a1, D.int .i64 a2], .d (D.int .i64 a3), .ptr 0 0] (⟨[(3, [.d (D.int .i64 a4)])], []⟩) (.d (D.bool r.1)) (⟨[(3, [.d (D.int .i64 r.2)])], []⟩)
  | 0, _, _, _, _, _, h => by rw [impl_ordinalAt_2] at h; cases h
  | k + 1, _, _, _, _, _, h => by rw [impl_ordinalAt_2] at h; exact impl_ordinalAt_2_b_ct (impl_ordinalAt_2_ct' k) h
theorem impl_ordinalAt_2_ct {k : Nat} {a1 : Rw} {a2 : Int} {a3 : Int} {a4 : Int} {r : Bool × Int} (h : impl_ordinalAt_2 k a1 a2 a3 a4 = some r) : Ct prog 129 [.dp [D.sl a1, D.int .i64 a2], .d (D.int .i64 a3), .ptr 0 0] (⟨[(3, [.d (D.int .i64 a4)])], []⟩) (.d (D.bool r.1)) (⟨[(3, [.d (D.int .i64 r.2)])], []⟩) := impl_ordinalAt_2_ct' k _ _ _ _ _ h

def impl_ordinalAt_p3 (a1 : Rw) (o61 : Int) : Option (Bool × Rw × Int) :=
  some (true, a1, o61)
set_option maxHeartbeats 4000000 in
set_option maxRecDepth 100000 in
theorem impl_ordinalAt_p3_ct {a1 : Rw} {o61 : Int} {r : Bool × Rw × Int} (h : impl_ordinalAt_p3 a1 o61 = some r) : X prog 2 (tlF f129 3) (mk 83 [] [(0, .box 80 [.d (D.sl a1)]), (64, .box 3 [.d (D.int .i64 o61)])]) (finK prog f129 2 (.d (D.bool r.1)) (⟨[(80, [.d (D.sl r.2.1)]), (3, [.d (D.int .i64 r.2.2)])], []⟩)) := by
  rw [impl_ordinalAt_p3] at h
  conv => whnf
  cases h
  exact Done.of [some 0, some 64] [] rfl rfl ⟨⟨rfl, rfl⟩, ⟨rfl, ⟨rfl, rfl, trivial⟩, ⟨rfl, rfl, trivial⟩, trivial⟩, rfl, trivial⟩
def impl_ordinalAt_l0 (k : Nat) (a1 : Rw) (a2 : Int) (K0 : Int → Option (Bool × Rw × Int)) : Rw → Nat → Int → Option (Bool × Rw × Int)
  | [], v76n, v77 => (K0 v77)
  | cs :: rest, v76n, v77 => (cell_si cs fun x119 x120 => (if (60 : Int) < (IntKind.i64.wrap (v77 + 1)) then some (false, a1, IntKind.i64.wrap (v77 + 1)) else ((impl_in x120 1 1000000).bind fun y123 => (if y123 = true then ((impl_ordinalAt_2 k x119 x120 (IntKind.i64.wrap (a2 + 1)) (IntKind.i64.wrap (v77 + 1))).bind fun y126 => (if y126.1 = true then (if (0 : Int) < (v76n : Int) then (row_si a1 (IntKind.i64.wrap ((v76n : Int) - 1)) fun x130 x131 => ((impl_cmp k x130 x119).bind fun y134 => (if y134 ≤ (0 : Int) then some (false, a1, y126.2) else (impl_ordinalAt_l0 k a1 a2 K0 rest (v76n + 1) y126.2)))) else (impl_ordinalAt_l0 k a1 a2 K0 rest (v76n + 1) y126.2)) else some (false, a1, y126.2))) else some (false, a1, IntKind.i64.wrap (v77 + 1))))))
set_option maxRecDepth 100000 in
theorem impl_ordinalAt_l0_ct {k : Nat} {a1 : Rw} {a2 : Int} {K0 : Int → Option (Bool × Rw × Int)} {r : Bool × Rw × Int} (hx : a1.length ≤ cap) : ∀ (rest : Rw) (v76n : Nat) (v77 : Int), a1.drop v76n = rest → impl_ordinalAt_l0 k a1 a2 K0 rest v76n v77 = some r → LoopOk prog 2 (lp f129 0) (mk 83 [(0, .ptr 0 0), (1, .d (D.int .i64 a2)), (2, .ptr 64 0), (26, .d (D.int .i64 (a1.length : Int))), (27, .d (D.int .i64 (v76n : Int)))] [(0, .box 80 [.d (D.sl a1)]), (64, .box 3 [.d (D.int .i64 v77)])]) (LoopEnd prog f129 2 83 (.d (D.bool r.1)) (⟨[(80, [.d (D.sl r.2.1)]), (3, [.d (D.int .i64 r.2.2)])], []⟩) (fun i ts os => (i = 0 ∧ ∃ v98 : Int, K0 v98 = some r ∧ ts = [] ∧ os = [(0, .box 80 [.d (D.sl a1)]), (64, .box 3 [.d (D.int .i64 v98)])])))
  | [], v76n, v77, hd, h => by
      rw [impl_ordinalAt_l0] at h
      have hn := drop_nil hd
      refine LoopOk.step ?_
      conv => whnf
      refine splD (fun g => absurd g hn) (fun _ => ?_)
      conv => whnf
      exact ⟨_, _, [some 0, some 64], [], ⟨rfl, _, h, rfl, rfl⟩, ⟨⟨rfl, rfl⟩, ⟨rfl, ⟨rfl, rfl, trivial⟩, ⟨rfl, rfl, trivial⟩, trivial⟩, trivial⟩⟩
  | cs :: rest, v76n, v77, hd, h => by
      rw [impl_ordinalAt_l0] at h
      obtain ⟨hrow, hd1, hlt⟩ := drop_cons hd
      refine LoopOk.step ?_
      conv => whnf
      refine splD (fun _ => ?_) (fun g => absurd hlt g)
      conv => whnf
      obtain ⟨x119, x120, e121, h⟩ := cell_si_ex h
      rw [e121] at hrow
      refine Req.of (Int.natCast_nonneg _) ?_
      refine Row.of _ hrow ?_
      conv => whnf
      refine splD (fun g122 => ?_) (fun g122 => ?_)
      · replace h := iteP h g122
        conv => whnf
        refine CutK.norm [0, 1, 2, 7, 8, 26, 27, 62] [0, 64] ?_
        conv => whnf
        cases h
        exact Done.of [some 0, some 64] [] rfl rfl ⟨⟨rfl, rfl⟩, ⟨rfl, ⟨rfl, rfl, trivial⟩, ⟨rfl, rfl, trivial⟩, trivial⟩, rfl, trivial⟩
      · replace h := iteN h g122
        conv => whnf
        refine Pick.no ?_
        conv => whnf
        obtain ⟨y123, e124, h⟩ := bind_ex h
        refine CallOk.of (impl_in_ct e124) ?_
        conv => whnf
        refine spl (fun g125 => ?_) (fun g125 => ?_)
        · replace h := iteT h g125
          conv => whnf
          refine Pick.no ?_
          conv => whnf
          obtain ⟨y126, e127, h⟩ := bind_ex h
          refine CallOk.of (impl_ordinalAt_2_ct e127) ?_
          conv => whnf
          refine spl (fun g128 => ?_) (fun g128 => ?_)
          · replace h := iteT h g128
            conv => whnf
            refine CutK.norm [0, 1, 2, 7, 8, 26, 27, 62] [0, 64] ?_
            conv => whnf
            refine CutK.norm [0, 1, 2, 7, 8, 26, 27] [0, 64] ?_
            conv => whnf
            refine splD (fun g129 => ?_) (fun g129 => ?_)
            · replace h := iteP h g129
              conv => whnf
              obtain ⟨g133, x130, x131, e132, h⟩ := row_si_ex h
              refine Req.of g133 ?_
              refine Row.of _ e132 ?_
              conv => whnf
              refine Pick.no ?_
              conv => whnf
              obtain ⟨y134, e135, h⟩ := bind_ex h
              refine CallOk.of (impl_cmp_ct e135) ?_
              conv => whnf
              refine splD (fun g136 => ?_) (fun g136 => ?_)
              · replace h := iteP h g136
                conv => whnf
                refine CutK.norm [0, 1, 2, 26, 27, 81] [0, 64] ?_
                conv => whnf
                cases h
                exact Done.of [some 0, some 64] [] rfl rfl ⟨⟨rfl, rfl⟩, ⟨rfl, ⟨rfl, rfl, trivial⟩, ⟨rfl, rfl, trivial⟩, trivial⟩, rfl, trivial⟩
              · replace h := iteN h g136
                conv => whnf
                refine CutK.norm [0, 1, 2, 26, 27, 81] [0, 64] ?_
                conv => whnf
                refine CutK.norm [0, 1, 2, 26, 27] [0, 64] ?_
                conv => whnf
                exact LoopOk.back (impl_ordinalAt_l0_ct hx rest (v76n + 1) _ hd1 h) [some 0, some 64] [] ⟨⟨rfl, rfl⟩, ⟨rfl, ⟨rfl, rfl, trivial⟩, ⟨rfl, rfl, trivial⟩, trivial⟩, ⟨rfl, rfl⟩, rfl, ⟨rfl, rfl⟩, rfl, i64eq (wrap_up hlt hx), trivial⟩
            · replace h := iteN h g129
              conv => whnf
              refine CutK.norm [0, 1, 2, 26, 27, 81] [0, 64] ?_
              conv => whnf
              refine CutK.norm [0, 1, 2, 26, 27] [0, 64] ?_
              conv => whnf
              exact LoopOk.back (impl_ordinalAt_l0_ct hx rest (v76n + 1) _ hd1 h) [some 0, some 64] [] ⟨⟨rfl, rfl⟩, ⟨rfl, ⟨rfl, rfl, trivial⟩, ⟨rfl, rfl, trivial⟩, trivial⟩, ⟨rfl, rfl⟩, rfl, ⟨rfl, rfl⟩, rfl, i64eq (wrap_up hlt hx), trivial⟩
          · replace h := iteF h g128
            conv => whnf
            refine CutK.norm [0, 1, 2, 7, 8, 26, 27, 62] [0, 64] ?_
            conv => whnf
            cases h
            exact Done.of [some 0, some 64] [] rfl rfl ⟨⟨rfl, rfl⟩, ⟨rfl, ⟨rfl, rfl, trivial⟩, ⟨rfl, rfl, trivial⟩, trivial⟩, rfl, trivial⟩
        · replace h := iteF h g125
          conv => whnf
          refine CutK.norm [0, 1, 2, 7, 8, 26, 27, 62] [0, 64] ?_
          conv => whnf
          cases h
          exact Done.of [some 0, some 64] [] rfl rfl ⟨⟨rfl, rfl⟩, ⟨rfl, ⟨rfl, rfl, trivial⟩, ⟨rfl, rfl, trivial⟩, trivial⟩, rfl, trivial⟩
def impl_ordinalAt (k : Nat) (a1 : Rw) (a2 : Int) (a3 : Int) : Option (Bool × Rw × Int) :=
  (if (60 : Int) < (IntKind.i64.wrap (a3 + 1)) then some (false, a1, IntKind.i64.wrap (a3 + 1)) else (if (6 : Int) < a2 then some (false, a1, IntKind.i64.wrap (a3 + 1)) else (if a1.length ≤ cap then (impl_ordinalAt_l0 k a1 a2 (fun (v98 : Int) => (impl_ordinalAt_p3 a1 v98)) a1 0 (IntKind.i64.wrap (a3 + 1))) else none)))
set_option maxHeartbeats 4000000 in
set_option maxRecDepth 100000 in
theorem impl_ordinalAt_ct {k : Nat} {a1 : Rw} {a2 : Int} {a3 : Int} {r : Bool × Rw × Int} (h : impl_ordinalAt k a1 a2 a3 = some r) : Ct prog 129 [.ptr 0 0, .d (D.int .i64 a2), .ptr 64 0] (⟨[(80, [.d (D.sl a1)]), (3, [.d (D.int .i64 a3)])], []⟩) (.d (D.bool r.1)) (⟨[(80, [.d (D.sl r.2.1)]), (3, [.d (D.int .i64 r.2.2)])], []⟩) := by
  rw [impl_ordinalAt] at h
  refine Ct.of (c := _) mixed func129 ⟨rfl, rfl, rfl⟩ ?_ rfl
  conv => whnf
  refine splD (fun g62 => ?_) (fun g62 => ?_)
  · replace h := iteP h g62
    conv => whnf
    cases h
    exact Done.of [some 0, some 64] [] rfl rfl ⟨⟨rfl, rfl⟩, ⟨rfl, ⟨rfl, rfl, trivial⟩, ⟨rfl, rfl, trivial⟩, trivial⟩, rfl, trivial⟩
  · replace h := iteN h g62
    conv => whnf
    refine splD (fun g63 => ?_) (fun g63 => ?_)
    · replace h := iteP h g63
      conv => whnf
      cases h
      exact Done.of [some 0, some 64] [] rfl rfl ⟨⟨rfl, rfl⟩, ⟨rfl, ⟨rfl, rfl, trivial⟩, ⟨rfl, rfl, trivial⟩, trivial⟩, rfl, trivial⟩
    · replace h := iteN h g63
      conv => whnf
      obtain ⟨g137, h⟩ := req_ex h
      refine LoopOk.into (impl_ordinalAt_l0_ct  g137 _ _ _ rfl h) [some 0, some 64] [] ⟨⟨rfl, rfl⟩, ⟨rfl, ⟨rfl, rfl, trivial⟩, ⟨rfl, rfl, trivial⟩, trivial⟩, ⟨rfl, rfl⟩, rfl, ⟨rfl, rfl⟩, rfl, rfl, trivial⟩ ?_ (fun _ hs => hs)
      rintro i ts os ⟨rfl, v98, h, rfl, rfl⟩
      conv => whnf
      exact CutK.piece (impl_ordinalAt_p3_ct  h) [some 0, some 64] [] ⟨⟨rfl, rfl⟩, ⟨rfl, ⟨rfl, rfl, trivial⟩, ⟨rfl, rfl, trivial⟩, trivial⟩, trivial⟩

def impl_NodesOf (k : Nat) (a1 : Rw) : Option (Int × Bool) :=
  ((impl_ordinalAt k a1 0 0).bind fun y2 => (if y2.1 = true then some (y2.2.2, true) else some (0, false)))
set_option maxHeartbeats 4000000 in
set_option maxRecDepth 100000 in
theorem impl_NodesOf_ct {k : Nat} {a1 : Rw} {r : Int × Bool} (h : impl_NodesOf k a1 = some r) : Ct prog 92 [.agg [.d (D.sl a1)]] (⟨[], []⟩) (.tup [.d (D.int .i64 r.1), .d (D.bool r.2)]) (⟨[], []⟩) := by
  rw [impl_NodesOf] at h
  refine Ct.of (c := _) mixed func92 ⟨rfl, rfl, rfl⟩ ?_ rfl
  conv => whnf
  refine Pick.no ?_
  conv => whnf
  obtain ⟨y2, e3, h⟩ := bind_ex h
  refine CallOk.of (impl_ordinalAt_ct e3) ?_
  conv => whnf
  refine spl (fun g4 => ?_) (fun g4 => ?_)
  · replace h := iteT h g4
    conv => whnf
    refine CutK.go ?_
    conv => whnf
    refine CutK.go ?_
    conv => whnf
    cases h
    exact Done.of [] [] rfl rfl ⟨⟨rfl, rfl⟩, ⟨rfl, trivial⟩, ⟨rfl, rfl, trivial⟩, trivial⟩
  · replace h := iteF h g4
    conv => whnf
    refine CutK.go ?_
    conv => whnf
    cases h
    exact Done.of [] [] rfl rfl ⟨⟨rfl, rfl⟩, ⟨rfl, trivial⟩, ⟨rfl, rfl, trivial⟩, trivial⟩

def impl_isZero  (a1 : Rw) : Option Bool :=
  (if (a1.length : Int) = (0 : Int) then some true else some false)
set_option maxHeartbeats 4000000 in
set_option maxRecDepth 100000 in
theorem impl_isZero_ct  {a1 : Rw} {r : Bool} (h : impl_isZero a1 = some r) : Ct prog 93 [.agg [.d (D.sl a1)]] (⟨[], []⟩) (.d (D.bool r)) (⟨[], []⟩) := by
  rw [impl_isZero] at h
  refine Ct.of (c := _) mixed func93 ⟨rfl, rfl, rfl⟩ ?_ rfl
  conv => whnf
  refine splD (fun g2 => ?_) (fun g2 => ?_)
  · replace h := iteP h g2
    conv => whnf
    cases h
    exact Done.of [] [] rfl rfl ⟨⟨rfl, rfl⟩, ⟨rfl, trivial⟩, rfl, trivial⟩
  · replace h := iteN h g2
    conv => whnf
    cases h
    exact Done.of [] [] rfl rfl ⟨⟨rfl, rfl⟩, ⟨rfl, trivial⟩, rfl, trivial⟩

def impl_IsWord_p3  : Option Bool :=
  some true
set_option maxHeartbeats 4000000 in
set_option maxRecDepth 100000 in
theorem impl_IsWord_p3_ct  {r : Bool} (h : impl_IsWord_p3 = some r) : X prog 0 (tlF f50 3) (mk 54 [] []) (finK prog f50 0 (.d (D.bool r)) (⟨[], []⟩)) := by
  rw [impl_IsWord_p3] at h
  conv => whnf
  cases h
  exact Done.of [] [] rfl rfl ⟨⟨rfl, rfl⟩, ⟨rfl, trivial⟩, rfl, trivial⟩
def impl_IsWord_l0 (k : Nat) (a1 : Rw) (K0 : Option Bool) : Rw → Nat → Int → Option Bool
  | [], v70n, v69 => (K0)
  | cs :: rest, v70n, v69 => (cell_bs cs fun x110 x111 => (if x110 = true then ((impl_NodesOf k x111).bind fun y114 => (if y114.2 = true then (if (60 : Int) < (IntKind.i64.wrap (v69 + (IntKind.i64.wrap (y114.1 + 1)))) then some false else ((impl_isZero x111).bind fun y118 => (if y118 = true then some false else (if (0 : Int) < (v70n : Int) then (row_bs a1 (IntKind.i64.wrap ((v70n : Int) - 1)) fun x122 x123 => (if x122 = true then some false else (impl_IsWord_l0 k a1 K0 rest (v70n + 1) (IntKind.i64.wrap (v69 + (IntKind.i64.wrap (y114.1 + 1))))))) else (impl_IsWord_l0 k a1 K0 rest (v70n + 1) (IntKind.i64.wrap (v69 + (IntKind.i64.wrap (y114.1 + 1))))))))) else some false)) else ((impl_NodesOf k x111).bind fun y127 => (if y127.2 = true then (if (60 : Int) < (IntKind.i64.wrap (v69 + (IntKind.i64.wrap (y127.1 + 1)))) then some false else ((impl_isZero x111).bind fun y131 => (if y131 = true then some false else (if (0 : Int) < (v70n : Int) then (row_bs a1 (IntKind.i64.wrap ((v70n : Int) - 1)) fun x135 x136 => (if x135 = true then (impl_IsWord_l0 k a1 K0 rest (v70n + 1) (IntKind.i64.wrap (v69 + (IntKind.i64.wrap (y127.1 + 1))))) else some false)) else (impl_IsWord_l0 k a1 K0 rest (v70n + 1) (IntKind.i64.wrap (v69 + (IntKind.i64.wrap (y127.1 + 1))))))))) else some false))))
set_option maxRecDepth 100000 in
theorem impl_IsWord_l0_ct {k : Nat} {a1 : Rw} {K0 : Option Bool} {r : Bool} (hx : a1.length ≤ cap) : ∀ (rest : Rw) (v70n : Nat) (v69 : Int), a1.drop v70n = rest → impl_IsWord_l0 k a1 K0 rest v70n v69 = some r → LoopOk prog 0 (lp f50 0) (mk 54 [(1, .ptr 64 0), (3, .d (D.int .i64 v69)), (9, .d (D.sl a1)), (10, .d (D.int .i64 (a1.length : Int))), (11, .d (D.int .i64 (v70n : Int)))] [(64, .box 46 [.d (D.sl a1)])]) (LoopEnd prog f50 0 54 (.d (D.bool r)) (⟨[], []⟩) (fun i ts os => (i = 0 ∧ K0 = some r ∧ ts = [] ∧ os = [])))
  | [], v70n, v69, hd, h => by
      rw [impl_IsWord_l0] at h
      have hn := drop_nil hd
      refine LoopOk.step ?_
      conv => whnf
      refine splD (fun g => absurd g hn) (fun _ => ?_)
      conv => whnf
      exact ⟨_, _, [], [], ⟨rfl, h, rfl, rfl⟩, ⟨⟨rfl, rfl⟩, ⟨rfl, trivial⟩, trivial⟩⟩
  | cs :: rest, v70n, v69, hd, h => by
      rw [impl_IsWord_l0] at h
      obtain ⟨hrow, hd1, hlt⟩ := drop_cons hd
      refine LoopOk.step ?_
      conv => whnf
      refine splD (fun _ => ?_) (fun g => absurd hlt g)
      conv => whnf
      obtain ⟨x110, x111, e112, h⟩ := cell_bs_ex h
      rw [e112] at hrow
      refine Req.of (Int.natCast_nonneg _) ?_
      refine Row.of _ hrow ?_
      conv => whnf
      refine spl (fun g113 => ?_) (fun g113 => ?_)
      · replace h := iteT h g113
        conv => whnf
        refine Pick.no ?_
        conv => whnf
        obtain ⟨y114, e115, h⟩ := bind_ex h
        refine CallOk.of (impl_NodesOf_ct e115) ?_
        conv => whnf
        refine spl (fun g116 => ?_) (fun g116 => ?_)
        · replace h := iteT h g116
          conv => whnf
          refine CutK.norm [1, 3, 4, 5, 6, 7, 9, 10, 11] [64, 320] ?_
          conv => whnf
          refine splD (fun g117 => ?_) (fun g117 => ?_)
          · replace h := iteP h g117
            conv => whnf
            refine CutK.norm [1, 3, 9, 10, 11, 52] [64] ?_
            conv => whnf
            cases h
            exact Done.of [] [] rfl rfl ⟨⟨rfl, rfl⟩, ⟨rfl, trivial⟩, rfl, trivial⟩
          · replace h := iteN h g117
            conv => whnf
            refine Pick.no ?_
            conv => whnf
            obtain ⟨y118, e119, h⟩ := bind_ex h
            refine CallOk.of (impl_isZero_ct e119) ?_
            conv => whnf
            refine spl (fun g120 => ?_) (fun g120 => ?_)
            · replace h := iteT h g120
              conv => whnf
              refine CutK.norm [1, 3, 9, 10, 11, 52] [64] ?_
              conv => whnf
              cases h
              exact Done.of [] [] rfl rfl ⟨⟨rfl, rfl⟩, ⟨rfl, trivial⟩, rfl, trivial⟩
            · replace h := iteF h g120
              conv => whnf
              refine splD (fun g121 => ?_) (fun g121 => ?_)
              · replace h := iteP h g121
                conv => whnf
                obtain ⟨g125, x122, x123, e124, h⟩ := row_bs_ex h
                refine Req.of g125 ?_
                refine Row.of _ e124 ?_
                conv => whnf
                refine spl (fun g126 => ?_) (fun g126 => ?_)
                · replace h := iteT h g126
                  conv => whnf
                  refine splT ?_
                  conv => whnf
                  refine splT ?_
                  conv => whnf
                  refine CutK.norm [1, 3, 9, 10, 11, 52] [64] ?_
                  conv => whnf
                  cases h
                  exact Done.of [] [] rfl rfl ⟨⟨rfl, rfl⟩, ⟨rfl, trivial⟩, rfl, trivial⟩
                · replace h := iteF h g126
                  conv => whnf
                  refine splT ?_
                  conv => whnf
                  refine splF ?_
                  conv => whnf
                  refine CutK.norm [1, 3, 9, 10, 11, 52] [64] ?_
                  conv => whnf
                  refine CutK.norm [1, 3, 9, 10, 11] [64] ?_
                  conv => whnf
                  exact LoopOk.back (impl_IsWord_l0_ct hx rest (v70n + 1) _ hd1 h) [some 64] [] ⟨⟨rfl, rfl⟩, ⟨rfl, ⟨rfl, rfl, trivial⟩, trivial⟩, ⟨rfl, rfl⟩, rfl, rfl, rfl, i64eq (wrap_up hlt hx), trivial⟩
              · replace h := iteN h g121
                conv => whnf
                refine CutK.norm [1, 3, 9, 10, 11, 52] [64] ?_
                conv => whnf
                refine CutK.norm [1, 3, 9, 10, 11] [64] ?_
                conv => whnf
                exact LoopOk.back (impl_IsWord_l0_ct hx rest (v70n + 1) _ hd1 h) [some 64] [] ⟨⟨rfl, rfl⟩, ⟨rfl, ⟨rfl, rfl, trivial⟩, trivial⟩, ⟨rfl, rfl⟩, rfl, rfl, rfl, i64eq (wrap_up hlt hx), trivial⟩
        · replace h := iteF h g116
          conv => whnf
          refine CutK.norm [1, 3, 4, 5, 6, 7, 9, 10, 11] [64, 320] ?_
          conv => whnf
          refine CutK.norm [1, 3, 9, 10, 11, 52] [64] ?_
          conv => whnf
          cases h
          exact Done.of [] [] rfl rfl ⟨⟨rfl, rfl⟩, ⟨rfl, trivial⟩, rfl, trivial⟩
      · replace h := iteF h g113
        conv => whnf
        refine Pick.no ?_
        conv => whnf
        obtain ⟨y127, e128, h⟩ := bind_ex h
        refine CallOk.of (impl_NodesOf_ct e128) ?_
        conv => whnf
        refine spl (fun g129 => ?_) (fun g129 => ?_)
        · replace h := iteT h g129
          conv => whnf
          refine CutK.norm [1, 3, 4, 5, 6, 7, 9, 10, 11] [64, 320] ?_
          conv => whnf
          refine splD (fun g130 => ?_) (fun g130 => ?_)
          · replace h := iteP h g130
            conv => whnf
            refine CutK.norm [1, 3, 9, 10, 11, 52] [64] ?_
            conv => whnf
            cases h
            exact Done.of [] [] rfl rfl ⟨⟨rfl, rfl⟩, ⟨rfl, trivial⟩, rfl, trivial⟩
          · replace h := iteN h g130
            conv => whnf
            refine Pick.no ?_
            conv => whnf
            obtain ⟨y131, e132, h⟩ := bind_ex h
            refine CallOk.of (impl_isZero_ct e132) ?_
            conv => whnf
            refine spl (fun g133 => ?_) (fun g133 => ?_)
            · replace h := iteT h g133
              conv => whnf
              refine CutK.norm [1, 3, 9, 10, 11, 52] [64] ?_
              conv => whnf
              cases h
              exact Done.of [] [] rfl rfl ⟨⟨rfl, rfl⟩, ⟨rfl, trivial⟩, rfl, trivial⟩
            · replace h := iteF h g133
              conv => whnf
              refine splD (fun g134 => ?_) (fun g134 => ?_)
              · replace h := iteP h g134
                conv => whnf
                obtain ⟨g138, x135, x136, e137, h⟩ := row_bs_ex h
                refine Req.of g138 ?_
                refine Row.of _ e137 ?_
                conv => whnf
                refine spl (fun g139 => ?_) (fun g139 => ?_)
                · replace h := iteT h g139
                  conv => whnf
                  refine splF ?_
                  conv => whnf
                  refine splF ?_
                  conv => whnf
                  refine CutK.norm [1, 3, 9, 10, 11, 52] [64] ?_
                  conv => whnf
                  refine CutK.norm [1, 3, 9, 10, 11] [64] ?_
                  conv => whnf
                  exact LoopOk.back (impl_IsWord_l0_ct hx rest (v70n + 1) _ hd1 h) [some 64] [] ⟨⟨rfl, rfl⟩, ⟨rfl, ⟨rfl, rfl, trivial⟩, trivial⟩, ⟨rfl, rfl⟩, rfl, rfl, rfl, i64eq (wrap_up hlt hx), trivial⟩
                · replace h := iteF h g139
                  conv => whnf
                  refine splF ?_
                  conv => whnf
                  refine splT ?_
                  conv => whnf
                  refine CutK.norm [1, 3, 9, 10, 11, 52] [64] ?_
                  conv => whnf
                  cases h
                  exact Done.of [] [] rfl rfl ⟨⟨rfl, rfl⟩, ⟨rfl, trivial⟩, rfl, trivial⟩
              · replace h := iteN h g134
                conv => whnf
                refine CutK.norm [1, 3, 9, 10, 11, 52] [64] ?_
                conv => whnf
                refine CutK.norm [1, 3, 9, 10, 11] [64] ?_
                conv => whnf
                exact LoopOk.back (impl_IsWord_l0_ct hx rest (v70n + 1) _ hd1 h) [some 64] [] ⟨⟨rfl, rfl⟩, ⟨rfl, ⟨rfl, rfl, trivial⟩, trivial⟩, ⟨rfl, rfl⟩, rfl, rfl, rfl, i64eq (wrap_up hlt hx), trivial⟩
        · replace h := iteF h g129
          conv => whnf
          refine CutK.norm [1, 3, 4, 5, 6, 7, 9, 10, 11] [64, 320] ?_
          conv => whnf
          refine CutK.norm [1, 3, 9, 10, 11, 52] [64] ?_
          conv => whnf
          cases h
          exact Done.of [] [] rfl rfl ⟨⟨rfl, rfl⟩, ⟨rfl, trivial⟩, rfl, trivial⟩
def impl_IsWord (k : Nat) (a1 : Rw) : Option Bool :=
  (if a1.length ≤ cap then (impl_IsWord_l0 k a1 (impl_IsWord_p3) a1 0 1) else none)
set_option maxHeartbeats 4000000 in
set_option maxRecDepth 100000 in
theorem impl_IsWord_ct {k : Nat} {a1 : Rw} {r : Bool} (h : impl_IsWord k a1 = some r) : Ct prog 50 [.agg [.d (D.sl a1)]] (⟨[], []⟩) (.d (D.bool r)) (⟨[], []⟩) := by
  rw [impl_IsWord] at h
  refine Ct.of (c := _) mixed func50 ⟨rfl, rfl, rfl⟩ ?_ rfl
  conv => whnf
  obtain ⟨g140, h⟩ := req_ex h
  refine LoopOk.into (impl_IsWord_l0_ct  g140 _ _ _ rfl h) [some 64] [] ⟨⟨rfl, rfl⟩, ⟨rfl, ⟨rfl, rfl, trivial⟩, trivial⟩, ⟨rfl, rfl⟩, rfl, rfl, rfl, rfl, trivial⟩ ?_ (fun _ hs => hs)
  rintro i ts os ⟨rfl, h, rfl, rfl⟩
  conv => whnf
  exact CutK.piece (impl_IsWord_p3_ct  h) [] [] ⟨⟨rfl, rfl⟩, ⟨rfl, trivial⟩, trivial⟩

def impl_plus_p4 (a2 : Rw) (o58 : Rw) : Option Rw :=
  (if o58.length + a2.length ≤ cap ∧ (∀ cs ∈ a2, cs.length = 2) then some (o58 ++ a2) else none)
set_option maxHeartbeats 4000000 in
set_option maxRecDepth 100000 in
theorem impl_plus_p4_ct {a2 : Rw} {o58 : Rw} {r : Rw} (h : impl_plus_p4 a2 o58 = some r) : X prog 0 (tlF f96 4) (mk 69 [(3, .ptr 192 0), (4, .ptr 256 0), (5, .ptr 320 0)] [(192, .box 80 [.d (D.sl a2)]), (256, .box 80 [.es]), (320, .box 80 [.os 1084000 o58.length]), (1084000, .arr 92 false o58)]) (finK prog f96 0 (.agg [.d (D.sl r)]) (⟨[], []⟩)) := by
  rw [impl_plus_p4] at h
  conv => whnf
  refine Take.all (rfl) ?_
  conv => whnf
  obtain ⟨g60, h⟩ := req_ex h
  refine Req.of (room (b := 32) (by decide) g60.1 g60.2) ?_
  conv => whnf
  cases h
  exact Done.of [] [4224] rfl rfl ⟨⟨rfl, rfl⟩, ⟨rfl, trivial⟩, ⟨⟨rfl, Nat.le_of_eq (by first | rfl | exact List.length_append.symm | (simp; done) | omega), eq_take (by first | rfl | exact List.length_append.symm | (simp; done) | omega)⟩, trivial⟩, trivial⟩
def impl_plus_l0 (k : Nat) (a1 : Rw) (a2 : Rw) (K0 : Rw → Option Rw) : Rw → Rw → Option Rw
  | [], v74 => (K0 v74)
  | cs :: rest, v74 => (cell_si cs fun x113 x114 => (row_si a2 0 fun x116 x117 => ((impl_cmp k x113 x116).bind fun y120 => (if y120 = (1 : Int) then (if v74.length + 1 ≤ cap then (impl_plus_l0 k a1 a2 K0 rest (v74 ++ ([[D.sl x113, D.int .i64 x114]]))) else none) else (if y120 = (0 : Int) then (if v74.length + 1 ≤ cap then (if 0 ≤ (1 : Int) ∧ (1 : Int) ≤ (a2.length : Int) ∧ (∀ cs ∈ a2, cs.length = 2) then (if (v74 ++ ([[D.sl x113, D.int .i64 (IntKind.i64.wrap (x114 + x117))]])).length + (a2.drop (1 : Int).toNat).length ≤ cap ∧ (∀ cs ∈ (a2.drop (1 : Int).toNat), cs.length = 2) then some ((v74 ++ ([[D.sl x113, D.int .i64 (IntKind.i64.wrap (x114 + x117))]])) ++ (a2.drop (1 : Int).toNat)) else none) else none) else none) else (impl_plus_l0 k a1 a2 K0 rest v74))))))
set_option maxRecDepth 100000 in
theorem impl_plus_l0_ct {k : Nat} {a1 : Rw} {a2 : Rw} {K0 : Rw → Option Rw} {r : Rw} (hx : a1.length ≤ cap) : ∀ (rest : Rw) (v73n : Nat) (v74 : Rw), a1.drop v73n = rest → impl_plus_l0 k a1 a2 K0 rest v74 = some r → LoopOk prog 0 (lp f96 0) (mk 69 [(3, .ptr 192 0), (4, .ptr 256 0), (5, .ptr 320 0), (13, .d (D.sl a1)), (14, .d (D.int .i64 (a1.length : Int))), (15, .d (D.int .i64 (v73n : Int)))] [(192, .box 80 [.d (D.sl a2)]), (256, .box 80 [.es]), (320, .box 80 [.os 64000 v74.length]), (64000, .arr 92 false v74)]) (LoopEnd prog f96 0 69 (.agg [.d (D.sl r)]) (⟨[], []⟩) (fun i ts os => (i = 0 ∧ ∃ v95 : Rw, K0 v95 = some r ∧ ts = [(3, .ptr 192 0), (4, .ptr 256 0), (5, .ptr 320 0)] ∧ os = [(192, .box 80 [.d (D.sl a2)]), (256, .box 80 [.es]), (320, .box 80 [.os 67001 v95.length]), (67001, .arr 92 false v95)])))
  | [], v73n, v74, hd, h => by
      rw [impl_plus_l0] at h
      have hn := drop_nil hd
      refine LoopOk.step ?_
      conv => whnf
      refine splD (fun g => absurd g hn) (fun _ => ?_)
      conv => whnf
      exact ⟨_, _, [some 192, some 256, some 320, some 64000], [], ⟨rfl, _, h, rfl, rfl⟩, ⟨⟨rfl, rfl⟩, ⟨rfl, ⟨rfl, rfl, trivial⟩, ⟨rfl, trivial, trivial⟩, ⟨rfl, ⟨rfl, rfl⟩, trivial⟩, ⟨rfl, rfl, rows_same⟩, trivial⟩, ⟨rfl, rfl⟩, ⟨rfl, rfl⟩, ⟨rfl, rfl⟩, trivial⟩⟩
  | cs :: rest, v73n, v74, hd, h => by
      rw [impl_plus_l0] at h
      obtain ⟨hrow, hd1, hlt⟩ := drop_cons hd
      refine LoopOk.step ?_
      conv => whnf
      refine splD (fun _ => ?_) (fun g => absurd hlt g)
      conv => whnf
      obtain ⟨x113, x114, e115, h⟩ := cell_si_ex h
      rw [e115] at hrow
      refine Req.of (Int.natCast_nonneg _) ?_
      refine Row.of _ hrow ?_
      conv => whnf
      obtain ⟨g119, x116, x117, e118, h⟩ := row_si_ex h
      refine Req.of g119 ?_
      refine Row.of _ e118 ?_
      conv => whnf
      refine Pick.no ?_
      conv => whnf
      obtain ⟨y120, e121, h⟩ := bind_ex h
      refine CallOk.of (impl_cmp_ct e121) ?_
      conv => whnf
      refine CutK.norm [3, 4, 5, 7, 13, 14, 15, 26] [192, 256, 320, 448, 64000] ?_
      conv => whnf
      refine splD (fun g122 => ?_) (fun g122 => ?_)
      · replace h := iteP h g122
        conv => whnf
        refine Take.all (rfl) ?_
        conv => whnf
        refine Take.all (by first | rfl | exact List.length_append.symm | (simp; done) | omega) ?_
        conv => whnf
        obtain ⟨g123, h⟩ := req_ex h
        refine Req.of (room (b := 32) (by decide) g123 (wide1 rfl wide0)) ?_
        conv => whnf
        refine CutK.norm [3, 4, 5, 13, 14, 15] [192, 256, 320, 2112] ?_
        conv => whnf
        exact LoopOk.back (impl_plus_l0_ct hx rest (v73n + 1) _ hd1 h) [some 192, some 256, some 320, some 2112] [] ⟨⟨rfl, rfl⟩, ⟨rfl, ⟨rfl, rfl, trivial⟩, ⟨rfl, trivial, trivial⟩, ⟨rfl, ⟨(by first | rfl | exact List.length_append.symm | (simp; done) | omega), rfl⟩, trivial⟩, ⟨rfl, rfl, rows_same⟩, trivial⟩, ⟨rfl, rfl⟩, ⟨rfl, rfl⟩, ⟨rfl, rfl⟩, rfl, rfl, i64eq (wrap_up hlt hx), trivial⟩
      · replace h := iteN h g122
        conv => whnf
        refine splD (fun g124 => ?_) (fun g124 => ?_)
        · replace h := iteP h g124
          conv => whnf
          refine Req.of g119 ?_
          refine Row.of _ e118 ?_
          conv => whnf
          refine Take.all (rfl) ?_
          conv => whnf
          refine Take.all (by first | rfl | exact List.length_append.symm | (simp; done) | omega) ?_
          conv => whnf
          obtain ⟨g125, h⟩ := req_ex h
          refine Req.of (room (b := 32) (by decide) g125 (wide1 rfl wide0)) ?_
          conv => whnf
          obtain ⟨g126, h⟩ := req_ex h
          refine Req.of g126 ?_
          conv => whnf
          refine Take.all (by first | rfl | exact List.length_append.symm | (simp; done) | omega) ?_
          conv => whnf
          obtain ⟨g127, h⟩ := req_ex h
          refine Req.of (room (b := 32) (by decide) g127.1 g127.2) ?_
          conv => whnf
          cases h
          exact Done.of [] [3712] rfl rfl ⟨⟨rfl, rfl⟩, ⟨rfl, trivial⟩, ⟨⟨rfl, Nat.le_of_eq (by first | rfl | exact List.length_append.symm | (simp; done) | omega), eq_take (by first | rfl | exact List.length_append.symm | (simp; done) | omega)⟩, trivial⟩, trivial⟩
        · replace h := iteN h g124
          conv => whnf
          refine CutK.norm [3, 4, 5, 13, 14, 15] [192, 256, 320, 64000] ?_
          conv => whnf
          exact LoopOk.back (impl_plus_l0_ct hx rest (v73n + 1) _ hd1 h) [some 192, some 256, some 320, some 64000] [] ⟨⟨rfl, rfl⟩, ⟨rfl, ⟨rfl, rfl, trivial⟩, ⟨rfl, trivial, trivial⟩, ⟨rfl, ⟨rfl, rfl⟩, trivial⟩, ⟨rfl, rfl, rows_same⟩, trivial⟩, ⟨rfl, rfl⟩, ⟨rfl, rfl⟩, ⟨rfl, rfl⟩, rfl, rfl, i64eq (wrap_up hlt hx), trivial⟩
def impl_plus_p2 (k : Nat) (a1 : Rw) (a2 : Rw) : Option Rw :=
  (if a1.length ≤ cap then (impl_plus_l0 k a1 a2 (fun (v95 : Rw) => (impl_plus_p4 a2 v95)) a1 ([] : Rw)) else none)
set_option maxHeartbeats 4000000 in
set_option maxRecDepth 100000 in
theorem impl_plus_p2_ct {k : Nat} {a1 : Rw} {a2 : Rw} {r : Rw} (h : impl_plus_p2 k a1 a2 = some r) : X prog 0 (tlF f96 2) (mk 69 [(2, .ptr 128 0), (3, .ptr 192 0), (4, .ptr 256 0)] [(128, .box 80 [.d (D.sl a1)]), (192, .box 80 [.d (D.sl a2)]), (256, .box 80 [.es])]) (finK prog f96 0 (.agg [.d (D.sl r)]) (⟨[], []⟩)) := by
  rw [impl_plus_p2] at h
  conv => whnf
  obtain ⟨g128, h⟩ := req_ex h
  refine LoopOk.into (impl_plus_l0_ct  g128 _ _ _ rfl h) [some 192, some 256, some 320, none] [] ⟨⟨rfl, rfl⟩, ⟨rfl, ⟨rfl, rfl, trivial⟩, ⟨rfl, trivial, trivial⟩, ⟨rfl, ⟨rfl, rfl⟩, trivial⟩, rfl, trivial⟩, ⟨rfl, rfl⟩, ⟨rfl, rfl⟩, ⟨rfl, rfl⟩, rfl, rfl, rfl, trivial⟩ ?_ (fun _ hs => hs)
  rintro i ts os ⟨rfl, v95, h, rfl, rfl⟩
  conv => whnf
  exact CutK.piece (impl_plus_p4_ct  h) [some 192, some 256, some 320, some 67001] [] ⟨⟨rfl, rfl⟩, ⟨rfl, ⟨rfl, rfl, trivial⟩, ⟨rfl, trivial, trivial⟩, ⟨rfl, ⟨rfl, rfl⟩, trivial⟩, ⟨rfl, rfl, rows_same⟩, trivial⟩, ⟨rfl, rfl⟩, ⟨rfl, rfl⟩, ⟨rfl, rfl⟩, trivial⟩
def impl_plus (k : Nat) (a1 : Rw) (a2 : Rw) : Option Rw :=
  ((impl_isZero a2).bind fun y129 => (if y129 = true then some a1 else (impl_plus_p2 k a1 a2)))
set_option maxHeartbeats 4000000 in
set_option maxRecDepth 100000 in
theorem impl_plus_ct {k : Nat} {a1 : Rw} {a2 : Rw} {r : Rw} (h : impl_plus k a1 a2 = some r) : Ct prog 96 [.agg [.d (D.sl a1)], .agg [.d (D.sl a2)]] (⟨[], []⟩) (.agg [.d (D.sl r)]) (⟨[], []⟩) := by
  rw [impl_plus] at h
  refine Ct.of (c := _) mixed func96 ⟨rfl, rfl, rfl⟩ ?_ rfl
  conv => whnf
  refine Pick.no ?_
  conv => whnf
  obtain ⟨y129, e130, h⟩ := bind_ex h
  refine CallOk.of (impl_isZero_ct e130) ?_
  conv => whnf
  refine spl (fun g131 => ?_) (fun g131 => ?_)
  · replace h := iteT h g131
    conv => whnf
    refine CutK.norm [2, 3, 4, 9] [128, 192, 256] ?_
    conv => whnf
    cases h
    exact Done.of [] [] rfl rfl ⟨⟨rfl, rfl⟩, ⟨rfl, trivial⟩, ⟨rfl, trivial⟩, trivial⟩
  · replace h := iteF h g131
    conv => whnf
    refine CutK.norm [2, 3, 4, 9] [128, 192, 256] ?_
    conv => whnf
    exact CutK.piece (impl_plus_p2_ct  h) [some 128, some 192, some 256] [] ⟨⟨rfl, rfl⟩, ⟨rfl, ⟨rfl, rfl, trivial⟩, ⟨rfl, rfl, trivial⟩, ⟨rfl, trivial, trivial⟩, trivial⟩, ⟨rfl, rfl⟩, ⟨rfl, rfl⟩, ⟨rfl, rfl⟩, trivial⟩

def impl_lengthOf_l0 (k : Nat) (a1 : Rw) (K0 : Rw → Option Rw) : Rw → Rw → Option Rw
  | [], v12 => (K0 v12)
  | cs :: rest, v12 => (cell_bs cs fun x36 x37 => (if x36 = true then ((impl_plus k v12 x37).bind fun y40 => (impl_lengthOf_l0 k a1 K0 rest y40)) else ((impl_plus k v12 x37).bind fun y42 => (impl_lengthOf_l0 k a1 K0 rest y42))))
set_option maxRecDepth 100000 in
theorem impl_lengthOf_l0_ct {k : Nat} {a1 : Rw} {K0 : Rw → Option Rw} {r : Rw} (hx : a1.length ≤ cap) : ∀ (rest : Rw) (v11n : Nat) (v12 : Rw), a1.drop v11n = rest → impl_lengthOf_l0 k a1 K0 rest v12 = some r → LoopOk prog 0 (lp f52 0) (mk 28 [(1, .d (D.bool false)), (4, .ptr 256 0), (5, .ptr 320 0), (10, .d (D.sl a1)), (11, .d (D.int .i64 (a1.length : Int))), (12, .d (D.int .i64 (v11n : Int)))] [(256, .box 80 [.es]), (320, .box 80 [.d (D.sl v12)])]) (LoopEnd prog f52 0 28 (.agg [.d (D.sl r)]) (⟨[], []⟩) (fun i ts os => (i = 0 ∧ ∃ v25 : Rw, K0 v25 = some r ∧ ts = [(4, .ptr 256 0), (5, .ptr 320 0)] ∧ os = [(256, .box 80 [.es]), (320, .box 80 [.d (D.sl v25)])])))
  | [], v11n, v12, hd, h => by
      rw [impl_lengthOf_l0] at h
      have hn := drop_nil hd
      refine LoopOk.step ?_
      conv => whnf
      refine splD (fun g => absurd g hn) (fun _ => ?_)
      conv => whnf
      exact ⟨_, _, [some 256, some 320], [], ⟨rfl, _, h, rfl, rfl⟩, ⟨⟨rfl, rfl⟩, ⟨rfl, ⟨rfl, trivial, trivial⟩, ⟨rfl, rfl, trivial⟩, trivial⟩, ⟨rfl, rfl⟩, ⟨rfl, rfl⟩, trivial⟩⟩
  | cs :: rest, v11n, v12, hd, h => by
      rw [impl_lengthOf_l0] at h
      obtain ⟨hrow, hd1, hlt⟩ := drop_cons hd
      refine LoopOk.step ?_
      conv => whnf
      refine splD (fun _ => ?_) (fun g => absurd hlt g)
      conv => whnf
      obtain ⟨x36, x37, e38, h⟩ := cell_bs_ex h
      rw [e38] at hrow
      refine Req.of (Int.natCast_nonneg _) ?_
      refine Row.of _ hrow ?_
      conv => whnf
      refine spl (fun g39 => ?_) (fun g39 => ?_)
      · replace h := iteT h g39
        conv => whnf
        refine splT ?_
        conv => whnf
        refine Pick.no ?_
        conv => whnf
        obtain ⟨y40, e41, h⟩ := bind_ex h
        refine CallOk.of (impl_plus_ct e41) ?_
        conv => whnf
        refine CutK.go ?_
        conv => whnf
        exact LoopOk.back (impl_lengthOf_l0_ct hx rest (v11n + 1) _ hd1 h) [some 256, some 320] [] ⟨⟨rfl, rfl⟩, ⟨rfl, ⟨rfl, trivial, trivial⟩, ⟨rfl, rfl, trivial⟩, trivial⟩, rfl, ⟨rfl, rfl⟩, ⟨rfl, rfl⟩, rfl, rfl, i64eq (wrap_up hlt hx), trivial⟩
      · replace h := iteF h g39
        conv => whnf
        refine splF ?_
        conv => whnf
        refine Pick.no ?_
        conv => whnf
        obtain ⟨y42, e43, h⟩ := bind_ex h
        refine CallOk.of (impl_plus_ct e43) ?_
        conv => whnf
        refine CutK.go ?_
        conv => whnf
        exact LoopOk.back (impl_lengthOf_l0_ct hx rest (v11n + 1) _ hd1 h) [some 256, some 320] [] ⟨⟨rfl, rfl⟩, ⟨rfl, ⟨rfl, trivial, trivial⟩, ⟨rfl, rfl, trivial⟩, trivial⟩, rfl, ⟨rfl, rfl⟩, ⟨rfl, rfl⟩, rfl, rfl, i64eq (wrap_up hlt hx), trivial⟩
def impl_lengthOf_l0_2 (k : Nat) (a1 : Rw) (K0 : Rw → Option Rw) : Rw → Rw → Option Rw
  | [], v54 => (K0 v54)
  | cs :: rest, v54 => (cell_bs cs fun x72 x73 => (if x72 = true then ((impl_plus k v54 x73).bind fun y76 => (impl_lengthOf_l0_2 k a1 K0 rest y76)) else (impl_lengthOf_l0_2 k a1 K0 rest v54)))
set_option maxRecDepth 100000 in
theorem impl_lengthOf_l0_2_ct {k : Nat} {a1 : Rw} {K0 : Rw → Option Rw} {r : Rw} (hx : a1.length ≤ cap) : ∀ (rest : Rw) (v53n : Nat) (v54 : Rw), a1.drop v53n = rest → impl_lengthOf_l0_2 k a1 K0 rest v54 = some r → LoopOk prog 0 (lp f52 0) (mk 28 [(1, .d (D.bool true)), (4, .ptr 256 0), (5, .ptr 320 0), (10, .d (D.sl a1)), (11, .d (D.int .i64 (a1.length : Int))), (12, .d (D.int .i64 (v53n : Int)))] [(256, .box 80 [.es]), (320, .box 80 [.d (D.sl v54)])]) (LoopEnd prog f52 0 28 (.agg [.d (D.sl r)]) (⟨[], []⟩) (fun i ts os => (i = 0 ∧ ∃ v63 : Rw, K0 v63 = some r ∧ ts = [(4, .ptr 256 0), (5, .ptr 320 0)] ∧ os = [(256, .box 80 [.es]), (320, .box 80 [.d (D.sl v63)])])))
  | [], v53n, v54, hd, h => by
      rw [impl_lengthOf_l0_2] at h
      have hn := drop_nil hd
      refine LoopOk.step ?_
      conv => whnf
      refine splD (fun g => absurd g hn) (fun _ => ?_)
      conv => whnf
      exact ⟨_, _, [some 256, some 320], [], ⟨rfl, _, h, rfl, rfl⟩, ⟨⟨rfl, rfl⟩, ⟨rfl, ⟨rfl, trivial, trivial⟩, ⟨rfl, rfl, trivial⟩, trivial⟩, ⟨rfl, rfl⟩, ⟨rfl, rfl⟩, trivial⟩⟩
  | cs :: rest, v53n, v54, hd, h => by
      rw [impl_lengthOf_l0_2] at h
      obtain ⟨hrow, hd1, hlt⟩ := drop_cons hd
      refine LoopOk.step ?_
      conv => whnf
      refine splD (fun _ => ?_) (fun g => absurd hlt g)
      conv => whnf
      obtain ⟨x72, x73, e74, h⟩ := cell_bs_ex h
      rw [e74] at hrow
      refine Req.of (Int.natCast_nonneg _) ?_
      refine Row.of _ hrow ?_
      conv => whnf
      refine spl (fun g75 => ?_) (fun g75 => ?_)
      · replace h := iteT h g75
        conv => whnf
        refine splT ?_
        conv => whnf
        refine Pick.no ?_
        conv => whnf
        obtain ⟨y76, e77, h⟩ := bind_ex h
        refine CallOk.of (impl_plus_ct e77) ?_
        conv => whnf
        refine CutK.go ?_
        conv => whnf
        exact LoopOk.back (impl_lengthOf_l0_2_ct hx rest (v53n + 1) _ hd1 h) [some 256, some 320] [] ⟨⟨rfl, rfl⟩, ⟨rfl, ⟨rfl, trivial, trivial⟩, ⟨rfl, rfl, trivial⟩, trivial⟩, rfl, ⟨rfl, rfl⟩, ⟨rfl, rfl⟩, rfl, rfl, i64eq (wrap_up hlt hx), trivial⟩
      · replace h := iteF h g75
        conv => whnf
        refine splF ?_
        conv => whnf
        refine CutK.go ?_
        conv => whnf
        exact LoopOk.back (impl_lengthOf_l0_2_ct hx rest (v53n + 1) _ hd1 h) [some 256, some 320] [] ⟨⟨rfl, rfl⟩, ⟨rfl, ⟨rfl, trivial, trivial⟩, ⟨rfl, rfl, trivial⟩, trivial⟩, rfl, ⟨rfl, rfl⟩, ⟨rfl, rfl⟩, rfl, rfl, i64eq (wrap_up hlt hx), trivial⟩
def impl_lengthOf (k : Nat) (a1 : Rw) (a2 : Bool) : Option Rw :=
  (cond a2 (if a1.length ≤ cap then (impl_lengthOf_l0_2 k a1 (fun (v63 : Rw) => some v63) a1 ([] : Rw)) else none) (if a1.length ≤ cap then (impl_lengthOf_l0 k a1 (fun (v25 : Rw) => some v25) a1 ([] : Rw)) else none))
set_option maxHeartbeats 4000000 in
set_option maxRecDepth 100000 in
theorem impl_lengthOf_ct {k : Nat} {a1 : Rw} {a2 : Bool} {r : Rw} (h : impl_lengthOf k a1 a2 = some r) : Ct prog 52 [.agg [.d (D.sl a1)], .d (D.bool a2)] (⟨[], []⟩) (.agg [.d (D.sl r)]) (⟨[], []⟩) := by
  rw [impl_lengthOf] at h
  refine Ct.of (c := _) mixed func52 ⟨rfl, rfl, rfl⟩ ?_ rfl
  cases a2
  · replace h := condF h
    conv => whnf
    obtain ⟨g44, h⟩ := req_ex h
    refine LoopOk.into (impl_lengthOf_l0_ct  g44 _ _ _ rfl h) [some 256, some 320] [] ⟨⟨rfl, rfl⟩, ⟨rfl, ⟨rfl, trivial, trivial⟩, ⟨rfl, rfl, trivial⟩, trivial⟩, rfl, ⟨rfl, rfl⟩, ⟨rfl, rfl⟩, rfl, rfl, rfl, trivial⟩ ?_ (fun _ hs => hs)
    rintro i ts os ⟨rfl, v25, h, rfl, rfl⟩
    conv => whnf
    refine CutK.go ?_
    conv => whnf
    cases h
    exact Done.of [] [] rfl rfl ⟨⟨rfl, rfl⟩, ⟨rfl, trivial⟩, ⟨rfl, trivial⟩, trivial⟩
  · replace h := condT h
    conv => whnf
    obtain ⟨g78, h⟩ := req_ex h
    refine LoopOk.into (impl_lengthOf_l0_2_ct  g78 _ _ _ rfl h) [some 256, some 320] [] ⟨⟨rfl, rfl⟩, ⟨rfl, ⟨rfl, trivial, trivial⟩, ⟨rfl, rfl, trivial⟩, trivial⟩, rfl, ⟨rfl, rfl⟩, ⟨rfl, rfl⟩, rfl, rfl, rfl, trivial⟩ ?_ (fun _ hs => hs)
    rintro i ts os ⟨rfl, v63, h, rfl, rfl⟩
    conv => whnf
    refine CutK.go ?_
    conv => whnf
    cases h
    exact Done.of [] [] rfl rfl ⟨⟨rfl, rfl⟩, ⟨rfl, trivial⟩, ⟨rfl, trivial⟩, trivial⟩

def impl_finite  (a1 : Int) : Option Rw :=
  (if a1 = (0 : Int) then some ([] : Rw) else some ([[D.sl ([]), D.int .i64 a1]] : Rw))
set_option maxHeartbeats 4000000 in
set_option maxRecDepth 100000 in
theorem impl_finite_ct  {a1 : Int} {r : Rw} (h : impl_finite a1 = some r) : Ct prog 53 [.d (D.int .i64 a1)] (⟨[], []⟩) (.agg [.os 8 r.length]) (⟨[], [(92, true, r)]⟩) := by
  rw [impl_finite] at h
  refine Ct.of (c := _) mixed func53 ⟨rfl, rfl, rfl⟩ ?_ rfl
  conv => whnf
  refine splD (fun g2 => ?_) (fun g2 => ?_)
  · replace h := iteP h g2
    conv => whnf
    cases h
    exact Done.of [none] [] rfl rfl ⟨⟨rfl, rfl⟩, ⟨rfl, rfl, trivial⟩, ⟨⟨rfl, rfl⟩, trivial⟩, trivial⟩
  · replace h := iteN h g2
    conv => whnf
    cases h
    exact Done.of [some 512] [] rfl rfl ⟨⟨rfl, rfl⟩, ⟨rfl, ⟨rfl, rfl, rows_same⟩, trivial⟩, ⟨⟨(by first | rfl | exact List.length_append.symm | (simp; done) | omega), rfl⟩, trivial⟩, trivial⟩

def lib_Repeat (a1 : ByteArray) (a2 : Int) : Option ByteArray := if 0 ≤ a2 ∧ a2 ≤ 9223372036854775807 ∧ a1.size * a2.toNat ≤ 140737488355328 then some ⟨(Lib.repeatL a1.data.toList a2.toNat).toArray⟩ else none
theorem lib_Repeat_ct {a1 : ByteArray} {a2 : Int} {r : ByteArray} (h : lib_Repeat a1 a2 = some r) : Ct prog 54 [.d (.str a1), .d (.int .i64 a2)] ⟨[], []⟩ (.d (.str r)) ⟨[], []⟩ := by
  rw [lib_Repeat] at h
  obtain ⟨g, h⟩ := req_ex h
  cases h
  refine Ct.lib ⟨_, func54, rfl, rfl⟩ fun w M vs hs hr => ?_
  obtain ⟨v, u, rfl, hv, hu⟩ := repL_two hr
  rw [rep_str hv, rep_int hu, show a2 = ((a2.toNat : Nat) : Int) by omega]
  exact (strings_Repeat a1 a2.toNat w (by omega) g.2.2).mono fun e w' h => h

def impl_ShortOfWord_l0 (a1 : Rw) (K0 : ByteArray → Option (ByteArray × Bool)) : Rw → ByteArray → Option (ByteArray × Bool)
  | [], v25 => (K0 v25)
  | cs :: rest, v25 => (cell_bs cs fun x75 x76 => (if x75 = true then (row_si x76 0 fun x79 x80 => ((lib_Repeat (ByteArray.mk #[43]) x80).bind fun y83 => (if v25.size + y83.size ≤ 9223372036854775807 then (impl_ShortOfWord_l0 a1 K0 rest (v25 ++ y83)) else none))) else (row_si x76 0 fun x86 x87 => ((lib_Repeat (ByteArray.mk #[45]) x87).bind fun y90 => (if v25.size + y90.size ≤ 9223372036854775807 then (impl_ShortOfWord_l0 a1 K0 rest (v25 ++ y90)) else none)))))
set_option maxRecDepth 100000 in
theorem impl_ShortOfWord_l0_ct {a1 : Rw} {K0 : ByteArray → Option (ByteArray × Bool)} {r : ByteArray × Bool} (hx : a1.length ≤ cap) : ∀ (rest : Rw) (v26n : Nat) (v25 : ByteArray), a1.drop v26n = rest → impl_ShortOfWord_l0 a1 K0 rest v25 = some r → LoopOk prog 0 (lp f20 0) (mk 39 [(4, .d (D.str v25)), (19, .d (D.sl a1)), (20, .d (D.int .i64 (a1.length : Int))), (21, .d (D.int .i64 (v26n : Int)))] []) (LoopEnd prog f20 0 39 (.tup [.d (D.str r.1), .d (D.bool r.2)]) (⟨[], []⟩) (fun i ts os => (i = 0 ∧ ∃ v54 : ByteArray, K0 v54 = some r ∧ ts = [(4, .d (D.str v54))] ∧ os = [])))
  | [], v26n, v25, hd, h => by
      rw [impl_ShortOfWord_l0] at h
      have hn := drop_nil hd
      refine LoopOk.step ?_
      conv => whnf
      refine splD (fun g => absurd g hn) (fun _ => ?_)
      conv => whnf
      exact ⟨_, _, [], [], ⟨rfl, _, h, rfl, rfl⟩, ⟨⟨rfl, rfl⟩, ⟨rfl, trivial⟩, rfl, trivial⟩⟩
  | cs :: rest, v26n, v25, hd, h => by
      rw [impl_ShortOfWord_l0] at h
      obtain ⟨hrow, hd1, hlt⟩ := drop_cons hd
      refine LoopOk.step ?_
      conv => whnf
      refine splD (fun _ => ?_) (fun g => absurd hlt g)
      conv => whnf
      obtain ⟨x75, x76, e77, h⟩ := cell_bs_ex h
      rw [e77] at hrow
      refine Req.of (Int.natCast_nonneg _) ?_
      refine Row.of _ hrow ?_
      conv => whnf
      refine spl (fun g78 => ?_) (fun g78 => ?_)
      · replace h := iteT h g78
        conv => whnf
        refine splT ?_
        conv => whnf
        obtain ⟨g82, x79, x80, e81, h⟩ := row_si_ex h
        refine Req.of g82 ?_
        refine Row.of _ e81 ?_
        conv => whnf
        refine Pick.no ?_
        conv => whnf
        obtain ⟨y83, e84, h⟩ := bind_ex h
        refine CallOk.of (lib_Repeat_ct e84) ?_
        conv => whnf
        obtain ⟨g85, h⟩ := req_ex h
        refine Req.of g85 ?_
        conv => whnf
        refine CutK.norm [4, 19, 20, 21] [] ?_
        conv => whnf
        exact LoopOk.back (impl_ShortOfWord_l0_ct hx rest (v26n + 1) _ hd1 h) [] [] ⟨⟨rfl, rfl⟩, ⟨rfl, trivial⟩, rfl, rfl, rfl, i64eq (wrap_up hlt hx), trivial⟩
      · replace h := iteF h g78
        conv => whnf
        refine splF ?_
        conv => whnf
        obtain ⟨g89, x86, x87, e88, h⟩ := row_si_ex h
        refine Req.of g89 ?_
        refine Row.of _ e88 ?_
        conv => whnf
        refine Pick.no ?_
        conv => whnf
        obtain ⟨y90, e91, h⟩ := bind_ex h
        refine CallOk.of (lib_Repeat_ct e91) ?_
        conv => whnf
        obtain ⟨g92, h⟩ := req_ex h
        refine Req.of g92 ?_
        conv => whnf
        refine CutK.norm [4, 19, 20, 21] [] ?_
        conv => whnf
        exact LoopOk.back (impl_ShortOfWord_l0_ct hx rest (v26n + 1) _ hd1 h) [] [] ⟨⟨rfl, rfl⟩, ⟨rfl, trivial⟩, rfl, rfl, rfl, i64eq (wrap_up hlt hx), trivial⟩
def impl_ShortOfWord (k : Nat) (a1 : Rw) : Option (ByteArray × Bool) :=
  ((impl_IsWord k a1).bind fun y2 => (if y2 = true then ((impl_lengthOf k a1 false).bind fun y5 => ((impl_finite 20).bind fun y7 => ((impl_cmp k y5 y7).bind fun y9 => (if (0 : Int) < y9 then some ((ByteArray.mk #[]), false) else (if a1.length ≤ cap then (impl_ShortOfWord_l0 a1 (fun (v54 : ByteArray) => some (v54, true)) a1 (ByteArray.mk #[])) else none))))) else some ((ByteArray.mk #[]), false)))
set_option maxHeartbeats 4000000 in
set_option maxRecDepth 100000 in
theorem impl_ShortOfWord_ct {k : Nat} {a1 : Rw} {r : ByteArray × Bool} (h : impl_ShortOfWord k a1 = some r) : Ct prog 20 [.agg [.d (D.sl a1)]] (⟨[], []⟩) (.tup [.d (D.str r.1), .d (D.bool r.2)]) (⟨[], []⟩) := by
  rw [impl_ShortOfWord] at h
  refine Ct.of (c := _) mixed func20 ⟨rfl, rfl, rfl⟩ ?_ rfl
  conv => whnf
  refine Pick.no ?_
  conv => whnf
  obtain ⟨y2, e3, h⟩ := bind_ex h
  refine CallOk.of (impl_IsWord_ct e3) ?_
  conv => whnf
  refine spl (fun g4 => ?_) (fun g4 => ?_)
  · replace h := iteT h g4
    conv => whnf
    refine Pick.no ?_
    conv => whnf
    obtain ⟨y5, e6, h⟩ := bind_ex h
    refine CallOk.of (impl_lengthOf_ct e6) ?_
    conv => whnf
    refine Pick.no ?_
    conv => whnf
    obtain ⟨y7, e8, h⟩ := bind_ex h
    refine CallOk.of (impl_finite_ct e8) ?_
    conv => whnf
    refine Pick.no ?_
    conv => whnf
    refine Take.all (rfl) ?_
    conv => whnf
    obtain ⟨y9, e10, h⟩ := bind_ex h
    refine CallOk.of (impl_cmp_ct e10) ?_
    conv => whnf
    refine splD (fun g11 => ?_) (fun g11 => ?_)
    · replace h := iteP h g11
      conv => whnf
      refine CutK.norm [1, 17] [64] ?_
      conv => whnf
      cases h
      exact Done.of [] [] rfl rfl ⟨⟨rfl, rfl⟩, ⟨rfl, trivial⟩, ⟨rfl, rfl, trivial⟩, trivial⟩
    · replace h := iteN h g11
      conv => whnf
      refine CutK.norm [1, 17] [64] ?_
      conv => whnf
      refine CutK.norm [1] [64] ?_
      conv => whnf
      obtain ⟨g93, h⟩ := req_ex h
      refine LoopOk.into (impl_ShortOfWord_l0_ct  g93 _ _ _ rfl h) [] [] ⟨⟨rfl, rfl⟩, ⟨rfl, trivial⟩, rfl, rfl, rfl, rfl, trivial⟩ ?_ (fun _ hs => hs)
      rintro i ts os ⟨rfl, v54, h, rfl, rfl⟩
      conv => whnf
      refine CutK.norm [4] [] ?_
      conv => whnf
      cases h
      exact Done.of [] [] rfl rfl ⟨⟨rfl, rfl⟩, ⟨rfl, trivial⟩, ⟨rfl, rfl, trivial⟩, trivial⟩
  · replace h := iteF h g4
    conv => whnf
    refine CutK.norm [1, 17] [64] ?_
    conv => whnf
    cases h
    exact Done.of [] [] rfl rfl ⟨⟨rfl, rfl⟩, ⟨rfl, trivial⟩, ⟨rfl, rfl, trivial⟩, trivial⟩

def laws_eqOrdinalTerm (rec_laws_eqOrdinal : Rw → Rw → Option Bool) (a1 : Rw) (a2 : Int) (a3 : Rw) (a4 : Int) : Option Bool :=
  ((rec_laws_eqOrdinal a1 a3).bind fun y5 => (if y5 = true then (if a2 = a4 then some true else some false) else some false))
set_option maxHeartbeats 4000000 in
set_option maxRecDepth 100000 in
theorem laws_eqOrdinalTerm_ct {rec_laws_eqOrdinal : Rw → Rw → Option Bool} (hrec_laws_eqOrdinal : ∀ (a1 : Rw) (a2 : Rw) (r : Bool), rec_laws_eqOrdinal a1 a2 = some r → Ct prog 135 [.agg [.d (D.sl a1)], .agg [.d (D.sl a2)]] (⟨[], []⟩) (.d (D.bool r)) (⟨[], []⟩)) {a1 : Rw} {a2 : Int} {a3 : Rw} {a4 : Int} {r : Bool} (h : laws_eqOrdinalTerm rec_laws_eqOrdinal a1 a2 a3 a4 = some r) : Ct prog 165 [.agg [.d (D.sl a1), .d (D.int .i64 a2)], .agg [.d (D.sl a3), .d (D.int .i64 a4)]] (⟨[], []⟩) (.d (D.bool r)) (⟨[], []⟩) := by
  rw [laws_eqOrdinalTerm] at h
  refine Ct.of (c := _) mixed func165 ⟨rfl, rfl, rfl⟩ ?_ rfl
  conv => whnf
  refine Pick.no ?_
  conv => whnf
  obtain ⟨y5, e6, h⟩ := bind_ex h
  refine CallOk.of (hrec_laws_eqOrdinal _ _ _ e6) ?_
  conv => whnf
  refine spl (fun g7 => ?_) (fun g7 => ?_)
  · replace h := iteT h g7
    conv => whnf
    refine CutK.go ?_
    conv => whnf
    refine CutK.go ?_
    conv => whnf
    refine splN (fun g8 => ?_) (fun g8 => ?_)
    · replace h := iteN h g8
      conv => whnf
      cases h
      exact Done.of [] [] rfl rfl ⟨⟨rfl, rfl⟩, ⟨rfl, trivial⟩, rfl, trivial⟩
    · replace h := iteP h g8
      conv => whnf
      cases h
      exact Done.of [] [] rfl rfl ⟨⟨rfl, rfl⟩, ⟨rfl, trivial⟩, rfl, trivial⟩
  · replace h := iteF h g7
    conv => whnf
    refine CutK.go ?_
    conv => whnf
    cases h
    exact Done.of [] [] rfl rfl ⟨⟨rfl, rfl⟩, ⟨rfl, trivial⟩, rfl, trivial⟩

def laws_eqOrdinalTermS_l0 (rec_laws_eqOrdinal : Rw → Rw → Option Bool) (a1 : Rw) (a2 : Rw) (K0 : Option Bool) : Rw → Nat → Option Bool
  | [], v16n => (K0)
  | cs :: rest, v16n => (cell_si cs fun x29 x30 => (row_si a2 (v16n : Int) fun x32 x33 => ((laws_eqOrdinalTerm rec_laws_eqOrdinal x29 x30 x32 x33).bind fun y36 => (if y36 = true then (laws_eqOrdinalTermS_l0 rec_laws_eqOrdinal a1 a2 K0 rest (v16n + 1)) else some false))))
set_option maxRecDepth 100000 in
theorem laws_eqOrdinalTermS_l0_ct {rec_laws_eqOrdinal : Rw → Rw → Option Bool} {a1 : Rw} {a2 : Rw} {K0 : Option Bool} (hrec_laws_eqOrdinal : ∀ (a1 : Rw) (a2 : Rw) (r : Bool), rec_laws_eqOrdinal a1 a2 = some r → Ct prog 135 [.agg [.d (D.sl a1)], .agg [.d (D.sl a2)]] (⟨[], []⟩) (.d (D.bool r)) (⟨[], []⟩)) {r : Bool} (hx : a1.length ≤ cap) : ∀ (rest : Rw) (v16n : Nat), a1.drop v16n = rest → laws_eqOrdinalTermS_l0 rec_laws_eqOrdinal a1 a2 K0 rest v16n = some r → LoopOk prog 0 (lp f155 0) (mk 27 [(0, .d (D.sl a1)), (1, .d (D.sl a2)), (5, .d (D.int .i64 (v16n : Int)))] []) (LoopEnd prog f155 0 27 (.d (D.bool r)) (⟨[], []⟩) (fun i ts os => (i = 0 ∧ K0 = some r ∧ ts = [] ∧ os = [])))
  | [], v16n, hd, h => by
      rw [laws_eqOrdinalTermS_l0] at h
      have hn := drop_nil hd
      refine LoopOk.step ?_
      conv => whnf
      refine splD (fun g => absurd g hn) (fun _ => ?_)
      conv => whnf
      exact ⟨_, _, [], [], ⟨rfl, h, rfl, rfl⟩, ⟨⟨rfl, rfl⟩, ⟨rfl, trivial⟩, trivial⟩⟩
  | cs :: rest, v16n, hd, h => by
      rw [laws_eqOrdinalTermS_l0] at h
      obtain ⟨hrow, hd1, hlt⟩ := drop_cons hd
      refine LoopOk.step ?_
      conv => whnf
      refine splD (fun _ => ?_) (fun g => absurd hlt g)
      conv => whnf
      obtain ⟨x29, x30, e31, h⟩ := cell_si_ex h
      rw [e31] at hrow
      refine Req.of (Int.natCast_nonneg _) ?_
      refine Row.of _ hrow ?_
      conv => whnf
      obtain ⟨g35, x32, x33, e34, h⟩ := row_si_ex h
      refine Req.of g35 ?_
      refine Row.of _ e34 ?_
      conv => whnf
      refine Pick.no ?_
      conv => whnf
      obtain ⟨y36, e37, h⟩ := bind_ex h
      refine CallOk.of (laws_eqOrdinalTerm_ct hrec_laws_eqOrdinal e37) ?_
      conv => whnf
      refine spl (fun g38 => ?_) (fun g38 => ?_)
      · replace h := iteT h g38
        conv => whnf
        refine CutK.go ?_
        conv => whnf
        refine CutK.go ?_
        conv => whnf
        exact LoopOk.back (laws_eqOrdinalTermS_l0_ct hrec_laws_eqOrdinal hx rest (v16n + 1)  hd1 h) [] [] ⟨⟨rfl, rfl⟩, ⟨rfl, trivial⟩, rfl, rfl, i64eq (wrap_up hlt hx), trivial⟩
      · replace h := iteF h g38
        conv => whnf
        refine CutK.go ?_
        conv => whnf
        cases h
        exact Done.of [] [] rfl rfl ⟨⟨rfl, rfl⟩, ⟨rfl, trivial⟩, rfl, trivial⟩
def laws_eqOrdinalTermS (rec_laws_eqOrdinal : Rw → Rw → Option Bool) (a1 : Rw) (a2 : Rw) : Option Bool :=
  (if (a1.length : Int) = (a2.length : Int) then (if a1.length ≤ cap then (laws_eqOrdinalTermS_l0 rec_laws_eqOrdinal a1 a2 (some true) a1 0) else none) else some false)
set_option maxHeartbeats 4000000 in
set_option maxRecDepth 100000 in
theorem laws_eqOrdinalTermS_ct {rec_laws_eqOrdinal : Rw → Rw → Option Bool} (hrec_laws_eqOrdinal : ∀ (a1 : Rw) (a2 : Rw) (r : Bool), rec_laws_eqOrdinal a1 a2 = some r → Ct prog 135 [.agg [.d (D.sl a1)], .agg [.d (D.sl a2)]] (⟨[], []⟩) (.d (D.bool r)) (⟨[], []⟩)) {a1 : Rw} {a2 : Rw} {r : Bool} (h : laws_eqOrdinalTermS rec_laws_eqOrdinal a1 a2 = some r) : Ct prog 155 [.d (D.sl a1), .d (D.sl a2)] (⟨[], []⟩) (.d (D.bool r)) (⟨[], []⟩) := by
  rw [laws_eqOrdinalTermS] at h
  refine Ct.of (c := _) mixed func155 ⟨rfl, rfl, rfl⟩ ?_ rfl
  conv => whnf
  refine splN (fun g3 => ?_) (fun g3 => ?_)
  · replace h := iteN h g3
    conv => whnf
    cases h
    exact Done.of [] [] rfl rfl ⟨⟨rfl, rfl⟩, ⟨rfl, trivial⟩, rfl, trivial⟩
  · replace h := iteP h g3
    conv => whnf
    obtain ⟨g39, h⟩ := req_ex h
    refine LoopOk.into (laws_eqOrdinalTermS_l0_ct hrec_laws_eqOrdinal g39 _ _  rfl h) [] [] ⟨⟨rfl, rfl⟩, ⟨rfl, trivial⟩, rfl, rfl, rfl, trivial⟩ ?_ (fun _ hs => hs)
    rintro i ts os ⟨rfl, h, rfl, rfl⟩
    conv => whnf
    refine CutK.go ?_
    conv => whnf
    cases h
    exact Done.of [] [] rfl rfl ⟨⟨rfl, rfl⟩, ⟨rfl, trivial⟩, rfl, trivial⟩

def laws_eqOrdinal_b (rec_laws_eqOrdinal : Rw → Rw → Option Bool) (a1 : Rw) (a2 : Rw) : Option Bool :=
  ((laws_eqOrdinalTermS rec_laws_eqOrdinal a1 a2).bind fun y3 => (if y3 = true then some true else some false))
set_option maxHeartbeats 4000000 in
set_option maxRecDepth 100000 in
theorem laws_eqOrdinal_b_ct {rec_laws_eqOrdinal : Rw → Rw → Option Bool} (hrec_laws_eqOrdinal : ∀ (a1 : Rw) (a2 : Rw) (r : Bool), rec_laws_eqOrdinal a1 a2 = some r → Ct prog 135 [.agg [.d (D.sl a1)], .agg [.d (D.sl a2)]] (⟨[], []⟩) (.d (D.bool r)) (⟨[], []⟩)) {a1 : Rw} {a2 : Rw} {r : Bool} (h : laws_eqOrdinal_b rec_laws_eqOrdinal a1 a2 = some r) : Ct prog 135 [.agg [.d (D.sl a1)], .agg [.d (D.sl a2)]] (⟨[], []⟩) (.d (D.bool r)) (⟨[], []⟩) := by
  rw [laws_eqOrdinal_b] at h
  refine Ct.of (c := _) mixed func135 ⟨rfl, rfl, rfl⟩ ?_ rfl
  conv => whnf
  refine Pick.no ?_
  conv => whnf
  obtain ⟨y3, e4, h⟩ := bind_ex h
  refine CallOk.of (laws_eqOrdinalTermS_ct hrec_laws_eqOrdinal e4) ?_
  conv => whnf
  refine spl (fun g5 => ?_) (fun g5 => ?_)
  · replace h := iteT h g5
    conv => whnf
    refine CutK.go ?_
    conv => whnf
    refine CutK.go ?_
    conv => whnf
    cases h
    exact Done.of [] [] rfl rfl ⟨⟨rfl, rfl⟩, ⟨rfl, trivial⟩, rfl, trivial⟩
  · replace h := iteF h g5
    conv => whnf
    refine CutK.go ?_
    conv => whnf
    cases h
    exact Done.of [] [] rfl rfl ⟨⟨rfl, rfl⟩, ⟨rfl, trivial⟩, rfl, trivial⟩
def laws_eqOrdinal : Nat → Rw → Rw → Option Bool
  | 0, _, _ => none
  | k + 1, a1, a2 => laws_eqOrdinal_b (laws_eqOrdinal k) a1 a2
theorem laws_eqOrdinal_ct' : ∀ (k : Nat) (a1 : Rw) (a2 : Rw) (r : Bool), laws_eqOrdinal k a1 a2 = some r → Ct prog 135 [.agg [.d (D.sl a1)], .agg [.d (D.sl a2)]] (⟨[], []⟩) (.d (D.bool r)) (⟨[], []⟩)
  | 0, _, _, _, h => by rw [laws_eqOrdinal] at h; cases h
  | k + 1, _, _, _, h => by rw [laws_eqOrdinal] at h; exact laws_eqOrdinal_b_ct (laws_eqOrdinal_ct' k) h
theorem laws_eqOrdinal_ct {k : Nat} {a1 : Rw} {a2 : Rw} {r : Bool} (h : laws_eqOrdinal k a1 a2 = some r) : Ct prog 135 [.agg [.d (D.sl a1)], .agg [.d (D.sl a2)]] (⟨[], []⟩) (.d (D.bool r)) (⟨[], []⟩) := laws_eqOrdinal_ct' k _ _ _ h

def laws_eqRun (k : Nat) (a1 : Bool) (a2 : Rw) (a3 : Bool) (a4 : Rw) : Option Bool :=
  (cond a1 (cond a3 ((laws_eqOrdinal k a2 a4).bind fun y8 => (if y8 = true then some true else some false)) (some false)) (cond a3 (some false) ((laws_eqOrdinal k a2 a4).bind fun y5 => (if y5 = true then some true else some false))))
set_option maxHeartbeats 4000000 in
set_option maxRecDepth 100000 in
theorem laws_eqRun_ct {k : Nat} {a1 : Bool} {a2 : Rw} {a3 : Bool} {a4 : Rw} {r : Bool} (h : laws_eqRun k a1 a2 a3 a4 = some r) : Ct prog 103 [.agg [.d (D.bool a1), .d (D.sl a2)], .agg [.d (D.bool a3), .d (D.sl a4)]] (⟨[], []⟩) (.d (D.bool r)) (⟨[], []⟩) := by
  rw [laws_eqRun] at h
  refine Ct.of (c := _) mixed func103 ⟨rfl, rfl, rfl⟩ ?_ rfl
  cases a1
  · replace h := condF h
    cases a3
    · replace h := condF h
      conv => whnf
      refine splF ?_
      conv => whnf
      refine splF ?_
      conv => whnf
      refine splF ?_
      conv => whnf
      refine Pick.no ?_
      conv => whnf
      obtain ⟨y5, e6, h⟩ := bind_ex h
      refine CallOk.of (laws_eqOrdinal_ct e6) ?_
      conv => whnf
      refine spl (fun g7 => ?_) (fun g7 => ?_)
      · replace h := iteT h g7
        conv => whnf
        refine CutK.go ?_
        conv => whnf
        refine CutK.go ?_
        conv => whnf
        cases h
        exact Done.of [] [] rfl rfl ⟨⟨rfl, rfl⟩, ⟨rfl, trivial⟩, rfl, trivial⟩
      · replace h := iteF h g7
        conv => whnf
        refine CutK.go ?_
        conv => whnf
        cases h
        exact Done.of [] [] rfl rfl ⟨⟨rfl, rfl⟩, ⟨rfl, trivial⟩, rfl, trivial⟩
    · replace h := condT h
      conv => whnf
      refine splF ?_
      conv => whnf
      refine splT ?_
      conv => whnf
      refine splT ?_
      conv => whnf
      cases h
      exact Done.of [] [] rfl rfl ⟨⟨rfl, rfl⟩, ⟨rfl, trivial⟩, rfl, trivial⟩
  · replace h := condT h
    cases a3
    · replace h := condF h
      conv => whnf
      refine splT ?_
      conv => whnf
      refine splF ?_
      conv => whnf
      refine splT ?_
      conv => whnf
      cases h
      exact Done.of [] [] rfl rfl ⟨⟨rfl, rfl⟩, ⟨rfl, trivial⟩, rfl, trivial⟩
    · replace h := condT h
      conv => whnf
      refine splT ?_
      conv => whnf
      refine splT ?_
      conv => whnf
      refine splF ?_
      conv => whnf
      refine Pick.no ?_
      conv => whnf
      obtain ⟨y8, e9, h⟩ := bind_ex h
      refine CallOk.of (laws_eqOrdinal_ct e9) ?_
      conv => whnf
      refine spl (fun g10 => ?_) (fun g10 => ?_)
      · replace h := iteT h g10
        conv => whnf
        refine CutK.go ?_
        conv => whnf
        refine CutK.go ?_
        conv => whnf
        cases h
        exact Done.of [] [] rfl rfl ⟨⟨rfl, rfl⟩, ⟨rfl, trivial⟩, rfl, trivial⟩
      · replace h := iteF h g10
        conv => whnf
        refine CutK.go ?_
        conv => whnf
        cases h
        exact Done.of [] [] rfl rfl ⟨⟨rfl, rfl⟩, ⟨rfl, trivial⟩, rfl, trivial⟩

def laws_eqRunS_l0 (k : Nat) (a1 : Rw) (a2 : Rw) (K0 : Option Bool) : Rw → Nat → Option Bool
  | [], v18n => (K0)
  | cs :: rest, v18n => (cell_bs cs fun x61 x62 => (if x61 = true then (row_bs a2 (v18n : Int) fun x65 x66 => (if x65 = true then ((laws_eqRun k true x62 true x66).bind fun y70 => (if y70 = true then (laws_eqRunS_l0 k a1 a2 K0 rest (v18n + 1)) else some false)) else ((laws_eqRun k true x62 false x66).bind fun y73 => (if y73 = true then (laws_eqRunS_l0 k a1 a2 K0 rest (v18n + 1)) else some false)))) else (row_bs a2 (v18n : Int) fun x76 x77 => (if x76 = true then ((laws_eqRun k false x62 true x77).bind fun y81 => (if y81 = true then (laws_eqRunS_l0 k a1 a2 K0 rest (v18n + 1)) else some false)) else ((laws_eqRun k false x62 false x77).bind fun y84 => (if y84 = true then (laws_eqRunS_l0 k a1 a2 K0 rest (v18n + 1)) else some false))))))
set_option maxRecDepth 100000 in
theorem laws_eqRunS_l0_ct {k : Nat} {a1 : Rw} {a2 : Rw} {K0 : Option Bool} {r : Bool} (hx : a1.length ≤ cap) : ∀ (rest : Rw) (v18n : Nat), a1.drop v18n = rest → laws_eqRunS_l0 k a1 a2 K0 rest v18n = some r → LoopOk prog 0 (lp f55 0) (mk 27 [(0, .d (D.sl a1)), (1, .d (D.sl a2)), (5, .d (D.int .i64 (v18n : Int)))] []) (LoopEnd prog f55 0 27 (.d (D.bool r)) (⟨[], []⟩) (fun i ts os => (i = 0 ∧ K0 = some r ∧ ts = [] ∧ os = [])))
  | [], v18n, hd, h => by
      rw [laws_eqRunS_l0] at h
      have hn := drop_nil hd
      refine LoopOk.step ?_
      conv => whnf
      refine splD (fun g => absurd g hn) (fun _ => ?_)
      conv => whnf
      exact ⟨_, _, [], [], ⟨rfl, h, rfl, rfl⟩, ⟨⟨rfl, rfl⟩, ⟨rfl, trivial⟩, trivial⟩⟩
  | cs :: rest, v18n, hd, h => by
      rw [laws_eqRunS_l0] at h
      obtain ⟨hrow, hd1, hlt⟩ := drop_cons hd
      refine LoopOk.step ?_
      conv => whnf
      refine splD (fun _ => ?_) (fun g => absurd hlt g)
      conv => whnf
      obtain ⟨x61, x62, e63, h⟩ := cell_bs_ex h
      rw [e63] at hrow
      refine Req.of (Int.natCast_nonneg _) ?_
      refine Row.of _ hrow ?_
      conv => whnf
      refine spl (fun g64 => ?_) (fun g64 => ?_)
      · replace h := iteT h g64
        conv => whnf
        obtain ⟨g68, x65, x66, e67, h⟩ := row_bs_ex h
        refine Req.of g68 ?_
        refine Row.of _ e67 ?_
        conv => whnf
        refine spl (fun g69 => ?_) (fun g69 => ?_)
        · replace h := iteT h g69
          conv => whnf
          refine Pick.no ?_
          conv => whnf
          obtain ⟨y70, e71, h⟩ := bind_ex h
          refine CallOk.of (laws_eqRun_ct e71) ?_
          conv => whnf
          refine spl (fun g72 => ?_) (fun g72 => ?_)
          · replace h := iteT h g72
            conv => whnf
            refine CutK.go ?_
            conv => whnf
            refine CutK.go ?_
            conv => whnf
            exact LoopOk.back (laws_eqRunS_l0_ct hx rest (v18n + 1)  hd1 h) [] [] ⟨⟨rfl, rfl⟩, ⟨rfl, trivial⟩, rfl, rfl, i64eq (wrap_up hlt hx), trivial⟩
          · replace h := iteF h g72
            conv => whnf
            refine CutK.go ?_
            conv => whnf
            cases h
            exact Done.of [] [] rfl rfl ⟨⟨rfl, rfl⟩, ⟨rfl, trivial⟩, rfl, trivial⟩
        · replace h := iteF h g69
          conv => whnf
          refine Pick.no ?_
          conv => whnf
          obtain ⟨y73, e74, h⟩ := bind_ex h
          refine CallOk.of (laws_eqRun_ct e74) ?_
          conv => whnf
          refine spl (fun g75 => ?_) (fun g75 => ?_)
          · replace h := iteT h g75
            conv => whnf
            refine CutK.go ?_
            conv => whnf
            refine CutK.go ?_
            conv => whnf
            exact LoopOk.back (laws_eqRunS_l0_ct hx rest (v18n + 1)  hd1 h) [] [] ⟨⟨rfl, rfl⟩, ⟨rfl, trivial⟩, rfl, rfl, i64eq (wrap_up hlt hx), trivial⟩
          · replace h := iteF h g75
            conv => whnf
            refine CutK.go ?_
            conv => whnf
            cases h
            exact Done.of [] [] rfl rfl ⟨⟨rfl, rfl⟩, ⟨rfl, trivial⟩, rfl, trivial⟩
      · replace h := iteF h g64
        conv => whnf
        obtain ⟨g79, x76, x77, e78, h⟩ := row_bs_ex h
        refine Req.of g79 ?_
        refine Row.of _ e78 ?_
        conv => whnf
        refine spl (fun g80 => ?_) (fun g80 => ?_)
        · replace h := iteT h g80
          conv => whnf
          refine Pick.no ?_
          conv => whnf
          obtain ⟨y81, e82, h⟩ := bind_ex h
          refine CallOk.of (laws_eqRun_ct e82) ?_
          conv => whnf
          refine spl (fun g83 => ?_) (fun g83 => ?_)
          · replace h := iteT h g83
            conv => whnf
            refine CutK.go ?_
            conv => whnf
            refine CutK.go ?_
            conv => whnf
            exact LoopOk.back (laws_eqRunS_l0_ct hx rest (v18n + 1)  hd1 h) [] [] ⟨⟨rfl, rfl⟩, ⟨rfl, trivial⟩, rfl, rfl, i64eq (wrap_up hlt hx), trivial⟩
          · replace h := iteF h g83
            conv => whnf
            refine CutK.go ?_
            conv => whnf
            cases h
            exact Done.of [] [] rfl rfl ⟨⟨rfl, rfl⟩, ⟨rfl, trivial⟩, rfl, trivial⟩
        · replace h := iteF h g80
          conv => whnf
          refine Pick.no ?_
          conv => whnf
          obtain ⟨y84, e85, h⟩ := bind_ex h
          refine CallOk.of (laws_eqRun_ct e85) ?_
          conv => whnf
          refine spl (fun g86 => ?_) (fun g86 => ?_)
          · replace h := iteT h g86
            conv => whnf
            refine CutK.go ?_
            conv => whnf
            refine CutK.go ?_
            conv => whnf
            exact LoopOk.back (laws_eqRunS_l0_ct hx rest (v18n + 1)  hd1 h) [] [] ⟨⟨rfl, rfl⟩, ⟨rfl, trivial⟩, rfl, rfl, i64eq (wrap_up hlt hx), trivial⟩
          · replace h := iteF h g86
            conv => whnf
            refine CutK.go ?_
            conv => whnf
            cases h
            exact Done.of [] [] rfl rfl ⟨⟨rfl, rfl⟩, ⟨rfl, trivial⟩, rfl, trivial⟩
def laws_eqRunS (k : Nat) (a1 : Rw) (a2 : Rw) : Option Bool :=
  (if (a1.length : Int) = (a2.length : Int) then (if a1.length ≤ cap then (laws_eqRunS_l0 k a1 a2 (some true) a1 0) else none) else some false)
set_option maxHeartbeats 4000000 in
set_option maxRecDepth 100000 in
theorem laws_eqRunS_ct {k : Nat} {a1 : Rw} {a2 : Rw} {r : Bool} (h : laws_eqRunS k a1 a2 = some r) : Ct prog 55 [.d (D.sl a1), .d (D.sl a2)] (⟨[], []⟩) (.d (D.bool r)) (⟨[], []⟩) := by
  rw [laws_eqRunS] at h
  refine Ct.of (c := _) mixed func55 ⟨rfl, rfl, rfl⟩ ?_ rfl
  conv => whnf
  refine splN (fun g3 => ?_) (fun g3 => ?_)
  · replace h := iteN h g3
    conv => whnf
    cases h
    exact Done.of [] [] rfl rfl ⟨⟨rfl, rfl⟩, ⟨rfl, trivial⟩, rfl, trivial⟩
  · replace h := iteP h g3
    conv => whnf
    obtain ⟨g87, h⟩ := req_ex h
    refine LoopOk.into (laws_eqRunS_l0_ct  g87 _ _  rfl h) [] [] ⟨⟨rfl, rfl⟩, ⟨rfl, trivial⟩, rfl, rfl, rfl, trivial⟩ ?_ (fun _ hs => hs)
    rintro i ts os ⟨rfl, h, rfl, rfl⟩
    conv => whnf
    refine CutK.go ?_
    conv => whnf
    cases h
    exact Done.of [] [] rfl rfl ⟨⟨rfl, rfl⟩, ⟨rfl, trivial⟩, rfl, trivial⟩

def laws_eqWord (k : Nat) (a1 : Rw) (a2 : Rw) : Option Bool :=
  ((laws_eqRunS k a1 a2).bind fun y3 => (if y3 = true then some true else some false))
set_option maxHeartbeats 4000000 in
set_option maxRecDepth 100000 in
theorem laws_eqWord_ct {k : Nat} {a1 : Rw} {a2 : Rw} {r : Bool} (h : laws_eqWord k a1 a2 = some r) : Ct prog 21 [.agg [.d (D.sl a1)], .agg [.d (D.sl a2)]] (⟨[], []⟩) (.d (D.bool r)) (⟨[], []⟩) := by
  rw [laws_eqWord] at h
  refine Ct.of (c := _) mixed func21 ⟨rfl, rfl, rfl⟩ ?_ rfl
  conv => whnf
  refine Pick.no ?_
  conv => whnf
  obtain ⟨y3, e4, h⟩ := bind_ex h
  refine CallOk.of (laws_eqRunS_ct e4) ?_
  conv => whnf
  refine spl (fun g5 => ?_) (fun g5 => ?_)
  · replace h := iteT h g5
    conv => whnf
    refine CutK.go ?_
    conv => whnf
    refine CutK.go ?_
    conv => whnf
    cases h
    exact Done.of [] [] rfl rfl ⟨⟨rfl, rfl⟩, ⟨rfl, trivial⟩, rfl, trivial⟩
  · replace h := iteF h g5
    conv => whnf
    refine CutK.go ?_
    conv => whnf
    cases h
    exact Done.of [] [] rfl rfl ⟨⟨rfl, rfl⟩, ⟨rfl, trivial⟩, rfl, trivial⟩

def laws_FnExactShortOfWord (k : Nat) (a1 : Rw) : Option Bool :=
  ((laws_szWord k a1 1048576).bind fun y2 => (if y2 < (0 : Int) then some true else ((laws_toWord k a1).bind fun y5 => ((spec_ShortOfWord k y5).bind fun y7 => (if y7.2 = true then ((laws_toWord k a1).bind fun y10 => ((impl_ShortOfWord k y10).bind fun y12 => (if y12.2 = true then (if (!(y12.1.toList == y7.1.toList)) = true then some false else ((laws_toWord k a1).bind fun y16 => ((laws_eqWord k y10 y16).bind fun y18 => (if y18 = true then some true else some false)))) else (if (!(y12.1.toList == y7.1.toList)) = true then some false else some false)))) else ((laws_toWord k a1).bind fun y22 => ((impl_ShortOfWord k y22).bind fun y24 => (if y24.2 = true then (if (!(y24.1.toList == y7.1.toList)) = true then some false else some false) else (if (!(y24.1.toList == y7.1.toList)) = true then some false else ((laws_toWord k a1).bind fun y29 => ((laws_eqWord k y22 y29).bind fun y31 => (if y31 = true then some true else some false))))))))))))
set_option maxHeartbeats 4000000 in
set_option maxRecDepth 100000 in
theorem laws_FnExactShortOfWord_ct {k : Nat} {a1 : Rw} {r : Bool} (h : laws_FnExactShortOfWord k a1 = some r) : Ct prog 4 [.agg [.d (D.sl a1)]] (⟨[], []⟩) (.d (D.bool r)) (⟨[], []⟩) := by
  rw [laws_FnExactShortOfWord] at h
  refine Ct.of (c := _) mixed func4 ⟨rfl, rfl, rfl⟩ ?_ rfl
  conv => whnf
  refine Pick.no ?_
  conv => whnf
  obtain ⟨y2, e3, h⟩ := bind_ex h
  refine CallOk.of (laws_szWord_ct e3) ?_
  conv => whnf
  refine CutK.norm [1, 3] [64] ?_
  conv => whnf
  refine splD (fun g4 => ?_) (fun g4 => ?_)
  · replace h := iteP h g4
    conv => whnf
    cases h
    exact Done.of [] [] rfl rfl ⟨⟨rfl, rfl⟩, ⟨rfl, trivial⟩, rfl, trivial⟩
  · replace h := iteN h g4
    conv => whnf
    refine Pick.no ?_
    conv => whnf
    obtain ⟨y5, e6, h⟩ := bind_ex h
    refine CallOk.of (laws_toWord_ct e6) ?_
    conv => whnf
    refine Pick.no ?_
    conv => whnf
    refine Take.all (rfl) ?_
    conv => whnf
    obtain ⟨y7, e8, h⟩ := bind_ex h
    refine CallOk.of (spec_ShortOfWord_ct e8) ?_
    conv => whnf
    refine spl (fun g9 => ?_) (fun g9 => ?_)
    · replace h := iteT h g9
      conv => whnf
      refine CutK.norm [1, 4, 5] [64] ?_
      conv => whnf
      refine Pick.no ?_
      conv => whnf
      obtain ⟨y10, e11, h⟩ := bind_ex h
      refine CallOk.of (laws_toWord_ct e11) ?_
      conv => whnf
      refine CutK.norm [1, 4, 5, 6] [64, 384, 1344] ?_
      conv => whnf
      refine Pick.no ?_
      conv => whnf
      refine Take.all (rfl) ?_
      conv => whnf
      obtain ⟨y12, e13, h⟩ := bind_ex h
      refine CallOk.of (impl_ShortOfWord_ct e13) ?_
      conv => whnf
      refine spl (fun g14 => ?_) (fun g14 => ?_)
      · replace h := iteT h g14
        conv => whnf
        refine CutK.norm [1, 4, 5, 6, 7, 8] [64, 384, 1344] ?_
        conv => whnf
        refine spl (fun g15 => ?_) (fun g15 => ?_)
        · replace h := iteT h g15
          conv => whnf
          cases h
          exact Done.of [] [] rfl rfl ⟨⟨rfl, rfl⟩, ⟨rfl, trivial⟩, rfl, trivial⟩
        · replace h := iteF h g15
          conv => whnf
          refine splF ?_
          conv => whnf
          refine Pick.no ?_
          conv => whnf
          obtain ⟨y16, e17, h⟩ := bind_ex h
          refine CallOk.of (laws_toWord_ct e17) ?_
          conv => whnf
          refine Pick.no ?_
          conv => whnf
          refine Take.all (rfl) ?_
          conv => whnf
          refine Take.all (rfl) ?_
          conv => whnf
          obtain ⟨y18, e19, h⟩ := bind_ex h
          refine CallOk.of (laws_eqWord_ct e19) ?_
          conv => whnf
          refine spl (fun g20 => ?_) (fun g20 => ?_)
          · replace h := iteT h g20
            conv => whnf
            refine CutK.norm [39] [] ?_
            conv => whnf
            refine CutK.norm [] [] ?_
            conv => whnf
            cases h
            exact Done.of [] [] rfl rfl ⟨⟨rfl, rfl⟩, ⟨rfl, trivial⟩, rfl, trivial⟩
          · replace h := iteF h g20
            conv => whnf
            refine CutK.norm [39] [] ?_
            conv => whnf
            cases h
            exact Done.of [] [] rfl rfl ⟨⟨rfl, rfl⟩, ⟨rfl, trivial⟩, rfl, trivial⟩
      · replace h := iteF h g14
        conv => whnf
        refine CutK.norm [1, 4, 5, 6, 7, 8] [64, 384, 1344] ?_
        conv => whnf
        refine spl (fun g21 => ?_) (fun g21 => ?_)
        · replace h := iteT h g21
          conv => whnf
          cases h
          exact Done.of [] [] rfl rfl ⟨⟨rfl, rfl⟩, ⟨rfl, trivial⟩, rfl, trivial⟩
        · replace h := iteF h g21
          conv => whnf
          refine splT ?_
          conv => whnf
          cases h
          exact Done.of [] [] rfl rfl ⟨⟨rfl, rfl⟩, ⟨rfl, trivial⟩, rfl, trivial⟩
    · replace h := iteF h g9
      conv => whnf
      refine CutK.norm [1, 4, 5] [64] ?_
      conv => whnf
      refine Pick.no ?_
      conv => whnf
      obtain ⟨y22, e23, h⟩ := bind_ex h
      refine CallOk.of (laws_toWord_ct e23) ?_
      conv => whnf
      refine CutK.norm [1, 4, 5, 6] [64, 384, 1344] ?_
      conv => whnf
      refine Pick.no ?_
      conv => whnf
      refine Take.all (rfl) ?_
      conv => whnf
      obtain ⟨y24, e25, h⟩ := bind_ex h
      refine CallOk.of (impl_ShortOfWord_ct e25) ?_
      conv => whnf
      refine spl (fun g26 => ?_) (fun g26 => ?_)
      · replace h := iteT h g26
        conv => whnf
        refine CutK.norm [1, 4, 5, 6, 7, 8] [64, 384, 1344] ?_
        conv => whnf
        refine spl (fun g27 => ?_) (fun g27 => ?_)
        · replace h := iteT h g27
          conv => whnf
          cases h
          exact Done.of [] [] rfl rfl ⟨⟨rfl, rfl⟩, ⟨rfl, trivial⟩, rfl, trivial⟩
        · replace h := iteF h g27
          conv => whnf
          refine splT ?_
          conv => whnf
          cases h
          exact Done.of [] [] rfl rfl ⟨⟨rfl, rfl⟩, ⟨rfl, trivial⟩, rfl, trivial⟩
      · replace h := iteF h g26
        conv => whnf
        refine CutK.norm [1, 4, 5, 6, 7, 8] [64, 384, 1344] ?_
        conv => whnf
        refine spl (fun g28 => ?_) (fun g28 => ?_)
        · replace h := iteT h g28
          conv => whnf
          cases h
          exact Done.of [] [] rfl rfl ⟨⟨rfl, rfl⟩, ⟨rfl, trivial⟩, rfl, trivial⟩
        · replace h := iteF h g28
          conv => whnf
          refine splF ?_
          conv => whnf
          refine Pick.no ?_
          conv => whnf
          obtain ⟨y29, e30, h⟩ := bind_ex h
          refine CallOk.of (laws_toWord_ct e30) ?_
          conv => whnf
          refine Pick.no ?_
          conv => whnf
          refine Take.all (rfl) ?_
          conv => whnf
          refine Take.all (rfl) ?_
          conv => whnf
          obtain ⟨y31, e32, h⟩ := bind_ex h
          refine CallOk.of (laws_eqWord_ct e32) ?_
          conv => whnf
          refine spl (fun g33 => ?_) (fun g33 => ?_)
          · replace h := iteT h g33
            conv => whnf
            refine CutK.norm [39] [] ?_
            conv => whnf
            refine CutK.norm [] [] ?_
            conv => whnf
            cases h
            exact Done.of [] [] rfl rfl ⟨⟨rfl, rfl⟩, ⟨rfl, trivial⟩, rfl, trivial⟩
          · replace h := iteF h g33
            conv => whnf
            refine CutK.norm [39] [] ?_
            conv => whnf
            cases h
            exact Done.of [] [] rfl rfl ⟨⟨rfl, rfl⟩, ⟨rfl, trivial⟩, rfl, trivial⟩
end
end Go.Proofs.Try
