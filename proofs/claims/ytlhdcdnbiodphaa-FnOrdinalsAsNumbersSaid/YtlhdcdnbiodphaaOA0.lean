/- Printed by program (axgen): pure functions, and that the Go functions compute them. -/
import Derived.Test.YtlhdcdnbiodphaaProg
import Derived.Test.YtlhdcdnbiodphaaAxC
import Derived.KernelRfl
set_option linter.unusedVariables false
set_option linter.unusedSimpArgs false
namespace Go.Proofs.Try
open Go Go.AX
theorem mixed : prog.follows .mixedOrders = true := by kernel_rfl
def cell_i {α : Type} (cs : List D) (K : Int → Option α) : Option α := match cs with | [.int .i64 a0] => K a0 | _ => none
def row_i {α : Type} (es : Rw) (i : Int) (K : Int → Option α) : Option α := if 0 ≤ i then (match es[i.toNat]? with | some cs => cell_i cs K | none => none) else none
theorem cell_i_ex {α : Type} {cs : List D} {K : Int → Option α} {r : α} (h : cell_i cs K = some r) : ∃ a0, cs = [.int .i64 a0] ∧ K a0 = some r := by
  unfold cell_i at h
  split at h
  · exact ⟨_, rfl, h⟩
  · cases h
theorem row_i_ex {α : Type} {es : Rw} {i : Int} {K : Int → Option α} {r : α} (h : row_i es i K = some r) : 0 ≤ i ∧ ∃ a0, es[i.toNat]? = some [.int .i64 a0] ∧ K a0 = some r := by
  unfold row_i at h
  obtain ⟨g, h⟩ := req_ex h
  split at h
  · rename_i cs e
    obtain ⟨a0, rfl, h⟩ := cell_i_ex h
    exact ⟨g, a0, e, h⟩
  · cases h
def cell_iu8 {α : Type} (cs : List D) (K : Int → Option α) : Option α := match cs with | [.int .u8 a0] => K a0 | _ => none
def row_iu8 {α : Type} (es : Rw) (i : Int) (K : Int → Option α) : Option α := if 0 ≤ i then (match es[i.toNat]? with | some cs => cell_iu8 cs K | none => none) else none
theorem cell_iu8_ex {α : Type} {cs : List D} {K : Int → Option α} {r : α} (h : cell_iu8 cs K = some r) : ∃ a0, cs = [.int .u8 a0] ∧ K a0 = some r := by
  unfold cell_iu8 at h
  split at h
  · exact ⟨_, rfl, h⟩
  · cases h
theorem row_iu8_ex {α : Type} {es : Rw} {i : Int} {K : Int → Option α} {r : α} (h : row_iu8 es i K = some r) : 0 ≤ i ∧ ∃ a0, es[i.toNat]? = some [.int .u8 a0] ∧ K a0 = some r := by
  unfold row_iu8 at h
  obtain ⟨g, h⟩ := req_ex h
  split at h
  · rename_i cs e
    obtain ⟨a0, rfl, h⟩ := cell_iu8_ex h
    exact ⟨g, a0, e, h⟩
  · cases h
def cell_si {α : Type} (cs : List D) (K : Rw → Int → Option α) : Option α := match cs with | [.sl a0, .int .i64 a1] => K a0 a1 | _ => none
def row_si {α : Type} (es : Rw) (i : Int) (K : Rw → Int → Option α) : Option α := if 0 ≤ i then (match es[i.toNat]? with | some cs => cell_si cs K | none => none) else none
theorem cell_si_ex {α : Type} {cs : List D} {K : Rw → Int → Option α} {r : α} (h : cell_si cs K = some r) : ∃ a0 a1, cs = [.sl a0, .int .i64 a1] ∧ K a0 a1 = some r := by
  unfold cell_si at h
  split at h
  · exact ⟨_, _, rfl, h⟩
  · cases h
theorem row_si_ex {α : Type} {es : Rw} {i : Int} {K : Rw → Int → Option α} {r : α} (h : row_si es i K = some r) : 0 ≤ i ∧ ∃ a0 a1, es[i.toNat]? = some [.sl a0, .int .i64 a1] ∧ K a0 a1 = some r := by
  unfold row_si at h
  obtain ⟨g, h⟩ := req_ex h
  split at h
  · rename_i cs e
    obtain ⟨a0, a1, rfl, h⟩ := cell_si_ex h
    exact ⟨g, a0, a1, e, h⟩
  · cases h
def cell_sii {α : Type} (cs : List D) (K : Rw → Int → Int → Option α) : Option α := match cs with | [.sl a0, .int .i64 a1, .int .i64 a2] => K a0 a1 a2 | _ => none
def row_sii {α : Type} (es : Rw) (i : Int) (K : Rw → Int → Int → Option α) : Option α := if 0 ≤ i then (match es[i.toNat]? with | some cs => cell_sii cs K | none => none) else none
theorem cell_sii_ex {α : Type} {cs : List D} {K : Rw → Int → Int → Option α} {r : α} (h : cell_sii cs K = some r) : ∃ a0 a1 a2, cs = [.sl a0, .int .i64 a1, .int .i64 a2] ∧ K a0 a1 a2 = some r := by
  unfold cell_sii at h
  split at h
  · exact ⟨_, _, _, rfl, h⟩
  · cases h
theorem row_sii_ex {α : Type} {es : Rw} {i : Int} {K : Rw → Int → Int → Option α} {r : α} (h : row_sii es i K = some r) : 0 ≤ i ∧ ∃ a0 a1 a2, es[i.toNat]? = some [.sl a0, .int .i64 a1, .int .i64 a2] ∧ K a0 a1 a2 = some r := by
  unfold row_sii at h
  obtain ⟨g, h⟩ := req_ex h
  split at h
  · rename_i cs e
    obtain ⟨a0, a1, a2, rfl, h⟩ := cell_sii_ex h
    exact ⟨g, a0, a1, a2, e, h⟩
  · cases h
noncomputable section
def impl_in  (a1 : Int) (a2 : Int) (a3 : Int) : Option Bool :=
  (if a2 ≤ a1 then (if a1 ≤ a3 then some true else some false) else some false)
set_option maxHeartbeats 4000000 in
set_option maxRecDepth 100000 in
theorem impl_in_ct  {a1 : Int} {a2 : Int} {a3 : Int} {r : Bool} (h : impl_in a1 a2 a3 = some r) : Ct prog 71 [.d (D.int .i64 a1), .d (D.int .i64 a2), .d (D.int .i64 a3)] (⟨[], []⟩) (.d (D.bool r)) (⟨[], []⟩) := by
  rw [impl_in] at h
  refine Ct.of (c := _) mixed func71 ⟨rfl, rfl, rfl⟩ ?_ rfl
  conv => whnf
  refine splD (fun g4 => ?_) (fun g4 => ?_)
  · replace h := iteP h g4
    conv => whnf
    refine splD (fun g5 => ?_) (fun g5 => ?_)
    · replace h := iteP h g5
      conv => whnf
      cases h
      exact Done.of [] [] rfl rfl ⟨⟨rfl, rfl⟩, ⟨rfl, trivial⟩, rfl, trivial⟩
    · replace h := iteN h g5
      conv => whnf
      cases h
      exact Done.of [] [] rfl rfl ⟨⟨rfl, rfl⟩, ⟨rfl, trivial⟩, rfl, trivial⟩
  · replace h := iteN h g4
    conv => whnf
    cases h
    exact Done.of [] [] rfl rfl ⟨⟨rfl, rfl⟩, ⟨rfl, trivial⟩, rfl, trivial⟩

def impl_compare  (a1 : Int) (a2 : Int) : Option Int :=
  (if a1 < a2 then some (-1) else (if a2 < a1 then some 1 else some 0))
set_option maxHeartbeats 4000000 in
set_option maxRecDepth 100000 in
theorem impl_compare_ct  {a1 : Int} {a2 : Int} {r : Int} (h : impl_compare a1 a2 = some r) : Ct prog 176 [.d (D.int .i64 a1), .d (D.int .i64 a2)] (⟨[], []⟩) (.d (D.int .i64 r)) (⟨[], []⟩) := by
  rw [impl_compare] at h
  refine Ct.of (c := _) mixed func176 ⟨rfl, rfl, rfl⟩ ?_ rfl
  conv => whnf
  refine splD (fun g3 => ?_) (fun g3 => ?_)
  · replace h := iteP h g3
    conv => whnf
    cases h
    exact Done.of [] [] rfl rfl ⟨⟨rfl, rfl⟩, ⟨rfl, trivial⟩, rfl, trivial⟩
  · replace h := iteN h g3
    conv => whnf
    refine splD (fun g4 => ?_) (fun g4 => ?_)
    · replace h := iteP h g4
      conv => whnf
      cases h
      exact Done.of [] [] rfl rfl ⟨⟨rfl, rfl⟩, ⟨rfl, trivial⟩, rfl, trivial⟩
    · replace h := iteN h g4
      conv => whnf
      cases h
      exact Done.of [] [] rfl rfl ⟨⟨rfl, rfl⟩, ⟨rfl, trivial⟩, rfl, trivial⟩

def impl_cmpTerms (rec_impl_cmp : Rw → Rw → Option Int) (a1 : Rw) (a2 : Int) (a3 : Rw) (a4 : Int) : Option Int :=
  ((rec_impl_cmp a1 a3).bind fun y5 => (if y5 = (0 : Int) then ((impl_compare a2 a4).bind fun y8 => some y8) else some y5))
set_option maxHeartbeats 4000000 in
set_option maxRecDepth 100000 in
theorem impl_cmpTerms_ct {rec_impl_cmp : Rw → Rw → Option Int} (hrec_impl_cmp : ∀ (a1 : Rw) (a2 : Rw) (r : Int), rec_impl_cmp a1 a2 = some r → Ct prog 101 [.agg [.d (D.sl a1)], .agg [.d (D.sl a2)]] (⟨[], []⟩) (.d (D.int .i64 r)) (⟨[], []⟩)) {a1 : Rw} {a2 : Int} {a3 : Rw} {a4 : Int} {r : Int} (h : impl_cmpTerms rec_impl_cmp a1 a2 a3 a4 = some r) : Ct prog 175 [.agg [.d (D.sl a1), .d (D.int .i64 a2)], .agg [.d (D.sl a3), .d (D.int .i64 a4)]] (⟨[], []⟩) (.d (D.int .i64 r)) (⟨[], []⟩) := by
  rw [impl_cmpTerms] at h
  refine Ct.of (c := _) mixed func175 ⟨rfl, rfl, rfl⟩ ?_ rfl
  conv => whnf
  obtain ⟨y5, e6, h⟩ := bind_ex h
  refine CallOk.of (hrec_impl_cmp _ _ _ e6) ?_
  conv => whnf
  refine CutK.go ?_
  conv => whnf
  refine splN (fun g7 => ?_) (fun g7 => ?_)
  · replace h := iteN h g7
    conv => whnf
    cases h
    exact Done.of [] [] rfl rfl ⟨⟨rfl, rfl⟩, ⟨rfl, trivial⟩, rfl, trivial⟩
  · replace h := iteP h g7
    conv => whnf
    refine CutK.go ?_
    conv => whnf
    obtain ⟨y8, e9, h⟩ := bind_ex h
    refine CallOk.of (impl_compare_ct e9) ?_
    conv => whnf
    refine CutK.go ?_
    conv => whnf
    cases h
    exact Done.of [] [] rfl rfl ⟨⟨rfl, rfl⟩, ⟨rfl, trivial⟩, rfl, trivial⟩

def slices_CompareFunc__cmpTerms_l0 (rec_impl_cmp : Rw → Rw → Option Int) (a1 : Rw) (a2 : Rw) (K0 : Option Int) : Rw → Nat → Option Int
  | [], v16n => (K0)
  | cs :: rest, v16n => (cell_si cs fun x30 x31 => (if (a2.length : Int) ≤ (v16n : Int) then some 1 else (row_si a2 (v16n : Int) fun x34 x35 => ((impl_cmpTerms rec_impl_cmp x30 x31 x34 x35).bind fun y38 => (if y38 = (0 : Int) then (slices_CompareFunc__cmpTerms_l0 rec_impl_cmp a1 a2 K0 rest (v16n + 1)) else some y38)))))
set_option maxRecDepth 100000 in
theorem slices_CompareFunc__cmpTerms_l0_ct {rec_impl_cmp : Rw → Rw → Option Int} {a1 : Rw} {a2 : Rw} {K0 : Option Int} (hrec_impl_cmp : ∀ (a1 : Rw) (a2 : Rw) (r : Int), rec_impl_cmp a1 a2 = some r → Ct prog 101 [.agg [.d (D.sl a1)], .agg [.d (D.sl a2)]] (⟨[], []⟩) (.d (D.int .i64 r)) (⟨[], []⟩)) {r : Int} (hx : a1.length ≤ cap) : ∀ (rest : Rw) (v16n : Nat), a1.drop v16n = rest → slices_CompareFunc__cmpTerms_l0 rec_impl_cmp a1 a2 K0 rest v16n = some r → LoopOk prog 0 (lp f174 0) (mk 39 [(0, .d (D.sl a1)), (1, .d (D.sl a2)), (2, .fn 175 []), (11, .d (D.sl a1)), (12, .d (D.int .i64 (a1.length : Int))), (13, .d (D.int .i64 (v16n : Int)))] []) (LoopEnd prog f174 0 39 (.d (D.int .i64 r)) (⟨[], []⟩) (fun i ts os => (i = 0 ∧ K0 = some r ∧ ts = [(0, .d (D.sl a1)), (1, .d (D.sl a2))] ∧ os = [])))
  | [], v16n, hd, h => by
      rw [slices_CompareFunc__cmpTerms_l0] at h
      have hn := drop_nil hd
      refine LoopOk.step ?_
      conv => whnf
      refine splD (fun g => absurd g hn) (fun _ => ?_)
      conv => whnf
      exact ⟨_, _, [], [], ⟨rfl, h, rfl, rfl⟩, ⟨⟨rfl, rfl⟩, ⟨rfl, trivial⟩, rfl, rfl, trivial⟩⟩
  | cs :: rest, v16n, hd, h => by
      rw [slices_CompareFunc__cmpTerms_l0] at h
      obtain ⟨hrow, hd1, hlt⟩ := drop_cons hd
      refine LoopOk.step ?_
      conv => whnf
      refine splD (fun _ => ?_) (fun g => absurd hlt g)
      conv => whnf
      obtain ⟨x30, x31, e32, h⟩ := cell_si_ex h
      rw [e32] at hrow
      refine Req.of (Int.natCast_nonneg _) ?_
      refine Row.of _ hrow ?_
      conv => whnf
      refine splD (fun g33 => ?_) (fun g33 => ?_)
      · replace h := iteP h g33
        conv => whnf
        cases h
        exact Done.of [] [] rfl rfl ⟨⟨rfl, rfl⟩, ⟨rfl, trivial⟩, rfl, trivial⟩
      · replace h := iteN h g33
        conv => whnf
        obtain ⟨g37, x34, x35, e36, h⟩ := row_si_ex h
        refine Req.of g37 ?_
        refine Row.of _ e36 ?_
        conv => whnf
        obtain ⟨y38, e39, h⟩ := bind_ex h
        refine CallOk.of (impl_cmpTerms_ct hrec_impl_cmp e39) ?_
        conv => whnf
        refine CutK.norm [0, 1, 2, 10, 11, 12, 13] [] ?_
        conv => whnf
        refine splN (fun g40 => ?_) (fun g40 => ?_)
        · replace h := iteN h g40
          conv => whnf
          cases h
          exact Done.of [] [] rfl rfl ⟨⟨rfl, rfl⟩, ⟨rfl, trivial⟩, rfl, trivial⟩
        · replace h := iteP h g40
          conv => whnf
          refine CutK.norm [0, 1, 2, 11, 12, 13] [] ?_
          conv => whnf
          exact LoopOk.back (slices_CompareFunc__cmpTerms_l0_ct hrec_impl_cmp hx rest (v16n + 1)  hd1 h) [] [] ⟨⟨rfl, rfl⟩, ⟨rfl, trivial⟩, rfl, rfl, ⟨rfl, trivial⟩, rfl, rfl, i64eq (wrap_up hlt hx), trivial⟩
def slices_CompareFunc__cmpTerms (rec_impl_cmp : Rw → Rw → Option Int) (a1 : Rw) (a2 : Rw) : Option Int :=
  (if a1.length ≤ cap then (slices_CompareFunc__cmpTerms_l0 rec_impl_cmp a1 a2 (if (a1.length : Int) < (a2.length : Int) then some (-1) else some 0) a1 0) else none)
set_option maxHeartbeats 4000000 in
set_option maxRecDepth 100000 in
theorem slices_CompareFunc__cmpTerms_ct {rec_impl_cmp : Rw → Rw → Option Int} (hrec_impl_cmp : ∀ (a1 : Rw) (a2 : Rw) (r : Int), rec_impl_cmp a1 a2 = some r → Ct prog 101 [.agg [.d (D.sl a1)], .agg [.d (D.sl a2)]] (⟨[], []⟩) (.d (D.int .i64 r)) (⟨[], []⟩)) {a1 : Rw} {a2 : Rw} {r : Int} (h : slices_CompareFunc__cmpTerms rec_impl_cmp a1 a2 = some r) : Ct prog 174 [.d (D.sl a1), .d (D.sl a2), .fn 175 []] (⟨[], []⟩) (.d (D.int .i64 r)) (⟨[], []⟩) := by
  rw [slices_CompareFunc__cmpTerms] at h
  refine Ct.of (c := _) mixed func174 ⟨rfl, rfl, rfl⟩ ?_ rfl
  conv => whnf
  obtain ⟨g41, h⟩ := req_ex h
  refine LoopOk.into (slices_CompareFunc__cmpTerms_l0_ct hrec_impl_cmp g41 _ _  rfl h) [] [] ⟨⟨rfl, rfl⟩, ⟨rfl, trivial⟩, rfl, rfl, ⟨rfl, trivial⟩, rfl, rfl, rfl, trivial⟩ ?_ (fun _ hs => hs)
  rintro i ts os ⟨rfl, h, rfl, rfl⟩
  conv => whnf
  refine CutK.norm [0, 1] [] ?_
  conv => whnf
  refine splD (fun g42 => ?_) (fun g42 => ?_)
  · replace h := iteP h g42
    conv => whnf
    cases h
    exact Done.of [] [] rfl rfl ⟨⟨rfl, rfl⟩, ⟨rfl, trivial⟩, rfl, trivial⟩
  · replace h := iteN h g42
    conv => whnf
    cases h
    exact Done.of [] [] rfl rfl ⟨⟨rfl, rfl⟩, ⟨rfl, trivial⟩, rfl, trivial⟩

def impl_cmp_b (rec_impl_cmp : Rw → Rw → Option Int) (a1 : Rw) (a2 : Rw) : Option Int :=
  ((slices_CompareFunc__cmpTerms rec_impl_cmp a1 a2).bind fun y3 => some y3)
set_option maxHeartbeats 4000000 in
set_option maxRecDepth 100000 in
theorem impl_cmp_b_ct {rec_impl_cmp : Rw → Rw → Option Int} (hrec_impl_cmp : ∀ (a1 : Rw) (a2 : Rw) (r : Int), rec_impl_cmp a1 a2 = some r → Ct prog 101 [.agg [.d (D.sl a1)], .agg [.d (D.sl a2)]] (⟨[], []⟩) (.d (D.int .i64 r)) (⟨[], []⟩)) {a1 : Rw} {a2 : Rw} {r : Int} (h : impl_cmp_b rec_impl_cmp a1 a2 = some r) : Ct prog 101 [.agg [.d (D.sl a1)], .agg [.d (D.sl a2)]] (⟨[], []⟩) (.d (D.int .i64 r)) (⟨[], []⟩) := by
  rw [impl_cmp_b] at h
  refine Ct.of (c := _) mixed func101 ⟨rfl, rfl, rfl⟩ ?_ rfl
  conv => whnf
  obtain ⟨y3, e4, h⟩ := bind_ex h
  refine CallOk.of (slices_CompareFunc__cmpTerms_ct hrec_impl_cmp e4) ?_
  conv => whnf
  refine CutK.go ?_
  conv => whnf
  cases h
  exact Done.of [] [] rfl rfl ⟨⟨rfl, rfl⟩, ⟨rfl, trivial⟩, rfl, trivial⟩
def impl_cmp : Nat → Rw → Rw → Option Int
  | 0, _, _ => none
  | k + 1, a1, a2 => impl_cmp_b (impl_cmp k) a1 a2
theorem impl_cmp_ct' : ∀ (k : Nat) (a1 : Rw) (a2 : Rw) (r : Int), impl_cmp k a1 a2 = some r → Ct prog 101 [.agg [.d (D.sl a1)], .agg [.d (D.sl a2)]] (⟨[], []⟩) (.d (D.int .i64 r)) (⟨[], []⟩)
  | 0, _, _, _, h => by rw [impl_cmp] at h; cases h
  | k + 1, _, _, _, h => by rw [impl_cmp] at h; exact impl_cmp_b_ct (impl_cmp_ct' k) h
theorem impl_cmp_ct {k : Nat} {a1 : Rw} {a2 : Rw} {r : Int} (h : impl_cmp k a1 a2 = some r) : Ct prog 101 [.agg [.d (D.sl a1)], .agg [.d (D.sl a2)]] (⟨[], []⟩) (.d (D.int .i64 r)) (⟨[], []⟩) := impl_cmp_ct' k _ _ _ h

def impl_ordinalAt_2_p3 (o62 : Int) : Option (Bool × Int) :=
  some (true, o62)
set_option maxHeartbeats 4000000 in
set_option maxRecDepth 100000 in
theorem impl_ordinalAt_2_p3_ct {o62 : Int} {r : Bool × Int} (h : impl_ordinalAt_2_p3 o62 = some r) : X prog 1 (tlF f151 3) (mk 83 [] [(0, .box 3 [.d (D.int .i64 o62)])]) (finK prog f151 1 (.d (D.bool r.1)) (⟨[(3, [.d (D.int .i64 r.2)])], []⟩)) := by
  rw [impl_ordinalAt_2_p3] at h
  conv => whnf
  cases h
  exact Done.of [some 0] [] rfl rfl ⟨⟨rfl, rfl⟩, ⟨rfl, ⟨rfl, rfl, trivial⟩, trivial⟩, rfl, trivial⟩
def impl_ordinalAt_2_l0 (k : Nat) (rec_impl_ordinalAt_2 : Rw → Int → Int → Int → Option (Bool × Int)) (a1 : Rw) (a2 : Int) (a3 : Int) (K0 : Int → Option (Bool × Int)) : Rw → Nat → Int → Option (Bool × Int)
  | [], v77n, v78 => (K0 v78)
  | cs :: rest, v77n, v78 => (cell_si cs fun x120 x121 => (if (60 : Int) < (IntKind.i64.wrap (v78 + 1)) then some (false, IntKind.i64.wrap (v78 + 1)) else ((impl_in x121 1 1000000).bind fun y124 => (if y124 = true then ((rec_impl_ordinalAt_2 x120 x121 (IntKind.i64.wrap (a3 + 1)) (IntKind.i64.wrap (v78 + 1))).bind fun y127 => (if y127.1 = true then (if (0 : Int) < (v77n : Int) then (row_si a1 (IntKind.i64.wrap ((v77n : Int) - 1)) fun x131 x132 => ((impl_cmp k x131 x120).bind fun y135 => (if y135 ≤ (0 : Int) then some (false, y127.2) else (impl_ordinalAt_2_l0 k rec_impl_ordinalAt_2 a1 a2 a3 K0 rest (v77n + 1) y127.2)))) else (impl_ordinalAt_2_l0 k rec_impl_ordinalAt_2 a1 a2 a3 K0 rest (v77n + 1) y127.2)) else some (false, y127.2))) else some (false, IntKind.i64.wrap (v78 + 1))))))
set_option maxRecDepth 100000 in
theorem impl_ordinalAt_2_l0_ct {k : Nat} {rec_impl_ordinalAt_2 : Rw → Int → Int → Int → Option (Bool × Int)} {a1 : Rw} {a2 : Int} {a3 : Int} {K0 : Int → Option (Bool × Int)} (hrec_impl_ordinalAt_2 : ∀ (a1 : Rw) (a2 : Int) (a3 : Int) (a4 : Int) (r : Bool × Int), rec_impl_ordinalAt_2 a1 a2 a3 a4 = some r → Ct prog 151 [.dp [D.sl a1, D.int .i64 a2], .d (D.int .i64 a3), .ptr 0 0] (⟨[(3, [.d (D.int .i64 a4)])], []⟩) (.d (D.bool r.1)) (⟨[(3, [.d (D.int .i64 r.2)])], []⟩)) {r : Bool × Int} (hx : a1.length ≤ cap) : ∀ (rest : Rw) (v77n : Nat) (v78 : Int), a1.drop v77n = rest → impl_ordinalAt_2_l0 k rec_impl_ordinalAt_2 a1 a2 a3 K0 rest v77n v78 = some r → LoopOk prog 1 (lp f151 0) (mk 83 [(0, .dp [D.sl a1, D.int .i64 a2]), (1, .d (D.int .i64 a3)), (2, .ptr 0 0), (26, .d (D.int .i64 (a1.length : Int))), (27, .d (D.int .i64 (v77n : Int)))] [(0, .box 3 [.d (D.int .i64 v78)])]) (LoopEnd prog f151 1 83 (.d (D.bool r.1)) (⟨[(3, [.d (D.int .i64 r.2)])], []⟩) (fun i ts os => (i = 0 ∧ ∃ v99 : Int, K0 v99 = some r ∧ ts = [] ∧ os = [(0, .box 3 [.d (D.int .i64 v99)])])))
  | [], v77n, v78, hd, h => by
      rw [impl_ordinalAt_2_l0] at h
      have hn := drop_nil hd
      refine LoopOk.step ?_
      conv => whnf
      refine splD (fun g => absurd g hn) (fun _ => ?_)
      conv => whnf
      exact ⟨_, _, [some 0], [], ⟨rfl, _, h, rfl, rfl⟩, ⟨⟨rfl, rfl⟩, ⟨rfl, ⟨rfl, rfl, trivial⟩, trivial⟩, trivial⟩⟩
  | cs :: rest, v77n, v78, hd, h => by
      rw [impl_ordinalAt_2_l0] at h
      obtain ⟨hrow, hd1, hlt⟩ := drop_cons hd
      refine LoopOk.step ?_
      conv => whnf
      refine splD (fun _ => ?_) (fun g => absurd hlt g)
      conv => whnf
      obtain ⟨x120, x121, e122, h⟩ := cell_si_ex h
      rw [e122] at hrow
      refine Req.of (Int.natCast_nonneg _) ?_
      refine Row.of _ hrow ?_
      conv => whnf
      refine splD (fun g123 => ?_) (fun g123 => ?_)
      · replace h := iteP h g123
        conv => whnf
        refine CutK.norm [0, 1, 2, 7, 8, 26, 27, 62] [0] ?_
        conv => whnf
        cases h
        exact Done.of [some 0] [] rfl rfl ⟨⟨rfl, rfl⟩, ⟨rfl, ⟨rfl, rfl, trivial⟩, trivial⟩, rfl, trivial⟩
      · replace h := iteN h g123
        conv => whnf
        obtain ⟨y124, e125, h⟩ := bind_ex h
        refine CallOk.of (impl_in_ct e125) ?_
        conv => whnf
        refine spl (fun g126 => ?_) (fun g126 => ?_)
        · replace h := iteT h g126
          conv => whnf
          obtain ⟨y127, e128, h⟩ := bind_ex h
          refine CallOk.of (hrec_impl_ordinalAt_2 _ _ _ _ _ e128) ?_
          conv => whnf
          refine spl (fun g129 => ?_) (fun g129 => ?_)
          · replace h := iteT h g129
            conv => whnf
            refine CutK.norm [0, 1, 2, 7, 8, 26, 27, 62] [0] ?_
            conv => whnf
            refine CutK.norm [0, 1, 2, 7, 8, 26, 27] [0] ?_
            conv => whnf
            refine splD (fun g130 => ?_) (fun g130 => ?_)
            · replace h := iteP h g130
              conv => whnf
              obtain ⟨g134, x131, x132, e133, h⟩ := row_si_ex h
              refine Req.of g134 ?_
              refine Row.of _ e133 ?_
              conv => whnf
              obtain ⟨y135, e136, h⟩ := bind_ex h
              refine CallOk.of (impl_cmp_ct e136) ?_
              conv => whnf
              refine splD (fun g137 => ?_) (fun g137 => ?_)
              · replace h := iteP h g137
                conv => whnf
                refine CutK.norm [0, 1, 2, 26, 27, 81] [0] ?_
                conv => whnf
                cases h
                exact Done.of [some 0] [] rfl rfl ⟨⟨rfl, rfl⟩, ⟨rfl, ⟨rfl, rfl, trivial⟩, trivial⟩, rfl, trivial⟩
              · replace h := iteN h g137
                conv => whnf
                refine CutK.norm [0, 1, 2, 26, 27, 81] [0] ?_
                conv => whnf
                refine CutK.norm [0, 1, 2, 26, 27] [0] ?_
                conv => whnf
                exact LoopOk.back (impl_ordinalAt_2_l0_ct hrec_impl_ordinalAt_2 hx rest (v77n + 1) _ hd1 h) [some 0] [] ⟨⟨rfl, rfl⟩, ⟨rfl, ⟨rfl, rfl, trivial⟩, trivial⟩, rfl, rfl, ⟨rfl, rfl⟩, rfl, i64eq (wrap_up hlt hx), trivial⟩
            · replace h := iteN h g130
              conv => whnf
              refine CutK.norm [0, 1, 2, 26, 27, 81] [0] ?_
              conv => whnf
              refine CutK.norm [0, 1, 2, 26, 27] [0] ?_
              conv => whnf
              exact LoopOk.back (impl_ordinalAt_2_l0_ct hrec_impl_ordinalAt_2 hx rest (v77n + 1) _ hd1 h) [some 0] [] ⟨⟨rfl, rfl⟩, ⟨rfl, ⟨rfl, rfl, trivial⟩, trivial⟩, rfl, rfl, ⟨rfl, rfl⟩, rfl, i64eq (wrap_up hlt hx), trivial⟩
          · replace h := iteF h g129
            conv => whnf
            refine CutK.norm [0, 1, 2, 7, 8, 26, 27, 62] [0] ?_
            conv => whnf
            cases h
            exact Done.of [some 0] [] rfl rfl ⟨⟨rfl, rfl⟩, ⟨rfl, ⟨rfl, rfl, trivial⟩, trivial⟩, rfl, trivial⟩
        · replace h := iteF h g126
          conv => whnf
          refine CutK.norm [0, 1, 2, 7, 8, 26, 27, 62] [0] ?_
          conv => whnf
          cases h
          exact Done.of [some 0] [] rfl rfl ⟨⟨rfl, rfl⟩, ⟨rfl, ⟨rfl, rfl, trivial⟩, trivial⟩, rfl, trivial⟩
def impl_ordinalAt_2_b (k : Nat) (rec_impl_ordinalAt_2 : Rw → Int → Int → Int → Option (Bool × Int)) (a1 : Rw) (a2 : Int) (a3 : Int) (a4 : Int) : Option (Bool × Int) :=
  (if (60 : Int) < (IntKind.i64.wrap (a4 + 1)) then some (false, IntKind.i64.wrap (a4 + 1)) else (if (6 : Int) < a3 then some (false, IntKind.i64.wrap (a4 + 1)) else (if a1.length ≤ cap then (impl_ordinalAt_2_l0 k rec_impl_ordinalAt_2 a1 a2 a3 (fun (v99 : Int) => (impl_ordinalAt_2_p3 v99)) a1 0 (IntKind.i64.wrap (a4 + 1))) else none)))
set_option maxHeartbeats 4000000 in
set_option maxRecDepth 100000 in
theorem impl_ordinalAt_2_b_ct {k : Nat} {rec_impl_ordinalAt_2 : Rw → Int → Int → Int → Option (Bool × Int)} (hrec_impl_ordinalAt_2 : ∀ (a1 : Rw) (a2 : Int) (a3 : Int) (a4 : Int) (r : Bool × Int), rec_impl_ordinalAt_2 a1 a2 a3 a4 = some r → Ct prog 151 [.dp [D.sl a1, D.int .i64 a2], .d (D.int .i64 a3), .ptr 0 0] (⟨[(3, [.d (D.int .i64 a4)])], []⟩) (.d (D.bool r.1)) (⟨[(3, [.d (D.int .i64 r.2)])], []⟩)) {a1 : Rw} {a2 : Int} {a3 : Int} {a4 : Int} {r : Bool × Int} (h : impl_ordinalAt_2_b k rec_impl_ordinalAt_2 a1 a2 a3 a4 = some r) : Ct prog 151 [.dp [D.sl a1, D.int .i64 a2], .d (D.int .i64 a3), .ptr 0 0] (⟨[(3, [.d (D.int .i64 a4)])], []⟩) (.d (D.bool r.1)) (⟨[(3, [.d (D.int .i64 r.2)])], []⟩) := by
  rw [impl_ordinalAt_2_b] at h
  refine Ct.of (c := _) mixed func151 ⟨rfl, rfl, rfl⟩ ?_ rfl
  conv => whnf
  refine splD (fun g63 => ?_) (fun g63 => ?_)
  · replace h := iteP h g63
    conv => whnf
    cases h
    exact Done.of [some 0] [] rfl rfl ⟨⟨rfl, rfl⟩, ⟨rfl, ⟨rfl, rfl, trivial⟩, trivial⟩, rfl, trivial⟩
  · replace h := iteN h g63
    conv => whnf
    refine splD (fun g64 => ?_) (fun g64 => ?_)
    · replace h := iteP h g64
      conv => whnf
      cases h
      exact Done.of [some 0] [] rfl rfl ⟨⟨rfl, rfl⟩, ⟨rfl, ⟨rfl, rfl, trivial⟩, trivial⟩, rfl, trivial⟩
    · replace h := iteN h g64
      conv => whnf
      obtain ⟨g138, h⟩ := req_ex h
      refine LoopOk.into (impl_ordinalAt_2_l0_ct hrec_impl_ordinalAt_2 g138 _ _ _ rfl h) [some 0] [] ⟨⟨rfl, rfl⟩, ⟨rfl, ⟨rfl, rfl, trivial⟩, trivial⟩, rfl, rfl, ⟨rfl, rfl⟩, rfl, rfl, trivial⟩ ?_ (fun _ hs => hs)
      rintro i ts os ⟨rfl, v99, h, rfl, rfl⟩
      conv => whnf
      exact CutK.piece (impl_ordinalAt_2_p3_ct  h) [some 0] [] ⟨⟨rfl, rfl⟩, ⟨rfl, ⟨rfl, rfl, trivial⟩, trivial⟩, trivial⟩
def impl_ordinalAt_2 : Nat → Rw → Int → Int → Int → Option (Bool × Int)
  | 0, _, _, _, _ => none
  | k + 1, a1, a2, a3, a4 => impl_ordinalAt_2_b k (impl_ordinalAt_2 k) a1 a2 a3 a4
theorem impl_ordinalAt_2_ct' : ∀ (k : Nat) (a1 : Rw) (a2 : Int) (a3 : Int) (a4 : Int) (r : Bool × Int), impl_ordinalAt_2 k a1 a2 a3 a4 = some r → Ct prog 151 [.dp [D.sl a1, D.int .i64 a2], .d (D.int .i64 a3), .ptr 0 0] (⟨[(3, [.d (D.int .i64 a4)])], []⟩) (.d (D.bool r.1)) (⟨[(3, [.d (D.int .i64 r.2)])], []⟩)
  | 0, _, _, _, _, _, h => by rw [impl_ordinalAt_2] at h; cases h
  | k + 1, _, _, _, _, _, h => by rw [impl_ordinalAt_2] at h; exact impl_ordinalAt_2_b_ct (impl_ordinalAt_2_ct' k) h
theorem impl_ordinalAt_2_ct {k : Nat} {a1 : Rw} {a2 : Int} {a3 : Int} {a4 : Int} {r : Bool × Int} (h : impl_ordinalAt_2 k a1 a2 a3 a4 = some r) : Ct prog 151 [.dp [D.sl a1, D.int .i64 a2], .d (D.int .i64 a3), .ptr 0 0] (⟨[(3, [.d (D.int .i64 a4)])], []⟩) (.d (D.bool r.1)) (⟨[(3, [.d (D.int .i64 r.2)])], []⟩) := impl_ordinalAt_2_ct' k _ _ _ _ _ h

def impl_ordinalAt_p3 (a1 : Rw) (o61 : Int) : Option (Bool × Rw × Int) :=
  some (true, a1, o61)
set_option maxHeartbeats 4000000 in
set_option maxRecDepth 100000 in
theorem impl_ordinalAt_p3_ct {a1 : Rw} {o61 : Int} {r : Bool × Rw × Int} (h : impl_ordinalAt_p3 a1 o61 = some r) : X prog 2 (tlF f151 3) (mk 83 [] [(0, .box 26 [.d (D.sl a1)]), (64, .box 3 [.d (D.int .i64 o61)])]) (finK prog f151 2 (.d (D.bool r.1)) (⟨[(26, [.d (D.sl r.2.1)]), (3, [.d (D.int .i64 r.2.2)])], []⟩)) := by
  rw [impl_ordinalAt_p3] at h
  conv => whnf
  cases h
  exact Done.of [some 0, some 64] [] rfl rfl ⟨⟨rfl, rfl⟩, ⟨rfl, ⟨rfl, rfl, trivial⟩, ⟨rfl, rfl, trivial⟩, trivial⟩, rfl, trivial⟩
def impl_ordinalAt_l0 (k : Nat) (a1 : Rw) (a2 : Int) (K0 : Int → Option (Bool × Rw × Int)) : Rw → Nat → Int → Option (Bool × Rw × Int)
  | [], v76n, v77 => (K0 v77)
  | cs :: rest, v76n, v77 => (cell_si cs fun x119 x120 => (if (60 : Int) < (IntKind.i64.wrap (v77 + 1)) then some (false, a1, IntKind.i64.wrap (v77 + 1)) else ((impl_in x120 1 1000000).bind fun y123 => (if y123 = true then ((impl_ordinalAt_2 k x119 x120 (IntKind.i64.wrap (a2 + 1)) (IntKind.i64.wrap (v77 + 1))).bind fun y126 => (if y126.1 = true then (if (0 : Int) < (v76n : Int) then (row_si a1 (IntKind.i64.wrap ((v76n : Int) - 1)) fun x130 x131 => ((impl_cmp k x130 x119).bind fun y134 => (if y134 ≤ (0 : Int) then some (false, a1, y126.2) else (impl_ordinalAt_l0 k a1 a2 K0 rest (v76n + 1) y126.2)))) else (impl_ordinalAt_l0 k a1 a2 K0 rest (v76n + 1) y126.2)) else some (false, a1, y126.2))) else some (false, a1, IntKind.i64.wrap (v77 + 1))))))
set_option maxRecDepth 100000 in
theorem impl_ordinalAt_l0_ct {k : Nat} {a1 : Rw} {a2 : Int} {K0 : Int → Option (Bool × Rw × Int)} {r : Bool × Rw × Int} (hx : a1.length ≤ cap) : ∀ (rest : Rw) (v76n : Nat) (v77 : Int), a1.drop v76n = rest → impl_ordinalAt_l0 k a1 a2 K0 rest v76n v77 = some r → LoopOk prog 2 (lp f151 0) (mk 83 [(0, .ptr 0 0), (1, .d (D.int .i64 a2)), (2, .ptr 64 0), (26, .d (D.int .i64 (a1.length : Int))), (27, .d (D.int .i64 (v76n : Int)))] [(0, .box 26 [.d (D.sl a1)]), (64, .box 3 [.d (D.int .i64 v77)])]) (LoopEnd prog f151 2 83 (.d (D.bool r.1)) (⟨[(26, [.d (D.sl r.2.1)]), (3, [.d (D.int .i64 r.2.2)])], []⟩) (fun i ts os => (i = 0 ∧ ∃ v98 : Int, K0 v98 = some r ∧ ts = [] ∧ os = [(0, .box 26 [.d (D.sl a1)]), (64, .box 3 [.d (D.int .i64 v98)])])))
  | [], v76n, v77, hd, h => by
      rw [impl_ordinalAt_l0] at h
      have hn := drop_nil hd
      refine LoopOk.step ?_
      conv => whnf
      refine splD (fun g => absurd g hn) (fun _ => ?_)
      conv => whnf
      exact ⟨_, _, [some 0, some 64], [], ⟨rfl, _, h, rfl, rfl⟩, ⟨⟨rfl, rfl⟩, ⟨rfl, ⟨rfl, rfl, trivial⟩, ⟨rfl, rfl, trivial⟩, trivial⟩, trivial⟩⟩
  | cs :: rest, v76n, v77, hd, h => by
      rw [impl_ordinalAt_l0] at h
      obtain ⟨hrow, hd1, hlt⟩ := drop_cons hd
      refine LoopOk.step ?_
      conv => whnf
      refine splD (fun _ => ?_) (fun g => absurd hlt g)
      conv => whnf
      obtain ⟨x119, x120, e121, h⟩ := cell_si_ex h
      rw [e121] at hrow
      refine Req.of (Int.natCast_nonneg _) ?_
      refine Row.of _ hrow ?_
      conv => whnf
      refine splD (fun g122 => ?_) (fun g122 => ?_)
      · replace h := iteP h g122
        conv => whnf
        refine CutK.norm [0, 1, 2, 7, 8, 26, 27, 62] [0, 64] ?_
        conv => whnf
        cases h
        exact Done.of [some 0, some 64] [] rfl rfl ⟨⟨rfl, rfl⟩, ⟨rfl, ⟨rfl, rfl, trivial⟩, ⟨rfl, rfl, trivial⟩, trivial⟩, rfl, trivial⟩
      · replace h := iteN h g122
        conv => whnf
        obtain ⟨y123, e124, h⟩ := bind_ex h
        refine CallOk.of (impl_in_ct e124) ?_
        conv => whnf
        refine spl (fun g125 => ?_) (fun g125 => ?_)
        · replace h := iteT h g125
          conv => whnf
          obtain ⟨y126, e127, h⟩ := bind_ex h
          refine CallOk.of (impl_ordinalAt_2_ct e127) ?_
          conv => whnf
          refine spl (fun g128 => ?_) (fun g128 => ?_)
          · replace h := iteT h g128
            conv => whnf
            refine CutK.norm [0, 1, 2, 7, 8, 26, 27, 62] [0, 64] ?_
            conv => whnf
            refine CutK.norm [0, 1, 2, 7, 8, 26, 27] [0, 64] ?_
            conv => whnf
            refine splD (fun g129 => ?_) (fun g129 => ?_)
            · replace h := iteP h g129
              conv => whnf
              obtain ⟨g133, x130, x131, e132, h⟩ := row_si_ex h
              refine Req.of g133 ?_
              refine Row.of _ e132 ?_
              conv => whnf
              obtain ⟨y134, e135, h⟩ := bind_ex h
              refine CallOk.of (impl_cmp_ct e135) ?_
              conv => whnf
              refine splD (fun g136 => ?_) (fun g136 => ?_)
              · replace h := iteP h g136
                conv => whnf
                refine CutK.norm [0, 1, 2, 26, 27, 81] [0, 64] ?_
                conv => whnf
                cases h
                exact Done.of [some 0, some 64] [] rfl rfl ⟨⟨rfl, rfl⟩, ⟨rfl, ⟨rfl, rfl, trivial⟩, ⟨rfl, rfl, trivial⟩, trivial⟩, rfl, trivial⟩
              · replace h := iteN h g136
                conv => whnf
                refine CutK.norm [0, 1, 2, 26, 27, 81] [0, 64] ?_
                conv => whnf
                refine CutK.norm [0, 1, 2, 26, 27] [0, 64] ?_
                conv => whnf
                exact LoopOk.back (impl_ordinalAt_l0_ct hx rest (v76n + 1) _ hd1 h) [some 0, some 64] [] ⟨⟨rfl, rfl⟩, ⟨rfl, ⟨rfl, rfl, trivial⟩, ⟨rfl, rfl, trivial⟩, trivial⟩, ⟨rfl, rfl⟩, rfl, ⟨rfl, rfl⟩, rfl, i64eq (wrap_up hlt hx), trivial⟩
            · replace h := iteN h g129
              conv => whnf
              refine CutK.norm [0, 1, 2, 26, 27, 81] [0, 64] ?_
              conv => whnf
              refine CutK.norm [0, 1, 2, 26, 27] [0, 64] ?_
              conv => whnf
              exact LoopOk.back (impl_ordinalAt_l0_ct hx rest (v76n + 1) _ hd1 h) [some 0, some 64] [] ⟨⟨rfl, rfl⟩, ⟨rfl, ⟨rfl, rfl, trivial⟩, ⟨rfl, rfl, trivial⟩, trivial⟩, ⟨rfl, rfl⟩, rfl, ⟨rfl, rfl⟩, rfl, i64eq (wrap_up hlt hx), trivial⟩
          · replace h := iteF h g128
            conv => whnf
            refine CutK.norm [0, 1, 2, 7, 8, 26, 27, 62] [0, 64] ?_
            conv => whnf
            cases h
            exact Done.of [some 0, some 64] [] rfl rfl ⟨⟨rfl, rfl⟩, ⟨rfl, ⟨rfl, rfl, trivial⟩, ⟨rfl, rfl, trivial⟩, trivial⟩, rfl, trivial⟩
        · replace h := iteF h g125
          conv => whnf
          refine CutK.norm [0, 1, 2, 7, 8, 26, 27, 62] [0, 64] ?_
          conv => whnf
          cases h
          exact Done.of [some 0, some 64] [] rfl rfl ⟨⟨rfl, rfl⟩, ⟨rfl, ⟨rfl, rfl, trivial⟩, ⟨rfl, rfl, trivial⟩, trivial⟩, rfl, trivial⟩
def impl_ordinalAt (k : Nat) (a1 : Rw) (a2 : Int) (a3 : Int) : Option (Bool × Rw × Int) :=
  (if (60 : Int) < (IntKind.i64.wrap (a3 + 1)) then some (false, a1, IntKind.i64.wrap (a3 + 1)) else (if (6 : Int) < a2 then some (false, a1, IntKind.i64.wrap (a3 + 1)) else (if a1.length ≤ cap then (impl_ordinalAt_l0 k a1 a2 (fun (v98 : Int) => (impl_ordinalAt_p3 a1 v98)) a1 0 (IntKind.i64.wrap (a3 + 1))) else none)))
set_option maxHeartbeats 4000000 in
set_option maxRecDepth 100000 in
theorem impl_ordinalAt_ct {k : Nat} {a1 : Rw} {a2 : Int} {a3 : Int} {r : Bool × Rw × Int} (h : impl_ordinalAt k a1 a2 a3 = some r) : Ct prog 151 [.ptr 0 0, .d (D.int .i64 a2), .ptr 64 0] (⟨[(26, [.d (D.sl a1)]), (3, [.d (D.int .i64 a3)])], []⟩) (.d (D.bool r.1)) (⟨[(26, [.d (D.sl r.2.1)]), (3, [.d (D.int .i64 r.2.2)])], []⟩) := by
  rw [impl_ordinalAt] at h
  refine Ct.of (c := _) mixed func151 ⟨rfl, rfl, rfl⟩ ?_ rfl
  conv => whnf
  refine splD (fun g62 => ?_) (fun g62 => ?_)
  · replace h := iteP h g62
    conv => whnf
    cases h
    exact Done.of [some 0, some 64] [] rfl rfl ⟨⟨rfl, rfl⟩, ⟨rfl, ⟨rfl, rfl, trivial⟩, ⟨rfl, rfl, trivial⟩, trivial⟩, rfl, trivial⟩
  · replace h := iteN h g62
    conv => whnf
    refine splD (fun g63 => ?_) (fun g63 => ?_)
    · replace h := iteP h g63
      conv => whnf
      cases h
      exact Done.of [some 0, some 64] [] rfl rfl ⟨⟨rfl, rfl⟩, ⟨rfl, ⟨rfl, rfl, trivial⟩, ⟨rfl, rfl, trivial⟩, trivial⟩, rfl, trivial⟩
    · replace h := iteN h g63
      conv => whnf
      obtain ⟨g137, h⟩ := req_ex h
      refine LoopOk.into (impl_ordinalAt_l0_ct  g137 _ _ _ rfl h) [some 0, some 64] [] ⟨⟨rfl, rfl⟩, ⟨rfl, ⟨rfl, rfl, trivial⟩, ⟨rfl, rfl, trivial⟩, trivial⟩, ⟨rfl, rfl⟩, rfl, ⟨rfl, rfl⟩, rfl, rfl, trivial⟩ ?_ (fun _ hs => hs)
      rintro i ts os ⟨rfl, v98, h, rfl, rfl⟩
      conv => whnf
      exact CutK.piece (impl_ordinalAt_p3_ct  h) [some 0, some 64] [] ⟨⟨rfl, rfl⟩, ⟨rfl, ⟨rfl, rfl, trivial⟩, ⟨rfl, rfl, trivial⟩, trivial⟩, trivial⟩

def impl_IsOrdinal (k : Nat) (a1 : Rw) : Option Bool :=
  ((impl_ordinalAt k a1 0 0).bind fun y2 => (if y2.1 = true then some true else some false))
set_option maxHeartbeats 4000000 in
set_option maxRecDepth 100000 in
theorem impl_IsOrdinal_ct {k : Nat} {a1 : Rw} {r : Bool} (h : impl_IsOrdinal k a1 = some r) : Ct prog 70 [.agg [.d (D.sl a1)]] (⟨[], []⟩) (.d (D.bool r)) (⟨[], []⟩) := by
  rw [impl_IsOrdinal] at h
  refine Ct.of (c := _) mixed func70 ⟨rfl, rfl, rfl⟩ ?_ rfl
  conv => whnf
  obtain ⟨y2, e3, h⟩ := bind_ex h
  refine CallOk.of (impl_ordinalAt_ct e3) ?_
  conv => whnf
  refine spl (fun g4 => ?_) (fun g4 => ?_)
  · replace h := iteT h g4
    conv => whnf
    refine CutK.go ?_
    conv => whnf
    cases h
    exact Done.of [] [] rfl rfl ⟨⟨rfl, rfl⟩, ⟨rfl, trivial⟩, rfl, trivial⟩
  · replace h := iteF h g4
    conv => whnf
    refine CutK.go ?_
    conv => whnf
    cases h
    exact Done.of [] [] rfl rfl ⟨⟨rfl, rfl⟩, ⟨rfl, trivial⟩, rfl, trivial⟩

def impl_whole  (a1 : Int) : Option (Int × Int) :=
  some (a1, 1)
set_option maxHeartbeats 4000000 in
set_option maxRecDepth 100000 in
theorem impl_whole_ct  {a1 : Int} {r : Int × Int} (h : impl_whole a1 = some r) : Ct prog 134 [.d (D.int .i64 a1)] (⟨[], []⟩) (.agg [.d (D.int .i64 r.1), .d (D.int .i64 r.2)]) (⟨[], []⟩) := by
  rw [impl_whole] at h
  refine Ct.of (c := _) mixed func134 ⟨rfl, rfl, rfl⟩ ?_ rfl
  conv => whnf
  cases h
  exact Done.of [] [] rfl rfl ⟨⟨rfl, rfl⟩, ⟨rfl, trivial⟩, ⟨rfl, rfl, trivial⟩, trivial⟩

def impl_fromOrdinal_l0 (rec_impl_fromOrdinal : Rw → Option Rw) (a1 : Rw) (K0 : Rw → Option Rw) : Rw → Rw → Option Rw
  | [], v12 => (K0 v12)
  | cs :: rest, v12 => (cell_si cs fun x34 x35 => ((rec_impl_fromOrdinal x34).bind fun y37 => ((impl_whole x35).bind fun y39 => (if v12.length + 1 ≤ cap then (impl_fromOrdinal_l0 rec_impl_fromOrdinal a1 K0 rest (v12 ++ ([[D.sl y37, D.int .i64 y39.1, D.int .i64 y39.2]]))) else none))))
set_option maxRecDepth 100000 in
theorem impl_fromOrdinal_l0_ct {rec_impl_fromOrdinal : Rw → Option Rw} {a1 : Rw} {K0 : Rw → Option Rw} (hrec_impl_fromOrdinal : ∀ (a1 : Rw) (r : Rw), rec_impl_fromOrdinal a1 = some r → Ct prog 97 [.agg [.d (D.sl a1)]] (⟨[], []⟩) (.agg [.os 8 r.length]) (⟨[], [(120, true, r)]⟩)) {r : Rw} (hx : a1.length ≤ cap) : ∀ (rest : Rw) (v11n : Nat) (v12 : Rw), a1.drop v11n = rest → impl_fromOrdinal_l0 rec_impl_fromOrdinal a1 K0 rest v12 = some r → LoopOk prog 0 (lp f97 0) (mk 28 [(2, .ptr 128 0), (3, .ptr 192 0), (8, .d (D.sl a1)), (9, .d (D.int .i64 (a1.length : Int))), (10, .d (D.int .i64 (v11n : Int)))] [(128, .box 46 [.es]), (192, .box 46 [.os 64000 v12.length]), (64000, .arr 120 true v12)]) (LoopEnd prog f97 0 28 (.agg [.os 8 r.length]) (⟨[], [(120, true, r)]⟩) (fun i ts os => (i = 0 ∧ ∃ v23 : Rw, K0 v23 = some r ∧ ts = [(2, .ptr 128 0), (3, .ptr 192 0)] ∧ os = [(128, .box 46 [.es]), (192, .box 46 [.os 67001 v23.length]), (67001, .arr 120 true v23)])))
  | [], v11n, v12, hd, h => by
      rw [impl_fromOrdinal_l0] at h
      have hn := drop_nil hd
      refine LoopOk.step ?_
      conv => whnf
      refine splD (fun g => absurd g hn) (fun _ => ?_)
      conv => whnf
      exact ⟨_, _, [some 128, some 192, some 64000], [], ⟨rfl, _, h, rfl, rfl⟩, ⟨⟨rfl, rfl⟩, ⟨rfl, ⟨rfl, trivial, trivial⟩, ⟨rfl, ⟨rfl, rfl⟩, trivial⟩, ⟨rfl, rfl, rows_same⟩, trivial⟩, ⟨rfl, rfl⟩, ⟨rfl, rfl⟩, trivial⟩⟩
  | cs :: rest, v11n, v12, hd, h => by
      rw [impl_fromOrdinal_l0] at h
      obtain ⟨hrow, hd1, hlt⟩ := drop_cons hd
      refine LoopOk.step ?_
      conv => whnf
      refine splD (fun _ => ?_) (fun g => absurd hlt g)
      conv => whnf
      obtain ⟨x34, x35, e36, h⟩ := cell_si_ex h
      rw [e36] at hrow
      refine Req.of (Int.natCast_nonneg _) ?_
      refine Row.of _ hrow ?_
      conv => whnf
      obtain ⟨y37, e38, h⟩ := bind_ex h
      refine CallOk.of (hrec_impl_fromOrdinal _ _ e38) ?_
      conv => whnf
      obtain ⟨y39, e40, h⟩ := bind_ex h
      refine CallOk.of (impl_whole_ct e40) ?_
      conv => whnf
      refine Take.all (rfl) ?_
      conv => whnf
      refine Take.all (rfl) ?_
      conv => whnf
      refine Take.all (by first | rfl | exact List.length_append.symm | (simp; done) | omega) ?_
      conv => whnf
      obtain ⟨g41, h⟩ := req_ex h
      refine Req.of (room (b := 40) (by decide) g41 (wide1 rfl wide0)) ?_
      conv => whnf
      refine CutK.go ?_
      conv => whnf
      exact LoopOk.back (impl_fromOrdinal_l0_ct hrec_impl_fromOrdinal hx rest (v11n + 1) _ hd1 h) [some 128, some 192, some 1536] [] ⟨⟨rfl, rfl⟩, ⟨rfl, ⟨rfl, trivial, trivial⟩, ⟨rfl, ⟨(by first | rfl | exact List.length_append.symm | (simp; done) | omega), rfl⟩, trivial⟩, ⟨rfl, rfl, rows_same⟩, trivial⟩, ⟨rfl, rfl⟩, ⟨rfl, rfl⟩, rfl, rfl, i64eq (wrap_up hlt hx), trivial⟩
def impl_fromOrdinal_b (rec_impl_fromOrdinal : Rw → Option Rw) (a1 : Rw) : Option Rw :=
  (if a1.length ≤ cap then (impl_fromOrdinal_l0 rec_impl_fromOrdinal a1 (fun (v23 : Rw) => some v23) a1 ([] : Rw)) else none)
set_option maxHeartbeats 4000000 in
set_option maxRecDepth 100000 in
theorem impl_fromOrdinal_b_ct {rec_impl_fromOrdinal : Rw → Option Rw} (hrec_impl_fromOrdinal : ∀ (a1 : Rw) (r : Rw), rec_impl_fromOrdinal a1 = some r → Ct prog 97 [.agg [.d (D.sl a1)]] (⟨[], []⟩) (.agg [.os 8 r.length]) (⟨[], [(120, true, r)]⟩)) {a1 : Rw} {r : Rw} (h : impl_fromOrdinal_b rec_impl_fromOrdinal a1 = some r) : Ct prog 97 [.agg [.d (D.sl a1)]] (⟨[], []⟩) (.agg [.os 8 r.length]) (⟨[], [(120, true, r)]⟩) := by
  rw [impl_fromOrdinal_b] at h
  refine Ct.of (c := _) mixed func97 ⟨rfl, rfl, rfl⟩ ?_ rfl
  conv => whnf
  obtain ⟨g42, h⟩ := req_ex h
  refine LoopOk.into (impl_fromOrdinal_l0_ct hrec_impl_fromOrdinal g42 _ _ _ rfl h) [some 128, some 192, none] [] ⟨⟨rfl, rfl⟩, ⟨rfl, ⟨rfl, trivial, trivial⟩, ⟨rfl, ⟨rfl, rfl⟩, trivial⟩, rfl, trivial⟩, ⟨rfl, rfl⟩, ⟨rfl, rfl⟩, rfl, rfl, rfl, trivial⟩ ?_ (fun _ hs => hs)
  rintro i ts os ⟨rfl, v23, h, rfl, rfl⟩
  conv => whnf
  refine CutK.go ?_
  conv => whnf
  cases h
  exact Done.of [some 67001] [] rfl rfl ⟨⟨rfl, rfl⟩, ⟨rfl, ⟨rfl, rfl, rows_same⟩, trivial⟩, ⟨⟨rfl, rfl⟩, trivial⟩, trivial⟩
def impl_fromOrdinal : Nat → Rw → Option Rw
  | 0, _ => none
  | k + 1, a1 => impl_fromOrdinal_b (impl_fromOrdinal k) a1
theorem impl_fromOrdinal_ct' : ∀ (k : Nat) (a1 : Rw) (r : Rw), impl_fromOrdinal k a1 = some r → Ct prog 97 [.agg [.d (D.sl a1)]] (⟨[], []⟩) (.agg [.os 8 r.length]) (⟨[], [(120, true, r)]⟩)
  | 0, _, _, h => by rw [impl_fromOrdinal] at h; cases h
  | k + 1, _, _, h => by rw [impl_fromOrdinal] at h; exact impl_fromOrdinal_b_ct (impl_fromOrdinal_ct' k) h
theorem impl_fromOrdinal_ct {k : Nat} {a1 : Rw} {r : Rw} (h : impl_fromOrdinal k a1 = some r) : Ct prog 97 [.agg [.d (D.sl a1)]] (⟨[], []⟩) (.agg [.os 8 r.length]) (⟨[], [(120, true, r)]⟩) := impl_fromOrdinal_ct' k _ _ h

def impl_size  (a1 : Int) : Option Int :=
  some (if a1 < (IntKind.i64.wrap (0 - a1)) then IntKind.i64.wrap (0 - a1) else a1)
set_option maxHeartbeats 4000000 in
set_option maxRecDepth 100000 in
theorem impl_size_ct  {a1 : Int} {r : Int} (h : impl_size a1 = some r) : Ct prog 215 [.d (D.int .i64 a1)] (⟨[], []⟩) (.d (D.int .i64 r)) (⟨[], []⟩) := by
  rw [impl_size] at h
  refine Ct.of (c := _) mixed func215 ⟨rfl, rfl, rfl⟩ ?_ rfl
  conv => whnf
  cases h
  exact Done.of [] [] rfl rfl ⟨⟨rfl, rfl⟩, ⟨rfl, trivial⟩, rfl, trivial⟩

def impl_gcd_l0 (K0 : Int → Option Int) : Nat → Int → Int → Option Int
  | 0, _, _ => none
  | n + 1, v5, v6 => (if v6 = (0 : Int) then (K0 v5) else (if v6 ≠ 0 then (impl_gcd_l0 K0 n v6 (v5.tmod v6)) else none))
set_option maxRecDepth 100000 in
theorem impl_gcd_l0_ct {K0 : Int → Option Int} {r : Int} : ∀ (n : Nat) (v5 : Int) (v6 : Int), impl_gcd_l0 K0 n v5 v6 = some r → LoopOk prog 0 (lp f192 0) (mk 13 [(0, .d (D.int .i64 v5)), (1, .d (D.int .i64 v6))] []) (LoopEnd prog f192 0 13 (.d (D.int .i64 r)) (⟨[], []⟩) (fun i ts os => (i = 0 ∧ ∃ v9 : Int, K0 v9 = some r ∧ ts = [(0, .d (D.int .i64 v9))] ∧ os = [])))
  | 0, _, _, h => by
      rw [impl_gcd_l0] at h; cases h
  | n + 1, v5, v6, h => by
      rw [impl_gcd_l0] at h
      refine LoopOk.step ?_
      conv => whnf
      refine splN (fun g12 => ?_) (fun g12 => ?_)
      · replace h := iteN h g12
        conv => whnf
        obtain ⟨g13, h⟩ := req_ex h
        refine Req.of g13 ?_
        conv => whnf
        exact LoopOk.back (impl_gcd_l0_ct  n _ _ h) [] [] ⟨⟨rfl, rfl⟩, ⟨rfl, trivial⟩, rfl, rfl, trivial⟩
      · replace h := iteP h g12
        conv => whnf
        exact ⟨_, _, [], [], ⟨rfl, _, h, rfl, rfl⟩, ⟨⟨rfl, rfl⟩, ⟨rfl, trivial⟩, rfl, trivial⟩⟩
def impl_gcd (k : Nat) (a1 : Int) (a2 : Int) : Option Int :=
  (impl_gcd_l0 (fun (v9 : Int) => ((impl_size v9).bind fun y14 => some y14)) k a1 a2)
set_option maxHeartbeats 4000000 in
set_option maxRecDepth 100000 in
theorem impl_gcd_ct {k : Nat} {a1 : Int} {a2 : Int} {r : Int} (h : impl_gcd k a1 a2 = some r) : Ct prog 192 [.d (D.int .i64 a1), .d (D.int .i64 a2)] (⟨[], []⟩) (.d (D.int .i64 r)) (⟨[], []⟩) := by
  rw [impl_gcd] at h
  refine Ct.of (c := _) mixed func192 ⟨rfl, rfl, rfl⟩ ?_ rfl
  conv => whnf
  refine LoopOk.into (impl_gcd_l0_ct  _ _ _ h) [] [] ⟨⟨rfl, rfl⟩, ⟨rfl, trivial⟩, rfl, rfl, trivial⟩ ?_ (fun _ hs => hs)
  rintro i ts os ⟨rfl, v9, h, rfl, rfl⟩
  conv => whnf
  refine CutK.go ?_
  conv => whnf
  obtain ⟨y14, e15, h⟩ := bind_ex h
  refine CallOk.of (impl_size_ct e15) ?_
  conv => whnf
  refine CutK.go ?_
  conv => whnf
  cases h
  exact Done.of [] [] rfl rfl ⟨⟨rfl, rfl⟩, ⟨rfl, trivial⟩, rfl, trivial⟩

def impl_IsFraction (k : Nat) (a1 : Int) (a2 : Int) : Option Bool :=
  ((impl_in a2 1 1000000).bind fun y3 => (if y3 = true then ((impl_in a1 (-1000000) 1000000).bind fun y6 => (if y6 = true then ((impl_gcd k a1 a2).bind fun y9 => (if y9 = (1 : Int) then some true else some false)) else some false)) else some false))
set_option maxHeartbeats 4000000 in
set_option maxRecDepth 100000 in
theorem impl_IsFraction_ct {k : Nat} {a1 : Int} {a2 : Int} {r : Bool} (h : impl_IsFraction k a1 a2 = some r) : Ct prog 123 [.agg [.d (D.int .i64 a1), .d (D.int .i64 a2)]] (⟨[], []⟩) (.d (D.bool r)) (⟨[], []⟩) := by
  rw [impl_IsFraction] at h
  refine Ct.of (c := _) mixed func123 ⟨rfl, rfl, rfl⟩ ?_ rfl
  conv => whnf
  obtain ⟨y3, e4, h⟩ := bind_ex h
  refine CallOk.of (impl_in_ct e4) ?_
  conv => whnf
  refine spl (fun g5 => ?_) (fun g5 => ?_)
  · replace h := iteT h g5
    conv => whnf
    obtain ⟨y6, e7, h⟩ := bind_ex h
    refine CallOk.of (impl_in_ct e7) ?_
    conv => whnf
    refine spl (fun g8 => ?_) (fun g8 => ?_)
    · replace h := iteT h g8
      conv => whnf
      obtain ⟨y9, e10, h⟩ := bind_ex h
      refine CallOk.of (impl_gcd_ct e10) ?_
      conv => whnf
      refine splD (fun g11 => ?_) (fun g11 => ?_)
      · replace h := iteP h g11
        conv => whnf
        refine CutK.go ?_
        conv => whnf
        cases h
        exact Done.of [] [] rfl rfl ⟨⟨rfl, rfl⟩, ⟨rfl, trivial⟩, rfl, trivial⟩
      · replace h := iteN h g11
        conv => whnf
        refine CutK.go ?_
        conv => whnf
        cases h
        exact Done.of [] [] rfl rfl ⟨⟨rfl, rfl⟩, ⟨rfl, trivial⟩, rfl, trivial⟩
    · replace h := iteF h g8
      conv => whnf
      refine CutK.go ?_
      conv => whnf
      cases h
      exact Done.of [] [] rfl rfl ⟨⟨rfl, rfl⟩, ⟨rfl, trivial⟩, rfl, trivial⟩
  · replace h := iteF h g5
    conv => whnf
    refine CutK.go ?_
    conv => whnf
    cases h
    exact Done.of [] [] rfl rfl ⟨⟨rfl, rfl⟩, ⟨rfl, trivial⟩, rfl, trivial⟩

def impl_cmpFractions  (a1 : Int) (a2 : Int) (a3 : Int) (a4 : Int) : Option Int :=
  ((impl_compare (IntKind.i64.wrap (a1 * a4)) (IntKind.i64.wrap (a3 * a2))).bind fun y5 => some y5)
set_option maxHeartbeats 4000000 in
set_option maxRecDepth 100000 in
theorem impl_cmpFractions_ct  {a1 : Int} {a2 : Int} {a3 : Int} {a4 : Int} {r : Int} (h : impl_cmpFractions a1 a2 a3 a4 = some r) : Ct prog 177 [.agg [.d (D.int .i64 a1), .d (D.int .i64 a2)], .agg [.d (D.int .i64 a3), .d (D.int .i64 a4)]] (⟨[], []⟩) (.d (D.int .i64 r)) (⟨[], []⟩) := by
  rw [impl_cmpFractions] at h
  refine Ct.of (c := _) mixed func177 ⟨rfl, rfl, rfl⟩ ?_ rfl
  conv => whnf
  obtain ⟨y5, e6, h⟩ := bind_ex h
  refine CallOk.of (impl_compare_ct e6) ?_
  conv => whnf
  refine CutK.go ?_
  conv => whnf
  cases h
  exact Done.of [] [] rfl rfl ⟨⟨rfl, rfl⟩, ⟨rfl, trivial⟩, rfl, trivial⟩

def impl_order_p2  : Option Int :=
  some 0
set_option maxHeartbeats 4000000 in
set_option maxRecDepth 100000 in
theorem impl_order_p2_ct  {r : Int} (h : impl_order_p2 = some r) : X prog 0 (tlF f103 2) (mk 86 [] []) (finK prog f103 0 (.d (D.int .i64 r)) (⟨[], []⟩)) := by
  rw [impl_order_p2] at h
  conv => whnf
  cases h
  exact Done.of [] [] rfl rfl ⟨⟨rfl, rfl⟩, ⟨rfl, trivial⟩, rfl, trivial⟩
def impl_order_l0 (rec_impl_order : Rw → Rw → Option Int) (a1 : Rw) (a2 : Rw) (K0 : Option Int) : Nat → Int → Option Int
  | 0, _ => none
  | n + 1, v211 => (if v211 < (a1.length : Int) then (if v211 = (a1.length : Int) then (row_sii a2 v211 fun x359 x360 x361 => ((impl_compare x360 0).bind fun y364 => some (IntKind.i64.wrap (0 - y364)))) else (if v211 = (a2.length : Int) then (row_sii a1 v211 fun x367 x368 x369 => ((impl_compare x368 0).bind fun y372 => some y372)) else (row_sii a1 v211 fun x374 x375 x376 => (row_sii a2 v211 fun x379 x380 x381 => ((rec_impl_order x374 x379).bind fun y384 => (if y384 = (1 : Int) then ((impl_compare x375 0).bind fun y387 => some y387) else (if y384 = ((-1) : Int) then ((impl_compare x380 0).bind fun y390 => some (IntKind.i64.wrap (0 - y390))) else ((impl_cmpFractions x375 x376 x380 x381).bind fun y392 => (if y392 = (0 : Int) then (impl_order_l0 rec_impl_order a1 a2 K0 n (IntKind.i64.wrap (v211 + 1))) else some y392))))))))) else (if v211 < (a2.length : Int) then (if v211 = (a1.length : Int) then (row_sii a2 v211 fun x397 x398 x399 => ((impl_compare x398 0).bind fun y402 => some (IntKind.i64.wrap (0 - y402)))) else (if v211 = (a2.length : Int) then (row_sii a1 v211 fun x405 x406 x407 => ((impl_compare x406 0).bind fun y410 => some y410)) else (row_sii a1 v211 fun x412 x413 x414 => (row_sii a2 v211 fun x417 x418 x419 => ((rec_impl_order x412 x417).bind fun y422 => (if y422 = (1 : Int) then ((impl_compare x413 0).bind fun y425 => some y425) else (if y422 = ((-1) : Int) then ((impl_compare x418 0).bind fun y428 => some (IntKind.i64.wrap (0 - y428))) else ((impl_cmpFractions x413 x414 x418 x419).bind fun y430 => (if y430 = (0 : Int) then (impl_order_l0 rec_impl_order a1 a2 K0 n (IntKind.i64.wrap (v211 + 1))) else some y430))))))))) else (K0)))
set_option maxRecDepth 100000 in
theorem impl_order_l0_ct {rec_impl_order : Rw → Rw → Option Int} {a1 : Rw} {a2 : Rw} {K0 : Option Int} (hrec_impl_order : ∀ (a1 : Rw) (a2 : Rw) (r : Int), rec_impl_order a1 a2 = some r → Ct prog 103 [.agg [.d (D.sl a1)], .agg [.d (D.sl a2)]] (⟨[], []⟩) (.d (D.int .i64 r)) (⟨[], []⟩)) {r : Int} : ∀ (n : Nat) (v211 : Int), impl_order_l0 rec_impl_order a1 a2 K0 n v211 = some r → LoopOk prog 0 (lp f103 0) (mk 86 [(2, .ptr 128 0), (3, .ptr 192 0), (5, .d (D.int .i64 v211))] [(128, .box 46 [.d (D.sl a1)]), (192, .box 46 [.d (D.sl a2)])]) (LoopEnd prog f103 0 86 (.d (D.int .i64 r)) (⟨[], []⟩) (fun i ts os => (i = 0 ∧ K0 = some r ∧ ts = [] ∧ os = [])))
  | 0, _, h => by
      rw [impl_order_l0] at h; cases h
  | n + 1, v211, h => by
      rw [impl_order_l0] at h
      refine LoopOk.step ?_
      conv => whnf
      refine splD (fun g357 => ?_) (fun g357 => ?_)
      · replace h := iteP h g357
        conv => whnf
        refine splD (fun g358 => ?_) (fun g358 => ?_)
        · replace h := iteP h g358
          conv => whnf
          obtain ⟨g363, x359, x360, x361, e362, h⟩ := row_sii_ex h
          refine Req.of g363 ?_
          refine Row.of _ e362 ?_
          conv => whnf
          obtain ⟨y364, e365, h⟩ := bind_ex h
          refine CallOk.of (impl_compare_ct e365) ?_
          conv => whnf
          refine CutK.norm [4] [] ?_
          conv => whnf
          cases h
          exact Done.of [] [] rfl rfl ⟨⟨rfl, rfl⟩, ⟨rfl, trivial⟩, rfl, trivial⟩
        · replace h := iteN h g358
          conv => whnf
          refine CutK.norm [2, 3, 5] [128, 192] ?_
          conv => whnf
          refine splD (fun g366 => ?_) (fun g366 => ?_)
          · replace h := iteP h g366
            conv => whnf
            obtain ⟨g371, x367, x368, x369, e370, h⟩ := row_sii_ex h
            refine Req.of g371 ?_
            refine Row.of _ e370 ?_
            conv => whnf
            obtain ⟨y372, e373, h⟩ := bind_ex h
            refine CallOk.of (impl_compare_ct e373) ?_
            conv => whnf
            refine CutK.norm [4] [] ?_
            conv => whnf
            cases h
            exact Done.of [] [] rfl rfl ⟨⟨rfl, rfl⟩, ⟨rfl, trivial⟩, rfl, trivial⟩
          · replace h := iteN h g366
            conv => whnf
            refine CutK.norm [2, 3, 5] [128, 192] ?_
            conv => whnf
            obtain ⟨g378, x374, x375, x376, e377, h⟩ := row_sii_ex h
            refine Req.of g378 ?_
            refine Row.of _ e377 ?_
            conv => whnf
            obtain ⟨g383, x379, x380, x381, e382, h⟩ := row_sii_ex h
            refine Req.of g383 ?_
            refine Row.of _ e382 ?_
            conv => whnf
            obtain ⟨y384, e385, h⟩ := bind_ex h
            refine CallOk.of (hrec_impl_order _ _ _ e385) ?_
            conv => whnf
            refine CutK.norm [2, 3, 5, 6, 7, 64] [128, 192, 384, 448] ?_
            conv => whnf
            refine splD (fun g386 => ?_) (fun g386 => ?_)
            · replace h := iteP h g386
              conv => whnf
              obtain ⟨y387, e388, h⟩ := bind_ex h
              refine CallOk.of (impl_compare_ct e388) ?_
              conv => whnf
              refine CutK.norm [4] [] ?_
              conv => whnf
              cases h
              exact Done.of [] [] rfl rfl ⟨⟨rfl, rfl⟩, ⟨rfl, trivial⟩, rfl, trivial⟩
            · replace h := iteN h g386
              conv => whnf
              refine splD (fun g389 => ?_) (fun g389 => ?_)
              · replace h := iteP h g389
                conv => whnf
                obtain ⟨y390, e391, h⟩ := bind_ex h
                refine CallOk.of (impl_compare_ct e391) ?_
                conv => whnf
                refine CutK.norm [4] [] ?_
                conv => whnf
                cases h
                exact Done.of [] [] rfl rfl ⟨⟨rfl, rfl⟩, ⟨rfl, trivial⟩, rfl, trivial⟩
              · replace h := iteN h g389
                conv => whnf
                refine CutK.norm [2, 3, 5, 6, 7] [128, 192, 384, 448] ?_
                conv => whnf
                obtain ⟨y392, e393, h⟩ := bind_ex h
                refine CallOk.of (impl_cmpFractions_ct e393) ?_
                conv => whnf
                refine CutK.norm [2, 3, 5, 8] [128, 192] ?_
                conv => whnf
                refine splN (fun g394 => ?_) (fun g394 => ?_)
                · replace h := iteN h g394
                  conv => whnf
                  cases h
                  exact Done.of [] [] rfl rfl ⟨⟨rfl, rfl⟩, ⟨rfl, trivial⟩, rfl, trivial⟩
                · replace h := iteP h g394
                  conv => whnf
                  refine CutK.norm [2, 3, 5] [128, 192] ?_
                  conv => whnf
                  exact LoopOk.back (impl_order_l0_ct hrec_impl_order n _ h) [some 128, some 192] [] ⟨⟨rfl, rfl⟩, ⟨rfl, ⟨rfl, rfl, trivial⟩, ⟨rfl, rfl, trivial⟩, trivial⟩, ⟨rfl, rfl⟩, ⟨rfl, rfl⟩, rfl, trivial⟩
      · replace h := iteN h g357
        conv => whnf
        refine splD (fun g395 => ?_) (fun g395 => ?_)
        · replace h := iteP h g395
          conv => whnf
          refine splD (fun g396 => ?_) (fun g396 => ?_)
          · replace h := iteP h g396
            conv => whnf
            obtain ⟨g401, x397, x398, x399, e400, h⟩ := row_sii_ex h
            refine Req.of g401 ?_
            refine Row.of _ e400 ?_
            conv => whnf
            obtain ⟨y402, e403, h⟩ := bind_ex h
            refine CallOk.of (impl_compare_ct e403) ?_
            conv => whnf
            refine CutK.norm [4] [] ?_
            conv => whnf
            cases h
            exact Done.of [] [] rfl rfl ⟨⟨rfl, rfl⟩, ⟨rfl, trivial⟩, rfl, trivial⟩
          · replace h := iteN h g396
            conv => whnf
            refine CutK.norm [2, 3, 5] [128, 192] ?_
            conv => whnf
            refine splD (fun g404 => ?_) (fun g404 => ?_)
            · replace h := iteP h g404
              conv => whnf
              obtain ⟨g409, x405, x406, x407, e408, h⟩ := row_sii_ex h
              refine Req.of g409 ?_
              refine Row.of _ e408 ?_
              conv => whnf
              obtain ⟨y410, e411, h⟩ := bind_ex h
              refine CallOk.of (impl_compare_ct e411) ?_
              conv => whnf
              refine CutK.norm [4] [] ?_
              conv => whnf
              cases h
              exact Done.of [] [] rfl rfl ⟨⟨rfl, rfl⟩, ⟨rfl, trivial⟩, rfl, trivial⟩
            · replace h := iteN h g404
              conv => whnf
              refine CutK.norm [2, 3, 5] [128, 192] ?_
              conv => whnf
              obtain ⟨g416, x412, x413, x414, e415, h⟩ := row_sii_ex h
              refine Req.of g416 ?_
              refine Row.of _ e415 ?_
              conv => whnf
              obtain ⟨g421, x417, x418, x419, e420, h⟩ := row_sii_ex h
              refine Req.of g421 ?_
              refine Row.of _ e420 ?_
              conv => whnf
              obtain ⟨y422, e423, h⟩ := bind_ex h
              refine CallOk.of (hrec_impl_order _ _ _ e423) ?_
              conv => whnf
              refine CutK.norm [2, 3, 5, 6, 7, 64] [128, 192, 384, 448] ?_
              conv => whnf
              refine splD (fun g424 => ?_) (fun g424 => ?_)
              · replace h := iteP h g424
                conv => whnf
                obtain ⟨y425, e426, h⟩ := bind_ex h
                refine CallOk.of (impl_compare_ct e426) ?_
                conv => whnf
                refine CutK.norm [4] [] ?_
                conv => whnf
                cases h
                exact Done.of [] [] rfl rfl ⟨⟨rfl, rfl⟩, ⟨rfl, trivial⟩, rfl, trivial⟩
              · replace h := iteN h g424
                conv => whnf
                refine splD (fun g427 => ?_) (fun g427 => ?_)
                · replace h := iteP h g427
                  conv => whnf
                  obtain ⟨y428, e429, h⟩ := bind_ex h
                  refine CallOk.of (impl_compare_ct e429) ?_
                  conv => whnf
                  refine CutK.norm [4] [] ?_
                  conv => whnf
                  cases h
                  exact Done.of [] [] rfl rfl ⟨⟨rfl, rfl⟩, ⟨rfl, trivial⟩, rfl, trivial⟩
                · replace h := iteN h g427
                  conv => whnf
                  refine CutK.norm [2, 3, 5, 6, 7] [128, 192, 384, 448] ?_
                  conv => whnf
                  obtain ⟨y430, e431, h⟩ := bind_ex h
                  refine CallOk.of (impl_cmpFractions_ct e431) ?_
                  conv => whnf
                  refine CutK.norm [2, 3, 5, 8] [128, 192] ?_
                  conv => whnf
                  refine splN (fun g432 => ?_) (fun g432 => ?_)
                  · replace h := iteN h g432
                    conv => whnf
                    cases h
                    exact Done.of [] [] rfl rfl ⟨⟨rfl, rfl⟩, ⟨rfl, trivial⟩, rfl, trivial⟩
                  · replace h := iteP h g432
                    conv => whnf
                    refine CutK.norm [2, 3, 5] [128, 192] ?_
                    conv => whnf
                    exact LoopOk.back (impl_order_l0_ct hrec_impl_order n _ h) [some 128, some 192] [] ⟨⟨rfl, rfl⟩, ⟨rfl, ⟨rfl, rfl, trivial⟩, ⟨rfl, rfl, trivial⟩, trivial⟩, ⟨rfl, rfl⟩, ⟨rfl, rfl⟩, rfl, trivial⟩
        · replace h := iteN h g395
          conv => whnf
          exact ⟨_, _, [], [], ⟨rfl, h, rfl, rfl⟩, ⟨⟨rfl, rfl⟩, ⟨rfl, trivial⟩, trivial⟩⟩
def impl_order_b (k : Nat) (rec_impl_order : Rw → Rw → Option Int) (a1 : Rw) (a2 : Rw) : Option Int :=
  (impl_order_l0 rec_impl_order a1 a2 (impl_order_p2) k 0)
set_option maxHeartbeats 4000000 in
set_option maxRecDepth 100000 in
theorem impl_order_b_ct {k : Nat} {rec_impl_order : Rw → Rw → Option Int} (hrec_impl_order : ∀ (a1 : Rw) (a2 : Rw) (r : Int), rec_impl_order a1 a2 = some r → Ct prog 103 [.agg [.d (D.sl a1)], .agg [.d (D.sl a2)]] (⟨[], []⟩) (.d (D.int .i64 r)) (⟨[], []⟩)) {a1 : Rw} {a2 : Rw} {r : Int} (h : impl_order_b k rec_impl_order a1 a2 = some r) : Ct prog 103 [.agg [.d (D.sl a1)], .agg [.d (D.sl a2)]] (⟨[], []⟩) (.d (D.int .i64 r)) (⟨[], []⟩) := by
  rw [impl_order_b] at h
  refine Ct.of (c := _) mixed func103 ⟨rfl, rfl, rfl⟩ ?_ rfl
  conv => whnf
  refine LoopOk.into (impl_order_l0_ct hrec_impl_order _ _ h) [some 128, some 192] [] ⟨⟨rfl, rfl⟩, ⟨rfl, ⟨rfl, rfl, trivial⟩, ⟨rfl, rfl, trivial⟩, trivial⟩, ⟨rfl, rfl⟩, ⟨rfl, rfl⟩, rfl, trivial⟩ ?_ (fun _ hs => hs)
  rintro i ts os ⟨rfl, h, rfl, rfl⟩
  conv => whnf
  exact CutK.piece (impl_order_p2_ct  h) [] [] ⟨⟨rfl, rfl⟩, ⟨rfl, trivial⟩, trivial⟩
def impl_order : Nat → Rw → Rw → Option Int
  | 0, _, _ => none
  | k + 1, a1, a2 => impl_order_b k (impl_order k) a1 a2
theorem impl_order_ct' : ∀ (k : Nat) (a1 : Rw) (a2 : Rw) (r : Int), impl_order k a1 a2 = some r → Ct prog 103 [.agg [.d (D.sl a1)], .agg [.d (D.sl a2)]] (⟨[], []⟩) (.d (D.int .i64 r)) (⟨[], []⟩)
  | 0, _, _, _, h => by rw [impl_order] at h; cases h
  | k + 1, _, _, _, h => by rw [impl_order] at h; exact impl_order_b_ct (impl_order_ct' k) h
theorem impl_order_ct {k : Nat} {a1 : Rw} {a2 : Rw} {r : Int} (h : impl_order k a1 a2 = some r) : Ct prog 103 [.agg [.d (D.sl a1)], .agg [.d (D.sl a2)]] (⟨[], []⟩) (.d (D.int .i64 r)) (⟨[], []⟩) := impl_order_ct' k _ _ _ h

def impl_surrealAt_2_p3 (o71 : Int) : Option (Bool × Int) :=
  some (true, o71)
set_option maxHeartbeats 4000000 in
set_option maxRecDepth 100000 in
theorem impl_surrealAt_2_p3_ct {o71 : Int} {r : Bool × Int} (h : impl_surrealAt_2_p3 o71 = some r) : X prog 1 (tlF f173 3) (mk 91 [] [(0, .box 3 [.d (D.int .i64 o71)])]) (finK prog f173 1 (.d (D.bool r.1)) (⟨[(3, [.d (D.int .i64 r.2)])], []⟩)) := by
  rw [impl_surrealAt_2_p3] at h
  conv => whnf
  cases h
  exact Done.of [some 0] [] rfl rfl ⟨⟨rfl, rfl⟩, ⟨rfl, ⟨rfl, rfl, trivial⟩, trivial⟩, rfl, trivial⟩
def impl_surrealAt_2_l0 (k : Nat) (rec_impl_surrealAt_2 : Rw → Int → Int → Int → Int → Option (Bool × Int)) (a1 : Rw) (a2 : Int) (a3 : Int) (a4 : Int) (K0 : Int → Option (Bool × Int)) : Rw → Nat → Int → Option (Bool × Int)
  | [], v88n, v89 => (K0 v89)
  | cs :: rest, v88n, v89 => (cell_sii cs fun x137 x138 x139 => (if (60 : Int) < (IntKind.i64.wrap (v89 + 1)) then some (false, IntKind.i64.wrap (v89 + 1)) else ((impl_IsFraction k x138 x139).bind fun y142 => (if y142 = true then (if x138 = (0 : Int) then some (false, IntKind.i64.wrap (v89 + 1)) else ((rec_impl_surrealAt_2 x137 x138 x139 (IntKind.i64.wrap (a4 + 1)) (IntKind.i64.wrap (v89 + 1))).bind fun y146 => (if y146.1 = true then (if (0 : Int) < (v88n : Int) then (row_sii a1 (IntKind.i64.wrap ((v88n : Int) - 1)) fun x150 x151 x152 => ((impl_order k x150 x137).bind fun y155 => (if y155 ≤ (0 : Int) then some (false, y146.2) else (impl_surrealAt_2_l0 k rec_impl_surrealAt_2 a1 a2 a3 a4 K0 rest (v88n + 1) y146.2)))) else (impl_surrealAt_2_l0 k rec_impl_surrealAt_2 a1 a2 a3 a4 K0 rest (v88n + 1) y146.2)) else some (false, y146.2)))) else some (false, IntKind.i64.wrap (v89 + 1))))))
set_option maxRecDepth 100000 in
theorem impl_surrealAt_2_l0_ct {k : Nat} {rec_impl_surrealAt_2 : Rw → Int → Int → Int → Int → Option (Bool × Int)} {a1 : Rw} {a2 : Int} {a3 : Int} {a4 : Int} {K0 : Int → Option (Bool × Int)} (hrec_impl_surrealAt_2 : ∀ (a1 : Rw) (a2 : Int) (a3 : Int) (a4 : Int) (a5 : Int) (r : Bool × Int), rec_impl_surrealAt_2 a1 a2 a3 a4 a5 = some r → Ct prog 173 [.dp [D.sl a1, D.int .i64 a2, D.int .i64 a3], .d (D.int .i64 a4), .ptr 0 0] (⟨[(3, [.d (D.int .i64 a5)])], []⟩) (.d (D.bool r.1)) (⟨[(3, [.d (D.int .i64 r.2)])], []⟩)) {r : Bool × Int} (hx : a1.length ≤ cap) : ∀ (rest : Rw) (v88n : Nat) (v89 : Int), a1.drop v88n = rest → impl_surrealAt_2_l0 k rec_impl_surrealAt_2 a1 a2 a3 a4 K0 rest v88n v89 = some r → LoopOk prog 1 (lp f173 0) (mk 91 [(0, .dp [D.sl a1, D.int .i64 a2, D.int .i64 a3]), (1, .d (D.int .i64 a4)), (2, .ptr 0 0), (26, .d (D.int .i64 (a1.length : Int))), (27, .d (D.int .i64 (v88n : Int)))] [(0, .box 3 [.d (D.int .i64 v89)])]) (LoopEnd prog f173 1 91 (.d (D.bool r.1)) (⟨[(3, [.d (D.int .i64 r.2)])], []⟩) (fun i ts os => (i = 0 ∧ ∃ v113 : Int, K0 v113 = some r ∧ ts = [] ∧ os = [(0, .box 3 [.d (D.int .i64 v113)])])))
  | [], v88n, v89, hd, h => by
      rw [impl_surrealAt_2_l0] at h
      have hn := drop_nil hd
      refine LoopOk.step ?_
      conv => whnf
      refine splD (fun g => absurd g hn) (fun _ => ?_)
      conv => whnf
      exact ⟨_, _, [some 0], [], ⟨rfl, _, h, rfl, rfl⟩, ⟨⟨rfl, rfl⟩, ⟨rfl, ⟨rfl, rfl, trivial⟩, trivial⟩, trivial⟩⟩
  | cs :: rest, v88n, v89, hd, h => by
      rw [impl_surrealAt_2_l0] at h
      obtain ⟨hrow, hd1, hlt⟩ := drop_cons hd
      refine LoopOk.step ?_
      conv => whnf
      refine splD (fun _ => ?_) (fun g => absurd hlt g)
      conv => whnf
      obtain ⟨x137, x138, x139, e140, h⟩ := cell_sii_ex h
      rw [e140] at hrow
      refine Req.of (Int.natCast_nonneg _) ?_
      refine Row.of _ hrow ?_
      conv => whnf
      refine splD (fun g141 => ?_) (fun g141 => ?_)
      · replace h := iteP h g141
        conv => whnf
        refine CutK.norm [0, 1, 2, 7, 8, 26, 27, 70] [0] ?_
        conv => whnf
        cases h
        exact Done.of [some 0] [] rfl rfl ⟨⟨rfl, rfl⟩, ⟨rfl, ⟨rfl, rfl, trivial⟩, trivial⟩, rfl, trivial⟩
      · replace h := iteN h g141
        conv => whnf
        obtain ⟨y142, e143, h⟩ := bind_ex h
        refine CallOk.of (impl_IsFraction_ct e143) ?_
        conv => whnf
        refine spl (fun g144 => ?_) (fun g144 => ?_)
        · replace h := iteT h g144
          conv => whnf
          refine splD (fun g145 => ?_) (fun g145 => ?_)
          · replace h := iteP h g145
            conv => whnf
            refine CutK.norm [0, 1, 2, 7, 8, 26, 27, 70] [0] ?_
            conv => whnf
            cases h
            exact Done.of [some 0] [] rfl rfl ⟨⟨rfl, rfl⟩, ⟨rfl, ⟨rfl, rfl, trivial⟩, trivial⟩, rfl, trivial⟩
          · replace h := iteN h g145
            conv => whnf
            obtain ⟨y146, e147, h⟩ := bind_ex h
            refine CallOk.of (hrec_impl_surrealAt_2 _ _ _ _ _ _ e147) ?_
            conv => whnf
            refine spl (fun g148 => ?_) (fun g148 => ?_)
            · replace h := iteT h g148
              conv => whnf
              refine CutK.norm [0, 1, 2, 7, 8, 26, 27, 70] [0] ?_
              conv => whnf
              refine CutK.norm [0, 1, 2, 7, 8, 26, 27] [0] ?_
              conv => whnf
              refine splD (fun g149 => ?_) (fun g149 => ?_)
              · replace h := iteP h g149
                conv => whnf
                obtain ⟨g154, x150, x151, x152, e153, h⟩ := row_sii_ex h
                refine Req.of g154 ?_
                refine Row.of _ e153 ?_
                conv => whnf
                obtain ⟨y155, e156, h⟩ := bind_ex h
                refine CallOk.of (impl_order_ct e156) ?_
                conv => whnf
                refine splD (fun g157 => ?_) (fun g157 => ?_)
                · replace h := iteP h g157
                  conv => whnf
                  refine CutK.norm [0, 1, 2, 26, 27, 89] [0] ?_
                  conv => whnf
                  cases h
                  exact Done.of [some 0] [] rfl rfl ⟨⟨rfl, rfl⟩, ⟨rfl, ⟨rfl, rfl, trivial⟩, trivial⟩, rfl, trivial⟩
                · replace h := iteN h g157
                  conv => whnf
                  refine CutK.norm [0, 1, 2, 26, 27, 89] [0] ?_
                  conv => whnf
                  refine CutK.norm [0, 1, 2, 26, 27] [0] ?_
                  conv => whnf
                  exact LoopOk.back (impl_surrealAt_2_l0_ct hrec_impl_surrealAt_2 hx rest (v88n + 1) _ hd1 h) [some 0] [] ⟨⟨rfl, rfl⟩, ⟨rfl, ⟨rfl, rfl, trivial⟩, trivial⟩, rfl, rfl, ⟨rfl, rfl⟩, rfl, i64eq (wrap_up hlt hx), trivial⟩
              · replace h := iteN h g149
                conv => whnf
                refine CutK.norm [0, 1, 2, 26, 27, 89] [0] ?_
                conv => whnf
                refine CutK.norm [0, 1, 2, 26, 27] [0] ?_
                conv => whnf
                exact LoopOk.back (impl_surrealAt_2_l0_ct hrec_impl_surrealAt_2 hx rest (v88n + 1) _ hd1 h) [some 0] [] ⟨⟨rfl, rfl⟩, ⟨rfl, ⟨rfl, rfl, trivial⟩, trivial⟩, rfl, rfl, ⟨rfl, rfl⟩, rfl, i64eq (wrap_up hlt hx), trivial⟩
            · replace h := iteF h g148
              conv => whnf
              refine CutK.norm [0, 1, 2, 7, 8, 26, 27, 70] [0] ?_
              conv => whnf
              cases h
              exact Done.of [some 0] [] rfl rfl ⟨⟨rfl, rfl⟩, ⟨rfl, ⟨rfl, rfl, trivial⟩, trivial⟩, rfl, trivial⟩
        · replace h := iteF h g144
          conv => whnf
          refine CutK.norm [0, 1, 2, 7, 8, 26, 27, 70] [0] ?_
          conv => whnf
          cases h
          exact Done.of [some 0] [] rfl rfl ⟨⟨rfl, rfl⟩, ⟨rfl, ⟨rfl, rfl, trivial⟩, trivial⟩, rfl, trivial⟩
def impl_surrealAt_2_b (k : Nat) (rec_impl_surrealAt_2 : Rw → Int → Int → Int → Int → Option (Bool × Int)) (a1 : Rw) (a2 : Int) (a3 : Int) (a4 : Int) (a5 : Int) : Option (Bool × Int) :=
  (if (60 : Int) < (IntKind.i64.wrap (a5 + 1)) then some (false, IntKind.i64.wrap (a5 + 1)) else (if (6 : Int) < a4 then some (false, IntKind.i64.wrap (a5 + 1)) else (if a1.length ≤ cap then (impl_surrealAt_2_l0 k rec_impl_surrealAt_2 a1 a2 a3 a4 (fun (v113 : Int) => (impl_surrealAt_2_p3 v113)) a1 0 (IntKind.i64.wrap (a5 + 1))) else none)))
set_option maxHeartbeats 4000000 in
set_option maxRecDepth 100000 in
theorem impl_surrealAt_2_b_ct {k : Nat} {rec_impl_surrealAt_2 : Rw → Int → Int → Int → Int → Option (Bool × Int)} (hrec_impl_surrealAt_2 : ∀ (a1 : Rw) (a2 : Int) (a3 : Int) (a4 : Int) (a5 : Int) (r : Bool × Int), rec_impl_surrealAt_2 a1 a2 a3 a4 a5 = some r → Ct prog 173 [.dp [D.sl a1, D.int .i64 a2, D.int .i64 a3], .d (D.int .i64 a4), .ptr 0 0] (⟨[(3, [.d (D.int .i64 a5)])], []⟩) (.d (D.bool r.1)) (⟨[(3, [.d (D.int .i64 r.2)])], []⟩)) {a1 : Rw} {a2 : Int} {a3 : Int} {a4 : Int} {a5 : Int} {r : Bool × Int} (h : impl_surrealAt_2_b k rec_impl_surrealAt_2 a1 a2 a3 a4 a5 = some r) : Ct prog 173 [.dp [D.sl a1, D.int .i64 a2, D.int .i64 a3], .d (D.int .i64 a4), .ptr 0 0] (⟨[(3, [.d (D.int .i64 a5)])], []⟩) (.d (D.bool r.1)) (⟨[(3, [.d (D.int .i64 r.2)])], []⟩) := by
  rw [impl_surrealAt_2_b] at h
  refine Ct.of (c := _) mixed func173 ⟨rfl, rfl, rfl⟩ ?_ rfl
  conv => whnf
  refine splD (fun g72 => ?_) (fun g72 => ?_)
  · replace h := iteP h g72
    conv => whnf
    cases h
    exact Done.of [some 0] [] rfl rfl ⟨⟨rfl, rfl⟩, ⟨rfl, ⟨rfl, rfl, trivial⟩, trivial⟩, rfl, trivial⟩
  · replace h := iteN h g72
    conv => whnf
    refine splD (fun g73 => ?_) (fun g73 => ?_)
    · replace h := iteP h g73
      conv => whnf
      cases h
      exact Done.of [some 0] [] rfl rfl ⟨⟨rfl, rfl⟩, ⟨rfl, ⟨rfl, rfl, trivial⟩, trivial⟩, rfl, trivial⟩
    · replace h := iteN h g73
      conv => whnf
      obtain ⟨g158, h⟩ := req_ex h
      refine LoopOk.into (impl_surrealAt_2_l0_ct hrec_impl_surrealAt_2 g158 _ _ _ rfl h) [some 0] [] ⟨⟨rfl, rfl⟩, ⟨rfl, ⟨rfl, rfl, trivial⟩, trivial⟩, rfl, rfl, ⟨rfl, rfl⟩, rfl, rfl, trivial⟩ ?_ (fun _ hs => hs)
      rintro i ts os ⟨rfl, v113, h, rfl, rfl⟩
      conv => whnf
      exact CutK.piece (impl_surrealAt_2_p3_ct  h) [some 0] [] ⟨⟨rfl, rfl⟩, ⟨rfl, ⟨rfl, rfl, trivial⟩, trivial⟩, trivial⟩
def impl_surrealAt_2 : Nat → Rw → Int → Int → Int → Int → Option (Bool × Int)
  | 0, _, _, _, _, _ => none
  | k + 1, a1, a2, a3, a4, a5 => impl_surrealAt_2_b k (impl_surrealAt_2 k) a1 a2 a3 a4 a5
theorem impl_surrealAt_2_ct' : ∀ (k : Nat) (a1 : Rw) (a2 : Int) (a3 : Int) (a4 : Int) (a5 : Int) (r : Bool × Int), impl_surrealAt_2 k a1 a2 a3 a4 a5 = some r → Ct prog 173 [.dp [D.sl a1, D.int .i64 a2, D.int .i64 a3], .d (D.int .i64 a4), .ptr 0 0] (⟨[(3, [.d (D.int .i64 a5)])], []⟩) (.d (D.bool r.1)) (⟨[(3, [.d (D.int .i64 r.2)])], []⟩)
  | 0, _, _, _, _, _, _, h => by rw [impl_surrealAt_2] at h; cases h
  | k + 1, _, _, _, _, _, _, h => by rw [impl_surrealAt_2] at h; exact impl_surrealAt_2_b_ct (impl_surrealAt_2_ct' k) h
theorem impl_surrealAt_2_ct {k : Nat} {a1 : Rw} {a2 : Int} {a3 : Int} {a4 : Int} {a5 : Int} {r : Bool × Int} (h : impl_surrealAt_2 k a1 a2 a3 a4 a5 = some r) : Ct prog 173 [.dp [D.sl a1, D.int .i64 a2, D.int .i64 a3], .d (D.int .i64 a4), .ptr 0 0] (⟨[(3, [.d (D.int .i64 a5)])], []⟩) (.d (D.bool r.1)) (⟨[(3, [.d (D.int .i64 r.2)])], []⟩) := impl_surrealAt_2_ct' k _ _ _ _ _ _ h

def impl_surrealAt_p3 (a1 : Rw) (o69 : Int) : Option (Bool × Rw × Int) :=
  some (true, a1, o69)
set_option maxHeartbeats 4000000 in
set_option maxRecDepth 100000 in
theorem impl_surrealAt_p3_ct {a1 : Rw} {o69 : Int} {r : Bool × Rw × Int} (h : impl_surrealAt_p3 a1 o69 = some r) : X prog 2 (tlF f173 3) (mk 91 [] [(0, .box 46 [.d (D.sl a1)]), (64, .box 3 [.d (D.int .i64 o69)])]) (finK prog f173 2 (.d (D.bool r.1)) (⟨[(46, [.d (D.sl r.2.1)]), (3, [.d (D.int .i64 r.2.2)])], []⟩)) := by
  rw [impl_surrealAt_p3] at h
  conv => whnf
  cases h
  exact Done.of [some 0, some 64] [] rfl rfl ⟨⟨rfl, rfl⟩, ⟨rfl, ⟨rfl, rfl, trivial⟩, ⟨rfl, rfl, trivial⟩, trivial⟩, rfl, trivial⟩
def impl_surrealAt_l0 (k : Nat) (a1 : Rw) (a2 : Int) (K0 : Int → Option (Bool × Rw × Int)) : Rw → Nat → Int → Option (Bool × Rw × Int)
  | [], v86n, v87 => (K0 v87)
  | cs :: rest, v86n, v87 => (cell_sii cs fun x135 x136 x137 => (if (60 : Int) < (IntKind.i64.wrap (v87 + 1)) then some (false, a1, IntKind.i64.wrap (v87 + 1)) else ((impl_IsFraction k x136 x137).bind fun y140 => (if y140 = true then (if x136 = (0 : Int) then some (false, a1, IntKind.i64.wrap (v87 + 1)) else ((impl_surrealAt_2 k x135 x136 x137 (IntKind.i64.wrap (a2 + 1)) (IntKind.i64.wrap (v87 + 1))).bind fun y144 => (if y144.1 = true then (if (0 : Int) < (v86n : Int) then (row_sii a1 (IntKind.i64.wrap ((v86n : Int) - 1)) fun x148 x149 x150 => ((impl_order k x148 x135).bind fun y153 => (if y153 ≤ (0 : Int) then some (false, a1, y144.2) else (impl_surrealAt_l0 k a1 a2 K0 rest (v86n + 1) y144.2)))) else (impl_surrealAt_l0 k a1 a2 K0 rest (v86n + 1) y144.2)) else some (false, a1, y144.2)))) else some (false, a1, IntKind.i64.wrap (v87 + 1))))))
set_option maxRecDepth 100000 in
theorem impl_surrealAt_l0_ct {k : Nat} {a1 : Rw} {a2 : Int} {K0 : Int → Option (Bool × Rw × Int)} {r : Bool × Rw × Int} (hx : a1.length ≤ cap) : ∀ (rest : Rw) (v86n : Nat) (v87 : Int), a1.drop v86n = rest → impl_surrealAt_l0 k a1 a2 K0 rest v86n v87 = some r → LoopOk prog 2 (lp f173 0) (mk 91 [(0, .ptr 0 0), (1, .d (D.int .i64 a2)), (2, .ptr 64 0), (26, .d (D.int .i64 (a1.length : Int))), (27, .d (D.int .i64 (v86n : Int)))] [(0, .box 46 [.d (D.sl a1)]), (64, .box 3 [.d (D.int .i64 v87)])]) (LoopEnd prog f173 2 91 (.d (D.bool r.1)) (⟨[(46, [.d (D.sl r.2.1)]), (3, [.d (D.int .i64 r.2.2)])], []⟩) (fun i ts os => (i = 0 ∧ ∃ v111 : Int, K0 v111 = some r ∧ ts = [] ∧ os = [(0, .box 46 [.d (D.sl a1)]), (64, .box 3 [.d (D.int .i64 v111)])])))
  | [], v86n, v87, hd, h => by
      rw [impl_surrealAt_l0] at h
      have hn := drop_nil hd
      refine LoopOk.step ?_
      conv => whnf
      refine splD (fun g => absurd g hn) (fun _ => ?_)
      conv => whnf
      exact ⟨_, _, [some 0, some 64], [], ⟨rfl, _, h, rfl, rfl⟩, ⟨⟨rfl, rfl⟩, ⟨rfl, ⟨rfl, rfl, trivial⟩, ⟨rfl, rfl, trivial⟩, trivial⟩, trivial⟩⟩
  | cs :: rest, v86n, v87, hd, h => by
      rw [impl_surrealAt_l0] at h
      obtain ⟨hrow, hd1, hlt⟩ := drop_cons hd
      refine LoopOk.step ?_
      conv => whnf
      refine splD (fun _ => ?_) (fun g => absurd hlt g)
      conv => whnf
      obtain ⟨x135, x136, x137, e138, h⟩ := cell_sii_ex h
      rw [e138] at hrow
      refine Req.of (Int.natCast_nonneg _) ?_
      refine Row.of _ hrow ?_
      conv => whnf
      refine splD (fun g139 => ?_) (fun g139 => ?_)
      · replace h := iteP h g139
        conv => whnf
        refine CutK.norm [0, 1, 2, 7, 8, 26, 27, 70] [0, 64] ?_
        conv => whnf
        cases h
        exact Done.of [some 0, some 64] [] rfl rfl ⟨⟨rfl, rfl⟩, ⟨rfl, ⟨rfl, rfl, trivial⟩, ⟨rfl, rfl, trivial⟩, trivial⟩, rfl, trivial⟩
      · replace h := iteN h g139
        conv => whnf
        obtain ⟨y140, e141, h⟩ := bind_ex h
        refine CallOk.of (impl_IsFraction_ct e141) ?_
        conv => whnf
        refine spl (fun g142 => ?_) (fun g142 => ?_)
        · replace h := iteT h g142
          conv => whnf
          refine splD (fun g143 => ?_) (fun g143 => ?_)
          · replace h := iteP h g143
            conv => whnf
            refine CutK.norm [0, 1, 2, 7, 8, 26, 27, 70] [0, 64] ?_
            conv => whnf
            cases h
            exact Done.of [some 0, some 64] [] rfl rfl ⟨⟨rfl, rfl⟩, ⟨rfl, ⟨rfl, rfl, trivial⟩, ⟨rfl, rfl, trivial⟩, trivial⟩, rfl, trivial⟩
          · replace h := iteN h g143
            conv => whnf
            obtain ⟨y144, e145, h⟩ := bind_ex h
            refine CallOk.of (impl_surrealAt_2_ct e145) ?_
            conv => whnf
            refine spl (fun g146 => ?_) (fun g146 => ?_)
            · replace h := iteT h g146
              conv => whnf
              refine CutK.norm [0, 1, 2, 7, 8, 26, 27, 70] [0, 64] ?_
              conv => whnf
              refine CutK.norm [0, 1, 2, 7, 8, 26, 27] [0, 64] ?_
              conv => whnf
              refine splD (fun g147 => ?_) (fun g147 => ?_)
              · replace h := iteP h g147
                conv => whnf
                obtain ⟨g152, x148, x149, x150, e151, h⟩ := row_sii_ex h
                refine Req.of g152 ?_
                refine Row.of _ e151 ?_
                conv => whnf
                obtain ⟨y153, e154, h⟩ := bind_ex h
                refine CallOk.of (impl_order_ct e154) ?_
                conv => whnf
                refine splD (fun g155 => ?_) (fun g155 => ?_)
                · replace h := iteP h g155
                  conv => whnf
                  refine CutK.norm [0, 1, 2, 26, 27, 89] [0, 64] ?_
                  conv => whnf
                  cases h
                  exact Done.of [some 0, some 64] [] rfl rfl ⟨⟨rfl, rfl⟩, ⟨rfl, ⟨rfl, rfl, trivial⟩, ⟨rfl, rfl, trivial⟩, trivial⟩, rfl, trivial⟩
                · replace h := iteN h g155
                  conv => whnf
                  refine CutK.norm [0, 1, 2, 26, 27, 89] [0, 64] ?_
                  conv => whnf
                  refine CutK.norm [0, 1, 2, 26, 27] [0, 64] ?_
                  conv => whnf
                  exact LoopOk.back (impl_surrealAt_l0_ct hx rest (v86n + 1) _ hd1 h) [some 0, some 64] [] ⟨⟨rfl, rfl⟩, ⟨rfl, ⟨rfl, rfl, trivial⟩, ⟨rfl, rfl, trivial⟩, trivial⟩, ⟨rfl, rfl⟩, rfl, ⟨rfl, rfl⟩, rfl, i64eq (wrap_up hlt hx), trivial⟩
              · replace h := iteN h g147
                conv => whnf
                refine CutK.norm [0, 1, 2, 26, 27, 89] [0, 64] ?_
                conv => whnf
                refine CutK.norm [0, 1, 2, 26, 27] [0, 64] ?_
                conv => whnf
                exact LoopOk.back (impl_surrealAt_l0_ct hx rest (v86n + 1) _ hd1 h) [some 0, some 64] [] ⟨⟨rfl, rfl⟩, ⟨rfl, ⟨rfl, rfl, trivial⟩, ⟨rfl, rfl, trivial⟩, trivial⟩, ⟨rfl, rfl⟩, rfl, ⟨rfl, rfl⟩, rfl, i64eq (wrap_up hlt hx), trivial⟩
            · replace h := iteF h g146
              conv => whnf
              refine CutK.norm [0, 1, 2, 7, 8, 26, 27, 70] [0, 64] ?_
              conv => whnf
              cases h
              exact Done.of [some 0, some 64] [] rfl rfl ⟨⟨rfl, rfl⟩, ⟨rfl, ⟨rfl, rfl, trivial⟩, ⟨rfl, rfl, trivial⟩, trivial⟩, rfl, trivial⟩
        · replace h := iteF h g142
          conv => whnf
          refine CutK.norm [0, 1, 2, 7, 8, 26, 27, 70] [0, 64] ?_
          conv => whnf
          cases h
          exact Done.of [some 0, some 64] [] rfl rfl ⟨⟨rfl, rfl⟩, ⟨rfl, ⟨rfl, rfl, trivial⟩, ⟨rfl, rfl, trivial⟩, trivial⟩, rfl, trivial⟩
def impl_surrealAt (k : Nat) (a1 : Rw) (a2 : Int) (a3 : Int) : Option (Bool × Rw × Int) :=
  (if (60 : Int) < (IntKind.i64.wrap (a3 + 1)) then some (false, a1, IntKind.i64.wrap (a3 + 1)) else (if (6 : Int) < a2 then some (false, a1, IntKind.i64.wrap (a3 + 1)) else (if a1.length ≤ cap then (impl_surrealAt_l0 k a1 a2 (fun (v111 : Int) => (impl_surrealAt_p3 a1 v111)) a1 0 (IntKind.i64.wrap (a3 + 1))) else none)))
set_option maxHeartbeats 4000000 in
set_option maxRecDepth 100000 in
theorem impl_surrealAt_ct {k : Nat} {a1 : Rw} {a2 : Int} {a3 : Int} {r : Bool × Rw × Int} (h : impl_surrealAt k a1 a2 a3 = some r) : Ct prog 173 [.ptr 0 0, .d (D.int .i64 a2), .ptr 64 0] (⟨[(46, [.d (D.sl a1)]), (3, [.d (D.int .i64 a3)])], []⟩) (.d (D.bool r.1)) (⟨[(46, [.d (D.sl r.2.1)]), (3, [.d (D.int .i64 r.2.2)])], []⟩) := by
  rw [impl_surrealAt] at h
  refine Ct.of (c := _) mixed func173 ⟨rfl, rfl, rfl⟩ ?_ rfl
  conv => whnf
  refine splD (fun g70 => ?_) (fun g70 => ?_)
  · replace h := iteP h g70
    conv => whnf
    cases h
    exact Done.of [some 0, some 64] [] rfl rfl ⟨⟨rfl, rfl⟩, ⟨rfl, ⟨rfl, rfl, trivial⟩, ⟨rfl, rfl, trivial⟩, trivial⟩, rfl, trivial⟩
  · replace h := iteN h g70
    conv => whnf
    refine splD (fun g71 => ?_) (fun g71 => ?_)
    · replace h := iteP h g71
      conv => whnf
      cases h
      exact Done.of [some 0, some 64] [] rfl rfl ⟨⟨rfl, rfl⟩, ⟨rfl, ⟨rfl, rfl, trivial⟩, ⟨rfl, rfl, trivial⟩, trivial⟩, rfl, trivial⟩
    · replace h := iteN h g71
      conv => whnf
      obtain ⟨g156, h⟩ := req_ex h
      refine LoopOk.into (impl_surrealAt_l0_ct  g156 _ _ _ rfl h) [some 0, some 64] [] ⟨⟨rfl, rfl⟩, ⟨rfl, ⟨rfl, rfl, trivial⟩, ⟨rfl, rfl, trivial⟩, trivial⟩, ⟨rfl, rfl⟩, rfl, ⟨rfl, rfl⟩, rfl, rfl, trivial⟩ ?_ (fun _ hs => hs)
      rintro i ts os ⟨rfl, v111, h, rfl, rfl⟩
      conv => whnf
      exact CutK.piece (impl_surrealAt_p3_ct  h) [some 0, some 64] [] ⟨⟨rfl, rfl⟩, ⟨rfl, ⟨rfl, rfl, trivial⟩, ⟨rfl, rfl, trivial⟩, trivial⟩, trivial⟩

def impl_IsSurreal (k : Nat) (a1 : Rw) : Option Bool :=
  ((impl_surrealAt k a1 0 0).bind fun y2 => (if y2.1 = true then some true else some false))
set_option maxHeartbeats 4000000 in
set_option maxRecDepth 100000 in
theorem impl_IsSurreal_ct {k : Nat} {a1 : Rw} {r : Bool} (h : impl_IsSurreal k a1 = some r) : Ct prog 99 [.agg [.d (D.sl a1)]] (⟨[], []⟩) (.d (D.bool r)) (⟨[], []⟩) := by
  rw [impl_IsSurreal] at h
  refine Ct.of (c := _) mixed func99 ⟨rfl, rfl, rfl⟩ ?_ rfl
  conv => whnf
  obtain ⟨y2, e3, h⟩ := bind_ex h
  refine CallOk.of (impl_surrealAt_ct e3) ?_
  conv => whnf
  refine spl (fun g4 => ?_) (fun g4 => ?_)
  · replace h := iteT h g4
    conv => whnf
    refine CutK.go ?_
    conv => whnf
    cases h
    exact Done.of [] [] rfl rfl ⟨⟨rfl, rfl⟩, ⟨rfl, trivial⟩, rfl, trivial⟩
  · replace h := iteF h g4
    conv => whnf
    refine CutK.go ?_
    conv => whnf
    cases h
    exact Done.of [] [] rfl rfl ⟨⟨rfl, rfl⟩, ⟨rfl, trivial⟩, rfl, trivial⟩

def impl_cloneSurreal_l0 (rec_impl_cloneSurreal : Rw → Option Rw) (a1 : Rw) (K0 : Rw → Option Rw) : Rw → Rw → Option Rw
  | [], v11 => (K0 v11)
  | cs :: rest, v11 => (cell_sii cs fun x31 x32 x33 => ((rec_impl_cloneSurreal x31).bind fun y35 => (if v11.length + 1 ≤ cap then (impl_cloneSurreal_l0 rec_impl_cloneSurreal a1 K0 rest (v11 ++ ([[D.sl y35, D.int .i64 x32, D.int .i64 x33]]))) else none)))
set_option maxRecDepth 100000 in
theorem impl_cloneSurreal_l0_ct {rec_impl_cloneSurreal : Rw → Option Rw} {a1 : Rw} {K0 : Rw → Option Rw} (hrec_impl_cloneSurreal : ∀ (a1 : Rw) (r : Rw), rec_impl_cloneSurreal a1 = some r → Ct prog 171 [.agg [.d (D.sl a1)]] (⟨[], []⟩) (.agg [.os 8 r.length]) (⟨[], [(120, true, r)]⟩)) {r : Rw} (hx : a1.length ≤ cap) : ∀ (rest : Rw) (v10n : Nat) (v11 : Rw), a1.drop v10n = rest → impl_cloneSurreal_l0 rec_impl_cloneSurreal a1 K0 rest v11 = some r → LoopOk prog 0 (lp f171 0) (mk 27 [(2, .ptr 128 0), (3, .ptr 192 0), (8, .d (D.sl a1)), (9, .d (D.int .i64 (a1.length : Int))), (10, .d (D.int .i64 (v10n : Int)))] [(128, .box 46 [.es]), (192, .box 46 [.os 64000 v11.length]), (64000, .arr 120 true v11)]) (LoopEnd prog f171 0 27 (.agg [.os 8 r.length]) (⟨[], [(120, true, r)]⟩) (fun i ts os => (i = 0 ∧ ∃ v21 : Rw, K0 v21 = some r ∧ ts = [(2, .ptr 128 0), (3, .ptr 192 0)] ∧ os = [(128, .box 46 [.es]), (192, .box 46 [.os 67001 v21.length]), (67001, .arr 120 true v21)])))
  | [], v10n, v11, hd, h => by
      rw [impl_cloneSurreal_l0] at h
      have hn := drop_nil hd
      refine LoopOk.step ?_
      conv => whnf
      refine splD (fun g => absurd g hn) (fun _ => ?_)
      conv => whnf
      exact ⟨_, _, [some 128, some 192, some 64000], [], ⟨rfl, _, h, rfl, rfl⟩, ⟨⟨rfl, rfl⟩, ⟨rfl, ⟨rfl, trivial, trivial⟩, ⟨rfl, ⟨rfl, rfl⟩, trivial⟩, ⟨rfl, rfl, rows_same⟩, trivial⟩, ⟨rfl, rfl⟩, ⟨rfl, rfl⟩, trivial⟩⟩
  | cs :: rest, v10n, v11, hd, h => by
      rw [impl_cloneSurreal_l0] at h
      obtain ⟨hrow, hd1, hlt⟩ := drop_cons hd
      refine LoopOk.step ?_
      conv => whnf
      refine splD (fun _ => ?_) (fun g => absurd hlt g)
      conv => whnf
      obtain ⟨x31, x32, x33, e34, h⟩ := cell_sii_ex h
      rw [e34] at hrow
      refine Req.of (Int.natCast_nonneg _) ?_
      refine Row.of _ hrow ?_
      conv => whnf
      obtain ⟨y35, e36, h⟩ := bind_ex h
      refine CallOk.of (hrec_impl_cloneSurreal _ _ e36) ?_
      conv => whnf
      refine Take.all (rfl) ?_
      conv => whnf
      refine Take.all (rfl) ?_
      conv => whnf
      refine Take.all (by first | rfl | exact List.length_append.symm | (simp; done) | omega) ?_
      conv => whnf
      obtain ⟨g37, h⟩ := req_ex h
      refine Req.of (room (b := 40) (by decide) g37 (wide1 rfl wide0)) ?_
      conv => whnf
      refine CutK.go ?_
      conv => whnf
      exact LoopOk.back (impl_cloneSurreal_l0_ct hrec_impl_cloneSurreal hx rest (v10n + 1) _ hd1 h) [some 128, some 192, some 1472] [] ⟨⟨rfl, rfl⟩, ⟨rfl, ⟨rfl, trivial, trivial⟩, ⟨rfl, ⟨(by first | rfl | exact List.length_append.symm | (simp; done) | omega), rfl⟩, trivial⟩, ⟨rfl, rfl, rows_same⟩, trivial⟩, ⟨rfl, rfl⟩, ⟨rfl, rfl⟩, rfl, rfl, i64eq (wrap_up hlt hx), trivial⟩
def impl_cloneSurreal_b (rec_impl_cloneSurreal : Rw → Option Rw) (a1 : Rw) : Option Rw :=
  (if a1.length ≤ cap then (impl_cloneSurreal_l0 rec_impl_cloneSurreal a1 (fun (v21 : Rw) => some v21) a1 ([] : Rw)) else none)
set_option maxHeartbeats 4000000 in
set_option maxRecDepth 100000 in
theorem impl_cloneSurreal_b_ct {rec_impl_cloneSurreal : Rw → Option Rw} (hrec_impl_cloneSurreal : ∀ (a1 : Rw) (r : Rw), rec_impl_cloneSurreal a1 = some r → Ct prog 171 [.agg [.d (D.sl a1)]] (⟨[], []⟩) (.agg [.os 8 r.length]) (⟨[], [(120, true, r)]⟩)) {a1 : Rw} {r : Rw} (h : impl_cloneSurreal_b rec_impl_cloneSurreal a1 = some r) : Ct prog 171 [.agg [.d (D.sl a1)]] (⟨[], []⟩) (.agg [.os 8 r.length]) (⟨[], [(120, true, r)]⟩) := by
  rw [impl_cloneSurreal_b] at h
  refine Ct.of (c := _) mixed func171 ⟨rfl, rfl, rfl⟩ ?_ rfl
  conv => whnf
  obtain ⟨g38, h⟩ := req_ex h
  refine LoopOk.into (impl_cloneSurreal_l0_ct hrec_impl_cloneSurreal g38 _ _ _ rfl h) [some 128, some 192, none] [] ⟨⟨rfl, rfl⟩, ⟨rfl, ⟨rfl, trivial, trivial⟩, ⟨rfl, ⟨rfl, rfl⟩, trivial⟩, rfl, trivial⟩, ⟨rfl, rfl⟩, ⟨rfl, rfl⟩, rfl, rfl, rfl, trivial⟩ ?_ (fun _ hs => hs)
  rintro i ts os ⟨rfl, v21, h, rfl, rfl⟩
  conv => whnf
  refine CutK.go ?_
  conv => whnf
  cases h
  exact Done.of [some 67001] [] rfl rfl ⟨⟨rfl, rfl⟩, ⟨rfl, ⟨rfl, rfl, rows_same⟩, trivial⟩, ⟨⟨rfl, rfl⟩, trivial⟩, trivial⟩
def impl_cloneSurreal : Nat → Rw → Option Rw
  | 0, _ => none
  | k + 1, a1 => impl_cloneSurreal_b (impl_cloneSurreal k) a1
theorem impl_cloneSurreal_ct' : ∀ (k : Nat) (a1 : Rw) (r : Rw), impl_cloneSurreal k a1 = some r → Ct prog 171 [.agg [.d (D.sl a1)]] (⟨[], []⟩) (.agg [.os 8 r.length]) (⟨[], [(120, true, r)]⟩)
  | 0, _, _, h => by rw [impl_cloneSurreal] at h; cases h
  | k + 1, _, _, h => by rw [impl_cloneSurreal] at h; exact impl_cloneSurreal_b_ct (impl_cloneSurreal_ct' k) h
theorem impl_cloneSurreal_ct {k : Nat} {a1 : Rw} {r : Rw} (h : impl_cloneSurreal k a1 = some r) : Ct prog 171 [.agg [.d (D.sl a1)]] (⟨[], []⟩) (.agg [.os 8 r.length]) (⟨[], [(120, true, r)]⟩) := impl_cloneSurreal_ct' k _ _ h

def impl_toldSurreal (k : Nat) (a1 : Rw) (a2 : Bool) : Option (Rw × Bool) :=
  (cond a2 ((impl_IsSurreal k a1).bind fun y3 => (if y3 = true then ((impl_cloneSurreal k a1).bind fun y6 => some (y6, true)) else some (([] : Rw), false))) (some (([] : Rw), false)))
set_option maxHeartbeats 4000000 in
set_option maxRecDepth 100000 in
theorem impl_toldSurreal_ct {k : Nat} {a1 : Rw} {a2 : Bool} {r : Rw × Bool} (h : impl_toldSurreal k a1 a2 = some r) : Ct prog 96 [.agg [.d (D.sl a1)], .d (D.bool a2)] (⟨[], []⟩) (.tup [.agg [.os 8 r.1.length], .d (D.bool r.2)]) (⟨[], [(120, true, r.1)]⟩) := by
  rw [impl_toldSurreal] at h
  refine Ct.of (c := _) mixed func96 ⟨rfl, rfl, rfl⟩ ?_ rfl
  cases a2
  · replace h := condF h
    conv => whnf
    refine CutK.go ?_
    conv => whnf
    cases h
    exact Done.of [none] [] rfl rfl ⟨⟨rfl, rfl⟩, ⟨rfl, rfl, trivial⟩, ⟨⟨⟨rfl, rfl⟩, trivial⟩, rfl, trivial⟩, trivial⟩
  · replace h := condT h
    conv => whnf
    obtain ⟨y3, e4, h⟩ := bind_ex h
    refine CallOk.of (impl_IsSurreal_ct e4) ?_
    conv => whnf
    refine spl (fun g5 => ?_) (fun g5 => ?_)
    · replace h := iteT h g5
      conv => whnf
      refine CutK.go ?_
      conv => whnf
      refine CutK.go ?_
      conv => whnf
      obtain ⟨y6, e7, h⟩ := bind_ex h
      refine CallOk.of (impl_cloneSurreal_ct e7) ?_
      conv => whnf
      refine CutK.go ?_
      conv => whnf
      cases h
      exact Done.of [some 960] [] rfl rfl ⟨⟨rfl, rfl⟩, ⟨rfl, ⟨rfl, rfl, rows_same⟩, trivial⟩, ⟨⟨⟨rfl, rfl⟩, trivial⟩, rfl, trivial⟩, trivial⟩
    · replace h := iteF h g5
      conv => whnf
      refine CutK.go ?_
      conv => whnf
      cases h
      exact Done.of [none] [] rfl rfl ⟨⟨rfl, rfl⟩, ⟨rfl, rfl, trivial⟩, ⟨⟨⟨rfl, rfl⟩, trivial⟩, rfl, trivial⟩, trivial⟩

def impl_FromOrdinal (k : Nat) (a1 : Rw) : Option (Rw × Bool) :=
  ((impl_IsOrdinal k a1).bind fun y2 => (if y2 = true then ((impl_fromOrdinal k a1).bind fun y5 => ((impl_toldSurreal k y5 true).bind fun y7 => (if y7.2 = true then some (y7.1, true) else some (y7.1, false)))) else some (([] : Rw), false)))
set_option maxHeartbeats 4000000 in
set_option maxRecDepth 100000 in
theorem impl_FromOrdinal_ct {k : Nat} {a1 : Rw} {r : Rw × Bool} (h : impl_FromOrdinal k a1 = some r) : Ct prog 29 [.agg [.d (D.sl a1)]] (⟨[], []⟩) (.tup [.agg [.os 8 r.1.length], .d (D.bool r.2)]) (⟨[], [(120, true, r.1)]⟩) := by
  rw [impl_FromOrdinal] at h
  refine Ct.of (c := _) mixed func29 ⟨rfl, rfl, rfl⟩ ?_ rfl
  conv => whnf
  obtain ⟨y2, e3, h⟩ := bind_ex h
  refine CallOk.of (impl_IsOrdinal_ct e3) ?_
  conv => whnf
  refine spl (fun g4 => ?_) (fun g4 => ?_)
  · replace h := iteT h g4
    conv => whnf
    refine CutK.go ?_
    conv => whnf
    refine CutK.go ?_
    conv => whnf
    obtain ⟨y5, e6, h⟩ := bind_ex h
    refine CallOk.of (impl_fromOrdinal_ct e6) ?_
    conv => whnf
    refine Take.all (rfl) ?_
    conv => whnf
    obtain ⟨y7, e8, h⟩ := bind_ex h
    refine CallOk.of (impl_toldSurreal_ct e8) ?_
    conv => whnf
    refine spl (fun g9 => ?_) (fun g9 => ?_)
    · replace h := iteT h g9
      conv => whnf
      refine CutK.go ?_
      conv => whnf
      cases h
      exact Done.of [some 640] [] rfl rfl ⟨⟨rfl, rfl⟩, ⟨rfl, ⟨rfl, rfl, rows_same⟩, trivial⟩, ⟨⟨⟨rfl, rfl⟩, trivial⟩, rfl, trivial⟩, trivial⟩
    · replace h := iteF h g9
      conv => whnf
      refine CutK.go ?_
      conv => whnf
      cases h
      exact Done.of [some 640] [] rfl rfl ⟨⟨rfl, rfl⟩, ⟨rfl, ⟨rfl, rfl, rows_same⟩, trivial⟩, ⟨⟨⟨rfl, rfl⟩, trivial⟩, rfl, trivial⟩, trivial⟩
  · replace h := iteF h g4
    conv => whnf
    refine CutK.go ?_
    conv => whnf
    cases h
    exact Done.of [none] [] rfl rfl ⟨⟨rfl, rfl⟩, ⟨rfl, rfl, trivial⟩, ⟨⟨⟨rfl, rfl⟩, trivial⟩, rfl, trivial⟩, trivial⟩

def laws_sameSurreal_l0 (rec_laws_sameSurreal : Rw → Rw → Option Bool) (a1 : Rw) (a2 : Rw) (K0 : Option Bool) : Rw → Nat → Option Bool
  | [], v19n => (K0)
  | cs :: rest, v19n => (cell_sii cs fun x35 x36 x37 => (row_sii a2 (v19n : Int) fun x39 x40 x41 => (if (!(decide (x36 = x40) && (decide (x37 = x41) && true))) = true then some false else ((rec_laws_sameSurreal x35 x39).bind fun y45 => (if y45 = true then (laws_sameSurreal_l0 rec_laws_sameSurreal a1 a2 K0 rest (v19n + 1)) else some false)))))
set_option maxRecDepth 100000 in
theorem laws_sameSurreal_l0_ct {rec_laws_sameSurreal : Rw → Rw → Option Bool} {a1 : Rw} {a2 : Rw} {K0 : Option Bool} (hrec_laws_sameSurreal : ∀ (a1 : Rw) (a2 : Rw) (r : Bool), rec_laws_sameSurreal a1 a2 = some r → Ct prog 31 [.agg [.d (D.sl a1)], .agg [.d (D.sl a2)]] (⟨[], []⟩) (.d (D.bool r)) (⟨[], []⟩)) {r : Bool} (hx : a1.length ≤ cap) : ∀ (rest : Rw) (v19n : Nat), a1.drop v19n = rest → laws_sameSurreal_l0 rec_laws_sameSurreal a1 a2 K0 rest v19n = some r → LoopOk prog 0 (lp f31 0) (mk 44 [(3, .ptr 192 0), (15, .d (D.sl a1)), (16, .d (D.int .i64 (a1.length : Int))), (17, .d (D.int .i64 (v19n : Int)))] [(192, .box 46 [.d (D.sl a2)])]) (LoopEnd prog f31 0 44 (.d (D.bool r)) (⟨[], []⟩) (fun i ts os => (i = 0 ∧ K0 = some r ∧ ts = [] ∧ os = [])))
  | [], v19n, hd, h => by
      rw [laws_sameSurreal_l0] at h
      have hn := drop_nil hd
      refine LoopOk.step ?_
      conv => whnf
      refine splD (fun g => absurd g hn) (fun _ => ?_)
      conv => whnf
      exact ⟨_, _, [], [], ⟨rfl, h, rfl, rfl⟩, ⟨⟨rfl, rfl⟩, ⟨rfl, trivial⟩, trivial⟩⟩
  | cs :: rest, v19n, hd, h => by
      rw [laws_sameSurreal_l0] at h
      obtain ⟨hrow, hd1, hlt⟩ := drop_cons hd
      refine LoopOk.step ?_
      conv => whnf
      refine splD (fun _ => ?_) (fun g => absurd hlt g)
      conv => whnf
      obtain ⟨x35, x36, x37, e38, h⟩ := cell_sii_ex h
      rw [e38] at hrow
      refine Req.of (Int.natCast_nonneg _) ?_
      refine Row.of _ hrow ?_
      conv => whnf
      obtain ⟨g43, x39, x40, x41, e42, h⟩ := row_sii_ex h
      refine Req.of g43 ?_
      refine Row.of _ e42 ?_
      conv => whnf
      refine Req.of ⟨by kernel_rfl, by kernel_rfl⟩ ?_
      conv => whnf
      refine spl (fun g44 => ?_) (fun g44 => ?_)
      · replace h := iteT h g44
        conv => whnf
        refine CutK.norm [3, 15, 16, 17, 42] [192] ?_
        conv => whnf
        cases h
        exact Done.of [] [] rfl rfl ⟨⟨rfl, rfl⟩, ⟨rfl, trivial⟩, rfl, trivial⟩
      · replace h := iteF h g44
        conv => whnf
        refine Req.of g43 ?_
        refine Row.of _ e42 ?_
        conv => whnf
        obtain ⟨y45, e46, h⟩ := bind_ex h
        refine CallOk.of (hrec_laws_sameSurreal _ _ _ e46) ?_
        conv => whnf
        refine spl (fun g47 => ?_) (fun g47 => ?_)
        · replace h := iteT h g47
          conv => whnf
          refine CutK.norm [3, 15, 16, 17, 42] [192] ?_
          conv => whnf
          refine CutK.norm [3, 15, 16, 17] [192] ?_
          conv => whnf
          exact LoopOk.back (laws_sameSurreal_l0_ct hrec_laws_sameSurreal hx rest (v19n + 1)  hd1 h) [some 192] [] ⟨⟨rfl, rfl⟩, ⟨rfl, ⟨rfl, rfl, trivial⟩, trivial⟩, ⟨rfl, rfl⟩, rfl, rfl, i64eq (wrap_up hlt hx), trivial⟩
        · replace h := iteF h g47
          conv => whnf
          refine CutK.norm [3, 15, 16, 17, 42] [192] ?_
          conv => whnf
          cases h
          exact Done.of [] [] rfl rfl ⟨⟨rfl, rfl⟩, ⟨rfl, trivial⟩, rfl, trivial⟩
def laws_sameSurreal_b (rec_laws_sameSurreal : Rw → Rw → Option Bool) (a1 : Rw) (a2 : Rw) : Option Bool :=
  (if (a1.length : Int) = (a2.length : Int) then (if a1.length ≤ cap then (laws_sameSurreal_l0 rec_laws_sameSurreal a1 a2 (some true) a1 0) else none) else some false)
set_option maxHeartbeats 4000000 in
set_option maxRecDepth 100000 in
theorem laws_sameSurreal_b_ct {rec_laws_sameSurreal : Rw → Rw → Option Bool} (hrec_laws_sameSurreal : ∀ (a1 : Rw) (a2 : Rw) (r : Bool), rec_laws_sameSurreal a1 a2 = some r → Ct prog 31 [.agg [.d (D.sl a1)], .agg [.d (D.sl a2)]] (⟨[], []⟩) (.d (D.bool r)) (⟨[], []⟩)) {a1 : Rw} {a2 : Rw} {r : Bool} (h : laws_sameSurreal_b rec_laws_sameSurreal a1 a2 = some r) : Ct prog 31 [.agg [.d (D.sl a1)], .agg [.d (D.sl a2)]] (⟨[], []⟩) (.d (D.bool r)) (⟨[], []⟩) := by
  rw [laws_sameSurreal_b] at h
  refine Ct.of (c := _) mixed func31 ⟨rfl, rfl, rfl⟩ ?_ rfl
  conv => whnf
  refine splN (fun g3 => ?_) (fun g3 => ?_)
  · replace h := iteN h g3
    conv => whnf
    cases h
    exact Done.of [] [] rfl rfl ⟨⟨rfl, rfl⟩, ⟨rfl, trivial⟩, rfl, trivial⟩
  · replace h := iteP h g3
    conv => whnf
    obtain ⟨g48, h⟩ := req_ex h
    refine LoopOk.into (laws_sameSurreal_l0_ct hrec_laws_sameSurreal g48 _ _  rfl h) [some 192] [] ⟨⟨rfl, rfl⟩, ⟨rfl, ⟨rfl, rfl, trivial⟩, trivial⟩, ⟨rfl, rfl⟩, rfl, rfl, rfl, trivial⟩ ?_ (fun _ hs => hs)
    rintro i ts os ⟨rfl, h, rfl, rfl⟩
    conv => whnf
    refine CutK.norm [] [] ?_
    conv => whnf
    cases h
    exact Done.of [] [] rfl rfl ⟨⟨rfl, rfl⟩, ⟨rfl, trivial⟩, rfl, trivial⟩
def laws_sameSurreal : Nat → Rw → Rw → Option Bool
  | 0, _, _ => none
  | k + 1, a1, a2 => laws_sameSurreal_b (laws_sameSurreal k) a1 a2
theorem laws_sameSurreal_ct' : ∀ (k : Nat) (a1 : Rw) (a2 : Rw) (r : Bool), laws_sameSurreal k a1 a2 = some r → Ct prog 31 [.agg [.d (D.sl a1)], .agg [.d (D.sl a2)]] (⟨[], []⟩) (.d (D.bool r)) (⟨[], []⟩)
  | 0, _, _, _, h => by rw [laws_sameSurreal] at h; cases h
  | k + 1, _, _, _, h => by rw [laws_sameSurreal] at h; exact laws_sameSurreal_b_ct (laws_sameSurreal_ct' k) h
theorem laws_sameSurreal_ct {k : Nat} {a1 : Rw} {a2 : Rw} {r : Bool} (h : laws_sameSurreal k a1 a2 = some r) : Ct prog 31 [.agg [.d (D.sl a1)], .agg [.d (D.sl a2)]] (⟨[], []⟩) (.d (D.bool r)) (⟨[], []⟩) := laws_sameSurreal_ct' k _ _ _ h

def impl_surreals (k : Nat) (a1 : Rw) (a2 : Rw) : Option Bool :=
  ((impl_IsSurreal k a1).bind fun y3 => (if y3 = true then ((impl_IsSurreal k a2).bind fun y6 => (if y6 = true then some true else some false)) else some false))
set_option maxHeartbeats 4000000 in
set_option maxRecDepth 100000 in
theorem impl_surreals_ct {k : Nat} {a1 : Rw} {a2 : Rw} {r : Bool} (h : impl_surreals k a1 a2 = some r) : Ct prog 102 [.agg [.d (D.sl a1)], .agg [.d (D.sl a2)]] (⟨[], []⟩) (.d (D.bool r)) (⟨[], []⟩) := by
  rw [impl_surreals] at h
  refine Ct.of (c := _) mixed func102 ⟨rfl, rfl, rfl⟩ ?_ rfl
  conv => whnf
  obtain ⟨y3, e4, h⟩ := bind_ex h
  refine CallOk.of (impl_IsSurreal_ct e4) ?_
  conv => whnf
  refine spl (fun g5 => ?_) (fun g5 => ?_)
  · replace h := iteT h g5
    conv => whnf
    obtain ⟨y6, e7, h⟩ := bind_ex h
    refine CallOk.of (impl_IsSurreal_ct e7) ?_
    conv => whnf
    refine spl (fun g8 => ?_) (fun g8 => ?_)
    · replace h := iteT h g8
      conv => whnf
      refine CutK.go ?_
      conv => whnf
      cases h
      exact Done.of [] [] rfl rfl ⟨⟨rfl, rfl⟩, ⟨rfl, trivial⟩, rfl, trivial⟩
    · replace h := iteF h g8
      conv => whnf
      refine CutK.go ?_
      conv => whnf
      cases h
      exact Done.of [] [] rfl rfl ⟨⟨rfl, rfl⟩, ⟨rfl, trivial⟩, rfl, trivial⟩
  · replace h := iteF h g5
    conv => whnf
    refine CutK.go ?_
    conv => whnf
    cases h
    exact Done.of [] [] rfl rfl ⟨⟨rfl, rfl⟩, ⟨rfl, trivial⟩, rfl, trivial⟩

def impl_AddFractions_1  (a1 : Int) (a2 : Int) (a3 : Int) (a4 : Int) : Option (Int × Int × Int × Int × Int × Int) :=
  some (IntKind.i64.wrap ((IntKind.i64.wrap (a1 * a4)) + (IntKind.i64.wrap (a3 * a2))), IntKind.i64.wrap (a2 * a4), a1, a2, a3, a4)
set_option maxHeartbeats 4000000 in
set_option maxRecDepth 100000 in
theorem impl_AddFractions_1_ct  {a1 : Int} {a2 : Int} {a3 : Int} {a4 : Int} {r : Int × Int × Int × Int × Int × Int} (h : impl_AddFractions_1 a1 a2 a3 a4 = some r) : Ct prog 210 [.ptr 0 0, .ptr 64 0] (⟨[(118, [.d (D.int .i64 a1), .d (D.int .i64 a2)]), (118, [.d (D.int .i64 a3), .d (D.int .i64 a4)])], []⟩) (.tup [.d (D.int .i64 r.1), .d (D.int .i64 r.2.1)]) (⟨[(118, [.d (D.int .i64 r.2.2.1), .d (D.int .i64 r.2.2.2.1)]), (118, [.d (D.int .i64 r.2.2.2.2.1), .d (D.int .i64 r.2.2.2.2.2)])], []⟩) := by
  rw [impl_AddFractions_1] at h
  refine Ct.of (c := _) mixed func210 ⟨rfl, rfl, rfl⟩ ?_ rfl
  conv => whnf
  cases h
  exact Done.of [some 0, some 64] [] rfl rfl ⟨⟨rfl, rfl⟩, ⟨rfl, ⟨rfl, rfl, rfl, trivial⟩, ⟨rfl, rfl, rfl, trivial⟩, trivial⟩, ⟨rfl, rfl, trivial⟩, trivial⟩

def impl_made (k : Nat) (a1 : Int) (a2 : Int) : Option (Int × Int × Bool) :=
  (if a2 = (0 : Int) then some (0, 0, false) else ((impl_gcd k a1 a2).bind fun y4 => (if a2 < (0 : Int) then (if (IntKind.i64.wrap (0 - y4)) ≠ 0 then ((impl_IsFraction k (IntKind.i64.wrap (a1.tdiv (IntKind.i64.wrap (0 - y4)))) (IntKind.i64.wrap (a2.tdiv (IntKind.i64.wrap (0 - y4))))).bind fun y8 => (if y8 = true then some (IntKind.i64.wrap (a1.tdiv (IntKind.i64.wrap (0 - y4))), IntKind.i64.wrap (a2.tdiv (IntKind.i64.wrap (0 - y4))), true) else some (0, 0, false))) else none) else (if y4 ≠ 0 then ((impl_IsFraction k (IntKind.i64.wrap (a1.tdiv y4)) (IntKind.i64.wrap (a2.tdiv y4))).bind fun y12 => (if y12 = true then some (IntKind.i64.wrap (a1.tdiv y4), IntKind.i64.wrap (a2.tdiv y4), true) else some (0, 0, false))) else none))))
set_option maxHeartbeats 4000000 in
set_option maxRecDepth 100000 in
theorem impl_made_ct {k : Nat} {a1 : Int} {a2 : Int} {r : Int × Int × Bool} (h : impl_made k a1 a2 = some r) : Ct prog 211 [.d (D.int .i64 a1), .d (D.int .i64 a2)] (⟨[], []⟩) (.tup [.agg [.d (D.int .i64 r.1), .d (D.int .i64 r.2.1)], .d (D.bool r.2.2)]) (⟨[], []⟩) := by
  rw [impl_made] at h
  refine Ct.of (c := _) mixed func211 ⟨rfl, rfl, rfl⟩ ?_ rfl
  conv => whnf
  refine splD (fun g3 => ?_) (fun g3 => ?_)
  · replace h := iteP h g3
    conv => whnf
    cases h
    exact Done.of [] [] rfl rfl ⟨⟨rfl, rfl⟩, ⟨rfl, trivial⟩, ⟨⟨rfl, rfl, trivial⟩, rfl, trivial⟩, trivial⟩
  · replace h := iteN h g3
    conv => whnf
    obtain ⟨y4, e5, h⟩ := bind_ex h
    refine CallOk.of (impl_gcd_ct e5) ?_
    conv => whnf
    refine CutK.go ?_
    conv => whnf
    refine splD (fun g6 => ?_) (fun g6 => ?_)
    · replace h := iteP h g6
      conv => whnf
      obtain ⟨g7, h⟩ := req_ex h
      refine Req.of g7 ?_
      conv => whnf
      refine Req.of g7 ?_
      conv => whnf
      obtain ⟨y8, e9, h⟩ := bind_ex h
      refine CallOk.of (impl_IsFraction_ct e9) ?_
      conv => whnf
      refine spl (fun g10 => ?_) (fun g10 => ?_)
      · replace h := iteT h g10
        conv => whnf
        refine CutK.go ?_
        conv => whnf
        refine CutK.go ?_
        conv => whnf
        cases h
        exact Done.of [] [] rfl rfl ⟨⟨rfl, rfl⟩, ⟨rfl, trivial⟩, ⟨⟨rfl, rfl, trivial⟩, rfl, trivial⟩, trivial⟩
      · replace h := iteF h g10
        conv => whnf
        refine CutK.go ?_
        conv => whnf
        cases h
        exact Done.of [] [] rfl rfl ⟨⟨rfl, rfl⟩, ⟨rfl, trivial⟩, ⟨⟨rfl, rfl, trivial⟩, rfl, trivial⟩, trivial⟩
    · replace h := iteN h g6
      conv => whnf
      obtain ⟨g11, h⟩ := req_ex h
      refine Req.of g11 ?_
      conv => whnf
      refine Req.of g11 ?_
      conv => whnf
      obtain ⟨y12, e13, h⟩ := bind_ex h
      refine CallOk.of (impl_IsFraction_ct e13) ?_
      conv => whnf
      refine spl (fun g14 => ?_) (fun g14 => ?_)
      · replace h := iteT h g14
        conv => whnf
        refine CutK.go ?_
        conv => whnf
        refine CutK.go ?_
        conv => whnf
        cases h
        exact Done.of [] [] rfl rfl ⟨⟨rfl, rfl⟩, ⟨rfl, trivial⟩, ⟨⟨rfl, rfl, trivial⟩, rfl, trivial⟩, trivial⟩
      · replace h := iteF h g14
        conv => whnf
        refine CutK.go ?_
        conv => whnf
        cases h
        exact Done.of [] [] rfl rfl ⟨⟨rfl, rfl⟩, ⟨rfl, trivial⟩, ⟨⟨rfl, rfl, trivial⟩, rfl, trivial⟩, trivial⟩

def impl_two__AddFractions_1 (k : Nat) (a1 : Int) (a2 : Int) (a3 : Int) (a4 : Int) (a5 : Int) (a6 : Int) (a7 : Int) (a8 : Int) : Option (Int × Int × Bool × Int × Int × Int × Int) :=
  ((impl_IsFraction k a1 a2).bind fun y9 => (if y9 = true then ((impl_IsFraction k a3 a4).bind fun y12 => (if y12 = true then ((impl_AddFractions_1 a5 a6 a7 a8).bind fun y15 => ((impl_made k y15.1 y15.2.1).bind fun y17 => (if y17.2.2 = true then some (y17.1, y17.2.1, true, y15.2.2.1, y15.2.2.2.1, y15.2.2.2.2.1, y15.2.2.2.2.2) else some (y17.1, y17.2.1, false, y15.2.2.1, y15.2.2.2.1, y15.2.2.2.2.1, y15.2.2.2.2.2)))) else some (0, 0, false, a5, a6, a7, a8))) else some (0, 0, false, a5, a6, a7, a8)))
set_option maxHeartbeats 4000000 in
set_option maxRecDepth 100000 in
theorem impl_two__AddFractions_1_ct {k : Nat} {a1 : Int} {a2 : Int} {a3 : Int} {a4 : Int} {a5 : Int} {a6 : Int} {a7 : Int} {a8 : Int} {r : Int × Int × Bool × Int × Int × Int × Int} (h : impl_two__AddFractions_1 k a1 a2 a3 a4 a5 a6 a7 a8 = some r) : Ct prog 179 [.agg [.d (D.int .i64 a1), .d (D.int .i64 a2)], .agg [.d (D.int .i64 a3), .d (D.int .i64 a4)], .fn 210 [.ptr 0 0, .ptr 64 0]] (⟨[(118, [.d (D.int .i64 a5), .d (D.int .i64 a6)]), (118, [.d (D.int .i64 a7), .d (D.int .i64 a8)])], []⟩) (.tup [.agg [.d (D.int .i64 r.1), .d (D.int .i64 r.2.1)], .d (D.bool r.2.2.1)]) (⟨[(118, [.d (D.int .i64 r.2.2.2.1), .d (D.int .i64 r.2.2.2.2.1)]), (118, [.d (D.int .i64 r.2.2.2.2.2.1), .d (D.int .i64 r.2.2.2.2.2.2)])], []⟩) := by
  rw [impl_two__AddFractions_1] at h
  refine Ct.of (c := _) mixed func179 ⟨rfl, rfl, rfl⟩ ?_ rfl
  conv => whnf
  obtain ⟨y9, e10, h⟩ := bind_ex h
  refine CallOk.of (impl_IsFraction_ct e10) ?_
  conv => whnf
  refine spl (fun g11 => ?_) (fun g11 => ?_)
  · replace h := iteT h g11
    conv => whnf
    obtain ⟨y12, e13, h⟩ := bind_ex h
    refine CallOk.of (impl_IsFraction_ct e13) ?_
    conv => whnf
    refine spl (fun g14 => ?_) (fun g14 => ?_)
    · replace h := iteT h g14
      conv => whnf
      refine CutK.go ?_
      conv => whnf
      refine CutK.go ?_
      conv => whnf
      obtain ⟨y15, e16, h⟩ := bind_ex h
      refine CallOk.of (impl_AddFractions_1_ct e16) ?_
      conv => whnf
      obtain ⟨y17, e18, h⟩ := bind_ex h
      refine CallOk.of (impl_made_ct e18) ?_
      conv => whnf
      refine spl (fun g19 => ?_) (fun g19 => ?_)
      · replace h := iteT h g19
        conv => whnf
        refine CutK.go ?_
        conv => whnf
        cases h
        exact Done.of [some 0, some 64] [] rfl rfl ⟨⟨rfl, rfl⟩, ⟨rfl, ⟨rfl, rfl, rfl, trivial⟩, ⟨rfl, rfl, rfl, trivial⟩, trivial⟩, ⟨⟨rfl, rfl, trivial⟩, rfl, trivial⟩, trivial⟩
      · replace h := iteF h g19
        conv => whnf
        refine CutK.go ?_
        conv => whnf
        cases h
        exact Done.of [some 0, some 64] [] rfl rfl ⟨⟨rfl, rfl⟩, ⟨rfl, ⟨rfl, rfl, rfl, trivial⟩, ⟨rfl, rfl, rfl, trivial⟩, trivial⟩, ⟨⟨rfl, rfl, trivial⟩, rfl, trivial⟩, trivial⟩
    · replace h := iteF h g14
      conv => whnf
      refine CutK.go ?_
      conv => whnf
      cases h
      exact Done.of [some 0, some 64] [] rfl rfl ⟨⟨rfl, rfl⟩, ⟨rfl, ⟨rfl, rfl, rfl, trivial⟩, ⟨rfl, rfl, rfl, trivial⟩, trivial⟩, ⟨⟨rfl, rfl, trivial⟩, rfl, trivial⟩, trivial⟩
  · replace h := iteF h g11
    conv => whnf
    refine CutK.go ?_
    conv => whnf
    cases h
    exact Done.of [some 0, some 64] [] rfl rfl ⟨⟨rfl, rfl⟩, ⟨rfl, ⟨rfl, rfl, rfl, trivial⟩, ⟨rfl, rfl, rfl, trivial⟩, trivial⟩, ⟨⟨rfl, rfl, trivial⟩, rfl, trivial⟩, trivial⟩

def impl_AddFractions (k : Nat) (a1 : Int) (a2 : Int) (a3 : Int) (a4 : Int) : Option (Int × Int × Bool) :=
  ((impl_two__AddFractions_1 k a1 a2 a3 a4 a1 a2 a3 a4).bind fun y5 => (if y5.2.2.1 = true then some (y5.1, y5.2.1, true) else some (y5.1, y5.2.1, false)))
set_option maxHeartbeats 4000000 in
set_option maxRecDepth 100000 in
theorem impl_AddFractions_ct {k : Nat} {a1 : Int} {a2 : Int} {a3 : Int} {a4 : Int} {r : Int × Int × Bool} (h : impl_AddFractions k a1 a2 a3 a4 = some r) : Ct prog 178 [.agg [.d (D.int .i64 a1), .d (D.int .i64 a2)], .agg [.d (D.int .i64 a3), .d (D.int .i64 a4)]] (⟨[], []⟩) (.tup [.agg [.d (D.int .i64 r.1), .d (D.int .i64 r.2.1)], .d (D.bool r.2.2)]) (⟨[], []⟩) := by
  rw [impl_AddFractions] at h
  refine Ct.of (c := _) mixed func178 ⟨rfl, rfl, rfl⟩ ?_ rfl
  conv => whnf
  obtain ⟨y5, e6, h⟩ := bind_ex h
  refine CallOk.of (impl_two__AddFractions_1_ct e6) ?_
  conv => whnf
  refine spl (fun g7 => ?_) (fun g7 => ?_)
  · replace h := iteT h g7
    conv => whnf
    refine CutK.go ?_
    conv => whnf
    cases h
    exact Done.of [] [] rfl rfl ⟨⟨rfl, rfl⟩, ⟨rfl, trivial⟩, ⟨⟨rfl, rfl, trivial⟩, rfl, trivial⟩, trivial⟩
  · replace h := iteF h g7
    conv => whnf
    refine CutK.go ?_
    conv => whnf
    cases h
    exact Done.of [] [] rfl rfl ⟨⟨rfl, rfl⟩, ⟨rfl, trivial⟩, ⟨⟨rfl, rfl, trivial⟩, rfl, trivial⟩, trivial⟩

def impl_sum_p4 (o203 : Rw) : Option (Rw × Bool) :=
  some (o203, true)
set_option maxHeartbeats 4000000 in
set_option maxRecDepth 100000 in
theorem impl_sum_p4_ct {o203 : Rw} {r : Rw × Bool} (h : impl_sum_p4 o203 = some r) : X prog 0 (tlF f104 4) (mk 119 [(4, .ptr 256 0), (6, .ptr 384 0)] [(256, .box 46 [.es]), (384, .box 46 [.os 1084000 o203.length]), (1084000, .arr 120 false o203)]) (finK prog f104 0 (.tup [.agg [.os 8 r.1.length], .d (D.bool r.2)]) (⟨[], [(120, false, r.1)]⟩)) := by
  rw [impl_sum_p4] at h
  conv => whnf
  cases h
  exact Done.of [some 1084000] [] rfl rfl ⟨⟨rfl, rfl⟩, ⟨rfl, ⟨rfl, rfl, rows_same⟩, trivial⟩, ⟨⟨⟨rfl, rfl⟩, trivial⟩, rfl, trivial⟩, trivial⟩
def impl_sum_l0 (k : Nat) (a1 : Rw) (a2 : Rw) (K0 : Rw → Option (Rw × Bool)) : Nat → Int → Rw → Int → Option (Rw × Bool)
  | 0, _, _, _ => none
  | n + 1, v211, v212, v228 => (if v211 < (a1.length : Int) then (if v228 = (a2.length : Int) then (row_sii a1 v211 fun x406 x407 x408 => (if v212.length + 1 ≤ cap then (impl_sum_l0 k a1 a2 K0 n (IntKind.i64.wrap (v211 + 1)) (v212 ++ ([[D.sl x406, D.int .i64 x407, D.int .i64 x408]])) v228) else none)) else (if v211 = (a1.length : Int) then (row_sii a2 v228 fun x413 x414 x415 => (if v212.length + 1 ≤ cap then (impl_sum_l0 k a1 a2 K0 n v211 (v212 ++ ([[D.sl x413, D.int .i64 x414, D.int .i64 x415]])) (IntKind.i64.wrap (v228 + 1))) else none)) else (row_sii a1 v211 fun x419 x420 x421 => (row_sii a2 v228 fun x424 x425 x426 => ((impl_order k x419 x424).bind fun y429 => (if y429 = (1 : Int) then (if v212.length + 1 ≤ cap then (impl_sum_l0 k a1 a2 K0 n (IntKind.i64.wrap (v211 + 1)) (v212 ++ ([[D.sl x419, D.int .i64 x420, D.int .i64 x421]])) v228) else none) else (if y429 = ((-1) : Int) then (if v212.length + 1 ≤ cap then (impl_sum_l0 k a1 a2 K0 n v211 (v212 ++ ([[D.sl x424, D.int .i64 x425, D.int .i64 x426]])) (IntKind.i64.wrap (v228 + 1))) else none) else ((impl_AddFractions k x420 x421 x425 x426).bind fun y435 => (if y435.2.2 = true then (if y435.1 = (0 : Int) then (impl_sum_l0 k a1 a2 K0 n (IntKind.i64.wrap (v211 + 1)) v212 (IntKind.i64.wrap (v228 + 1))) else (if v212.length + 1 ≤ cap then (impl_sum_l0 k a1 a2 K0 n (IntKind.i64.wrap (v211 + 1)) (v212 ++ ([[D.sl x419, D.int .i64 y435.1, D.int .i64 y435.2.1]])) (IntKind.i64.wrap (v228 + 1))) else none)) else some (([] : Rw), false)))))))))) else (if v228 < (a2.length : Int) then (if v228 = (a2.length : Int) then (row_sii a1 v211 fun x442 x443 x444 => (if v212.length + 1 ≤ cap then (impl_sum_l0 k a1 a2 K0 n (IntKind.i64.wrap (v211 + 1)) (v212 ++ ([[D.sl x442, D.int .i64 x443, D.int .i64 x444]])) v228) else none)) else (if v211 = (a1.length : Int) then (row_sii a2 v228 fun x449 x450 x451 => (if v212.length + 1 ≤ cap then (impl_sum_l0 k a1 a2 K0 n v211 (v212 ++ ([[D.sl x449, D.int .i64 x450, D.int .i64 x451]])) (IntKind.i64.wrap (v228 + 1))) else none)) else (row_sii a1 v211 fun x455 x456 x457 => (row_sii a2 v228 fun x460 x461 x462 => ((impl_order k x455 x460).bind fun y465 => (if y465 = (1 : Int) then (if v212.length + 1 ≤ cap then (impl_sum_l0 k a1 a2 K0 n (IntKind.i64.wrap (v211 + 1)) (v212 ++ ([[D.sl x455, D.int .i64 x456, D.int .i64 x457]])) v228) else none) else (if y465 = ((-1) : Int) then (if v212.length + 1 ≤ cap then (impl_sum_l0 k a1 a2 K0 n v211 (v212 ++ ([[D.sl x460, D.int .i64 x461, D.int .i64 x462]])) (IntKind.i64.wrap (v228 + 1))) else none) else ((impl_AddFractions k x456 x457 x461 x462).bind fun y471 => (if y471.2.2 = true then (if y471.1 = (0 : Int) then (impl_sum_l0 k a1 a2 K0 n (IntKind.i64.wrap (v211 + 1)) v212 (IntKind.i64.wrap (v228 + 1))) else (if v212.length + 1 ≤ cap then (impl_sum_l0 k a1 a2 K0 n (IntKind.i64.wrap (v211 + 1)) (v212 ++ ([[D.sl x455, D.int .i64 y471.1, D.int .i64 y471.2.1]])) (IntKind.i64.wrap (v228 + 1))) else none)) else some (([] : Rw), false)))))))))) else (K0 v212)))
set_option maxRecDepth 100000 in
theorem impl_sum_l0_ct {k : Nat} {a1 : Rw} {a2 : Rw} {K0 : Rw → Option (Rw × Bool)} {r : Rw × Bool} : ∀ (n : Nat) (v211 : Int) (v212 : Rw) (v228 : Int), impl_sum_l0 k a1 a2 K0 n v211 v212 v228 = some r → LoopOk prog 0 (lp f104 0) (mk 119 [(2, .ptr 128 0), (3, .ptr 192 0), (4, .ptr 256 0), (6, .ptr 384 0), (7, .d (D.int .i64 v211)), (8, .d (D.int .i64 v228))] [(128, .box 46 [.d (D.sl a1)]), (192, .box 46 [.d (D.sl a2)]), (256, .box 46 [.es]), (384, .box 46 [.os 64000 v212.length]), (64000, .arr 120 false v212)]) (LoopEnd prog f104 0 119 (.tup [.agg [.os 8 r.1.length], .d (D.bool r.2)]) (⟨[], [(120, false, r.1)]⟩) (fun i ts os => (i = 0 ∧ ∃ v331 : Rw, K0 v331 = some r ∧ ts = [(4, .ptr 256 0), (6, .ptr 384 0)] ∧ os = [(256, .box 46 [.es]), (384, .box 46 [.os 67001 v331.length]), (67001, .arr 120 false v331)])))
  | 0, _, _, _, h => by
      rw [impl_sum_l0] at h; cases h
  | n + 1, v211, v212, v228, h => by
      rw [impl_sum_l0] at h
      refine LoopOk.step ?_
      conv => whnf
      refine splD (fun g404 => ?_) (fun g404 => ?_)
      · replace h := iteP h g404
        conv => whnf
        refine splD (fun g405 => ?_) (fun g405 => ?_)
        · replace h := iteP h g405
          conv => whnf
          refine CutK.norm [2, 3, 4, 6, 7, 8, 9] [128, 192, 256, 384, 64000] ?_
          conv => whnf
          refine splD (fun _ => ?_) (fun g => absurd (by decide) g)
          conv => whnf
          obtain ⟨g410, x406, x407, x408, e409, h⟩ := row_sii_ex h
          refine Req.of g410 ?_
          refine Row.of _ e409 ?_
          conv => whnf
          refine Take.all (rfl) ?_
          conv => whnf
          refine Take.all (by first | rfl | exact List.length_append.symm | (simp; done) | omega) ?_
          conv => whnf
          obtain ⟨g411, h⟩ := req_ex h
          refine Req.of (room (b := 40) (by decide) g411 (wide1 rfl wide0)) ?_
          conv => whnf
          exact LoopOk.back (impl_sum_l0_ct  n _ _ _ h) [some 128, some 192, some 256, some 384, some 6400] [] ⟨⟨rfl, rfl⟩, ⟨rfl, ⟨rfl, rfl, trivial⟩, ⟨rfl, rfl, trivial⟩, ⟨rfl, trivial, trivial⟩, ⟨rfl, ⟨(by first | rfl | exact List.length_append.symm | (simp; done) | omega), rfl⟩, trivial⟩, ⟨rfl, rfl, rows_same⟩, trivial⟩, ⟨rfl, rfl⟩, ⟨rfl, rfl⟩, ⟨rfl, rfl⟩, ⟨rfl, rfl⟩, rfl, rfl, trivial⟩
        · replace h := iteN h g405
          conv => whnf
          refine splD (fun g412 => ?_) (fun g412 => ?_)
          · replace h := iteP h g412
            conv => whnf
            refine CutK.norm [2, 3, 4, 6, 7, 8, 9] [128, 192, 256, 384, 64000] ?_
            conv => whnf
            refine splD (fun g => absurd g (by decide)) (fun _ => ?_)
            conv => whnf
            refine splD (fun _ => ?_) (fun g => absurd (by decide) g)
            conv => whnf
            obtain ⟨g417, x413, x414, x415, e416, h⟩ := row_sii_ex h
            refine Req.of g417 ?_
            refine Row.of _ e416 ?_
            conv => whnf
            refine Take.all (rfl) ?_
            conv => whnf
            refine Take.all (by first | rfl | exact List.length_append.symm | (simp; done) | omega) ?_
            conv => whnf
            obtain ⟨g418, h⟩ := req_ex h
            refine Req.of (room (b := 40) (by decide) g418 (wide1 rfl wide0)) ?_
            conv => whnf
            exact LoopOk.back (impl_sum_l0_ct  n _ _ _ h) [some 128, some 192, some 256, some 384, some 7296] [] ⟨⟨rfl, rfl⟩, ⟨rfl, ⟨rfl, rfl, trivial⟩, ⟨rfl, rfl, trivial⟩, ⟨rfl, trivial, trivial⟩, ⟨rfl, ⟨(by first | rfl | exact List.length_append.symm | (simp; done) | omega), rfl⟩, trivial⟩, ⟨rfl, rfl, rows_same⟩, trivial⟩, ⟨rfl, rfl⟩, ⟨rfl, rfl⟩, ⟨rfl, rfl⟩, ⟨rfl, rfl⟩, rfl, rfl, trivial⟩
          · replace h := iteN h g412
            conv => whnf
            obtain ⟨g423, x419, x420, x421, e422, h⟩ := row_sii_ex h
            refine Req.of g423 ?_
            refine Row.of _ e422 ?_
            conv => whnf
            obtain ⟨g428, x424, x425, x426, e427, h⟩ := row_sii_ex h
            refine Req.of g428 ?_
            refine Row.of _ e427 ?_
            conv => whnf
            obtain ⟨y429, e430, h⟩ := bind_ex h
            refine CallOk.of (impl_order_ct e430) ?_
            conv => whnf
            refine CutK.norm [2, 3, 4, 6, 7, 8, 9] [128, 192, 256, 384, 64000] ?_
            conv => whnf
            refine splD (fun g431 => ?_) (fun g431 => ?_)
            · replace h := iteP h g431
              conv => whnf
              refine Req.of g423 ?_
              refine Row.of _ e422 ?_
              conv => whnf
              refine Take.all (rfl) ?_
              conv => whnf
              refine Take.all (by first | rfl | exact List.length_append.symm | (simp; done) | omega) ?_
              conv => whnf
              obtain ⟨g432, h⟩ := req_ex h
              refine Req.of (room (b := 40) (by decide) g432 (wide1 rfl wide0)) ?_
              conv => whnf
              exact LoopOk.back (impl_sum_l0_ct  n _ _ _ h) [some 128, some 192, some 256, some 384, some 6400] [] ⟨⟨rfl, rfl⟩, ⟨rfl, ⟨rfl, rfl, trivial⟩, ⟨rfl, rfl, trivial⟩, ⟨rfl, trivial, trivial⟩, ⟨rfl, ⟨(by first | rfl | exact List.length_append.symm | (simp; done) | omega), rfl⟩, trivial⟩, ⟨rfl, rfl, rows_same⟩, trivial⟩, ⟨rfl, rfl⟩, ⟨rfl, rfl⟩, ⟨rfl, rfl⟩, ⟨rfl, rfl⟩, rfl, rfl, trivial⟩
            · replace h := iteN h g431
              conv => whnf
              refine splD (fun g433 => ?_) (fun g433 => ?_)
              · replace h := iteP h g433
                conv => whnf
                refine Req.of g428 ?_
                refine Row.of _ e427 ?_
                conv => whnf
                refine Take.all (rfl) ?_
                conv => whnf
                refine Take.all (by first | rfl | exact List.length_append.symm | (simp; done) | omega) ?_
                conv => whnf
                obtain ⟨g434, h⟩ := req_ex h
                refine Req.of (room (b := 40) (by decide) g434 (wide1 rfl wide0)) ?_
                conv => whnf
                exact LoopOk.back (impl_sum_l0_ct  n _ _ _ h) [some 128, some 192, some 256, some 384, some 7296] [] ⟨⟨rfl, rfl⟩, ⟨rfl, ⟨rfl, rfl, trivial⟩, ⟨rfl, rfl, trivial⟩, ⟨rfl, trivial, trivial⟩, ⟨rfl, ⟨(by first | rfl | exact List.length_append.symm | (simp; done) | omega), rfl⟩, trivial⟩, ⟨rfl, rfl, rows_same⟩, trivial⟩, ⟨rfl, rfl⟩, ⟨rfl, rfl⟩, ⟨rfl, rfl⟩, ⟨rfl, rfl⟩, rfl, rfl, trivial⟩
              · replace h := iteN h g433
                conv => whnf
                refine Req.of g423 ?_
                refine Row.of _ e422 ?_
                conv => whnf
                refine Req.of g428 ?_
                refine Row.of _ e427 ?_
                conv => whnf
                obtain ⟨y435, e436, h⟩ := bind_ex h
                refine CallOk.of (impl_AddFractions_ct e436) ?_
                conv => whnf
                refine spl (fun g437 => ?_) (fun g437 => ?_)
                · replace h := iteT h g437
                  conv => whnf
                  refine CutK.norm [2, 3, 4, 6, 7, 8, 10, 11] [128, 192, 256, 384, 640, 64000] ?_
                  conv => whnf
                  refine splN (fun g438 => ?_) (fun g438 => ?_)
                  · replace h := iteN h g438
                    conv => whnf
                    refine Req.of g423 ?_
                    refine Row.of _ e422 ?_
                    conv => whnf
                    refine Take.all (rfl) ?_
                    conv => whnf
                    refine Take.all (by first | rfl | exact List.length_append.symm | (simp; done) | omega) ?_
                    conv => whnf
                    obtain ⟨g439, h⟩ := req_ex h
                    refine Req.of (room (b := 40) (by decide) g439 (wide1 rfl wide0)) ?_
                    conv => whnf
                    exact LoopOk.back (impl_sum_l0_ct  n _ _ _ h) [some 128, some 192, some 256, some 384, some 5376] [] ⟨⟨rfl, rfl⟩, ⟨rfl, ⟨rfl, rfl, trivial⟩, ⟨rfl, rfl, trivial⟩, ⟨rfl, trivial, trivial⟩, ⟨rfl, ⟨(by first | rfl | exact List.length_append.symm | (simp; done) | omega), rfl⟩, trivial⟩, ⟨rfl, rfl, rows_same⟩, trivial⟩, ⟨rfl, rfl⟩, ⟨rfl, rfl⟩, ⟨rfl, rfl⟩, ⟨rfl, rfl⟩, rfl, rfl, trivial⟩
                  · replace h := iteP h g438
                    conv => whnf
                    exact LoopOk.back (impl_sum_l0_ct  n _ _ _ h) [some 128, some 192, some 256, some 384, some 64000] [] ⟨⟨rfl, rfl⟩, ⟨rfl, ⟨rfl, rfl, trivial⟩, ⟨rfl, rfl, trivial⟩, ⟨rfl, trivial, trivial⟩, ⟨rfl, ⟨rfl, rfl⟩, trivial⟩, ⟨rfl, rfl, rows_same⟩, trivial⟩, ⟨rfl, rfl⟩, ⟨rfl, rfl⟩, ⟨rfl, rfl⟩, ⟨rfl, rfl⟩, rfl, rfl, trivial⟩
                · replace h := iteF h g437
                  conv => whnf
                  refine CutK.norm [2, 3, 4, 6, 7, 8, 10, 11] [128, 192, 256, 384, 640, 64000] ?_
                  conv => whnf
                  cases h
                  exact Done.of [none] [] rfl rfl ⟨⟨rfl, rfl⟩, ⟨rfl, rfl, trivial⟩, ⟨⟨⟨rfl, rfl⟩, trivial⟩, rfl, trivial⟩, trivial⟩
      · replace h := iteN h g404
        conv => whnf
        refine splD (fun g440 => ?_) (fun g440 => ?_)
        · replace h := iteP h g440
          conv => whnf
          refine splD (fun g441 => ?_) (fun g441 => ?_)
          · replace h := iteP h g441
            conv => whnf
            refine CutK.norm [2, 3, 4, 6, 7, 8, 9] [128, 192, 256, 384, 64000] ?_
            conv => whnf
            refine splD (fun _ => ?_) (fun g => absurd (by decide) g)
            conv => whnf
            obtain ⟨g446, x442, x443, x444, e445, h⟩ := row_sii_ex h
            refine Req.of g446 ?_
            refine Row.of _ e445 ?_
            conv => whnf
            refine Take.all (rfl) ?_
            conv => whnf
            refine Take.all (by first | rfl | exact List.length_append.symm | (simp; done) | omega) ?_
            conv => whnf
            obtain ⟨g447, h⟩ := req_ex h
            refine Req.of (room (b := 40) (by decide) g447 (wide1 rfl wide0)) ?_
            conv => whnf
            exact LoopOk.back (impl_sum_l0_ct  n _ _ _ h) [some 128, some 192, some 256, some 384, some 6400] [] ⟨⟨rfl, rfl⟩, ⟨rfl, ⟨rfl, rfl, trivial⟩, ⟨rfl, rfl, trivial⟩, ⟨rfl, trivial, trivial⟩, ⟨rfl, ⟨(by first | rfl | exact List.length_append.symm | (simp; done) | omega), rfl⟩, trivial⟩, ⟨rfl, rfl, rows_same⟩, trivial⟩, ⟨rfl, rfl⟩, ⟨rfl, rfl⟩, ⟨rfl, rfl⟩, ⟨rfl, rfl⟩, rfl, rfl, trivial⟩
          · replace h := iteN h g441
            conv => whnf
            refine splD (fun g448 => ?_) (fun g448 => ?_)
            · replace h := iteP h g448
              conv => whnf
              refine CutK.norm [2, 3, 4, 6, 7, 8, 9] [128, 192, 256, 384, 64000] ?_
              conv => whnf
              refine splD (fun g => absurd g (by decide)) (fun _ => ?_)
              conv => whnf
              refine splD (fun _ => ?_) (fun g => absurd (by decide) g)
              conv => whnf
              obtain ⟨g453, x449, x450, x451, e452, h⟩ := row_sii_ex h
              refine Req.of g453 ?_
              refine Row.of _ e452 ?_
              conv => whnf
              refine Take.all (rfl) ?_
              conv => whnf
              refine Take.all (by first | rfl | exact List.length_append.symm | (simp; done) | omega) ?_
              conv => whnf
              obtain ⟨g454, h⟩ := req_ex h
              refine Req.of (room (b := 40) (by decide) g454 (wide1 rfl wide0)) ?_
              conv => whnf
              exact LoopOk.back (impl_sum_l0_ct  n _ _ _ h) [some 128, some 192, some 256, some 384, some 7296] [] ⟨⟨rfl, rfl⟩, ⟨rfl, ⟨rfl, rfl, trivial⟩, ⟨rfl, rfl, trivial⟩, ⟨rfl, trivial, trivial⟩, ⟨rfl, ⟨(by first | rfl | exact List.length_append.symm | (simp; done) | omega), rfl⟩, trivial⟩, ⟨rfl, rfl, rows_same⟩, trivial⟩, ⟨rfl, rfl⟩, ⟨rfl, rfl⟩, ⟨rfl, rfl⟩, ⟨rfl, rfl⟩, rfl, rfl, trivial⟩
            · replace h := iteN h g448
              conv => whnf
              obtain ⟨g459, x455, x456, x457, e458, h⟩ := row_sii_ex h
              refine Req.of g459 ?_
              refine Row.of _ e458 ?_
              conv => whnf
              obtain ⟨g464, x460, x461, x462, e463, h⟩ := row_sii_ex h
              refine Req.of g464 ?_
              refine Row.of _ e463 ?_
              conv => whnf
              obtain ⟨y465, e466, h⟩ := bind_ex h
              refine CallOk.of (impl_order_ct e466) ?_
              conv => whnf
              refine CutK.norm [2, 3, 4, 6, 7, 8, 9] [128, 192, 256, 384, 64000] ?_
              conv => whnf
              refine splD (fun g467 => ?_) (fun g467 => ?_)
              · replace h := iteP h g467
                conv => whnf
                refine Req.of g459 ?_
                refine Row.of _ e458 ?_
                conv => whnf
                refine Take.all (rfl) ?_
                conv => whnf
                refine Take.all (by first | rfl | exact List.length_append.symm | (simp; done) | omega) ?_
                conv => whnf
                obtain ⟨g468, h⟩ := req_ex h
                refine Req.of (room (b := 40) (by decide) g468 (wide1 rfl wide0)) ?_
                conv => whnf
                exact LoopOk.back (impl_sum_l0_ct  n _ _ _ h) [some 128, some 192, some 256, some 384, some 6400] [] ⟨⟨rfl, rfl⟩, ⟨rfl, ⟨rfl, rfl, trivial⟩, ⟨rfl, rfl, trivial⟩, ⟨rfl, trivial, trivial⟩, ⟨rfl, ⟨(by first | rfl | exact List.length_append.symm | (simp; done) | omega), rfl⟩, trivial⟩, ⟨rfl, rfl, rows_same⟩, trivial⟩, ⟨rfl, rfl⟩, ⟨rfl, rfl⟩, ⟨rfl, rfl⟩, ⟨rfl, rfl⟩, rfl, rfl, trivial⟩
              · replace h := iteN h g467
                conv => whnf
                refine splD (fun g469 => ?_) (fun g469 => ?_)
                · replace h := iteP h g469
                  conv => whnf
                  refine Req.of g464 ?_
                  refine Row.of _ e463 ?_
                  conv => whnf
                  refine Take.all (rfl) ?_
                  conv => whnf
                  refine Take.all (by first | rfl | exact List.length_append.symm | (simp; done) | omega) ?_
                  conv => whnf
                  obtain ⟨g470, h⟩ := req_ex h
                  refine Req.of (room (b := 40) (by decide) g470 (wide1 rfl wide0)) ?_
                  conv => whnf
                  exact LoopOk.back (impl_sum_l0_ct  n _ _ _ h) [some 128, some 192, some 256, some 384, some 7296] [] ⟨⟨rfl, rfl⟩, ⟨rfl, ⟨rfl, rfl, trivial⟩, ⟨rfl, rfl, trivial⟩, ⟨rfl, trivial, trivial⟩, ⟨rfl, ⟨(by first | rfl | exact List.length_append.symm | (simp; done) | omega), rfl⟩, trivial⟩, ⟨rfl, rfl, rows_same⟩, trivial⟩, ⟨rfl, rfl⟩, ⟨rfl, rfl⟩, ⟨rfl, rfl⟩, ⟨rfl, rfl⟩, rfl, rfl, trivial⟩
                · replace h := iteN h g469
                  conv => whnf
                  refine Req.of g459 ?_
                  refine Row.of _ e458 ?_
                  conv => whnf
                  refine Req.of g464 ?_
                  refine Row.of _ e463 ?_
                  conv => whnf
                  obtain ⟨y471, e472, h⟩ := bind_ex h
                  refine CallOk.of (impl_AddFractions_ct e472) ?_
                  conv => whnf
                  refine spl (fun g473 => ?_) (fun g473 => ?_)
                  · replace h := iteT h g473
                    conv => whnf
                    refine CutK.norm [2, 3, 4, 6, 7, 8, 10, 11] [128, 192, 256, 384, 640, 64000] ?_
                    conv => whnf
                    refine splN (fun g474 => ?_) (fun g474 => ?_)
                    · replace h := iteN h g474
                      conv => whnf
                      refine Req.of g459 ?_
                      refine Row.of _ e458 ?_
                      conv => whnf
                      refine Take.all (rfl) ?_
                      conv => whnf
                      refine Take.all (by first | rfl | exact List.length_append.symm | (simp; done) | omega) ?_
                      conv => whnf
                      obtain ⟨g475, h⟩ := req_ex h
                      refine Req.of (room (b := 40) (by decide) g475 (wide1 rfl wide0)) ?_
                      conv => whnf
                      exact LoopOk.back (impl_sum_l0_ct  n _ _ _ h) [some 128, some 192, some 256, some 384, some 5376] [] ⟨⟨rfl, rfl⟩, ⟨rfl, ⟨rfl, rfl, trivial⟩, ⟨rfl, rfl, trivial⟩, ⟨rfl, trivial, trivial⟩, ⟨rfl, ⟨(by first | rfl | exact List.length_append.symm | (simp; done) | omega), rfl⟩, trivial⟩, ⟨rfl, rfl, rows_same⟩, trivial⟩, ⟨rfl, rfl⟩, ⟨rfl, rfl⟩, ⟨rfl, rfl⟩, ⟨rfl, rfl⟩, rfl, rfl, trivial⟩
                    · replace h := iteP h g474
                      conv => whnf
                      exact LoopOk.back (impl_sum_l0_ct  n _ _ _ h) [some 128, some 192, some 256, some 384, some 64000] [] ⟨⟨rfl, rfl⟩, ⟨rfl, ⟨rfl, rfl, trivial⟩, ⟨rfl, rfl, trivial⟩, ⟨rfl, trivial, trivial⟩, ⟨rfl, ⟨rfl, rfl⟩, trivial⟩, ⟨rfl, rfl, rows_same⟩, trivial⟩, ⟨rfl, rfl⟩, ⟨rfl, rfl⟩, ⟨rfl, rfl⟩, ⟨rfl, rfl⟩, rfl, rfl, trivial⟩
                  · replace h := iteF h g473
                    conv => whnf
                    refine CutK.norm [2, 3, 4, 6, 7, 8, 10, 11] [128, 192, 256, 384, 640, 64000] ?_
                    conv => whnf
                    cases h
                    exact Done.of [none] [] rfl rfl ⟨⟨rfl, rfl⟩, ⟨rfl, rfl, trivial⟩, ⟨⟨⟨rfl, rfl⟩, trivial⟩, rfl, trivial⟩, trivial⟩
        · replace h := iteN h g440
          conv => whnf
          exact ⟨_, _, [some 256, some 384, some 64000], [], ⟨rfl, _, h, rfl, rfl⟩, ⟨⟨rfl, rfl⟩, ⟨rfl, ⟨rfl, trivial, trivial⟩, ⟨rfl, ⟨rfl, rfl⟩, trivial⟩, ⟨rfl, rfl, rows_same⟩, trivial⟩, ⟨rfl, rfl⟩, ⟨rfl, rfl⟩, trivial⟩⟩
def impl_sum (k : Nat) (a1 : Rw) (a2 : Rw) : Option (Rw × Bool) :=
  (impl_sum_l0 k a1 a2 (fun (v331 : Rw) => (impl_sum_p4 v331)) k 0 ([] : Rw) 0)
set_option maxHeartbeats 4000000 in
set_option maxRecDepth 100000 in
theorem impl_sum_ct {k : Nat} {a1 : Rw} {a2 : Rw} {r : Rw × Bool} (h : impl_sum k a1 a2 = some r) : Ct prog 104 [.agg [.d (D.sl a1)], .agg [.d (D.sl a2)]] (⟨[], []⟩) (.tup [.agg [.os 8 r.1.length], .d (D.bool r.2)]) (⟨[], [(120, false, r.1)]⟩) := by
  rw [impl_sum] at h
  refine Ct.of (c := _) mixed func104 ⟨rfl, rfl, rfl⟩ ?_ rfl
  conv => whnf
  refine LoopOk.into (impl_sum_l0_ct  _ _ _ _ h) [some 128, some 192, some 256, some 384, none] [] ⟨⟨rfl, rfl⟩, ⟨rfl, ⟨rfl, rfl, trivial⟩, ⟨rfl, rfl, trivial⟩, ⟨rfl, trivial, trivial⟩, ⟨rfl, ⟨rfl, rfl⟩, trivial⟩, rfl, trivial⟩, ⟨rfl, rfl⟩, ⟨rfl, rfl⟩, ⟨rfl, rfl⟩, ⟨rfl, rfl⟩, rfl, rfl, trivial⟩ ?_ (fun _ hs => hs)
  rintro i ts os ⟨rfl, v331, h, rfl, rfl⟩
  conv => whnf
  exact CutK.piece (impl_sum_p4_ct  h) [some 256, some 384, some 67001] [] ⟨⟨rfl, rfl⟩, ⟨rfl, ⟨rfl, trivial, trivial⟩, ⟨rfl, ⟨rfl, rfl⟩, trivial⟩, ⟨rfl, rfl, rows_same⟩, trivial⟩, ⟨rfl, rfl⟩, ⟨rfl, rfl⟩, trivial⟩

def impl_AddSurreals (k : Nat) (a1 : Rw) (a2 : Rw) : Option (Rw × Bool) :=
  ((impl_surreals k a1 a2).bind fun y3 => (if y3 = true then ((impl_sum k a1 a2).bind fun y6 => (if y6.2 = true then ((impl_toldSurreal k y6.1 true).bind fun y9 => (if y9.2 = true then some (y9.1, true) else some (y9.1, false))) else ((impl_toldSurreal k y6.1 false).bind fun y12 => (if y12.2 = true then some (y12.1, true) else some (y12.1, false))))) else some (([] : Rw), false)))
set_option maxHeartbeats 4000000 in
set_option maxRecDepth 100000 in
theorem impl_AddSurreals_ct {k : Nat} {a1 : Rw} {a2 : Rw} {r : Rw × Bool} (h : impl_AddSurreals k a1 a2 = some r) : Ct prog 35 [.agg [.d (D.sl a1)], .agg [.d (D.sl a2)]] (⟨[], []⟩) (.tup [.agg [.os 8 r.1.length], .d (D.bool r.2)]) (⟨[], [(120, true, r.1)]⟩) := by
  rw [impl_AddSurreals] at h
  refine Ct.of (c := _) mixed func35 ⟨rfl, rfl, rfl⟩ ?_ rfl
  conv => whnf
  obtain ⟨y3, e4, h⟩ := bind_ex h
  refine CallOk.of (impl_surreals_ct e4) ?_
  conv => whnf
  refine spl (fun g5 => ?_) (fun g5 => ?_)
  · replace h := iteT h g5
    conv => whnf
    refine CutK.go ?_
    conv => whnf
    refine CutK.go ?_
    conv => whnf
    obtain ⟨y6, e7, h⟩ := bind_ex h
    refine CallOk.of (impl_sum_ct e7) ?_
    conv => whnf
    refine spl (fun g8 => ?_) (fun g8 => ?_)
    · replace h := iteT h g8
      conv => whnf
      refine Take.all (rfl) ?_
      conv => whnf
      obtain ⟨y9, e10, h⟩ := bind_ex h
      refine CallOk.of (impl_toldSurreal_ct e10) ?_
      conv => whnf
      refine spl (fun g11 => ?_) (fun g11 => ?_)
      · replace h := iteT h g11
        conv => whnf
        refine CutK.go ?_
        conv => whnf
        cases h
        exact Done.of [some 1024] [] rfl rfl ⟨⟨rfl, rfl⟩, ⟨rfl, ⟨rfl, rfl, rows_same⟩, trivial⟩, ⟨⟨⟨rfl, rfl⟩, trivial⟩, rfl, trivial⟩, trivial⟩
      · replace h := iteF h g11
        conv => whnf
        refine CutK.go ?_
        conv => whnf
        cases h
        exact Done.of [some 1024] [] rfl rfl ⟨⟨rfl, rfl⟩, ⟨rfl, ⟨rfl, rfl, rows_same⟩, trivial⟩, ⟨⟨⟨rfl, rfl⟩, trivial⟩, rfl, trivial⟩, trivial⟩
    · replace h := iteF h g8
      conv => whnf
      refine Take.all (rfl) ?_
      conv => whnf
      obtain ⟨y12, e13, h⟩ := bind_ex h
      refine CallOk.of (impl_toldSurreal_ct e13) ?_
      conv => whnf
      refine spl (fun g14 => ?_) (fun g14 => ?_)
      · replace h := iteT h g14
        conv => whnf
        refine CutK.go ?_
        conv => whnf
        cases h
        exact Done.of [some 1024] [] rfl rfl ⟨⟨rfl, rfl⟩, ⟨rfl, ⟨rfl, rfl, rows_same⟩, trivial⟩, ⟨⟨⟨rfl, rfl⟩, trivial⟩, rfl, trivial⟩, trivial⟩
      · replace h := iteF h g14
        conv => whnf
        refine CutK.go ?_
        conv => whnf
        cases h
        exact Done.of [some 1024] [] rfl rfl ⟨⟨rfl, rfl⟩, ⟨rfl, ⟨rfl, rfl, rows_same⟩, trivial⟩, ⟨⟨⟨rfl, rfl⟩, trivial⟩, rfl, trivial⟩, trivial⟩
  · replace h := iteF h g5
    conv => whnf
    refine CutK.go ?_
    conv => whnf
    cases h
    exact Done.of [none] [] rfl rfl ⟨⟨rfl, rfl⟩, ⟨rfl, rfl, trivial⟩, ⟨⟨⟨rfl, rfl⟩, trivial⟩, rfl, trivial⟩, trivial⟩

def impl_MultiplyFractions_1  (a1 : Int) (a2 : Int) (a3 : Int) (a4 : Int) : Option (Int × Int × Int × Int × Int × Int) :=
  some (IntKind.i64.wrap (a1 * a3), IntKind.i64.wrap (a2 * a4), a1, a2, a3, a4)
set_option maxHeartbeats 4000000 in
set_option maxRecDepth 100000 in
theorem impl_MultiplyFractions_1_ct  {a1 : Int} {a2 : Int} {a3 : Int} {a4 : Int} {r : Int × Int × Int × Int × Int × Int} (h : impl_MultiplyFractions_1 a1 a2 a3 a4 = some r) : Ct prog 180 [.ptr 0 0, .ptr 64 0] (⟨[(118, [.d (D.int .i64 a1), .d (D.int .i64 a2)]), (118, [.d (D.int .i64 a3), .d (D.int .i64 a4)])], []⟩) (.tup [.d (D.int .i64 r.1), .d (D.int .i64 r.2.1)]) (⟨[(118, [.d (D.int .i64 r.2.2.1), .d (D.int .i64 r.2.2.2.1)]), (118, [.d (D.int .i64 r.2.2.2.2.1), .d (D.int .i64 r.2.2.2.2.2)])], []⟩) := by
  rw [impl_MultiplyFractions_1] at h
  refine Ct.of (c := _) mixed func180 ⟨rfl, rfl, rfl⟩ ?_ rfl
  conv => whnf
  cases h
  exact Done.of [some 0, some 64] [] rfl rfl ⟨⟨rfl, rfl⟩, ⟨rfl, ⟨rfl, rfl, rfl, trivial⟩, ⟨rfl, rfl, rfl, trivial⟩, trivial⟩, ⟨rfl, rfl, trivial⟩, trivial⟩

def impl_two__MultiplyFractions_1 (k : Nat) (a1 : Int) (a2 : Int) (a3 : Int) (a4 : Int) (a5 : Int) (a6 : Int) (a7 : Int) (a8 : Int) : Option (Int × Int × Bool × Int × Int × Int × Int) :=
  ((impl_IsFraction k a1 a2).bind fun y9 => (if y9 = true then ((impl_IsFraction k a3 a4).bind fun y12 => (if y12 = true then ((impl_MultiplyFractions_1 a5 a6 a7 a8).bind fun y15 => ((impl_made k y15.1 y15.2.1).bind fun y17 => (if y17.2.2 = true then some (y17.1, y17.2.1, true, y15.2.2.1, y15.2.2.2.1, y15.2.2.2.2.1, y15.2.2.2.2.2) else some (y17.1, y17.2.1, false, y15.2.2.1, y15.2.2.2.1, y15.2.2.2.2.1, y15.2.2.2.2.2)))) else some (0, 0, false, a5, a6, a7, a8))) else some (0, 0, false, a5, a6, a7, a8)))
set_option maxHeartbeats 4000000 in
set_option maxRecDepth 100000 in
theorem impl_two__MultiplyFractions_1_ct {k : Nat} {a1 : Int} {a2 : Int} {a3 : Int} {a4 : Int} {a5 : Int} {a6 : Int} {a7 : Int} {a8 : Int} {r : Int × Int × Bool × Int × Int × Int × Int} (h : impl_two__MultiplyFractions_1 k a1 a2 a3 a4 a5 a6 a7 a8 = some r) : Ct prog 179 [.agg [.d (D.int .i64 a1), .d (D.int .i64 a2)], .agg [.d (D.int .i64 a3), .d (D.int .i64 a4)], .fn 180 [.ptr 0 0, .ptr 64 0]] (⟨[(118, [.d (D.int .i64 a5), .d (D.int .i64 a6)]), (118, [.d (D.int .i64 a7), .d (D.int .i64 a8)])], []⟩) (.tup [.agg [.d (D.int .i64 r.1), .d (D.int .i64 r.2.1)], .d (D.bool r.2.2.1)]) (⟨[(118, [.d (D.int .i64 r.2.2.2.1), .d (D.int .i64 r.2.2.2.2.1)]), (118, [.d (D.int .i64 r.2.2.2.2.2.1), .d (D.int .i64 r.2.2.2.2.2.2)])], []⟩) := by
  rw [impl_two__MultiplyFractions_1] at h
  refine Ct.of (c := _) mixed func179 ⟨rfl, rfl, rfl⟩ ?_ rfl
  conv => whnf
  obtain ⟨y9, e10, h⟩ := bind_ex h
  refine CallOk.of (impl_IsFraction_ct e10) ?_
  conv => whnf
  refine spl (fun g11 => ?_) (fun g11 => ?_)
  · replace h := iteT h g11
    conv => whnf
    obtain ⟨y12, e13, h⟩ := bind_ex h
    refine CallOk.of (impl_IsFraction_ct e13) ?_
    conv => whnf
    refine spl (fun g14 => ?_) (fun g14 => ?_)
    · replace h := iteT h g14
      conv => whnf
      refine CutK.go ?_
      conv => whnf
      refine CutK.go ?_
      conv => whnf
      obtain ⟨y15, e16, h⟩ := bind_ex h
      refine CallOk.of (impl_MultiplyFractions_1_ct e16) ?_
      conv => whnf
      obtain ⟨y17, e18, h⟩ := bind_ex h
      refine CallOk.of (impl_made_ct e18) ?_
      conv => whnf
      refine spl (fun g19 => ?_) (fun g19 => ?_)
      · replace h := iteT h g19
        conv => whnf
        refine CutK.go ?_
        conv => whnf
        cases h
        exact Done.of [some 0, some 64] [] rfl rfl ⟨⟨rfl, rfl⟩, ⟨rfl, ⟨rfl, rfl, rfl, trivial⟩, ⟨rfl, rfl, rfl, trivial⟩, trivial⟩, ⟨⟨rfl, rfl, trivial⟩, rfl, trivial⟩, trivial⟩
      · replace h := iteF h g19
        conv => whnf
        refine CutK.go ?_
        conv => whnf
        cases h
        exact Done.of [some 0, some 64] [] rfl rfl ⟨⟨rfl, rfl⟩, ⟨rfl, ⟨rfl, rfl, rfl, trivial⟩, ⟨rfl, rfl, rfl, trivial⟩, trivial⟩, ⟨⟨rfl, rfl, trivial⟩, rfl, trivial⟩, trivial⟩
    · replace h := iteF h g14
      conv => whnf
      refine CutK.go ?_
      conv => whnf
      cases h
      exact Done.of [some 0, some 64] [] rfl rfl ⟨⟨rfl, rfl⟩, ⟨rfl, ⟨rfl, rfl, rfl, trivial⟩, ⟨rfl, rfl, rfl, trivial⟩, trivial⟩, ⟨⟨rfl, rfl, trivial⟩, rfl, trivial⟩, trivial⟩
  · replace h := iteF h g11
    conv => whnf
    refine CutK.go ?_
    conv => whnf
    cases h
    exact Done.of [some 0, some 64] [] rfl rfl ⟨⟨rfl, rfl⟩, ⟨rfl, ⟨rfl, rfl, rfl, trivial⟩, ⟨rfl, rfl, rfl, trivial⟩, trivial⟩, ⟨⟨rfl, rfl, trivial⟩, rfl, trivial⟩, trivial⟩

def impl_MultiplyFractions (k : Nat) (a1 : Int) (a2 : Int) (a3 : Int) (a4 : Int) : Option (Int × Int × Bool) :=
  ((impl_two__MultiplyFractions_1 k a1 a2 a3 a4 a1 a2 a3 a4).bind fun y5 => (if y5.2.2.1 = true then some (y5.1, y5.2.1, true) else some (y5.1, y5.2.1, false)))
set_option maxHeartbeats 4000000 in
set_option maxRecDepth 100000 in
theorem impl_MultiplyFractions_ct {k : Nat} {a1 : Int} {a2 : Int} {a3 : Int} {a4 : Int} {r : Int × Int × Bool} (h : impl_MultiplyFractions k a1 a2 a3 a4 = some r) : Ct prog 105 [.agg [.d (D.int .i64 a1), .d (D.int .i64 a2)], .agg [.d (D.int .i64 a3), .d (D.int .i64 a4)]] (⟨[], []⟩) (.tup [.agg [.d (D.int .i64 r.1), .d (D.int .i64 r.2.1)], .d (D.bool r.2.2)]) (⟨[], []⟩) := by
  rw [impl_MultiplyFractions] at h
  refine Ct.of (c := _) mixed func105 ⟨rfl, rfl, rfl⟩ ?_ rfl
  conv => whnf
  obtain ⟨y5, e6, h⟩ := bind_ex h
  refine CallOk.of (impl_two__MultiplyFractions_1_ct e6) ?_
  conv => whnf
  refine spl (fun g7 => ?_) (fun g7 => ?_)
  · replace h := iteT h g7
    conv => whnf
    refine CutK.go ?_
    conv => whnf
    cases h
    exact Done.of [] [] rfl rfl ⟨⟨rfl, rfl⟩, ⟨rfl, trivial⟩, ⟨⟨rfl, rfl, trivial⟩, rfl, trivial⟩, trivial⟩
  · replace h := iteF h g7
    conv => whnf
    refine CutK.go ?_
    conv => whnf
    cases h
    exact Done.of [] [] rfl rfl ⟨⟨rfl, rfl⟩, ⟨rfl, trivial⟩, ⟨⟨rfl, rfl, trivial⟩, rfl, trivial⟩, trivial⟩

def impl_term  (a1 : Rw) (a2 : Int) (a3 : Int) : Option Rw :=
  (if a2 = (0 : Int) then some ([] : Rw) else some ([[D.sl a1, D.int .i64 a2, D.int .i64 a3]] : Rw))
set_option maxHeartbeats 4000000 in
set_option maxRecDepth 100000 in
theorem impl_term_ct  {a1 : Rw} {a2 : Int} {a3 : Int} {r : Rw} (h : impl_term a1 a2 a3 = some r) : Ct prog 106 [.agg [.d (D.sl a1)], .agg [.d (D.int .i64 a2), .d (D.int .i64 a3)]] (⟨[], []⟩) (.agg [.os 8 r.length]) (⟨[], [(120, false, r)]⟩) := by
  rw [impl_term] at h
  refine Ct.of (c := _) mixed func106 ⟨rfl, rfl, rfl⟩ ?_ rfl
  conv => whnf
  refine splD (fun g4 => ?_) (fun g4 => ?_)
  · replace h := iteP h g4
    conv => whnf
    cases h
    exact Done.of [none] [] rfl rfl ⟨⟨rfl, rfl⟩, ⟨rfl, rfl, trivial⟩, ⟨⟨rfl, rfl⟩, trivial⟩, trivial⟩
  · replace h := iteN h g4
    conv => whnf
    cases h
    exact Done.of [some 768] [] rfl rfl ⟨⟨rfl, rfl⟩, ⟨rfl, ⟨rfl, rfl, rows_same⟩, trivial⟩, ⟨⟨(by first | rfl | exact List.length_append.symm | (simp; done) | omega), rfl⟩, trivial⟩, trivial⟩

def impl_MultiplySurreals_p5 (o220 : Rw) (v221 : Bool) : Option (Rw × Bool) :=
  (cond v221 (some (o220, true)) (some (o220, false)))
set_option maxHeartbeats 4000000 in
set_option maxRecDepth 100000 in
theorem impl_MultiplySurreals_p5_ct {o220 : Rw} {v221 : Bool} {r : Rw × Bool} (h : impl_MultiplySurreals_p5 o220 v221 = some r) : X prog 0 (tlF f37 5) (mk 78 [(4, .ptr 256 0), (5, .d (D.bool v221))] [(256, .box 46 [.os 1089000 o220.length]), (1089000, .arr 120 true o220)]) (finK prog f37 0 (.tup [.agg [.os 8 r.1.length], .d (D.bool r.2)]) (⟨[], [(120, true, r.1)]⟩)) := by
  rw [impl_MultiplySurreals_p5] at h
  cases v221
  · replace h := condF h
    conv => whnf
    cases h
    exact Done.of [some 1089000] [] rfl rfl ⟨⟨rfl, rfl⟩, ⟨rfl, ⟨rfl, rfl, rows_same⟩, trivial⟩, ⟨⟨⟨rfl, rfl⟩, trivial⟩, rfl, trivial⟩, trivial⟩
  · replace h := condT h
    conv => whnf
    cases h
    exact Done.of [some 1089000] [] rfl rfl ⟨⟨rfl, rfl⟩, ⟨rfl, ⟨rfl, rfl, rows_same⟩, trivial⟩, ⟨⟨⟨rfl, rfl⟩, trivial⟩, rfl, trivial⟩, trivial⟩
def impl_MultiplySurreals_p4 (k : Nat) (o216 : Rw) : Option (Rw × Bool) :=
  ((impl_toldSurreal k o216 true).bind fun y222 => (if y222.2 = true then (impl_MultiplySurreals_p5 y222.1 true) else (impl_MultiplySurreals_p5 y222.1 false)))
set_option maxHeartbeats 4000000 in
set_option maxRecDepth 100000 in
theorem impl_MultiplySurreals_p4_ct {k : Nat} {o216 : Rw} {r : Rw × Bool} (h : impl_MultiplySurreals_p4 k o216 = some r) : X prog 0 (tlF f37 4) (mk 78 [(4, .ptr 256 0), (6, .ptr 384 0)] [(256, .box 46 [.es]), (384, .box 46 [.os 1084000 o216.length]), (1084000, .arr 120 false o216)]) (finK prog f37 0 (.tup [.agg [.os 8 r.1.length], .d (D.bool r.2)]) (⟨[], [(120, true, r.1)]⟩)) := by
  rw [impl_MultiplySurreals_p4] at h
  conv => whnf
  refine Take.all (rfl) ?_
  conv => whnf
  obtain ⟨y222, e223, h⟩ := bind_ex h
  refine CallOk.of (impl_toldSurreal_ct e223) ?_
  conv => whnf
  refine spl (fun g224 => ?_) (fun g224 => ?_)
  · replace h := iteT h g224
    conv => whnf
    exact CutK.piece (impl_MultiplySurreals_p5_ct  h) [some 256, some 4800] [] ⟨⟨rfl, rfl⟩, ⟨rfl, ⟨rfl, ⟨rfl, rfl⟩, trivial⟩, ⟨rfl, rfl, rows_same⟩, trivial⟩, ⟨rfl, rfl⟩, rfl, trivial⟩
  · replace h := iteF h g224
    conv => whnf
    exact CutK.piece (impl_MultiplySurreals_p5_ct  h) [some 256, some 4800] [] ⟨⟨rfl, rfl⟩, ⟨rfl, ⟨rfl, ⟨rfl, rfl⟩, trivial⟩, ⟨rfl, rfl, rows_same⟩, trivial⟩, ⟨rfl, rfl⟩, rfl, trivial⟩
def impl_MultiplySurreals_l1 (k : Nat) (a1 : Rw) (a2 : Rw) (v294n : Nat) (x435 : Rw) (x436 : Int) (x437 : Int) (K2 : Rw → Option (Rw × Bool)) : Rw → Rw → Option (Rw × Bool)
  | [], v457 => (K2 v457)
  | cs :: rest, v457 => (cell_sii cs fun x502 x503 x504 => ((impl_AddSurreals k x435 x502).bind fun y506 => (if y506.2 = true then ((impl_MultiplyFractions k x436 x437 x503 x504).bind fun y509 => (if y509.2.2 = true then ((impl_term y506.1 y509.1 y509.2.1).bind fun y512 => ((impl_sum k v457 y512).bind fun y514 => (if y514.2 = true then (impl_MultiplySurreals_l1 k a1 a2 v294n x435 x436 x437 K2 rest y514.1) else some (([] : Rw), false)))) else some (([] : Rw), false))) else ((impl_MultiplyFractions k x436 x437 x503 x504).bind fun y517 => (if y517.2.2 = true then some (([] : Rw), false) else some (([] : Rw), false))))))
set_option maxRecDepth 100000 in
theorem impl_MultiplySurreals_l1_ct {k : Nat} {a1 : Rw} {a2 : Rw} {v294n : Nat} {x435 : Rw} {x436 : Int} {x437 : Int} {K2 : Rw → Option (Rw × Bool)} {r : Rw × Bool} (hx : a2.length ≤ cap) : ∀ (rest : Rw) (v456n : Nat) (v457 : Rw), a2.drop v456n = rest → impl_MultiplySurreals_l1 k a1 a2 v294n x435 x436 x437 K2 rest v457 = some r → LoopOk prog 0 (lp f37 1) (mk 78 [(3, .ptr 192 0), (4, .ptr 256 0), (6, .ptr 384 0), (8, .ptr 512 0), (24, .d (D.sl a1)), (25, .d (D.int .i64 (a1.length : Int))), (26, .d (D.int .i64 (v294n : Int))), (31, .d (D.sl a2)), (32, .d (D.int .i64 (a2.length : Int))), (33, .d (D.int .i64 (v456n : Int)))] [(192, .box 46 [.d (D.sl a2)]), (256, .box 46 [.es]), (384, .box 46 [.os 76800 v457.length]), (512, .box 120 [.d (D.sl x435), .d (D.int .i64 x436), .d (D.int .i64 x437)]), (76800, .arr 120 false v457)]) (LoopEnd prog f37 0 78 (.tup [.agg [.os 8 r.1.length], .d (D.bool r.2)]) (⟨[], [(120, true, r.1)]⟩) (fun i ts os => (i = 2 ∧ ∃ v481 : Rw, K2 v481 = some r ∧ ts = [(3, .ptr 192 0), (4, .ptr 256 0), (6, .ptr 384 0), (24, .d (D.sl a1)), (25, .d (D.int .i64 (a1.length : Int))), (26, .d (D.int .i64 (v294n : Int)))] ∧ os = [(192, .box 46 [.d (D.sl a2)]), (256, .box 46 [.es]), (384, .box 46 [.os 79801 v481.length]), (79801, .arr 120 false v481)])))
  | [], v456n, v457, hd, h => by
      rw [impl_MultiplySurreals_l1] at h
      have hn := drop_nil hd
      refine LoopOk.step ?_
      conv => whnf
      refine splD (fun g => absurd g hn) (fun _ => ?_)
      conv => whnf
      exact ⟨_, _, [some 192, some 256, some 384, some 76800], [], ⟨rfl, _, h, rfl, rfl⟩, ⟨⟨rfl, rfl⟩, ⟨rfl, ⟨rfl, rfl, trivial⟩, ⟨rfl, trivial, trivial⟩, ⟨rfl, ⟨rfl, rfl⟩, trivial⟩, ⟨rfl, rfl, rows_same⟩, trivial⟩, ⟨rfl, rfl⟩, ⟨rfl, rfl⟩, ⟨rfl, rfl⟩, rfl, rfl, rfl, trivial⟩⟩
  | cs :: rest, v456n, v457, hd, h => by
      rw [impl_MultiplySurreals_l1] at h
      obtain ⟨hrow, hd1, hlt⟩ := drop_cons hd
      refine LoopOk.step ?_
      conv => whnf
      refine splD (fun _ => ?_) (fun g => absurd hlt g)
      conv => whnf
      obtain ⟨x502, x503, x504, e505, h⟩ := cell_sii_ex h
      rw [e505] at hrow
      refine Req.of (Int.natCast_nonneg _) ?_
      refine Row.of _ hrow ?_
      conv => whnf
      obtain ⟨y506, e507, h⟩ := bind_ex h
      refine CallOk.of (impl_AddSurreals_ct e507) ?_
      conv => whnf
      refine spl (fun g508 => ?_) (fun g508 => ?_)
      · replace h := iteT h g508
        conv => whnf
        refine CutK.norm [3, 4, 6, 8, 10, 11, 12, 24, 25, 26, 31, 32, 33] [192, 256, 384, 512, 640, 704, 2688, 76800] ?_
        conv => whnf
        obtain ⟨y509, e510, h⟩ := bind_ex h
        refine CallOk.of (impl_MultiplyFractions_ct e510) ?_
        conv => whnf
        refine spl (fun g511 => ?_) (fun g511 => ?_)
        · replace h := iteT h g511
          conv => whnf
          refine CutK.norm [3, 4, 6, 8, 11, 12, 13, 14, 24, 25, 26, 31, 32, 33] [192, 256, 384, 512, 704, 832, 2688, 76800] ?_
          conv => whnf
          refine Take.all (rfl) ?_
          conv => whnf
          obtain ⟨y512, e513, h⟩ := bind_ex h
          refine CallOk.of (impl_term_ct e513) ?_
          conv => whnf
          refine Take.all (rfl) ?_
          conv => whnf
          refine Take.all (rfl) ?_
          conv => whnf
          obtain ⟨y514, e515, h⟩ := bind_ex h
          refine CallOk.of (impl_sum_ct e515) ?_
          conv => whnf
          refine spl (fun g516 => ?_) (fun g516 => ?_)
          · replace h := iteT h g516
            conv => whnf
            refine CutK.norm [3, 4, 6, 8, 15, 16, 24, 25, 26, 31, 32, 33] [192, 256, 384, 512, 960, 4160, 76800] ?_
            conv => whnf
            refine CutK.norm [3, 4, 6, 8, 24, 25, 26, 31, 32, 33] [192, 256, 384, 512, 4160] ?_
            conv => whnf
            exact LoopOk.back (impl_MultiplySurreals_l1_ct hx rest (v456n + 1) _ hd1 h) [some 192, some 256, some 384, some 512, some 4160] [] ⟨⟨rfl, rfl⟩, ⟨rfl, ⟨rfl, rfl, trivial⟩, ⟨rfl, trivial, trivial⟩, ⟨rfl, ⟨rfl, rfl⟩, trivial⟩, ⟨rfl, rfl, rfl, rfl, trivial⟩, ⟨rfl, rfl, rows_same⟩, trivial⟩, ⟨rfl, rfl⟩, ⟨rfl, rfl⟩, ⟨rfl, rfl⟩, ⟨rfl, rfl⟩, rfl, rfl, rfl, rfl, rfl, i64eq (wrap_up hlt hx), trivial⟩
          · replace h := iteF h g516
            conv => whnf
            refine CutK.norm [3, 4, 6, 8, 15, 16, 24, 25, 26, 31, 32, 33] [192, 256, 384, 512, 960, 4160, 76800] ?_
            conv => whnf
            cases h
            exact Done.of [none] [] rfl rfl ⟨⟨rfl, rfl⟩, ⟨rfl, rfl, trivial⟩, ⟨⟨⟨rfl, rfl⟩, trivial⟩, rfl, trivial⟩, trivial⟩
        · replace h := iteF h g511
          conv => whnf
          refine CutK.norm [3, 4, 6, 8, 11, 12, 13, 14, 24, 25, 26, 31, 32, 33] [192, 256, 384, 512, 704, 832, 2688, 76800] ?_
          conv => whnf
          cases h
          exact Done.of [none] [] rfl rfl ⟨⟨rfl, rfl⟩, ⟨rfl, rfl, trivial⟩, ⟨⟨⟨rfl, rfl⟩, trivial⟩, rfl, trivial⟩, trivial⟩
      · replace h := iteF h g508
        conv => whnf
        refine CutK.norm [3, 4, 6, 8, 10, 11, 12, 24, 25, 26, 31, 32, 33] [192, 256, 384, 512, 640, 704, 2688, 76800] ?_
        conv => whnf
        obtain ⟨y517, e518, h⟩ := bind_ex h
        refine CallOk.of (impl_MultiplyFractions_ct e518) ?_
        conv => whnf
        refine spl (fun g519 => ?_) (fun g519 => ?_)
        · replace h := iteT h g519
          conv => whnf
          refine CutK.norm [3, 4, 6, 8, 11, 12, 13, 14, 24, 25, 26, 31, 32, 33] [192, 256, 384, 512, 704, 832, 2688, 76800] ?_
          conv => whnf
          cases h
          exact Done.of [none] [] rfl rfl ⟨⟨rfl, rfl⟩, ⟨rfl, rfl, trivial⟩, ⟨⟨⟨rfl, rfl⟩, trivial⟩, rfl, trivial⟩, trivial⟩
        · replace h := iteF h g519
          conv => whnf
          refine CutK.norm [3, 4, 6, 8, 11, 12, 13, 14, 24, 25, 26, 31, 32, 33] [192, 256, 384, 512, 704, 832, 2688, 76800] ?_
          conv => whnf
          cases h
          exact Done.of [none] [] rfl rfl ⟨⟨rfl, rfl⟩, ⟨rfl, rfl, trivial⟩, ⟨⟨⟨rfl, rfl⟩, trivial⟩, rfl, trivial⟩, trivial⟩
def impl_MultiplySurreals_l0 (k : Nat) (a1 : Rw) (a2 : Rw) (K0 : Rw → Option (Rw × Bool)) : Rw → Nat → Rw → Option (Rw × Bool)
  | [], v294n, v295 => (K0 v295)
  | cs :: rest, v294n, v295 => (cell_sii cs fun x435 x436 x437 => (if a2.length ≤ cap then (impl_MultiplySurreals_l1 k a1 a2 v294n x435 x436 x437 (fun (v481 : Rw) => (impl_MultiplySurreals_l0 k a1 a2 K0 rest (v294n + 1) v481)) a2 v295) else none))
set_option maxRecDepth 100000 in
theorem impl_MultiplySurreals_l0_ct {k : Nat} {a1 : Rw} {a2 : Rw} {K0 : Rw → Option (Rw × Bool)} {r : Rw × Bool} (hx : a1.length ≤ cap) : ∀ (rest : Rw) (v294n : Nat) (v295 : Rw), a1.drop v294n = rest → impl_MultiplySurreals_l0 k a1 a2 K0 rest v294n v295 = some r → LoopOk prog 0 (lp f37 0) (mk 78 [(3, .ptr 192 0), (4, .ptr 256 0), (6, .ptr 384 0), (24, .d (D.sl a1)), (25, .d (D.int .i64 (a1.length : Int))), (26, .d (D.int .i64 (v294n : Int)))] [(192, .box 46 [.d (D.sl a2)]), (256, .box 46 [.es]), (384, .box 46 [.os 64000 v295.length]), (64000, .arr 120 false v295)]) (LoopEnd prog f37 0 78 (.tup [.agg [.os 8 r.1.length], .d (D.bool r.2)]) (⟨[], [(120, true, r.1)]⟩) (fun i ts os => (i = 0 ∧ ∃ v365 : Rw, K0 v365 = some r ∧ ts = [(4, .ptr 256 0), (6, .ptr 384 0)] ∧ os = [(256, .box 46 [.es]), (384, .box 46 [.os 67001 v365.length]), (67001, .arr 120 false v365)])))
  | [], v294n, v295, hd, h => by
      rw [impl_MultiplySurreals_l0] at h
      have hn := drop_nil hd
      refine LoopOk.step ?_
      conv => whnf
      refine splD (fun g => absurd g hn) (fun _ => ?_)
      conv => whnf
      exact ⟨_, _, [some 256, some 384, some 64000], [], ⟨rfl, _, h, rfl, rfl⟩, ⟨⟨rfl, rfl⟩, ⟨rfl, ⟨rfl, trivial, trivial⟩, ⟨rfl, ⟨rfl, rfl⟩, trivial⟩, ⟨rfl, rfl, rows_same⟩, trivial⟩, ⟨rfl, rfl⟩, ⟨rfl, rfl⟩, trivial⟩⟩
  | cs :: rest, v294n, v295, hd, h => by
      rw [impl_MultiplySurreals_l0] at h
      obtain ⟨hrow, hd1, hlt⟩ := drop_cons hd
      refine LoopOk.step ?_
      conv => whnf
      refine splD (fun _ => ?_) (fun g => absurd hlt g)
      conv => whnf
      obtain ⟨x435, x436, x437, e438, h⟩ := cell_sii_ex h
      rw [e438] at hrow
      refine Req.of (Int.natCast_nonneg _) ?_
      refine Row.of _ hrow ?_
      conv => whnf
      obtain ⟨g520, h⟩ := req_ex h
      refine LoopOk.into (impl_MultiplySurreals_l1_ct  g520 _ _ _ rfl h) [some 192, some 256, some 384, some 512, some 64000] [] ⟨⟨rfl, rfl⟩, ⟨rfl, ⟨rfl, rfl, trivial⟩, ⟨rfl, trivial, trivial⟩, ⟨rfl, ⟨rfl, rfl⟩, trivial⟩, ⟨rfl, rfl, rfl, rfl, trivial⟩, ⟨rfl, rfl, rows_same⟩, trivial⟩, ⟨rfl, rfl⟩, ⟨rfl, rfl⟩, ⟨rfl, rfl⟩, ⟨rfl, rfl⟩, rfl, rfl, rfl, rfl, rfl, rfl, trivial⟩ ?_ (fun _ hs => hs)
      rintro i ts os ⟨rfl, v481, h, rfl, rfl⟩
      conv => whnf
      refine CutK.norm [3, 4, 6, 24, 25, 26] [192, 256, 384, 79801] ?_
      conv => whnf
      exact LoopOk.back (impl_MultiplySurreals_l0_ct hx rest (v294n + 1) _ hd1 h) [some 192, some 256, some 384, some 79801] [] ⟨⟨rfl, rfl⟩, ⟨rfl, ⟨rfl, rfl, trivial⟩, ⟨rfl, trivial, trivial⟩, ⟨rfl, ⟨rfl, rfl⟩, trivial⟩, ⟨rfl, rfl, rows_same⟩, trivial⟩, ⟨rfl, rfl⟩, ⟨rfl, rfl⟩, ⟨rfl, rfl⟩, rfl, rfl, i64eq (wrap_up hlt hx), trivial⟩
def impl_MultiplySurreals_p2 (k : Nat) (a1 : Rw) (a2 : Rw) : Option (Rw × Bool) :=
  (if a1.length ≤ cap then (impl_MultiplySurreals_l0 k a1 a2 (fun (v365 : Rw) => (impl_MultiplySurreals_p4 k v365)) a1 0 ([] : Rw)) else none)
set_option maxHeartbeats 4000000 in
set_option maxRecDepth 100000 in
theorem impl_MultiplySurreals_p2_ct {k : Nat} {a1 : Rw} {a2 : Rw} {r : Rw × Bool} (h : impl_MultiplySurreals_p2 k a1 a2 = some r) : X prog 0 (tlF f37 2) (mk 78 [(2, .ptr 128 0), (3, .ptr 192 0), (4, .ptr 256 0)] [(128, .box 46 [.d (D.sl a1)]), (192, .box 46 [.d (D.sl a2)]), (256, .box 46 [.es])]) (finK prog f37 0 (.tup [.agg [.os 8 r.1.length], .d (D.bool r.2)]) (⟨[], [(120, true, r.1)]⟩)) := by
  rw [impl_MultiplySurreals_p2] at h
  conv => whnf
  obtain ⟨g521, h⟩ := req_ex h
  refine LoopOk.into (impl_MultiplySurreals_l0_ct  g521 _ _ _ rfl h) [some 192, some 256, some 384, none] [] ⟨⟨rfl, rfl⟩, ⟨rfl, ⟨rfl, rfl, trivial⟩, ⟨rfl, trivial, trivial⟩, ⟨rfl, ⟨rfl, rfl⟩, trivial⟩, rfl, trivial⟩, ⟨rfl, rfl⟩, ⟨rfl, rfl⟩, ⟨rfl, rfl⟩, rfl, rfl, rfl, trivial⟩ ?_ (fun _ hs => hs)
  rintro i ts os ⟨rfl, v365, h, rfl, rfl⟩
  conv => whnf
  exact CutK.piece (impl_MultiplySurreals_p4_ct  h) [some 256, some 384, some 67001] [] ⟨⟨rfl, rfl⟩, ⟨rfl, ⟨rfl, trivial, trivial⟩, ⟨rfl, ⟨rfl, rfl⟩, trivial⟩, ⟨rfl, rfl, rows_same⟩, trivial⟩, ⟨rfl, rfl⟩, ⟨rfl, rfl⟩, trivial⟩
def impl_MultiplySurreals (k : Nat) (a1 : Rw) (a2 : Rw) : Option (Rw × Bool) :=
  ((impl_surreals k a1 a2).bind fun y522 => (if y522 = true then (impl_MultiplySurreals_p2 k a1 a2) else some (([] : Rw), false)))
set_option maxHeartbeats 4000000 in
set_option maxRecDepth 100000 in
theorem impl_MultiplySurreals_ct {k : Nat} {a1 : Rw} {a2 : Rw} {r : Rw × Bool} (h : impl_MultiplySurreals k a1 a2 = some r) : Ct prog 37 [.agg [.d (D.sl a1)], .agg [.d (D.sl a2)]] (⟨[], []⟩) (.tup [.agg [.os 8 r.1.length], .d (D.bool r.2)]) (⟨[], [(120, true, r.1)]⟩) := by
  rw [impl_MultiplySurreals] at h
  refine Ct.of (c := _) mixed func37 ⟨rfl, rfl, rfl⟩ ?_ rfl
  conv => whnf
  obtain ⟨y522, e523, h⟩ := bind_ex h
  refine CallOk.of (impl_surreals_ct e523) ?_
  conv => whnf
  refine spl (fun g524 => ?_) (fun g524 => ?_)
  · replace h := iteT h g524
    conv => whnf
    refine CutK.norm [2, 3, 4, 20] [128, 192, 256] ?_
    conv => whnf
    exact CutK.piece (impl_MultiplySurreals_p2_ct  h) [some 128, some 192, some 256] [] ⟨⟨rfl, rfl⟩, ⟨rfl, ⟨rfl, rfl, trivial⟩, ⟨rfl, rfl, trivial⟩, ⟨rfl, trivial, trivial⟩, trivial⟩, ⟨rfl, rfl⟩, ⟨rfl, rfl⟩, ⟨rfl, rfl⟩, trivial⟩
  · replace h := iteF h g524
    conv => whnf
    refine CutK.norm [2, 3, 4, 20] [128, 192, 256] ?_
    conv => whnf
    cases h
    exact Done.of [none] [] rfl rfl ⟨⟨rfl, rfl⟩, ⟨rfl, rfl, trivial⟩, ⟨⟨⟨rfl, rfl⟩, trivial⟩, rfl, trivial⟩, trivial⟩

def impl_cloneOrdinal_l0 (rec_impl_cloneOrdinal : Rw → Option Rw) (a1 : Rw) (K0 : Rw → Option Rw) : Rw → Rw → Option Rw
  | [], v10 => (K0 v10)
  | cs :: rest, v10 => (cell_si cs fun x28 x29 => ((rec_impl_cloneOrdinal x28).bind fun y31 => (if v10.length + 1 ≤ cap then (impl_cloneOrdinal_l0 rec_impl_cloneOrdinal a1 K0 rest (v10 ++ ([[D.sl y31, D.int .i64 x29]]))) else none)))
set_option maxRecDepth 100000 in
theorem impl_cloneOrdinal_l0_ct {rec_impl_cloneOrdinal : Rw → Option Rw} {a1 : Rw} {K0 : Rw → Option Rw} (hrec_impl_cloneOrdinal : ∀ (a1 : Rw) (r : Rw), rec_impl_cloneOrdinal a1 = some r → Ct prog 159 [.agg [.d (D.sl a1)]] (⟨[], []⟩) (.agg [.os 8 r.length]) (⟨[], [(104, true, r)]⟩)) {r : Rw} (hx : a1.length ≤ cap) : ∀ (rest : Rw) (v9n : Nat) (v10 : Rw), a1.drop v9n = rest → impl_cloneOrdinal_l0 rec_impl_cloneOrdinal a1 K0 rest v10 = some r → LoopOk prog 0 (lp f159 0) (mk 27 [(2, .ptr 128 0), (3, .ptr 192 0), (8, .d (D.sl a1)), (9, .d (D.int .i64 (a1.length : Int))), (10, .d (D.int .i64 (v9n : Int)))] [(128, .box 26 [.es]), (192, .box 26 [.os 64000 v10.length]), (64000, .arr 104 true v10)]) (LoopEnd prog f159 0 27 (.agg [.os 8 r.length]) (⟨[], [(104, true, r)]⟩) (fun i ts os => (i = 0 ∧ ∃ v19 : Rw, K0 v19 = some r ∧ ts = [(2, .ptr 128 0), (3, .ptr 192 0)] ∧ os = [(128, .box 26 [.es]), (192, .box 26 [.os 67001 v19.length]), (67001, .arr 104 true v19)])))
  | [], v9n, v10, hd, h => by
      rw [impl_cloneOrdinal_l0] at h
      have hn := drop_nil hd
      refine LoopOk.step ?_
      conv => whnf
      refine splD (fun g => absurd g hn) (fun _ => ?_)
      conv => whnf
      exact ⟨_, _, [some 128, some 192, some 64000], [], ⟨rfl, _, h, rfl, rfl⟩, ⟨⟨rfl, rfl⟩, ⟨rfl, ⟨rfl, trivial, trivial⟩, ⟨rfl, ⟨rfl, rfl⟩, trivial⟩, ⟨rfl, rfl, rows_same⟩, trivial⟩, ⟨rfl, rfl⟩, ⟨rfl, rfl⟩, trivial⟩⟩
  | cs :: rest, v9n, v10, hd, h => by
      rw [impl_cloneOrdinal_l0] at h
      obtain ⟨hrow, hd1, hlt⟩ := drop_cons hd
      refine LoopOk.step ?_
      conv => whnf
      refine splD (fun _ => ?_) (fun g => absurd hlt g)
      conv => whnf
      obtain ⟨x28, x29, e30, h⟩ := cell_si_ex h
      rw [e30] at hrow
      refine Req.of (Int.natCast_nonneg _) ?_
      refine Row.of _ hrow ?_
      conv => whnf
      obtain ⟨y31, e32, h⟩ := bind_ex h
      refine CallOk.of (hrec_impl_cloneOrdinal _ _ e32) ?_
      conv => whnf
      refine Take.all (rfl) ?_
      conv => whnf
      refine Take.all (rfl) ?_
      conv => whnf
      refine Take.all (by first | rfl | exact List.length_append.symm | (simp; done) | omega) ?_
      conv => whnf
      obtain ⟨g33, h⟩ := req_ex h
      refine Req.of (room (b := 32) (by decide) g33 (wide1 rfl wide0)) ?_
      conv => whnf
      refine CutK.go ?_
      conv => whnf
      exact LoopOk.back (impl_cloneOrdinal_l0_ct hrec_impl_cloneOrdinal hx rest (v9n + 1) _ hd1 h) [some 128, some 192, some 1472] [] ⟨⟨rfl, rfl⟩, ⟨rfl, ⟨rfl, trivial, trivial⟩, ⟨rfl, ⟨(by first | rfl | exact List.length_append.symm | (simp; done) | omega), rfl⟩, trivial⟩, ⟨rfl, rfl, rows_same⟩, trivial⟩, ⟨rfl, rfl⟩, ⟨rfl, rfl⟩, rfl, rfl, i64eq (wrap_up hlt hx), trivial⟩
def impl_cloneOrdinal_b (rec_impl_cloneOrdinal : Rw → Option Rw) (a1 : Rw) : Option Rw :=
  (if a1.length ≤ cap then (impl_cloneOrdinal_l0 rec_impl_cloneOrdinal a1 (fun (v19 : Rw) => some v19) a1 ([] : Rw)) else none)
set_option maxHeartbeats 4000000 in
set_option maxRecDepth 100000 in
theorem impl_cloneOrdinal_b_ct {rec_impl_cloneOrdinal : Rw → Option Rw} (hrec_impl_cloneOrdinal : ∀ (a1 : Rw) (r : Rw), rec_impl_cloneOrdinal a1 = some r → Ct prog 159 [.agg [.d (D.sl a1)]] (⟨[], []⟩) (.agg [.os 8 r.length]) (⟨[], [(104, true, r)]⟩)) {a1 : Rw} {r : Rw} (h : impl_cloneOrdinal_b rec_impl_cloneOrdinal a1 = some r) : Ct prog 159 [.agg [.d (D.sl a1)]] (⟨[], []⟩) (.agg [.os 8 r.length]) (⟨[], [(104, true, r)]⟩) := by
  rw [impl_cloneOrdinal_b] at h
  refine Ct.of (c := _) mixed func159 ⟨rfl, rfl, rfl⟩ ?_ rfl
  conv => whnf
  obtain ⟨g34, h⟩ := req_ex h
  refine LoopOk.into (impl_cloneOrdinal_l0_ct hrec_impl_cloneOrdinal g34 _ _ _ rfl h) [some 128, some 192, none] [] ⟨⟨rfl, rfl⟩, ⟨rfl, ⟨rfl, trivial, trivial⟩, ⟨rfl, ⟨rfl, rfl⟩, trivial⟩, rfl, trivial⟩, ⟨rfl, rfl⟩, ⟨rfl, rfl⟩, rfl, rfl, rfl, trivial⟩ ?_ (fun _ hs => hs)
  rintro i ts os ⟨rfl, v19, h, rfl, rfl⟩
  conv => whnf
  refine CutK.go ?_
  conv => whnf
  cases h
  exact Done.of [some 67001] [] rfl rfl ⟨⟨rfl, rfl⟩, ⟨rfl, ⟨rfl, rfl, rows_same⟩, trivial⟩, ⟨⟨rfl, rfl⟩, trivial⟩, trivial⟩
def impl_cloneOrdinal : Nat → Rw → Option Rw
  | 0, _ => none
  | k + 1, a1 => impl_cloneOrdinal_b (impl_cloneOrdinal k) a1
theorem impl_cloneOrdinal_ct' : ∀ (k : Nat) (a1 : Rw) (r : Rw), impl_cloneOrdinal k a1 = some r → Ct prog 159 [.agg [.d (D.sl a1)]] (⟨[], []⟩) (.agg [.os 8 r.length]) (⟨[], [(104, true, r)]⟩)
  | 0, _, _, h => by rw [impl_cloneOrdinal] at h; cases h
  | k + 1, _, _, h => by rw [impl_cloneOrdinal] at h; exact impl_cloneOrdinal_b_ct (impl_cloneOrdinal_ct' k) h
theorem impl_cloneOrdinal_ct {k : Nat} {a1 : Rw} {r : Rw} (h : impl_cloneOrdinal k a1 = some r) : Ct prog 159 [.agg [.d (D.sl a1)]] (⟨[], []⟩) (.agg [.os 8 r.length]) (⟨[], [(104, true, r)]⟩) := impl_cloneOrdinal_ct' k _ _ h

def impl_told (k : Nat) (a1 : Rw) : Option (Rw × Bool) :=
  ((impl_IsOrdinal k a1).bind fun y2 => (if y2 = true then ((impl_cloneOrdinal k a1).bind fun y5 => some (y5, true)) else some (([] : Rw), false)))
set_option maxHeartbeats 4000000 in
set_option maxRecDepth 100000 in
theorem impl_told_ct {k : Nat} {a1 : Rw} {r : Rw × Bool} (h : impl_told k a1 = some r) : Ct prog 79 [.agg [.d (D.sl a1)]] (⟨[], []⟩) (.tup [.agg [.os 8 r.1.length], .d (D.bool r.2)]) (⟨[], [(104, true, r.1)]⟩) := by
  rw [impl_told] at h
  refine Ct.of (c := _) mixed func79 ⟨rfl, rfl, rfl⟩ ?_ rfl
  conv => whnf
  obtain ⟨y2, e3, h⟩ := bind_ex h
  refine CallOk.of (impl_IsOrdinal_ct e3) ?_
  conv => whnf
  refine spl (fun g4 => ?_) (fun g4 => ?_)
  · replace h := iteT h g4
    conv => whnf
    refine CutK.go ?_
    conv => whnf
    refine CutK.go ?_
    conv => whnf
    obtain ⟨y5, e6, h⟩ := bind_ex h
    refine CallOk.of (impl_cloneOrdinal_ct e6) ?_
    conv => whnf
    refine CutK.go ?_
    conv => whnf
    cases h
    exact Done.of [some 576] [] rfl rfl ⟨⟨rfl, rfl⟩, ⟨rfl, ⟨rfl, rfl, rows_same⟩, trivial⟩, ⟨⟨⟨rfl, rfl⟩, trivial⟩, rfl, trivial⟩, trivial⟩
  · replace h := iteF h g4
    conv => whnf
    refine CutK.go ?_
    conv => whnf
    cases h
    exact Done.of [none] [] rfl rfl ⟨⟨rfl, rfl⟩, ⟨rfl, rfl, trivial⟩, ⟨⟨⟨rfl, rfl⟩, trivial⟩, rfl, trivial⟩, trivial⟩

def impl_naturalSum_p4 (o163 : Rw) : Option Rw :=
  some o163
set_option maxHeartbeats 4000000 in
set_option maxRecDepth 100000 in
theorem impl_naturalSum_p4_ct {o163 : Rw} {r : Rw} (h : impl_naturalSum_p4 o163 = some r) : X prog 0 (tlF f81 4) (mk 85 [(4, .ptr 256 0), (5, .ptr 320 0)] [(256, .box 26 [.es]), (320, .box 26 [.os 1084000 o163.length]), (1084000, .arr 104 false o163)]) (finK prog f81 0 (.agg [.os 8 r.length]) (⟨[], [(104, false, r)]⟩)) := by
  rw [impl_naturalSum_p4] at h
  conv => whnf
  cases h
  exact Done.of [some 1084000] [] rfl rfl ⟨⟨rfl, rfl⟩, ⟨rfl, ⟨rfl, rfl, rows_same⟩, trivial⟩, ⟨⟨rfl, rfl⟩, trivial⟩, trivial⟩
def impl_naturalSum_l0 (k : Nat) (a1 : Rw) (a2 : Rw) (K0 : Rw → Option Rw) : Nat → Int → Rw → Int → Option Rw
  | 0, _, _, _ => none
  | n + 1, v170, v171, v185 => (if v170 < (a1.length : Int) then (if v185 = (a2.length : Int) then (row_si a1 v170 fun x326 x327 => (if v171.length + 1 ≤ cap then (impl_naturalSum_l0 k a1 a2 K0 n (IntKind.i64.wrap (v170 + 1)) (v171 ++ ([[D.sl x326, D.int .i64 x327]])) v185) else none)) else (if v170 = (a1.length : Int) then (row_si a2 v185 fun x332 x333 => (if v171.length + 1 ≤ cap then (impl_naturalSum_l0 k a1 a2 K0 n v170 (v171 ++ ([[D.sl x332, D.int .i64 (IntKind.i64.wrap (0 + x333))]])) (IntKind.i64.wrap (v185 + 1))) else none)) else (row_si a1 v170 fun x337 x338 => (row_si a2 v185 fun x341 x342 => ((impl_cmp k x337 x341).bind fun y345 => (if (0 : Int) ≤ y345 then (if y345 ≤ (0 : Int) then (if v171.length + 1 ≤ cap then (impl_naturalSum_l0 k a1 a2 K0 n (IntKind.i64.wrap (v170 + 1)) (v171 ++ ([[D.sl x341, D.int .i64 (IntKind.i64.wrap (x338 + x342))]])) (IntKind.i64.wrap (v185 + 1))) else none) else (if v171.length + 1 ≤ cap then (impl_naturalSum_l0 k a1 a2 K0 n (IntKind.i64.wrap (v170 + 1)) (v171 ++ ([[D.sl x337, D.int .i64 x338]])) v185) else none)) else (if y345 ≤ (0 : Int) then (if v171.length + 1 ≤ cap then (impl_naturalSum_l0 k a1 a2 K0 n v170 (v171 ++ ([[D.sl x341, D.int .i64 (IntKind.i64.wrap (0 + x342))]])) (IntKind.i64.wrap (v185 + 1))) else none) else none))))))) else (if v185 < (a2.length : Int) then (if v185 = (a2.length : Int) then (row_si a1 v170 fun x355 x356 => (if v171.length + 1 ≤ cap then (impl_naturalSum_l0 k a1 a2 K0 n (IntKind.i64.wrap (v170 + 1)) (v171 ++ ([[D.sl x355, D.int .i64 x356]])) v185) else none)) else (if v170 = (a1.length : Int) then (row_si a2 v185 fun x361 x362 => (if v171.length + 1 ≤ cap then (impl_naturalSum_l0 k a1 a2 K0 n v170 (v171 ++ ([[D.sl x361, D.int .i64 (IntKind.i64.wrap (0 + x362))]])) (IntKind.i64.wrap (v185 + 1))) else none)) else (row_si a1 v170 fun x366 x367 => (row_si a2 v185 fun x370 x371 => ((impl_cmp k x366 x370).bind fun y374 => (if (0 : Int) ≤ y374 then (if y374 ≤ (0 : Int) then (if v171.length + 1 ≤ cap then (impl_naturalSum_l0 k a1 a2 K0 n (IntKind.i64.wrap (v170 + 1)) (v171 ++ ([[D.sl x370, D.int .i64 (IntKind.i64.wrap (x367 + x371))]])) (IntKind.i64.wrap (v185 + 1))) else none) else (if v171.length + 1 ≤ cap then (impl_naturalSum_l0 k a1 a2 K0 n (IntKind.i64.wrap (v170 + 1)) (v171 ++ ([[D.sl x366, D.int .i64 x367]])) v185) else none)) else (if y374 ≤ (0 : Int) then (if v171.length + 1 ≤ cap then (impl_naturalSum_l0 k a1 a2 K0 n v170 (v171 ++ ([[D.sl x370, D.int .i64 (IntKind.i64.wrap (0 + x371))]])) (IntKind.i64.wrap (v185 + 1))) else none) else none))))))) else (K0 v171)))
set_option maxRecDepth 100000 in
theorem impl_naturalSum_l0_ct {k : Nat} {a1 : Rw} {a2 : Rw} {K0 : Rw → Option Rw} {r : Rw} : ∀ (n : Nat) (v170 : Int) (v171 : Rw) (v185 : Int), impl_naturalSum_l0 k a1 a2 K0 n v170 v171 v185 = some r → LoopOk prog 0 (lp f81 0) (mk 85 [(2, .ptr 128 0), (3, .ptr 192 0), (4, .ptr 256 0), (5, .ptr 320 0), (6, .d (D.int .i64 v170)), (7, .d (D.int .i64 v185))] [(128, .box 26 [.d (D.sl a1)]), (192, .box 26 [.d (D.sl a2)]), (256, .box 26 [.es]), (320, .box 26 [.os 64000 v171.length]), (64000, .arr 104 false v171)]) (LoopEnd prog f81 0 85 (.agg [.os 8 r.length]) (⟨[], [(104, false, r)]⟩) (fun i ts os => (i = 0 ∧ ∃ v265 : Rw, K0 v265 = some r ∧ ts = [(4, .ptr 256 0), (5, .ptr 320 0)] ∧ os = [(256, .box 26 [.es]), (320, .box 26 [.os 67001 v265.length]), (67001, .arr 104 false v265)])))
  | 0, _, _, _, h => by
      rw [impl_naturalSum_l0] at h; cases h
  | n + 1, v170, v171, v185, h => by
      rw [impl_naturalSum_l0] at h
      refine LoopOk.step ?_
      conv => whnf
      refine splD (fun g324 => ?_) (fun g324 => ?_)
      · replace h := iteP h g324
        conv => whnf
        refine splD (fun g325 => ?_) (fun g325 => ?_)
        · replace h := iteP h g325
          conv => whnf
          refine CutK.norm [2, 3, 4, 5, 6, 7, 8] [128, 192, 256, 320, 64000] ?_
          conv => whnf
          refine splD (fun _ => ?_) (fun g => absurd (by decide) g)
          conv => whnf
          obtain ⟨g329, x326, x327, e328, h⟩ := row_si_ex h
          refine Req.of g329 ?_
          refine Row.of _ e328 ?_
          conv => whnf
          refine splD (fun g => absurd g (by decide)) (fun _ => ?_)
          conv => whnf
          refine Take.all (rfl) ?_
          conv => whnf
          refine Take.all (by first | rfl | exact List.length_append.symm | (simp; done) | omega) ?_
          conv => whnf
          obtain ⟨g330, h⟩ := req_ex h
          refine Req.of (room (b := 32) (by decide) g330 (wide1 rfl wide0)) ?_
          conv => whnf
          exact LoopOk.back (impl_naturalSum_l0_ct  n _ _ _ h) [some 128, some 192, some 256, some 320, some 5248] [] ⟨⟨rfl, rfl⟩, ⟨rfl, ⟨rfl, rfl, trivial⟩, ⟨rfl, rfl, trivial⟩, ⟨rfl, trivial, trivial⟩, ⟨rfl, ⟨(by first | rfl | exact List.length_append.symm | (simp; done) | omega), rfl⟩, trivial⟩, ⟨rfl, rfl, rows_same⟩, trivial⟩, ⟨rfl, rfl⟩, ⟨rfl, rfl⟩, ⟨rfl, rfl⟩, ⟨rfl, rfl⟩, rfl, rfl, trivial⟩
        · replace h := iteN h g325
          conv => whnf
          refine splD (fun g331 => ?_) (fun g331 => ?_)
          · replace h := iteP h g331
            conv => whnf
            refine CutK.norm [2, 3, 4, 5, 6, 7, 8] [128, 192, 256, 320, 64000] ?_
            conv => whnf
            refine splD (fun g => absurd g (by decide)) (fun _ => ?_)
            conv => whnf
            refine splD (fun _ => ?_) (fun g => absurd (by decide) g)
            conv => whnf
            obtain ⟨g335, x332, x333, e334, h⟩ := row_si_ex h
            refine Req.of g335 ?_
            refine Row.of _ e334 ?_
            conv => whnf
            refine Req.of g335 ?_
            refine Row.of _ e334 ?_
            conv => whnf
            refine Take.all (rfl) ?_
            conv => whnf
            refine Take.all (by first | rfl | exact List.length_append.symm | (simp; done) | omega) ?_
            conv => whnf
            obtain ⟨g336, h⟩ := req_ex h
            refine Req.of (room (b := 32) (by decide) g336 (wide1 rfl wide0)) ?_
            conv => whnf
            exact LoopOk.back (impl_naturalSum_l0_ct  n _ _ _ h) [some 128, some 192, some 256, some 320, some 5248] [] ⟨⟨rfl, rfl⟩, ⟨rfl, ⟨rfl, rfl, trivial⟩, ⟨rfl, rfl, trivial⟩, ⟨rfl, trivial, trivial⟩, ⟨rfl, ⟨(by first | rfl | exact List.length_append.symm | (simp; done) | omega), rfl⟩, trivial⟩, ⟨rfl, rfl, rows_same⟩, trivial⟩, ⟨rfl, rfl⟩, ⟨rfl, rfl⟩, ⟨rfl, rfl⟩, ⟨rfl, rfl⟩, rfl, rfl, trivial⟩
          · replace h := iteN h g331
            conv => whnf
            obtain ⟨g340, x337, x338, e339, h⟩ := row_si_ex h
            refine Req.of g340 ?_
            refine Row.of _ e339 ?_
            conv => whnf
            obtain ⟨g344, x341, x342, e343, h⟩ := row_si_ex h
            refine Req.of g344 ?_
            refine Row.of _ e343 ?_
            conv => whnf
            obtain ⟨y345, e346, h⟩ := bind_ex h
            refine CallOk.of (impl_cmp_ct e346) ?_
            conv => whnf
            refine CutK.norm [2, 3, 4, 5, 6, 7, 8] [128, 192, 256, 320, 64000] ?_
            conv => whnf
            refine splD (fun g347 => ?_) (fun g347 => ?_)
            · replace h := iteP h g347
              conv => whnf
              refine Req.of g340 ?_
              refine Row.of _ e339 ?_
              conv => whnf
              refine splD (fun g348 => ?_) (fun g348 => ?_)
              · replace h := iteP h g348
                conv => whnf
                refine Req.of g344 ?_
                refine Row.of _ e343 ?_
                conv => whnf
                refine Req.of g344 ?_
                refine Row.of _ e343 ?_
                conv => whnf
                refine Take.all (rfl) ?_
                conv => whnf
                refine Take.all (by first | rfl | exact List.length_append.symm | (simp; done) | omega) ?_
                conv => whnf
                obtain ⟨g349, h⟩ := req_ex h
                refine Req.of (room (b := 32) (by decide) g349 (wide1 rfl wide0)) ?_
                conv => whnf
                exact LoopOk.back (impl_naturalSum_l0_ct  n _ _ _ h) [some 128, some 192, some 256, some 320, some 5248] [] ⟨⟨rfl, rfl⟩, ⟨rfl, ⟨rfl, rfl, trivial⟩, ⟨rfl, rfl, trivial⟩, ⟨rfl, trivial, trivial⟩, ⟨rfl, ⟨(by first | rfl | exact List.length_append.symm | (simp; done) | omega), rfl⟩, trivial⟩, ⟨rfl, rfl, rows_same⟩, trivial⟩, ⟨rfl, rfl⟩, ⟨rfl, rfl⟩, ⟨rfl, rfl⟩, ⟨rfl, rfl⟩, rfl, rfl, trivial⟩
              · replace h := iteN h g348
                conv => whnf
                refine Take.all (rfl) ?_
                conv => whnf
                refine Take.all (by first | rfl | exact List.length_append.symm | (simp; done) | omega) ?_
                conv => whnf
                obtain ⟨g350, h⟩ := req_ex h
                refine Req.of (room (b := 32) (by decide) g350 (wide1 rfl wide0)) ?_
                conv => whnf
                exact LoopOk.back (impl_naturalSum_l0_ct  n _ _ _ h) [some 128, some 192, some 256, some 320, some 5248] [] ⟨⟨rfl, rfl⟩, ⟨rfl, ⟨rfl, rfl, trivial⟩, ⟨rfl, rfl, trivial⟩, ⟨rfl, trivial, trivial⟩, ⟨rfl, ⟨(by first | rfl | exact List.length_append.symm | (simp; done) | omega), rfl⟩, trivial⟩, ⟨rfl, rfl, rows_same⟩, trivial⟩, ⟨rfl, rfl⟩, ⟨rfl, rfl⟩, ⟨rfl, rfl⟩, ⟨rfl, rfl⟩, rfl, rfl, trivial⟩
            · replace h := iteN h g347
              conv => whnf
              refine splD (fun g351 => ?_) (fun g351 => ?_)
              · replace h := iteP h g351
                conv => whnf
                refine Req.of g344 ?_
                refine Row.of _ e343 ?_
                conv => whnf
                refine Req.of g344 ?_
                refine Row.of _ e343 ?_
                conv => whnf
                refine Take.all (rfl) ?_
                conv => whnf
                refine Take.all (by first | rfl | exact List.length_append.symm | (simp; done) | omega) ?_
                conv => whnf
                obtain ⟨g352, h⟩ := req_ex h
                refine Req.of (room (b := 32) (by decide) g352 (wide1 rfl wide0)) ?_
                conv => whnf
                exact LoopOk.back (impl_naturalSum_l0_ct  n _ _ _ h) [some 128, some 192, some 256, some 320, some 5248] [] ⟨⟨rfl, rfl⟩, ⟨rfl, ⟨rfl, rfl, trivial⟩, ⟨rfl, rfl, trivial⟩, ⟨rfl, trivial, trivial⟩, ⟨rfl, ⟨(by first | rfl | exact List.length_append.symm | (simp; done) | omega), rfl⟩, trivial⟩, ⟨rfl, rfl, rows_same⟩, trivial⟩, ⟨rfl, rfl⟩, ⟨rfl, rfl⟩, ⟨rfl, rfl⟩, ⟨rfl, rfl⟩, rfl, rfl, trivial⟩
              · replace h := iteN h g351
                exfalso; omega
      · replace h := iteN h g324
        conv => whnf
        refine splD (fun g353 => ?_) (fun g353 => ?_)
        · replace h := iteP h g353
          conv => whnf
          refine splD (fun g354 => ?_) (fun g354 => ?_)
          · replace h := iteP h g354
            conv => whnf
            refine CutK.norm [2, 3, 4, 5, 6, 7, 8] [128, 192, 256, 320, 64000] ?_
            conv => whnf
            refine splD (fun _ => ?_) (fun g => absurd (by decide) g)
            conv => whnf
            obtain ⟨g358, x355, x356, e357, h⟩ := row_si_ex h
            refine Req.of g358 ?_
            refine Row.of _ e357 ?_
            conv => whnf
            refine splD (fun g => absurd g (by decide)) (fun _ => ?_)
            conv => whnf
            refine Take.all (rfl) ?_
            conv => whnf
            refine Take.all (by first | rfl | exact List.length_append.symm | (simp; done) | omega) ?_
            conv => whnf
            obtain ⟨g359, h⟩ := req_ex h
            refine Req.of (room (b := 32) (by decide) g359 (wide1 rfl wide0)) ?_
            conv => whnf
            exact LoopOk.back (impl_naturalSum_l0_ct  n _ _ _ h) [some 128, some 192, some 256, some 320, some 5248] [] ⟨⟨rfl, rfl⟩, ⟨rfl, ⟨rfl, rfl, trivial⟩, ⟨rfl, rfl, trivial⟩, ⟨rfl, trivial, trivial⟩, ⟨rfl, ⟨(by first | rfl | exact List.length_append.symm | (simp; done) | omega), rfl⟩, trivial⟩, ⟨rfl, rfl, rows_same⟩, trivial⟩, ⟨rfl, rfl⟩, ⟨rfl, rfl⟩, ⟨rfl, rfl⟩, ⟨rfl, rfl⟩, rfl, rfl, trivial⟩
          · replace h := iteN h g354
            conv => whnf
            refine splD (fun g360 => ?_) (fun g360 => ?_)
            · replace h := iteP h g360
              conv => whnf
              refine CutK.norm [2, 3, 4, 5, 6, 7, 8] [128, 192, 256, 320, 64000] ?_
              conv => whnf
              refine splD (fun g => absurd g (by decide)) (fun _ => ?_)
              conv => whnf
              refine splD (fun _ => ?_) (fun g => absurd (by decide) g)
              conv => whnf
              obtain ⟨g364, x361, x362, e363, h⟩ := row_si_ex h
              refine Req.of g364 ?_
              refine Row.of _ e363 ?_
              conv => whnf
              refine Req.of g364 ?_
              refine Row.of _ e363 ?_
              conv => whnf
              refine Take.all (rfl) ?_
              conv => whnf
              refine Take.all (by first | rfl | exact List.length_append.symm | (simp; done) | omega) ?_
              conv => whnf
              obtain ⟨g365, h⟩ := req_ex h
              refine Req.of (room (b := 32) (by decide) g365 (wide1 rfl wide0)) ?_
              conv => whnf
              exact LoopOk.back (impl_naturalSum_l0_ct  n _ _ _ h) [some 128, some 192, some 256, some 320, some 5248] [] ⟨⟨rfl, rfl⟩, ⟨rfl, ⟨rfl, rfl, trivial⟩, ⟨rfl, rfl, trivial⟩, ⟨rfl, trivial, trivial⟩, ⟨rfl, ⟨(by first | rfl | exact List.length_append.symm | (simp; done) | omega), rfl⟩, trivial⟩, ⟨rfl, rfl, rows_same⟩, trivial⟩, ⟨rfl, rfl⟩, ⟨rfl, rfl⟩, ⟨rfl, rfl⟩, ⟨rfl, rfl⟩, rfl, rfl, trivial⟩
            · replace h := iteN h g360
              conv => whnf
              obtain ⟨g369, x366, x367, e368, h⟩ := row_si_ex h
              refine Req.of g369 ?_
              refine Row.of _ e368 ?_
              conv => whnf
              obtain ⟨g373, x370, x371, e372, h⟩ := row_si_ex h
              refine Req.of g373 ?_
              refine Row.of _ e372 ?_
              conv => whnf
              obtain ⟨y374, e375, h⟩ := bind_ex h
              refine CallOk.of (impl_cmp_ct e375) ?_
              conv => whnf
              refine CutK.norm [2, 3, 4, 5, 6, 7, 8] [128, 192, 256, 320, 64000] ?_
              conv => whnf
              refine splD (fun g376 => ?_) (fun g376 => ?_)
              · replace h := iteP h g376
                conv => whnf
                refine Req.of g369 ?_
                refine Row.of _ e368 ?_
                conv => whnf
                refine splD (fun g377 => ?_) (fun g377 => ?_)
                · replace h := iteP h g377
                  conv => whnf
                  refine Req.of g373 ?_
                  refine Row.of _ e372 ?_
                  conv => whnf
                  refine Req.of g373 ?_
                  refine Row.of _ e372 ?_
                  conv => whnf
                  refine Take.all (rfl) ?_
                  conv => whnf
                  refine Take.all (by first | rfl | exact List.length_append.symm | (simp; done) | omega) ?_
                  conv => whnf
                  obtain ⟨g378, h⟩ := req_ex h
                  refine Req.of (room (b := 32) (by decide) g378 (wide1 rfl wide0)) ?_
                  conv => whnf
                  exact LoopOk.back (impl_naturalSum_l0_ct  n _ _ _ h) [some 128, some 192, some 256, some 320, some 5248] [] ⟨⟨rfl, rfl⟩, ⟨rfl, ⟨rfl, rfl, trivial⟩, ⟨rfl, rfl, trivial⟩, ⟨rfl, trivial, trivial⟩, ⟨rfl, ⟨(by first | rfl | exact List.length_append.symm | (simp; done) | omega), rfl⟩, trivial⟩, ⟨rfl, rfl, rows_same⟩, trivial⟩, ⟨rfl, rfl⟩, ⟨rfl, rfl⟩, ⟨rfl, rfl⟩, ⟨rfl, rfl⟩, rfl, rfl, trivial⟩
                · replace h := iteN h g377
                  conv => whnf
                  refine Take.all (rfl) ?_
                  conv => whnf
                  refine Take.all (by first | rfl | exact List.length_append.symm | (simp; done) | omega) ?_
                  conv => whnf
                  obtain ⟨g379, h⟩ := req_ex h
                  refine Req.of (room (b := 32) (by decide) g379 (wide1 rfl wide0)) ?_
                  conv => whnf
                  exact LoopOk.back (impl_naturalSum_l0_ct  n _ _ _ h) [some 128, some 192, some 256, some 320, some 5248] [] ⟨⟨rfl, rfl⟩, ⟨rfl, ⟨rfl, rfl, trivial⟩, ⟨rfl, rfl, trivial⟩, ⟨rfl, trivial, trivial⟩, ⟨rfl, ⟨(by first | rfl | exact List.length_append.symm | (simp; done) | omega), rfl⟩, trivial⟩, ⟨rfl, rfl, rows_same⟩, trivial⟩, ⟨rfl, rfl⟩, ⟨rfl, rfl⟩, ⟨rfl, rfl⟩, ⟨rfl, rfl⟩, rfl, rfl, trivial⟩
              · replace h := iteN h g376
                conv => whnf
                refine splD (fun g380 => ?_) (fun g380 => ?_)
                · replace h := iteP h g380
                  conv => whnf
                  refine Req.of g373 ?_
                  refine Row.of _ e372 ?_
                  conv => whnf
                  refine Req.of g373 ?_
                  refine Row.of _ e372 ?_
                  conv => whnf
                  refine Take.all (rfl) ?_
                  conv => whnf
                  refine Take.all (by first | rfl | exact List.length_append.symm | (simp; done) | omega) ?_
                  conv => whnf
                  obtain ⟨g381, h⟩ := req_ex h
                  refine Req.of (room (b := 32) (by decide) g381 (wide1 rfl wide0)) ?_
                  conv => whnf
                  exact LoopOk.back (impl_naturalSum_l0_ct  n _ _ _ h) [some 128, some 192, some 256, some 320, some 5248] [] ⟨⟨rfl, rfl⟩, ⟨rfl, ⟨rfl, rfl, trivial⟩, ⟨rfl, rfl, trivial⟩, ⟨rfl, trivial, trivial⟩, ⟨rfl, ⟨(by first | rfl | exact List.length_append.symm | (simp; done) | omega), rfl⟩, trivial⟩, ⟨rfl, rfl, rows_same⟩, trivial⟩, ⟨rfl, rfl⟩, ⟨rfl, rfl⟩, ⟨rfl, rfl⟩, ⟨rfl, rfl⟩, rfl, rfl, trivial⟩
                · replace h := iteN h g380
                  exfalso; omega
        · replace h := iteN h g353
          conv => whnf
          exact ⟨_, _, [some 256, some 320, some 64000], [], ⟨rfl, _, h, rfl, rfl⟩, ⟨⟨rfl, rfl⟩, ⟨rfl, ⟨rfl, trivial, trivial⟩, ⟨rfl, ⟨rfl, rfl⟩, trivial⟩, ⟨rfl, rfl, rows_same⟩, trivial⟩, ⟨rfl, rfl⟩, ⟨rfl, rfl⟩, trivial⟩⟩
def impl_naturalSum (k : Nat) (a1 : Rw) (a2 : Rw) : Option Rw :=
  (impl_naturalSum_l0 k a1 a2 (fun (v265 : Rw) => (impl_naturalSum_p4 v265)) k 0 ([] : Rw) 0)
set_option maxHeartbeats 4000000 in
set_option maxRecDepth 100000 in
theorem impl_naturalSum_ct {k : Nat} {a1 : Rw} {a2 : Rw} {r : Rw} (h : impl_naturalSum k a1 a2 = some r) : Ct prog 81 [.agg [.d (D.sl a1)], .agg [.d (D.sl a2)]] (⟨[], []⟩) (.agg [.os 8 r.length]) (⟨[], [(104, false, r)]⟩) := by
  rw [impl_naturalSum] at h
  refine Ct.of (c := _) mixed func81 ⟨rfl, rfl, rfl⟩ ?_ rfl
  conv => whnf
  refine LoopOk.into (impl_naturalSum_l0_ct  _ _ _ _ h) [some 128, some 192, some 256, some 320, none] [] ⟨⟨rfl, rfl⟩, ⟨rfl, ⟨rfl, rfl, trivial⟩, ⟨rfl, rfl, trivial⟩, ⟨rfl, trivial, trivial⟩, ⟨rfl, ⟨rfl, rfl⟩, trivial⟩, rfl, trivial⟩, ⟨rfl, rfl⟩, ⟨rfl, rfl⟩, ⟨rfl, rfl⟩, ⟨rfl, rfl⟩, rfl, rfl, trivial⟩ ?_ (fun _ hs => hs)
  rintro i ts os ⟨rfl, v265, h, rfl, rfl⟩
  conv => whnf
  exact CutK.piece (impl_naturalSum_p4_ct  h) [some 256, some 320, some 67001] [] ⟨⟨rfl, rfl⟩, ⟨rfl, ⟨rfl, trivial, trivial⟩, ⟨rfl, ⟨rfl, rfl⟩, trivial⟩, ⟨rfl, rfl, rows_same⟩, trivial⟩, ⟨rfl, rfl⟩, ⟨rfl, rfl⟩, trivial⟩

def impl_power  (a1 : Rw) (a2 : Int) : Option Rw :=
  (if a2 = (0 : Int) then some ([] : Rw) else some ([[D.sl a1, D.int .i64 a2]] : Rw))
set_option maxHeartbeats 4000000 in
set_option maxRecDepth 100000 in
theorem impl_power_ct  {a1 : Rw} {a2 : Int} {r : Rw} (h : impl_power a1 a2 = some r) : Ct prog 90 [.agg [.d (D.sl a1)], .d (D.int .i64 a2)] (⟨[], []⟩) (.agg [.os 8 r.length]) (⟨[], [(104, false, r)]⟩) := by
  rw [impl_power] at h
  refine Ct.of (c := _) mixed func90 ⟨rfl, rfl, rfl⟩ ?_ rfl
  conv => whnf
  refine splD (fun g3 => ?_) (fun g3 => ?_)
  · replace h := iteP h g3
    conv => whnf
    cases h
    exact Done.of [none] [] rfl rfl ⟨⟨rfl, rfl⟩, ⟨rfl, rfl, trivial⟩, ⟨⟨rfl, rfl⟩, trivial⟩, trivial⟩
  · replace h := iteN h g3
    conv => whnf
    cases h
    exact Done.of [some 704] [] rfl rfl ⟨⟨rfl, rfl⟩, ⟨rfl, ⟨rfl, rfl, rows_same⟩, trivial⟩, ⟨⟨(by first | rfl | exact List.length_append.symm | (simp; done) | omega), rfl⟩, trivial⟩, trivial⟩

def impl_both (k : Nat) (a1 : Rw) (a2 : Rw) : Option Bool :=
  ((impl_IsOrdinal k a1).bind fun y3 => (if y3 = true then ((impl_IsOrdinal k a2).bind fun y6 => (if y6 = true then some true else some false)) else some false))
set_option maxHeartbeats 4000000 in
set_option maxRecDepth 100000 in
theorem impl_both_ct {k : Nat} {a1 : Rw} {a2 : Rw} {r : Bool} (h : impl_both k a1 a2 = some r) : Ct prog 78 [.agg [.d (D.sl a1)], .agg [.d (D.sl a2)]] (⟨[], []⟩) (.d (D.bool r)) (⟨[], []⟩) := by
  rw [impl_both] at h
  refine Ct.of (c := _) mixed func78 ⟨rfl, rfl, rfl⟩ ?_ rfl
  conv => whnf
  obtain ⟨y3, e4, h⟩ := bind_ex h
  refine CallOk.of (impl_IsOrdinal_ct e4) ?_
  conv => whnf
  refine spl (fun g5 => ?_) (fun g5 => ?_)
  · replace h := iteT h g5
    conv => whnf
    obtain ⟨y6, e7, h⟩ := bind_ex h
    refine CallOk.of (impl_IsOrdinal_ct e7) ?_
    conv => whnf
    refine spl (fun g8 => ?_) (fun g8 => ?_)
    · replace h := iteT h g8
      conv => whnf
      refine CutK.go ?_
      conv => whnf
      cases h
      exact Done.of [] [] rfl rfl ⟨⟨rfl, rfl⟩, ⟨rfl, trivial⟩, rfl, trivial⟩
    · replace h := iteF h g8
      conv => whnf
      refine CutK.go ?_
      conv => whnf
      cases h
      exact Done.of [] [] rfl rfl ⟨⟨rfl, rfl⟩, ⟨rfl, trivial⟩, rfl, trivial⟩
  · replace h := iteF h g5
    conv => whnf
    refine CutK.go ?_
    conv => whnf
    cases h
    exact Done.of [] [] rfl rfl ⟨⟨rfl, rfl⟩, ⟨rfl, trivial⟩, rfl, trivial⟩

def impl_NaturalProduct_p5 (o136 : Rw) (v137 : Bool) : Option (Rw × Bool) :=
  (cond v137 (some (o136, true)) (some (o136, false)))
set_option maxHeartbeats 4000000 in
set_option maxRecDepth 100000 in
theorem impl_NaturalProduct_p5_ct {o136 : Rw} {v137 : Bool} {r : Rw × Bool} (h : impl_NaturalProduct_p5 o136 v137 = some r) : X prog 0 (tlF f36 5) (mk 50 [(4, .ptr 256 0), (5, .d (D.bool v137))] [(256, .box 26 [.os 1089000 o136.length]), (1089000, .arr 104 true o136)]) (finK prog f36 0 (.tup [.agg [.os 8 r.1.length], .d (D.bool r.2)]) (⟨[], [(104, true, r.1)]⟩)) := by
  rw [impl_NaturalProduct_p5] at h
  cases v137
  · replace h := condF h
    conv => whnf
    cases h
    exact Done.of [some 1089000] [] rfl rfl ⟨⟨rfl, rfl⟩, ⟨rfl, ⟨rfl, rfl, rows_same⟩, trivial⟩, ⟨⟨⟨rfl, rfl⟩, trivial⟩, rfl, trivial⟩, trivial⟩
  · replace h := condT h
    conv => whnf
    cases h
    exact Done.of [some 1089000] [] rfl rfl ⟨⟨rfl, rfl⟩, ⟨rfl, ⟨rfl, rfl, rows_same⟩, trivial⟩, ⟨⟨⟨rfl, rfl⟩, trivial⟩, rfl, trivial⟩, trivial⟩
def impl_NaturalProduct_p4 (k : Nat) (o132 : Rw) : Option (Rw × Bool) :=
  ((impl_told k o132).bind fun y138 => (if y138.2 = true then (impl_NaturalProduct_p5 y138.1 true) else (impl_NaturalProduct_p5 y138.1 false)))
set_option maxHeartbeats 4000000 in
set_option maxRecDepth 100000 in
theorem impl_NaturalProduct_p4_ct {k : Nat} {o132 : Rw} {r : Rw × Bool} (h : impl_NaturalProduct_p4 k o132 = some r) : X prog 0 (tlF f36 4) (mk 50 [(4, .ptr 256 0), (6, .ptr 384 0)] [(256, .box 26 [.es]), (384, .box 26 [.os 1084000 o132.length]), (1084000, .arr 104 false o132)]) (finK prog f36 0 (.tup [.agg [.os 8 r.1.length], .d (D.bool r.2)]) (⟨[], [(104, true, r.1)]⟩)) := by
  rw [impl_NaturalProduct_p4] at h
  conv => whnf
  refine Take.all (rfl) ?_
  conv => whnf
  obtain ⟨y138, e139, h⟩ := bind_ex h
  refine CallOk.of (impl_told_ct e139) ?_
  conv => whnf
  refine spl (fun g140 => ?_) (fun g140 => ?_)
  · replace h := iteT h g140
    conv => whnf
    exact CutK.piece (impl_NaturalProduct_p5_ct  h) [some 256, some 3008] [] ⟨⟨rfl, rfl⟩, ⟨rfl, ⟨rfl, ⟨rfl, rfl⟩, trivial⟩, ⟨rfl, rfl, rows_same⟩, trivial⟩, ⟨rfl, rfl⟩, rfl, trivial⟩
  · replace h := iteF h g140
    conv => whnf
    exact CutK.piece (impl_NaturalProduct_p5_ct  h) [some 256, some 3008] [] ⟨⟨rfl, rfl⟩, ⟨rfl, ⟨rfl, ⟨rfl, rfl⟩, trivial⟩, ⟨rfl, rfl, rows_same⟩, trivial⟩, ⟨rfl, rfl⟩, rfl, trivial⟩
def impl_NaturalProduct_l1 (k : Nat) (a1 : Rw) (a2 : Rw) (v182n : Nat) (x267 : Rw) (x268 : Int) (K2 : Rw → Option (Rw × Bool)) : Rw → Rw → Option (Rw × Bool)
  | [], v282 => (K2 v282)
  | cs :: rest, v282 => (cell_si cs fun x306 x307 => ((impl_naturalSum k x267 x306).bind fun y309 => ((impl_power y309 (IntKind.i64.wrap (x268 * x307))).bind fun y311 => ((impl_naturalSum k v282 y311).bind fun y313 => (impl_NaturalProduct_l1 k a1 a2 v182n x267 x268 K2 rest y313)))))
set_option maxRecDepth 100000 in
theorem impl_NaturalProduct_l1_ct {k : Nat} {a1 : Rw} {a2 : Rw} {v182n : Nat} {x267 : Rw} {x268 : Int} {K2 : Rw → Option (Rw × Bool)} {r : Rw × Bool} (hx : a2.length ≤ cap) : ∀ (rest : Rw) (v281n : Nat) (v282 : Rw), a2.drop v281n = rest → impl_NaturalProduct_l1 k a1 a2 v182n x267 x268 K2 rest v282 = some r → LoopOk prog 0 (lp f36 1) (mk 50 [(3, .ptr 192 0), (4, .ptr 256 0), (6, .ptr 384 0), (8, .ptr 512 0), (18, .d (D.sl a1)), (19, .d (D.int .i64 (a1.length : Int))), (20, .d (D.int .i64 (v182n : Int))), (25, .d (D.sl a2)), (26, .d (D.int .i64 (a2.length : Int))), (27, .d (D.int .i64 (v281n : Int)))] [(192, .box 26 [.d (D.sl a2)]), (256, .box 26 [.es]), (384, .box 26 [.os 76800 v282.length]), (512, .box 104 [.d (D.sl x267), .d (D.int .i64 x268)]), (76800, .arr 104 false v282)]) (LoopEnd prog f36 0 50 (.tup [.agg [.os 8 r.1.length], .d (D.bool r.2)]) (⟨[], [(104, true, r.1)]⟩) (fun i ts os => (i = 2 ∧ ∃ v294 : Rw, K2 v294 = some r ∧ ts = [(3, .ptr 192 0), (4, .ptr 256 0), (6, .ptr 384 0), (18, .d (D.sl a1)), (19, .d (D.int .i64 (a1.length : Int))), (20, .d (D.int .i64 (v182n : Int)))] ∧ os = [(192, .box 26 [.d (D.sl a2)]), (256, .box 26 [.es]), (384, .box 26 [.os 79801 v294.length]), (79801, .arr 104 false v294)])))
  | [], v281n, v282, hd, h => by
      rw [impl_NaturalProduct_l1] at h
      have hn := drop_nil hd
      refine LoopOk.step ?_
      conv => whnf
      refine splD (fun g => absurd g hn) (fun _ => ?_)
      conv => whnf
      exact ⟨_, _, [some 192, some 256, some 384, some 76800], [], ⟨rfl, _, h, rfl, rfl⟩, ⟨⟨rfl, rfl⟩, ⟨rfl, ⟨rfl, rfl, trivial⟩, ⟨rfl, trivial, trivial⟩, ⟨rfl, ⟨rfl, rfl⟩, trivial⟩, ⟨rfl, rfl, rows_same⟩, trivial⟩, ⟨rfl, rfl⟩, ⟨rfl, rfl⟩, ⟨rfl, rfl⟩, rfl, rfl, rfl, trivial⟩⟩
  | cs :: rest, v281n, v282, hd, h => by
      rw [impl_NaturalProduct_l1] at h
      obtain ⟨hrow, hd1, hlt⟩ := drop_cons hd
      refine LoopOk.step ?_
      conv => whnf
      refine splD (fun _ => ?_) (fun g => absurd hlt g)
      conv => whnf
      obtain ⟨x306, x307, e308, h⟩ := cell_si_ex h
      rw [e308] at hrow
      refine Req.of (Int.natCast_nonneg _) ?_
      refine Row.of _ hrow ?_
      conv => whnf
      obtain ⟨y309, e310, h⟩ := bind_ex h
      refine CallOk.of (impl_naturalSum_ct e310) ?_
      conv => whnf
      refine Take.all (rfl) ?_
      conv => whnf
      obtain ⟨y311, e312, h⟩ := bind_ex h
      refine CallOk.of (impl_power_ct e312) ?_
      conv => whnf
      refine Take.all (rfl) ?_
      conv => whnf
      refine Take.all (rfl) ?_
      conv => whnf
      obtain ⟨y313, e314, h⟩ := bind_ex h
      refine CallOk.of (impl_naturalSum_ct e314) ?_
      conv => whnf
      refine CutK.norm [3, 4, 6, 8, 18, 19, 20, 25, 26, 27] [192, 256, 384, 512, 2752] ?_
      conv => whnf
      exact LoopOk.back (impl_NaturalProduct_l1_ct hx rest (v281n + 1) _ hd1 h) [some 192, some 256, some 384, some 512, some 2752] [] ⟨⟨rfl, rfl⟩, ⟨rfl, ⟨rfl, rfl, trivial⟩, ⟨rfl, trivial, trivial⟩, ⟨rfl, ⟨rfl, rfl⟩, trivial⟩, ⟨rfl, rfl, rfl, trivial⟩, ⟨rfl, rfl, rows_same⟩, trivial⟩, ⟨rfl, rfl⟩, ⟨rfl, rfl⟩, ⟨rfl, rfl⟩, ⟨rfl, rfl⟩, rfl, rfl, rfl, rfl, rfl, i64eq (wrap_up hlt hx), trivial⟩
def impl_NaturalProduct_l0 (k : Nat) (a1 : Rw) (a2 : Rw) (K0 : Rw → Option (Rw × Bool)) : Rw → Nat → Rw → Option (Rw × Bool)
  | [], v182n, v183 => (K0 v183)
  | cs :: rest, v182n, v183 => (cell_si cs fun x267 x268 => (if a2.length ≤ cap then (impl_NaturalProduct_l1 k a1 a2 v182n x267 x268 (fun (v294 : Rw) => (impl_NaturalProduct_l0 k a1 a2 K0 rest (v182n + 1) v294)) a2 v183) else none))
set_option maxRecDepth 100000 in
theorem impl_NaturalProduct_l0_ct {k : Nat} {a1 : Rw} {a2 : Rw} {K0 : Rw → Option (Rw × Bool)} {r : Rw × Bool} (hx : a1.length ≤ cap) : ∀ (rest : Rw) (v182n : Nat) (v183 : Rw), a1.drop v182n = rest → impl_NaturalProduct_l0 k a1 a2 K0 rest v182n v183 = some r → LoopOk prog 0 (lp f36 0) (mk 50 [(3, .ptr 192 0), (4, .ptr 256 0), (6, .ptr 384 0), (18, .d (D.sl a1)), (19, .d (D.int .i64 (a1.length : Int))), (20, .d (D.int .i64 (v182n : Int)))] [(192, .box 26 [.d (D.sl a2)]), (256, .box 26 [.es]), (384, .box 26 [.os 64000 v183.length]), (64000, .arr 104 false v183)]) (LoopEnd prog f36 0 50 (.tup [.agg [.os 8 r.1.length], .d (D.bool r.2)]) (⟨[], [(104, true, r.1)]⟩) (fun i ts os => (i = 0 ∧ ∃ v225 : Rw, K0 v225 = some r ∧ ts = [(4, .ptr 256 0), (6, .ptr 384 0)] ∧ os = [(256, .box 26 [.es]), (384, .box 26 [.os 67001 v225.length]), (67001, .arr 104 false v225)])))
  | [], v182n, v183, hd, h => by
      rw [impl_NaturalProduct_l0] at h
      have hn := drop_nil hd
      refine LoopOk.step ?_
      conv => whnf
      refine splD (fun g => absurd g hn) (fun _ => ?_)
      conv => whnf
      exact ⟨_, _, [some 256, some 384, some 64000], [], ⟨rfl, _, h, rfl, rfl⟩, ⟨⟨rfl, rfl⟩, ⟨rfl, ⟨rfl, trivial, trivial⟩, ⟨rfl, ⟨rfl, rfl⟩, trivial⟩, ⟨rfl, rfl, rows_same⟩, trivial⟩, ⟨rfl, rfl⟩, ⟨rfl, rfl⟩, trivial⟩⟩
  | cs :: rest, v182n, v183, hd, h => by
      rw [impl_NaturalProduct_l0] at h
      obtain ⟨hrow, hd1, hlt⟩ := drop_cons hd
      refine LoopOk.step ?_
      conv => whnf
      refine splD (fun _ => ?_) (fun g => absurd hlt g)
      conv => whnf
      obtain ⟨x267, x268, e269, h⟩ := cell_si_ex h
      rw [e269] at hrow
      refine Req.of (Int.natCast_nonneg _) ?_
      refine Row.of _ hrow ?_
      conv => whnf
      obtain ⟨g315, h⟩ := req_ex h
      refine LoopOk.into (impl_NaturalProduct_l1_ct  g315 _ _ _ rfl h) [some 192, some 256, some 384, some 512, some 64000] [] ⟨⟨rfl, rfl⟩, ⟨rfl, ⟨rfl, rfl, trivial⟩, ⟨rfl, trivial, trivial⟩, ⟨rfl, ⟨rfl, rfl⟩, trivial⟩, ⟨rfl, rfl, rfl, trivial⟩, ⟨rfl, rfl, rows_same⟩, trivial⟩, ⟨rfl, rfl⟩, ⟨rfl, rfl⟩, ⟨rfl, rfl⟩, ⟨rfl, rfl⟩, rfl, rfl, rfl, rfl, rfl, rfl, trivial⟩ ?_ (fun _ hs => hs)
      rintro i ts os ⟨rfl, v294, h, rfl, rfl⟩
      conv => whnf
      refine CutK.norm [3, 4, 6, 18, 19, 20] [192, 256, 384, 79801] ?_
      conv => whnf
      exact LoopOk.back (impl_NaturalProduct_l0_ct hx rest (v182n + 1) _ hd1 h) [some 192, some 256, some 384, some 79801] [] ⟨⟨rfl, rfl⟩, ⟨rfl, ⟨rfl, rfl, trivial⟩, ⟨rfl, trivial, trivial⟩, ⟨rfl, ⟨rfl, rfl⟩, trivial⟩, ⟨rfl, rfl, rows_same⟩, trivial⟩, ⟨rfl, rfl⟩, ⟨rfl, rfl⟩, ⟨rfl, rfl⟩, rfl, rfl, i64eq (wrap_up hlt hx), trivial⟩
def impl_NaturalProduct_p2 (k : Nat) (a1 : Rw) (a2 : Rw) : Option (Rw × Bool) :=
  (if a1.length ≤ cap then (impl_NaturalProduct_l0 k a1 a2 (fun (v225 : Rw) => (impl_NaturalProduct_p4 k v225)) a1 0 ([] : Rw)) else none)
set_option maxHeartbeats 4000000 in
set_option maxRecDepth 100000 in
theorem impl_NaturalProduct_p2_ct {k : Nat} {a1 : Rw} {a2 : Rw} {r : Rw × Bool} (h : impl_NaturalProduct_p2 k a1 a2 = some r) : X prog 0 (tlF f36 2) (mk 50 [(2, .ptr 128 0), (3, .ptr 192 0), (4, .ptr 256 0)] [(128, .box 26 [.d (D.sl a1)]), (192, .box 26 [.d (D.sl a2)]), (256, .box 26 [.es])]) (finK prog f36 0 (.tup [.agg [.os 8 r.1.length], .d (D.bool r.2)]) (⟨[], [(104, true, r.1)]⟩)) := by
  rw [impl_NaturalProduct_p2] at h
  conv => whnf
  obtain ⟨g316, h⟩ := req_ex h
  refine LoopOk.into (impl_NaturalProduct_l0_ct  g316 _ _ _ rfl h) [some 192, some 256, some 384, none] [] ⟨⟨rfl, rfl⟩, ⟨rfl, ⟨rfl, rfl, trivial⟩, ⟨rfl, trivial, trivial⟩, ⟨rfl, ⟨rfl, rfl⟩, trivial⟩, rfl, trivial⟩, ⟨rfl, rfl⟩, ⟨rfl, rfl⟩, ⟨rfl, rfl⟩, rfl, rfl, rfl, trivial⟩ ?_ (fun _ hs => hs)
  rintro i ts os ⟨rfl, v225, h, rfl, rfl⟩
  conv => whnf
  exact CutK.piece (impl_NaturalProduct_p4_ct  h) [some 256, some 384, some 67001] [] ⟨⟨rfl, rfl⟩, ⟨rfl, ⟨rfl, trivial, trivial⟩, ⟨rfl, ⟨rfl, rfl⟩, trivial⟩, ⟨rfl, rfl, rows_same⟩, trivial⟩, ⟨rfl, rfl⟩, ⟨rfl, rfl⟩, trivial⟩
def impl_NaturalProduct (k : Nat) (a1 : Rw) (a2 : Rw) : Option (Rw × Bool) :=
  ((impl_both k a1 a2).bind fun y317 => (if y317 = true then (impl_NaturalProduct_p2 k a1 a2) else some (([] : Rw), false)))
set_option maxHeartbeats 4000000 in
set_option maxRecDepth 100000 in
theorem impl_NaturalProduct_ct {k : Nat} {a1 : Rw} {a2 : Rw} {r : Rw × Bool} (h : impl_NaturalProduct k a1 a2 = some r) : Ct prog 36 [.agg [.d (D.sl a1)], .agg [.d (D.sl a2)]] (⟨[], []⟩) (.tup [.agg [.os 8 r.1.length], .d (D.bool r.2)]) (⟨[], [(104, true, r.1)]⟩) := by
  rw [impl_NaturalProduct] at h
  refine Ct.of (c := _) mixed func36 ⟨rfl, rfl, rfl⟩ ?_ rfl
  conv => whnf
  obtain ⟨y317, e318, h⟩ := bind_ex h
  refine CallOk.of (impl_both_ct e318) ?_
  conv => whnf
  refine spl (fun g319 => ?_) (fun g319 => ?_)
  · replace h := iteT h g319
    conv => whnf
    refine CutK.norm [2, 3, 4, 14] [128, 192, 256] ?_
    conv => whnf
    exact CutK.piece (impl_NaturalProduct_p2_ct  h) [some 128, some 192, some 256] [] ⟨⟨rfl, rfl⟩, ⟨rfl, ⟨rfl, rfl, trivial⟩, ⟨rfl, rfl, trivial⟩, ⟨rfl, trivial, trivial⟩, trivial⟩, ⟨rfl, rfl⟩, ⟨rfl, rfl⟩, ⟨rfl, rfl⟩, trivial⟩
  · replace h := iteF h g319
    conv => whnf
    refine CutK.norm [2, 3, 4, 14] [128, 192, 256] ?_
    conv => whnf
    cases h
    exact Done.of [none] [] rfl rfl ⟨⟨rfl, rfl⟩, ⟨rfl, rfl, trivial⟩, ⟨⟨⟨rfl, rfl⟩, trivial⟩, rfl, trivial⟩, trivial⟩

def impl_NaturalSum (k : Nat) (a1 : Rw) (a2 : Rw) : Option (Rw × Bool) :=
  ((impl_both k a1 a2).bind fun y3 => (if y3 = true then ((impl_naturalSum k a1 a2).bind fun y6 => ((impl_told k y6).bind fun y8 => (if y8.2 = true then some (y8.1, true) else some (y8.1, false)))) else some (([] : Rw), false)))
set_option maxHeartbeats 4000000 in
set_option maxRecDepth 100000 in
theorem impl_NaturalSum_ct {k : Nat} {a1 : Rw} {a2 : Rw} {r : Rw × Bool} (h : impl_NaturalSum k a1 a2 = some r) : Ct prog 16 [.agg [.d (D.sl a1)], .agg [.d (D.sl a2)]] (⟨[], []⟩) (.tup [.agg [.os 8 r.1.length], .d (D.bool r.2)]) (⟨[], [(104, true, r.1)]⟩) := by
  rw [impl_NaturalSum] at h
  refine Ct.of (c := _) mixed func16 ⟨rfl, rfl, rfl⟩ ?_ rfl
  conv => whnf
  obtain ⟨y3, e4, h⟩ := bind_ex h
  refine CallOk.of (impl_both_ct e4) ?_
  conv => whnf
  refine spl (fun g5 => ?_) (fun g5 => ?_)
  · replace h := iteT h g5
    conv => whnf
    refine CutK.go ?_
    conv => whnf
    refine CutK.go ?_
    conv => whnf
    obtain ⟨y6, e7, h⟩ := bind_ex h
    refine CallOk.of (impl_naturalSum_ct e7) ?_
    conv => whnf
    refine Take.all (rfl) ?_
    conv => whnf
    obtain ⟨y8, e9, h⟩ := bind_ex h
    refine CallOk.of (impl_told_ct e9) ?_
    conv => whnf
    refine spl (fun g10 => ?_) (fun g10 => ?_)
    · replace h := iteT h g10
      conv => whnf
      refine CutK.go ?_
      conv => whnf
      cases h
      exact Done.of [some 896] [] rfl rfl ⟨⟨rfl, rfl⟩, ⟨rfl, ⟨rfl, rfl, rows_same⟩, trivial⟩, ⟨⟨⟨rfl, rfl⟩, trivial⟩, rfl, trivial⟩, trivial⟩
    · replace h := iteF h g10
      conv => whnf
      refine CutK.go ?_
      conv => whnf
      cases h
      exact Done.of [some 896] [] rfl rfl ⟨⟨rfl, rfl⟩, ⟨rfl, ⟨rfl, rfl, rows_same⟩, trivial⟩, ⟨⟨⟨rfl, rfl⟩, trivial⟩, rfl, trivial⟩, trivial⟩
  · replace h := iteF h g5
    conv => whnf
    refine CutK.go ?_
    conv => whnf
    cases h
    exact Done.of [none] [] rfl rfl ⟨⟨rfl, rfl⟩, ⟨rfl, rfl, trivial⟩, ⟨⟨⟨rfl, rfl⟩, trivial⟩, rfl, trivial⟩, trivial⟩

def laws_sameOrdinal_l0 (rec_laws_sameOrdinal : Rw → Rw → Option Bool) (a1 : Rw) (a2 : Rw) (K0 : Option Bool) : Rw → Nat → Option Bool
  | [], v17n => (K0)
  | cs :: rest, v17n => (cell_si cs fun x31 x32 => (row_si a2 (v17n : Int) fun x34 x35 => (if x32 = x35 then ((rec_laws_sameOrdinal x31 x34).bind fun y39 => (if y39 = true then (laws_sameOrdinal_l0 rec_laws_sameOrdinal a1 a2 K0 rest (v17n + 1)) else some false)) else some false)))
set_option maxRecDepth 100000 in
theorem laws_sameOrdinal_l0_ct {rec_laws_sameOrdinal : Rw → Rw → Option Bool} {a1 : Rw} {a2 : Rw} {K0 : Option Bool} (hrec_laws_sameOrdinal : ∀ (a1 : Rw) (a2 : Rw) (r : Bool), rec_laws_sameOrdinal a1 a2 = some r → Ct prog 26 [.agg [.d (D.sl a1)], .agg [.d (D.sl a2)]] (⟨[], []⟩) (.d (D.bool r)) (⟨[], []⟩)) {r : Bool} (hx : a1.length ≤ cap) : ∀ (rest : Rw) (v17n : Nat), a1.drop v17n = rest → laws_sameOrdinal_l0 rec_laws_sameOrdinal a1 a2 K0 rest v17n = some r → LoopOk prog 0 (lp f26 0) (mk 44 [(3, .ptr 192 0), (15, .d (D.sl a1)), (16, .d (D.int .i64 (a1.length : Int))), (17, .d (D.int .i64 (v17n : Int)))] [(192, .box 26 [.d (D.sl a2)])]) (LoopEnd prog f26 0 44 (.d (D.bool r)) (⟨[], []⟩) (fun i ts os => (i = 0 ∧ K0 = some r ∧ ts = [] ∧ os = [])))
  | [], v17n, hd, h => by
      rw [laws_sameOrdinal_l0] at h
      have hn := drop_nil hd
      refine LoopOk.step ?_
      conv => whnf
      refine splD (fun g => absurd g hn) (fun _ => ?_)
      conv => whnf
      exact ⟨_, _, [], [], ⟨rfl, h, rfl, rfl⟩, ⟨⟨rfl, rfl⟩, ⟨rfl, trivial⟩, trivial⟩⟩
  | cs :: rest, v17n, hd, h => by
      rw [laws_sameOrdinal_l0] at h
      obtain ⟨hrow, hd1, hlt⟩ := drop_cons hd
      refine LoopOk.step ?_
      conv => whnf
      refine splD (fun _ => ?_) (fun g => absurd hlt g)
      conv => whnf
      obtain ⟨x31, x32, e33, h⟩ := cell_si_ex h
      rw [e33] at hrow
      refine Req.of (Int.natCast_nonneg _) ?_
      refine Row.of _ hrow ?_
      conv => whnf
      obtain ⟨g37, x34, x35, e36, h⟩ := row_si_ex h
      refine Req.of g37 ?_
      refine Row.of _ e36 ?_
      conv => whnf
      refine splN (fun g38 => ?_) (fun g38 => ?_)
      · replace h := iteN h g38
        conv => whnf
        refine CutK.norm [3, 15, 16, 17, 42] [192] ?_
        conv => whnf
        cases h
        exact Done.of [] [] rfl rfl ⟨⟨rfl, rfl⟩, ⟨rfl, trivial⟩, rfl, trivial⟩
      · replace h := iteP h g38
        conv => whnf
        refine Req.of g37 ?_
        refine Row.of _ e36 ?_
        conv => whnf
        obtain ⟨y39, e40, h⟩ := bind_ex h
        refine CallOk.of (hrec_laws_sameOrdinal _ _ _ e40) ?_
        conv => whnf
        refine spl (fun g41 => ?_) (fun g41 => ?_)
        · replace h := iteT h g41
          conv => whnf
          refine CutK.norm [3, 15, 16, 17, 42] [192] ?_
          conv => whnf
          refine CutK.norm [3, 15, 16, 17] [192] ?_
          conv => whnf
          exact LoopOk.back (laws_sameOrdinal_l0_ct hrec_laws_sameOrdinal hx rest (v17n + 1)  hd1 h) [some 192] [] ⟨⟨rfl, rfl⟩, ⟨rfl, ⟨rfl, rfl, trivial⟩, trivial⟩, ⟨rfl, rfl⟩, rfl, rfl, i64eq (wrap_up hlt hx), trivial⟩
        · replace h := iteF h g41
          conv => whnf
          refine CutK.norm [3, 15, 16, 17, 42] [192] ?_
          conv => whnf
          cases h
          exact Done.of [] [] rfl rfl ⟨⟨rfl, rfl⟩, ⟨rfl, trivial⟩, rfl, trivial⟩
def laws_sameOrdinal_b (rec_laws_sameOrdinal : Rw → Rw → Option Bool) (a1 : Rw) (a2 : Rw) : Option Bool :=
  (if (a1.length : Int) = (a2.length : Int) then (if a1.length ≤ cap then (laws_sameOrdinal_l0 rec_laws_sameOrdinal a1 a2 (some true) a1 0) else none) else some false)
set_option maxHeartbeats 4000000 in
set_option maxRecDepth 100000 in
theorem laws_sameOrdinal_b_ct {rec_laws_sameOrdinal : Rw → Rw → Option Bool} (hrec_laws_sameOrdinal : ∀ (a1 : Rw) (a2 : Rw) (r : Bool), rec_laws_sameOrdinal a1 a2 = some r → Ct prog 26 [.agg [.d (D.sl a1)], .agg [.d (D.sl a2)]] (⟨[], []⟩) (.d (D.bool r)) (⟨[], []⟩)) {a1 : Rw} {a2 : Rw} {r : Bool} (h : laws_sameOrdinal_b rec_laws_sameOrdinal a1 a2 = some r) : Ct prog 26 [.agg [.d (D.sl a1)], .agg [.d (D.sl a2)]] (⟨[], []⟩) (.d (D.bool r)) (⟨[], []⟩) := by
  rw [laws_sameOrdinal_b] at h
  refine Ct.of (c := _) mixed func26 ⟨rfl, rfl, rfl⟩ ?_ rfl
  conv => whnf
  refine splN (fun g3 => ?_) (fun g3 => ?_)
  · replace h := iteN h g3
    conv => whnf
    cases h
    exact Done.of [] [] rfl rfl ⟨⟨rfl, rfl⟩, ⟨rfl, trivial⟩, rfl, trivial⟩
  · replace h := iteP h g3
    conv => whnf
    obtain ⟨g42, h⟩ := req_ex h
    refine LoopOk.into (laws_sameOrdinal_l0_ct hrec_laws_sameOrdinal g42 _ _  rfl h) [some 192] [] ⟨⟨rfl, rfl⟩, ⟨rfl, ⟨rfl, rfl, trivial⟩, trivial⟩, ⟨rfl, rfl⟩, rfl, rfl, rfl, trivial⟩ ?_ (fun _ hs => hs)
    rintro i ts os ⟨rfl, h, rfl, rfl⟩
    conv => whnf
    refine CutK.norm [] [] ?_
    conv => whnf
    cases h
    exact Done.of [] [] rfl rfl ⟨⟨rfl, rfl⟩, ⟨rfl, trivial⟩, rfl, trivial⟩
def laws_sameOrdinal : Nat → Rw → Rw → Option Bool
  | 0, _, _ => none
  | k + 1, a1, a2 => laws_sameOrdinal_b (laws_sameOrdinal k) a1 a2
theorem laws_sameOrdinal_ct' : ∀ (k : Nat) (a1 : Rw) (a2 : Rw) (r : Bool), laws_sameOrdinal k a1 a2 = some r → Ct prog 26 [.agg [.d (D.sl a1)], .agg [.d (D.sl a2)]] (⟨[], []⟩) (.d (D.bool r)) (⟨[], []⟩)
  | 0, _, _, _, h => by rw [laws_sameOrdinal] at h; cases h
  | k + 1, _, _, _, h => by rw [laws_sameOrdinal] at h; exact laws_sameOrdinal_b_ct (laws_sameOrdinal_ct' k) h
theorem laws_sameOrdinal_ct {k : Nat} {a1 : Rw} {a2 : Rw} {r : Bool} (h : laws_sameOrdinal k a1 a2 = some r) : Ct prog 26 [.agg [.d (D.sl a1)], .agg [.d (D.sl a2)]] (⟨[], []⟩) (.d (D.bool r)) (⟨[], []⟩) := laws_sameOrdinal_ct' k _ _ _ h

def impl_CompareSurreals (k : Nat) (a1 : Rw) (a2 : Rw) : Option (Int × Bool) :=
  ((impl_surreals k a1 a2).bind fun y3 => (if y3 = true then ((impl_order k a1 a2).bind fun y6 => some (y6, true)) else some (0, false)))
set_option maxHeartbeats 4000000 in
set_option maxRecDepth 100000 in
theorem impl_CompareSurreals_ct {k : Nat} {a1 : Rw} {a2 : Rw} {r : Int × Bool} (h : impl_CompareSurreals k a1 a2 = some r) : Ct prog 34 [.agg [.d (D.sl a1)], .agg [.d (D.sl a2)]] (⟨[], []⟩) (.tup [.d (D.int .i64 r.1), .d (D.bool r.2)]) (⟨[], []⟩) := by
  rw [impl_CompareSurreals] at h
  refine Ct.of (c := _) mixed func34 ⟨rfl, rfl, rfl⟩ ?_ rfl
  conv => whnf
  obtain ⟨y3, e4, h⟩ := bind_ex h
  refine CallOk.of (impl_surreals_ct e4) ?_
  conv => whnf
  refine spl (fun g5 => ?_) (fun g5 => ?_)
  · replace h := iteT h g5
    conv => whnf
    refine CutK.go ?_
    conv => whnf
    refine CutK.go ?_
    conv => whnf
    obtain ⟨y6, e7, h⟩ := bind_ex h
    refine CallOk.of (impl_order_ct e7) ?_
    conv => whnf
    refine CutK.go ?_
    conv => whnf
    cases h
    exact Done.of [] [] rfl rfl ⟨⟨rfl, rfl⟩, ⟨rfl, trivial⟩, ⟨rfl, rfl, trivial⟩, trivial⟩
  · replace h := iteF h g5
    conv => whnf
    refine CutK.go ?_
    conv => whnf
    cases h
    exact Done.of [] [] rfl rfl ⟨⟨rfl, rfl⟩, ⟨rfl, trivial⟩, ⟨rfl, rfl, trivial⟩, trivial⟩

def impl_CompareOrdinals (k : Nat) (a1 : Rw) (a2 : Rw) : Option (Int × Bool) :=
  ((impl_both k a1 a2).bind fun y3 => (if y3 = true then ((impl_cmp k a1 a2).bind fun y6 => some (y6, true)) else some (0, false)))
set_option maxHeartbeats 4000000 in
set_option maxRecDepth 100000 in
theorem impl_CompareOrdinals_ct {k : Nat} {a1 : Rw} {a2 : Rw} {r : Int × Bool} (h : impl_CompareOrdinals k a1 a2 = some r) : Ct prog 33 [.agg [.d (D.sl a1)], .agg [.d (D.sl a2)]] (⟨[], []⟩) (.tup [.d (D.int .i64 r.1), .d (D.bool r.2)]) (⟨[], []⟩) := by
  rw [impl_CompareOrdinals] at h
  refine Ct.of (c := _) mixed func33 ⟨rfl, rfl, rfl⟩ ?_ rfl
  conv => whnf
  obtain ⟨y3, e4, h⟩ := bind_ex h
  refine CallOk.of (impl_both_ct e4) ?_
  conv => whnf
  refine spl (fun g5 => ?_) (fun g5 => ?_)
  · replace h := iteT h g5
    conv => whnf
    refine CutK.go ?_
    conv => whnf
    refine CutK.go ?_
    conv => whnf
    obtain ⟨y6, e7, h⟩ := bind_ex h
    refine CallOk.of (impl_cmp_ct e7) ?_
    conv => whnf
    refine CutK.go ?_
    conv => whnf
    cases h
    exact Done.of [] [] rfl rfl ⟨⟨rfl, rfl⟩, ⟨rfl, trivial⟩, ⟨rfl, rfl, trivial⟩, trivial⟩
  · replace h := iteF h g5
    conv => whnf
    refine CutK.go ?_
    conv => whnf
    cases h
    exact Done.of [] [] rfl rfl ⟨⟨rfl, rfl⟩, ⟨rfl, trivial⟩, ⟨rfl, rfl, trivial⟩, trivial⟩

def impl_toOrdinal_p3 (o40 : Rw) : Option (Rw × Bool) :=
  some (o40, true)
set_option maxHeartbeats 4000000 in
set_option maxRecDepth 100000 in
theorem impl_toOrdinal_p3_ct {o40 : Rw} {r : Rw × Bool} (h : impl_toOrdinal_p3 o40 = some r) : X prog 0 (tlF f100 3) (mk 50 [(2, .ptr 128 0), (4, .ptr 256 0)] [(128, .box 26 [.es]), (256, .box 26 [.os 1079000 o40.length]), (1079000, .arr 104 true o40)]) (finK prog f100 0 (.tup [.agg [.os 8 r.1.length], .d (D.bool r.2)]) (⟨[], [(104, true, r.1)]⟩)) := by
  rw [impl_toOrdinal_p3] at h
  conv => whnf
  cases h
  exact Done.of [some 1079000] [] rfl rfl ⟨⟨rfl, rfl⟩, ⟨rfl, ⟨rfl, rfl, rows_same⟩, trivial⟩, ⟨⟨⟨rfl, rfl⟩, trivial⟩, rfl, trivial⟩, trivial⟩
def impl_toOrdinal_l0 (rec_impl_toOrdinal : Rw → Option (Rw × Bool)) (a1 : Rw) (K0 : Rw → Option (Rw × Bool)) : Rw → Rw → Option (Rw × Bool)
  | [], v53 => (K0 v53)
  | cs :: rest, v53 => (cell_sii cs fun x79 x80 x81 => ((rec_impl_toOrdinal x79).bind fun y83 => (if y83.2 = true then (if x81 = (1 : Int) then (if x80 < (1 : Int) then some (([] : Rw), false) else (if v53.length + 1 ≤ cap then (impl_toOrdinal_l0 rec_impl_toOrdinal a1 K0 rest (v53 ++ ([[D.sl y83.1, D.int .i64 x80]]))) else none)) else some (([] : Rw), false)) else some (([] : Rw), false))))
set_option maxRecDepth 100000 in
theorem impl_toOrdinal_l0_ct {rec_impl_toOrdinal : Rw → Option (Rw × Bool)} {a1 : Rw} {K0 : Rw → Option (Rw × Bool)} (hrec_impl_toOrdinal : ∀ (a1 : Rw) (r : Rw × Bool), rec_impl_toOrdinal a1 = some r → Ct prog 100 [.agg [.d (D.sl a1)]] (⟨[], []⟩) (.tup [.agg [.os 8 r.1.length], .d (D.bool r.2)]) (⟨[], [(104, true, r.1)]⟩)) {r : Rw × Bool} (hx : a1.length ≤ cap) : ∀ (rest : Rw) (v52n : Nat) (v53 : Rw), a1.drop v52n = rest → impl_toOrdinal_l0 rec_impl_toOrdinal a1 K0 rest v53 = some r → LoopOk prog 0 (lp f100 0) (mk 50 [(2, .ptr 128 0), (4, .ptr 256 0), (11, .d (D.sl a1)), (12, .d (D.int .i64 (a1.length : Int))), (13, .d (D.int .i64 (v52n : Int)))] [(128, .box 26 [.es]), (256, .box 26 [.os 64000 v53.length]), (64000, .arr 104 true v53)]) (LoopEnd prog f100 0 50 (.tup [.agg [.os 8 r.1.length], .d (D.bool r.2)]) (⟨[], [(104, true, r.1)]⟩) (fun i ts os => (i = 0 ∧ ∃ v66 : Rw, K0 v66 = some r ∧ ts = [(2, .ptr 128 0), (4, .ptr 256 0)] ∧ os = [(128, .box 26 [.es]), (256, .box 26 [.os 67001 v66.length]), (67001, .arr 104 true v66)])))
  | [], v52n, v53, hd, h => by
      rw [impl_toOrdinal_l0] at h
      have hn := drop_nil hd
      refine LoopOk.step ?_
      conv => whnf
      refine splD (fun g => absurd g hn) (fun _ => ?_)
      conv => whnf
      exact ⟨_, _, [some 128, some 256, some 64000], [], ⟨rfl, _, h, rfl, rfl⟩, ⟨⟨rfl, rfl⟩, ⟨rfl, ⟨rfl, trivial, trivial⟩, ⟨rfl, ⟨rfl, rfl⟩, trivial⟩, ⟨rfl, rfl, rows_same⟩, trivial⟩, ⟨rfl, rfl⟩, ⟨rfl, rfl⟩, trivial⟩⟩
  | cs :: rest, v52n, v53, hd, h => by
      rw [impl_toOrdinal_l0] at h
      obtain ⟨hrow, hd1, hlt⟩ := drop_cons hd
      refine LoopOk.step ?_
      conv => whnf
      refine splD (fun _ => ?_) (fun g => absurd hlt g)
      conv => whnf
      obtain ⟨x79, x80, x81, e82, h⟩ := cell_sii_ex h
      rw [e82] at hrow
      refine Req.of (Int.natCast_nonneg _) ?_
      refine Row.of _ hrow ?_
      conv => whnf
      obtain ⟨y83, e84, h⟩ := bind_ex h
      refine CallOk.of (hrec_impl_toOrdinal _ _ e84) ?_
      conv => whnf
      refine spl (fun g85 => ?_) (fun g85 => ?_)
      · replace h := iteT h g85
        conv => whnf
        refine CutK.norm [2, 4, 6, 7, 8, 11, 12, 13] [128, 256, 384, 448, 1280, 64000] ?_
        conv => whnf
        refine splN (fun g86 => ?_) (fun g86 => ?_)
        · replace h := iteN h g86
          conv => whnf
          cases h
          exact Done.of [none] [] rfl rfl ⟨⟨rfl, rfl⟩, ⟨rfl, rfl, trivial⟩, ⟨⟨⟨rfl, rfl⟩, trivial⟩, rfl, trivial⟩, trivial⟩
        · replace h := iteP h g86
          conv => whnf
          refine splD (fun g87 => ?_) (fun g87 => ?_)
          · replace h := iteP h g87
            conv => whnf
            cases h
            exact Done.of [none] [] rfl rfl ⟨⟨rfl, rfl⟩, ⟨rfl, rfl, trivial⟩, ⟨⟨⟨rfl, rfl⟩, trivial⟩, rfl, trivial⟩, trivial⟩
          · replace h := iteN h g87
            conv => whnf
            refine Take.all (rfl) ?_
            conv => whnf
            refine Take.all (rfl) ?_
            conv => whnf
            refine Take.all (by first | rfl | exact List.length_append.symm | (simp; done) | omega) ?_
            conv => whnf
            obtain ⟨g88, h⟩ := req_ex h
            refine Req.of (room (b := 32) (by decide) g88 (wide1 rfl wide0)) ?_
            conv => whnf
            refine CutK.norm [2, 4, 11, 12, 13] [128, 256, 2944] ?_
            conv => whnf
            exact LoopOk.back (impl_toOrdinal_l0_ct hrec_impl_toOrdinal hx rest (v52n + 1) _ hd1 h) [some 128, some 256, some 2944] [] ⟨⟨rfl, rfl⟩, ⟨rfl, ⟨rfl, trivial, trivial⟩, ⟨rfl, ⟨(by first | rfl | exact List.length_append.symm | (simp; done) | omega), rfl⟩, trivial⟩, ⟨rfl, rfl, rows_same⟩, trivial⟩, ⟨rfl, rfl⟩, ⟨rfl, rfl⟩, rfl, rfl, i64eq (wrap_up hlt hx), trivial⟩
      · replace h := iteF h g85
        conv => whnf
        refine CutK.norm [2, 4, 6, 7, 8, 11, 12, 13] [128, 256, 384, 448, 1280, 64000] ?_
        conv => whnf
        cases h
        exact Done.of [none] [] rfl rfl ⟨⟨rfl, rfl⟩, ⟨rfl, rfl, trivial⟩, ⟨⟨⟨rfl, rfl⟩, trivial⟩, rfl, trivial⟩, trivial⟩
def impl_toOrdinal_b (rec_impl_toOrdinal : Rw → Option (Rw × Bool)) (a1 : Rw) : Option (Rw × Bool) :=
  (if a1.length ≤ cap then (impl_toOrdinal_l0 rec_impl_toOrdinal a1 (fun (v66 : Rw) => (impl_toOrdinal_p3 v66)) a1 ([] : Rw)) else none)
set_option maxHeartbeats 4000000 in
set_option maxRecDepth 100000 in
theorem impl_toOrdinal_b_ct {rec_impl_toOrdinal : Rw → Option (Rw × Bool)} (hrec_impl_toOrdinal : ∀ (a1 : Rw) (r : Rw × Bool), rec_impl_toOrdinal a1 = some r → Ct prog 100 [.agg [.d (D.sl a1)]] (⟨[], []⟩) (.tup [.agg [.os 8 r.1.length], .d (D.bool r.2)]) (⟨[], [(104, true, r.1)]⟩)) {a1 : Rw} {r : Rw × Bool} (h : impl_toOrdinal_b rec_impl_toOrdinal a1 = some r) : Ct prog 100 [.agg [.d (D.sl a1)]] (⟨[], []⟩) (.tup [.agg [.os 8 r.1.length], .d (D.bool r.2)]) (⟨[], [(104, true, r.1)]⟩) := by
  rw [impl_toOrdinal_b] at h
  refine Ct.of (c := _) mixed func100 ⟨rfl, rfl, rfl⟩ ?_ rfl
  conv => whnf
  obtain ⟨g89, h⟩ := req_ex h
  refine LoopOk.into (impl_toOrdinal_l0_ct hrec_impl_toOrdinal g89 _ _ _ rfl h) [some 128, some 256, none] [] ⟨⟨rfl, rfl⟩, ⟨rfl, ⟨rfl, trivial, trivial⟩, ⟨rfl, ⟨rfl, rfl⟩, trivial⟩, rfl, trivial⟩, ⟨rfl, rfl⟩, ⟨rfl, rfl⟩, rfl, rfl, rfl, trivial⟩ ?_ (fun _ hs => hs)
  rintro i ts os ⟨rfl, v66, h, rfl, rfl⟩
  conv => whnf
  exact CutK.piece (impl_toOrdinal_p3_ct  h) [some 128, some 256, some 67001] [] ⟨⟨rfl, rfl⟩, ⟨rfl, ⟨rfl, trivial, trivial⟩, ⟨rfl, ⟨rfl, rfl⟩, trivial⟩, ⟨rfl, rfl, rows_same⟩, trivial⟩, ⟨rfl, rfl⟩, ⟨rfl, rfl⟩, trivial⟩
def impl_toOrdinal : Nat → Rw → Option (Rw × Bool)
  | 0, _ => none
  | k + 1, a1 => impl_toOrdinal_b (impl_toOrdinal k) a1
theorem impl_toOrdinal_ct' : ∀ (k : Nat) (a1 : Rw) (r : Rw × Bool), impl_toOrdinal k a1 = some r → Ct prog 100 [.agg [.d (D.sl a1)]] (⟨[], []⟩) (.tup [.agg [.os 8 r.1.length], .d (D.bool r.2)]) (⟨[], [(104, true, r.1)]⟩)
  | 0, _, _, h => by rw [impl_toOrdinal] at h; cases h
  | k + 1, _, _, h => by rw [impl_toOrdinal] at h; exact impl_toOrdinal_b_ct (impl_toOrdinal_ct' k) h
theorem impl_toOrdinal_ct {k : Nat} {a1 : Rw} {r : Rw × Bool} (h : impl_toOrdinal k a1 = some r) : Ct prog 100 [.agg [.d (D.sl a1)]] (⟨[], []⟩) (.tup [.agg [.os 8 r.1.length], .d (D.bool r.2)]) (⟨[], [(104, true, r.1)]⟩) := impl_toOrdinal_ct' k _ _ h

def impl_ToOrdinal (k : Nat) (a1 : Rw) : Option (Rw × Bool) :=
  ((impl_IsSurreal k a1).bind fun y2 => (if y2 = true then ((impl_toOrdinal k a1).bind fun y5 => (if y5.2 = true then ((impl_told k y5.1).bind fun y8 => (if y8.2 = true then some (y8.1, true) else some (y8.1, false))) else some (([] : Rw), false))) else some (([] : Rw), false)))
set_option maxHeartbeats 4000000 in
set_option maxRecDepth 100000 in
theorem impl_ToOrdinal_ct {k : Nat} {a1 : Rw} {r : Rw × Bool} (h : impl_ToOrdinal k a1 = some r) : Ct prog 32 [.agg [.d (D.sl a1)]] (⟨[], []⟩) (.tup [.agg [.os 8 r.1.length], .d (D.bool r.2)]) (⟨[], [(104, true, r.1)]⟩) := by
  rw [impl_ToOrdinal] at h
  refine Ct.of (c := _) mixed func32 ⟨rfl, rfl, rfl⟩ ?_ rfl
  conv => whnf
  obtain ⟨y2, e3, h⟩ := bind_ex h
  refine CallOk.of (impl_IsSurreal_ct e3) ?_
  conv => whnf
  refine spl (fun g4 => ?_) (fun g4 => ?_)
  · replace h := iteT h g4
    conv => whnf
    refine CutK.go ?_
    conv => whnf
    refine CutK.go ?_
    conv => whnf
    obtain ⟨y5, e6, h⟩ := bind_ex h
    refine CallOk.of (impl_toOrdinal_ct e6) ?_
    conv => whnf
    refine spl (fun g7 => ?_) (fun g7 => ?_)
    · replace h := iteT h g7
      conv => whnf
      refine CutK.go ?_
      conv => whnf
      refine Take.all (rfl) ?_
      conv => whnf
      obtain ⟨y8, e9, h⟩ := bind_ex h
      refine CallOk.of (impl_told_ct e9) ?_
      conv => whnf
      refine spl (fun g10 => ?_) (fun g10 => ?_)
      · replace h := iteT h g10
        conv => whnf
        refine CutK.go ?_
        conv => whnf
        cases h
        exact Done.of [some 1216] [] rfl rfl ⟨⟨rfl, rfl⟩, ⟨rfl, ⟨rfl, rfl, rows_same⟩, trivial⟩, ⟨⟨⟨rfl, rfl⟩, trivial⟩, rfl, trivial⟩, trivial⟩
      · replace h := iteF h g10
        conv => whnf
        refine CutK.go ?_
        conv => whnf
        cases h
        exact Done.of [some 1216] [] rfl rfl ⟨⟨rfl, rfl⟩, ⟨rfl, ⟨rfl, rfl, rows_same⟩, trivial⟩, ⟨⟨⟨rfl, rfl⟩, trivial⟩, rfl, trivial⟩, trivial⟩
    · replace h := iteF h g7
      conv => whnf
      refine CutK.go ?_
      conv => whnf
      cases h
      exact Done.of [none] [] rfl rfl ⟨⟨rfl, rfl⟩, ⟨rfl, rfl, trivial⟩, ⟨⟨⟨rfl, rfl⟩, trivial⟩, rfl, trivial⟩, trivial⟩
  · replace h := iteF h g4
    conv => whnf
    refine CutK.go ?_
    conv => whnf
    cases h
    exact Done.of [none] [] rfl rfl ⟨⟨rfl, rfl⟩, ⟨rfl, rfl, trivial⟩, ⟨⟨⟨rfl, rfl⟩, trivial⟩, rfl, trivial⟩, trivial⟩

def spec_odLeft_l0 (rec_spec_odLeft : Rw → Int → Int → Option Int) (a1 : Rw) (a2 : Int) (K0 : Int → Option Int) : Rw → Int → Option Int
  | [], v13 => (K0 v13)
  | cs :: rest, v13 => (cell_si cs fun x34 x35 => (if v13 < (0 : Int) then some (-1) else (if a2 = (0 : Int) then some (-1) else ((rec_spec_odLeft x34 (IntKind.i64.wrap (a2 - 1)) (IntKind.i64.wrap (v13 - 1))).bind fun y39 => (spec_odLeft_l0 rec_spec_odLeft a1 a2 K0 rest y39)))))
set_option maxRecDepth 100000 in
theorem spec_odLeft_l0_ct {rec_spec_odLeft : Rw → Int → Int → Option Int} {a1 : Rw} {a2 : Int} {K0 : Int → Option Int} (hrec_spec_odLeft : ∀ (a1 : Rw) (a2 : Int) (a3 : Int) (r : Int), rec_spec_odLeft a1 a2 a3 = some r → Ct prog 155 [.agg [.d (D.sl a1)], .d (D.int .i64 a2), .d (D.int .i64 a3)] (⟨[], []⟩) (.d (D.int .i64 r)) (⟨[], []⟩)) {r : Int} (hx : a1.length ≤ cap) : ∀ (rest : Rw) (v14n : Nat) (v13 : Int), a1.drop v14n = rest → spec_odLeft_l0 rec_spec_odLeft a1 a2 K0 rest v13 = some r → LoopOk prog 0 (lp f155 0) (mk 33 [(1, .d (D.int .i64 a2)), (2, .d (D.int .i64 v13)), (12, .d (D.sl a1)), (13, .d (D.int .i64 (a1.length : Int))), (14, .d (D.int .i64 (v14n : Int)))] []) (LoopEnd prog f155 0 33 (.d (D.int .i64 r)) (⟨[], []⟩) (fun i ts os => (i = 0 ∧ ∃ v24 : Int, K0 v24 = some r ∧ ts = [(2, .d (D.int .i64 v24))] ∧ os = [])))
  | [], v14n, v13, hd, h => by
      rw [spec_odLeft_l0] at h
      have hn := drop_nil hd
      refine LoopOk.step ?_
      conv => whnf
      refine splD (fun g => absurd g hn) (fun _ => ?_)
      conv => whnf
      exact ⟨_, _, [], [], ⟨rfl, _, h, rfl, rfl⟩, ⟨⟨rfl, rfl⟩, ⟨rfl, trivial⟩, rfl, trivial⟩⟩
  | cs :: rest, v14n, v13, hd, h => by
      rw [spec_odLeft_l0] at h
      obtain ⟨hrow, hd1, hlt⟩ := drop_cons hd
      refine LoopOk.step ?_
      conv => whnf
      refine splD (fun _ => ?_) (fun g => absurd hlt g)
      conv => whnf
      obtain ⟨x34, x35, e36, h⟩ := cell_si_ex h
      rw [e36] at hrow
      refine Req.of (Int.natCast_nonneg _) ?_
      refine Row.of _ hrow ?_
      conv => whnf
      refine splD (fun g37 => ?_) (fun g37 => ?_)
      · replace h := iteP h g37
        conv => whnf
        cases h
        exact Done.of [] [] rfl rfl ⟨⟨rfl, rfl⟩, ⟨rfl, trivial⟩, rfl, trivial⟩
      · replace h := iteN h g37
        conv => whnf
        refine splD (fun g38 => ?_) (fun g38 => ?_)
        · replace h := iteP h g38
          conv => whnf
          cases h
          exact Done.of [] [] rfl rfl ⟨⟨rfl, rfl⟩, ⟨rfl, trivial⟩, rfl, trivial⟩
        · replace h := iteN h g38
          conv => whnf
          obtain ⟨y39, e40, h⟩ := bind_ex h
          refine CallOk.of (hrec_spec_odLeft _ _ _ _ e40) ?_
          conv => whnf
          refine CutK.norm [1, 2, 12, 13, 14] [] ?_
          conv => whnf
          exact LoopOk.back (spec_odLeft_l0_ct hrec_spec_odLeft hx rest (v14n + 1) _ hd1 h) [] [] ⟨⟨rfl, rfl⟩, ⟨rfl, trivial⟩, rfl, rfl, rfl, rfl, i64eq (wrap_up hlt hx), trivial⟩
def spec_odLeft_b (rec_spec_odLeft : Rw → Int → Int → Option Int) (a1 : Rw) (a2 : Int) (a3 : Int) : Option Int :=
  (if a1.length ≤ cap then (spec_odLeft_l0 rec_spec_odLeft a1 a2 (fun (v24 : Int) => some v24) a1 (IntKind.i64.wrap (a3 - 1))) else none)
set_option maxHeartbeats 4000000 in
set_option maxRecDepth 100000 in
theorem spec_odLeft_b_ct {rec_spec_odLeft : Rw → Int → Int → Option Int} (hrec_spec_odLeft : ∀ (a1 : Rw) (a2 : Int) (a3 : Int) (r : Int), rec_spec_odLeft a1 a2 a3 = some r → Ct prog 155 [.agg [.d (D.sl a1)], .d (D.int .i64 a2), .d (D.int .i64 a3)] (⟨[], []⟩) (.d (D.int .i64 r)) (⟨[], []⟩)) {a1 : Rw} {a2 : Int} {a3 : Int} {r : Int} (h : spec_odLeft_b rec_spec_odLeft a1 a2 a3 = some r) : Ct prog 155 [.agg [.d (D.sl a1)], .d (D.int .i64 a2), .d (D.int .i64 a3)] (⟨[], []⟩) (.d (D.int .i64 r)) (⟨[], []⟩) := by
  rw [spec_odLeft_b] at h
  refine Ct.of (c := _) mixed func155 ⟨rfl, rfl, rfl⟩ ?_ rfl
  conv => whnf
  obtain ⟨g41, h⟩ := req_ex h
  refine LoopOk.into (spec_odLeft_l0_ct hrec_spec_odLeft g41 _ _ _ rfl h) [] [] ⟨⟨rfl, rfl⟩, ⟨rfl, trivial⟩, rfl, rfl, rfl, rfl, rfl, trivial⟩ ?_ (fun _ hs => hs)
  rintro i ts os ⟨rfl, v24, h, rfl, rfl⟩
  conv => whnf
  refine CutK.norm [2] [] ?_
  conv => whnf
  cases h
  exact Done.of [] [] rfl rfl ⟨⟨rfl, rfl⟩, ⟨rfl, trivial⟩, rfl, trivial⟩
def spec_odLeft : Nat → Rw → Int → Int → Option Int
  | 0, _, _, _ => none
  | k + 1, a1, a2, a3 => spec_odLeft_b (spec_odLeft k) a1 a2 a3
theorem spec_odLeft_ct' : ∀ (k : Nat) (a1 : Rw) (a2 : Int) (a3 : Int) (r : Int), spec_odLeft k a1 a2 a3 = some r → Ct prog 155 [.agg [.d (D.sl a1)], .d (D.int .i64 a2), .d (D.int .i64 a3)] (⟨[], []⟩) (.d (D.int .i64 r)) (⟨[], []⟩)
  | 0, _, _, _, _, h => by rw [spec_odLeft] at h; cases h
  | k + 1, _, _, _, _, h => by rw [spec_odLeft] at h; exact spec_odLeft_b_ct (spec_odLeft_ct' k) h
theorem spec_odLeft_ct {k : Nat} {a1 : Rw} {a2 : Int} {a3 : Int} {r : Int} (h : spec_odLeft k a1 a2 a3 = some r) : Ct prog 155 [.agg [.d (D.sl a1)], .d (D.int .i64 a2), .d (D.int .i64 a3)] (⟨[], []⟩) (.d (D.int .i64 r)) (⟨[], []⟩) := spec_odLeft_ct' k _ _ _ _ h

def spec_l1In  (a1 : Int) (a2 : Int) (a3 : Int) : Option Bool :=
  (if a2 ≤ a1 then (if a1 ≤ a3 then some true else some false) else some false)
set_option maxHeartbeats 4000000 in
set_option maxRecDepth 100000 in
theorem spec_l1In_ct  {a1 : Int} {a2 : Int} {a3 : Int} {r : Bool} (h : spec_l1In a1 a2 a3 = some r) : Ct prog 75 [.d (D.int .i64 a1), .d (D.int .i64 a2), .d (D.int .i64 a3)] (⟨[], []⟩) (.d (D.bool r)) (⟨[], []⟩) := by
  rw [spec_l1In] at h
  refine Ct.of (c := _) mixed func75 ⟨rfl, rfl, rfl⟩ ?_ rfl
  conv => whnf
  refine splD (fun g4 => ?_) (fun g4 => ?_)
  · replace h := iteP h g4
    conv => whnf
    refine splD (fun g5 => ?_) (fun g5 => ?_)
    · replace h := iteP h g5
      conv => whnf
      cases h
      exact Done.of [] [] rfl rfl ⟨⟨rfl, rfl⟩, ⟨rfl, trivial⟩, rfl, trivial⟩
    · replace h := iteN h g5
      conv => whnf
      cases h
      exact Done.of [] [] rfl rfl ⟨⟨rfl, rfl⟩, ⟨rfl, trivial⟩, rfl, trivial⟩
  · replace h := iteN h g4
    conv => whnf
    cases h
    exact Done.of [] [] rfl rfl ⟨⟨rfl, rfl⟩, ⟨rfl, trivial⟩, rfl, trivial⟩

def spec_l1Sign  (a1 : Int) : Option Int :=
  (if (0 : Int) < a1 then some 1 else (if a1 < (0 : Int) then some (-1) else some 0))
set_option maxHeartbeats 4000000 in
set_option maxRecDepth 100000 in
theorem spec_l1Sign_ct  {a1 : Int} {r : Int} (h : spec_l1Sign a1 = some r) : Ct prog 198 [.d (D.int .i64 a1)] (⟨[], []⟩) (.d (D.int .i64 r)) (⟨[], []⟩) := by
  rw [spec_l1Sign] at h
  refine Ct.of (c := _) mixed func198 ⟨rfl, rfl, rfl⟩ ?_ rfl
  conv => whnf
  refine splD (fun g2 => ?_) (fun g2 => ?_)
  · replace h := iteP h g2
    conv => whnf
    cases h
    exact Done.of [] [] rfl rfl ⟨⟨rfl, rfl⟩, ⟨rfl, trivial⟩, rfl, trivial⟩
  · replace h := iteN h g2
    conv => whnf
    refine splD (fun g3 => ?_) (fun g3 => ?_)
    · replace h := iteP h g3
      conv => whnf
      cases h
      exact Done.of [] [] rfl rfl ⟨⟨rfl, rfl⟩, ⟨rfl, trivial⟩, rfl, trivial⟩
    · replace h := iteN h g3
      conv => whnf
      cases h
      exact Done.of [] [] rfl rfl ⟨⟨rfl, rfl⟩, ⟨rfl, trivial⟩, rfl, trivial⟩
end
end Go.Proofs.Try
