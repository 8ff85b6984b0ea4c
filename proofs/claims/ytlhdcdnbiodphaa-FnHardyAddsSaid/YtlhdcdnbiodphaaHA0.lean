/- Printed by program (axgen): pure functions, and that the Go functions compute them. -/
import Derived.Test.YtlhdcdnbiodphaaProg
import Derived.Test.YtlhdcdnbiodphaaAxC
import Derived.KernelRfl
set_option linter.unusedVariables false
set_option linter.unusedSimpArgs false
namespace Go.Proofs.Try
open Go Go.AX
theorem mixed : prog.follows .mixedOrders = true := by kernel_rfl
def cell_i {α : Type} (cs : List D) (K : Int → Option α) : Option α := match cs with | [.int .i64 a0] => K a0 | _ => none
def row_i {α : Type} (es : Rw) (i : Int) (K : Int → Option α) : Option α := if 0 ≤ i then (match es[i.toNat]? with | some cs => cell_i cs K | none => none) else none
theorem cell_i_ex {α : Type} {cs : List D} {K : Int → Option α} {r : α} (h : cell_i cs K = some r) : ∃ a0, cs = [.int .i64 a0] ∧ K a0 = some r := by
  unfold cell_i at h
  split at h
  · exact ⟨_, rfl, h⟩
  · cases h
theorem row_i_ex {α : Type} {es : Rw} {i : Int} {K : Int → Option α} {r : α} (h : row_i es i K = some r) : 0 ≤ i ∧ ∃ a0, es[i.toNat]? = some [.int .i64 a0] ∧ K a0 = some r := by
  unfold row_i at h
  obtain ⟨g, h⟩ := req_ex h
  split at h
  · rename_i cs e
    obtain ⟨a0, rfl, h⟩ := cell_i_ex h
    exact ⟨g, a0, e, h⟩
  · cases h
def cell_iu8 {α : Type} (cs : List D) (K : Int → Option α) : Option α := match cs with | [.int .u8 a0] => K a0 | _ => none
def row_iu8 {α : Type} (es : Rw) (i : Int) (K : Int → Option α) : Option α := if 0 ≤ i then (match es[i.toNat]? with | some cs => cell_iu8 cs K | none => none) else none
theorem cell_iu8_ex {α : Type} {cs : List D} {K : Int → Option α} {r : α} (h : cell_iu8 cs K = some r) : ∃ a0, cs = [.int .u8 a0] ∧ K a0 = some r := by
  unfold cell_iu8 at h
  split at h
  · exact ⟨_, rfl, h⟩
  · cases h
theorem row_iu8_ex {α : Type} {es : Rw} {i : Int} {K : Int → Option α} {r : α} (h : row_iu8 es i K = some r) : 0 ≤ i ∧ ∃ a0, es[i.toNat]? = some [.int .u8 a0] ∧ K a0 = some r := by
  unfold row_iu8 at h
  obtain ⟨g, h⟩ := req_ex h
  split at h
  · rename_i cs e
    obtain ⟨a0, rfl, h⟩ := cell_iu8_ex h
    exact ⟨g, a0, e, h⟩
  · cases h
def cell_si {α : Type} (cs : List D) (K : Rw → Int → Option α) : Option α := match cs with | [.sl a0, .int .i64 a1] => K a0 a1 | _ => none
def row_si {α : Type} (es : Rw) (i : Int) (K : Rw → Int → Option α) : Option α := if 0 ≤ i then (match es[i.toNat]? with | some cs => cell_si cs K | none => none) else none
theorem cell_si_ex {α : Type} {cs : List D} {K : Rw → Int → Option α} {r : α} (h : cell_si cs K = some r) : ∃ a0 a1, cs = [.sl a0, .int .i64 a1] ∧ K a0 a1 = some r := by
  unfold cell_si at h
  split at h
  · exact ⟨_, _, rfl, h⟩
  · cases h
theorem row_si_ex {α : Type} {es : Rw} {i : Int} {K : Rw → Int → Option α} {r : α} (h : row_si es i K = some r) : 0 ≤ i ∧ ∃ a0 a1, es[i.toNat]? = some [.sl a0, .int .i64 a1] ∧ K a0 a1 = some r := by
  unfold row_si at h
  obtain ⟨g, h⟩ := req_ex h
  split at h
  · rename_i cs e
    obtain ⟨a0, a1, rfl, h⟩ := cell_si_ex h
    exact ⟨g, a0, a1, e, h⟩
  · cases h
noncomputable section
def impl_isZero  (a1 : Rw) : Option Bool :=
  (if (a1.length : Int) = (0 : Int) then some true else some false)
set_option maxHeartbeats 4000000 in
set_option maxRecDepth 100000 in
theorem impl_isZero_ct  {a1 : Rw} {r : Bool} (h : impl_isZero a1 = some r) : Ct prog 72 [.agg [.d (D.sl a1)]] (⟨[], []⟩) (.d (D.bool r)) (⟨[], []⟩) := by
  rw [impl_isZero] at h
  refine Ct.of (c := _) mixed func72 ⟨rfl, rfl, rfl⟩ ?_ rfl
  conv => whnf
  refine splD (fun g2 => ?_) (fun g2 => ?_)
  · replace h := iteP h g2
    conv => whnf
    cases h
    exact Done.of [] [] rfl rfl ⟨⟨rfl, rfl⟩, ⟨rfl, trivial⟩, rfl, trivial⟩
  · replace h := iteN h g2
    conv => whnf
    cases h
    exact Done.of [] [] rfl rfl ⟨⟨rfl, rfl⟩, ⟨rfl, trivial⟩, rfl, trivial⟩

def impl_in  (a1 : Int) (a2 : Int) (a3 : Int) : Option Bool :=
  (if a2 ≤ a1 then (if a1 ≤ a3 then some true else some false) else some false)
set_option maxHeartbeats 4000000 in
set_option maxRecDepth 100000 in
theorem impl_in_ct  {a1 : Int} {a2 : Int} {a3 : Int} {r : Bool} (h : impl_in a1 a2 a3 = some r) : Ct prog 71 [.d (D.int .i64 a1), .d (D.int .i64 a2), .d (D.int .i64 a3)] (⟨[], []⟩) (.d (D.bool r)) (⟨[], []⟩) := by
  rw [impl_in] at h
  refine Ct.of (c := _) mixed func71 ⟨rfl, rfl, rfl⟩ ?_ rfl
  conv => whnf
  refine splD (fun g4 => ?_) (fun g4 => ?_)
  · replace h := iteP h g4
    conv => whnf
    refine splD (fun g5 => ?_) (fun g5 => ?_)
    · replace h := iteP h g5
      conv => whnf
      cases h
      exact Done.of [] [] rfl rfl ⟨⟨rfl, rfl⟩, ⟨rfl, trivial⟩, rfl, trivial⟩
    · replace h := iteN h g5
      conv => whnf
      cases h
      exact Done.of [] [] rfl rfl ⟨⟨rfl, rfl⟩, ⟨rfl, trivial⟩, rfl, trivial⟩
  · replace h := iteN h g4
    conv => whnf
    cases h
    exact Done.of [] [] rfl rfl ⟨⟨rfl, rfl⟩, ⟨rfl, trivial⟩, rfl, trivial⟩

def impl_compare  (a1 : Int) (a2 : Int) : Option Int :=
  (if a1 < a2 then some (-1) else (if a2 < a1 then some 1 else some 0))
set_option maxHeartbeats 4000000 in
set_option maxRecDepth 100000 in
theorem impl_compare_ct  {a1 : Int} {a2 : Int} {r : Int} (h : impl_compare a1 a2 = some r) : Ct prog 176 [.d (D.int .i64 a1), .d (D.int .i64 a2)] (⟨[], []⟩) (.d (D.int .i64 r)) (⟨[], []⟩) := by
  rw [impl_compare] at h
  refine Ct.of (c := _) mixed func176 ⟨rfl, rfl, rfl⟩ ?_ rfl
  conv => whnf
  refine splD (fun g3 => ?_) (fun g3 => ?_)
  · replace h := iteP h g3
    conv => whnf
    cases h
    exact Done.of [] [] rfl rfl ⟨⟨rfl, rfl⟩, ⟨rfl, trivial⟩, rfl, trivial⟩
  · replace h := iteN h g3
    conv => whnf
    refine splD (fun g4 => ?_) (fun g4 => ?_)
    · replace h := iteP h g4
      conv => whnf
      cases h
      exact Done.of [] [] rfl rfl ⟨⟨rfl, rfl⟩, ⟨rfl, trivial⟩, rfl, trivial⟩
    · replace h := iteN h g4
      conv => whnf
      cases h
      exact Done.of [] [] rfl rfl ⟨⟨rfl, rfl⟩, ⟨rfl, trivial⟩, rfl, trivial⟩

def impl_cmpTerms (rec_impl_cmp : Rw → Rw → Option Int) (a1 : Rw) (a2 : Int) (a3 : Rw) (a4 : Int) : Option Int :=
  ((rec_impl_cmp a1 a3).bind fun y5 => (if y5 = (0 : Int) then ((impl_compare a2 a4).bind fun y8 => some y8) else some y5))
set_option maxHeartbeats 4000000 in
set_option maxRecDepth 100000 in
theorem impl_cmpTerms_ct {rec_impl_cmp : Rw → Rw → Option Int} (hrec_impl_cmp : ∀ (a1 : Rw) (a2 : Rw) (r : Int), rec_impl_cmp a1 a2 = some r → Ct prog 101 [.agg [.d (D.sl a1)], .agg [.d (D.sl a2)]] (⟨[], []⟩) (.d (D.int .i64 r)) (⟨[], []⟩)) {a1 : Rw} {a2 : Int} {a3 : Rw} {a4 : Int} {r : Int} (h : impl_cmpTerms rec_impl_cmp a1 a2 a3 a4 = some r) : Ct prog 175 [.agg [.d (D.sl a1), .d (D.int .i64 a2)], .agg [.d (D.sl a3), .d (D.int .i64 a4)]] (⟨[], []⟩) (.d (D.int .i64 r)) (⟨[], []⟩) := by
  rw [impl_cmpTerms] at h
  refine Ct.of (c := _) mixed func175 ⟨rfl, rfl, rfl⟩ ?_ rfl
  conv => whnf
  obtain ⟨y5, e6, h⟩ := bind_ex h
  refine CallOk.of (hrec_impl_cmp _ _ _ e6) ?_
  conv => whnf
  refine CutK.go ?_
  conv => whnf
  refine splN (fun g7 => ?_) (fun g7 => ?_)
  · replace h := iteN h g7
    conv => whnf
    cases h
    exact Done.of [] [] rfl rfl ⟨⟨rfl, rfl⟩, ⟨rfl, trivial⟩, rfl, trivial⟩
  · replace h := iteP h g7
    conv => whnf
    refine CutK.go ?_
    conv => whnf
    obtain ⟨y8, e9, h⟩ := bind_ex h
    refine CallOk.of (impl_compare_ct e9) ?_
    conv => whnf
    refine CutK.go ?_
    conv => whnf
    cases h
    exact Done.of [] [] rfl rfl ⟨⟨rfl, rfl⟩, ⟨rfl, trivial⟩, rfl, trivial⟩

def slices_CompareFunc__cmpTerms_l0 (rec_impl_cmp : Rw → Rw → Option Int) (a1 : Rw) (a2 : Rw) (K0 : Option Int) : Rw → Nat → Option Int
  | [], v16n => (K0)
  | cs :: rest, v16n => (cell_si cs fun x30 x31 => (if (a2.length : Int) ≤ (v16n : Int) then some 1 else (row_si a2 (v16n : Int) fun x34 x35 => ((impl_cmpTerms rec_impl_cmp x30 x31 x34 x35).bind fun y38 => (if y38 = (0 : Int) then (slices_CompareFunc__cmpTerms_l0 rec_impl_cmp a1 a2 K0 rest (v16n + 1)) else some y38)))))
set_option maxRecDepth 100000 in
theorem slices_CompareFunc__cmpTerms_l0_ct {rec_impl_cmp : Rw → Rw → Option Int} {a1 : Rw} {a2 : Rw} {K0 : Option Int} (hrec_impl_cmp : ∀ (a1 : Rw) (a2 : Rw) (r : Int), rec_impl_cmp a1 a2 = some r → Ct prog 101 [.agg [.d (D.sl a1)], .agg [.d (D.sl a2)]] (⟨[], []⟩) (.d (D.int .i64 r)) (⟨[], []⟩)) {r : Int} (hx : a1.length ≤ cap) : ∀ (rest : Rw) (v16n : Nat), a1.drop v16n = rest → slices_CompareFunc__cmpTerms_l0 rec_impl_cmp a1 a2 K0 rest v16n = some r → LoopOk prog 0 (lp f174 0) (mk 39 [(0, .d (D.sl a1)), (1, .d (D.sl a2)), (2, .fn 175 []), (11, .d (D.sl a1)), (12, .d (D.int .i64 (a1.length : Int))), (13, .d (D.int .i64 (v16n : Int)))] []) (LoopEnd prog f174 0 39 (.d (D.int .i64 r)) (⟨[], []⟩) (fun i ts os => (i = 0 ∧ K0 = some r ∧ ts = [(0, .d (D.sl a1)), (1, .d (D.sl a2))] ∧ os = [])))
  | [], v16n, hd, h => by
      rw [slices_CompareFunc__cmpTerms_l0] at h
      have hn := drop_nil hd
      refine LoopOk.step ?_
      conv => whnf
      refine splD (fun g => absurd g hn) (fun _ => ?_)
      conv => whnf
      exact ⟨_, _, [], [], ⟨rfl, h, rfl, rfl⟩, ⟨⟨rfl, rfl⟩, ⟨rfl, trivial⟩, rfl, rfl, trivial⟩⟩
  | cs :: rest, v16n, hd, h => by
      rw [slices_CompareFunc__cmpTerms_l0] at h
      obtain ⟨hrow, hd1, hlt⟩ := drop_cons hd
      refine LoopOk.step ?_
      conv => whnf
      refine splD (fun _ => ?_) (fun g => absurd hlt g)
      conv => whnf
      obtain ⟨x30, x31, e32, h⟩ := cell_si_ex h
      rw [e32] at hrow
      refine Req.of (Int.natCast_nonneg _) ?_
      refine Row.of _ hrow ?_
      conv => whnf
      refine splD (fun g33 => ?_) (fun g33 => ?_)
      · replace h := iteP h g33
        conv => whnf
        cases h
        exact Done.of [] [] rfl rfl ⟨⟨rfl, rfl⟩, ⟨rfl, trivial⟩, rfl, trivial⟩
      · replace h := iteN h g33
        conv => whnf
        obtain ⟨g37, x34, x35, e36, h⟩ := row_si_ex h
        refine Req.of g37 ?_
        refine Row.of _ e36 ?_
        conv => whnf
        obtain ⟨y38, e39, h⟩ := bind_ex h
        refine CallOk.of (impl_cmpTerms_ct hrec_impl_cmp e39) ?_
        conv => whnf
        refine CutK.norm [0, 1, 2, 10, 11, 12, 13] [] ?_
        conv => whnf
        refine splN (fun g40 => ?_) (fun g40 => ?_)
        · replace h := iteN h g40
          conv => whnf
          cases h
          exact Done.of [] [] rfl rfl ⟨⟨rfl, rfl⟩, ⟨rfl, trivial⟩, rfl, trivial⟩
        · replace h := iteP h g40
          conv => whnf
          refine CutK.norm [0, 1, 2, 11, 12, 13] [] ?_
          conv => whnf
          exact LoopOk.back (slices_CompareFunc__cmpTerms_l0_ct hrec_impl_cmp hx rest (v16n + 1)  hd1 h) [] [] ⟨⟨rfl, rfl⟩, ⟨rfl, trivial⟩, rfl, rfl, ⟨rfl, trivial⟩, rfl, rfl, i64eq (wrap_up hlt hx), trivial⟩
def slices_CompareFunc__cmpTerms (rec_impl_cmp : Rw → Rw → Option Int) (a1 : Rw) (a2 : Rw) : Option Int :=
  (if a1.length ≤ cap then (slices_CompareFunc__cmpTerms_l0 rec_impl_cmp a1 a2 (if (a1.length : Int) < (a2.length : Int) then some (-1) else some 0) a1 0) else none)
set_option maxHeartbeats 4000000 in
set_option maxRecDepth 100000 in
theorem slices_CompareFunc__cmpTerms_ct {rec_impl_cmp : Rw → Rw → Option Int} (hrec_impl_cmp : ∀ (a1 : Rw) (a2 : Rw) (r : Int), rec_impl_cmp a1 a2 = some r → Ct prog 101 [.agg [.d (D.sl a1)], .agg [.d (D.sl a2)]] (⟨[], []⟩) (.d (D.int .i64 r)) (⟨[], []⟩)) {a1 : Rw} {a2 : Rw} {r : Int} (h : slices_CompareFunc__cmpTerms rec_impl_cmp a1 a2 = some r) : Ct prog 174 [.d (D.sl a1), .d (D.sl a2), .fn 175 []] (⟨[], []⟩) (.d (D.int .i64 r)) (⟨[], []⟩) := by
  rw [slices_CompareFunc__cmpTerms] at h
  refine Ct.of (c := _) mixed func174 ⟨rfl, rfl, rfl⟩ ?_ rfl
  conv => whnf
  obtain ⟨g41, h⟩ := req_ex h
  refine LoopOk.into (slices_CompareFunc__cmpTerms_l0_ct hrec_impl_cmp g41 _ _  rfl h) [] [] ⟨⟨rfl, rfl⟩, ⟨rfl, trivial⟩, rfl, rfl, ⟨rfl, trivial⟩, rfl, rfl, rfl, trivial⟩ ?_ (fun _ hs => hs)
  rintro i ts os ⟨rfl, h, rfl, rfl⟩
  conv => whnf
  refine CutK.norm [0, 1] [] ?_
  conv => whnf
  refine splD (fun g42 => ?_) (fun g42 => ?_)
  · replace h := iteP h g42
    conv => whnf
    cases h
    exact Done.of [] [] rfl rfl ⟨⟨rfl, rfl⟩, ⟨rfl, trivial⟩, rfl, trivial⟩
  · replace h := iteN h g42
    conv => whnf
    cases h
    exact Done.of [] [] rfl rfl ⟨⟨rfl, rfl⟩, ⟨rfl, trivial⟩, rfl, trivial⟩

def impl_cmp_b (rec_impl_cmp : Rw → Rw → Option Int) (a1 : Rw) (a2 : Rw) : Option Int :=
  ((slices_CompareFunc__cmpTerms rec_impl_cmp a1 a2).bind fun y3 => some y3)
set_option maxHeartbeats 4000000 in
set_option maxRecDepth 100000 in
theorem impl_cmp_b_ct {rec_impl_cmp : Rw → Rw → Option Int} (hrec_impl_cmp : ∀ (a1 : Rw) (a2 : Rw) (r : Int), rec_impl_cmp a1 a2 = some r → Ct prog 101 [.agg [.d (D.sl a1)], .agg [.d (D.sl a2)]] (⟨[], []⟩) (.d (D.int .i64 r)) (⟨[], []⟩)) {a1 : Rw} {a2 : Rw} {r : Int} (h : impl_cmp_b rec_impl_cmp a1 a2 = some r) : Ct prog 101 [.agg [.d (D.sl a1)], .agg [.d (D.sl a2)]] (⟨[], []⟩) (.d (D.int .i64 r)) (⟨[], []⟩) := by
  rw [impl_cmp_b] at h
  refine Ct.of (c := _) mixed func101 ⟨rfl, rfl, rfl⟩ ?_ rfl
  conv => whnf
  obtain ⟨y3, e4, h⟩ := bind_ex h
  refine CallOk.of (slices_CompareFunc__cmpTerms_ct hrec_impl_cmp e4) ?_
  conv => whnf
  refine CutK.go ?_
  conv => whnf
  cases h
  exact Done.of [] [] rfl rfl ⟨⟨rfl, rfl⟩, ⟨rfl, trivial⟩, rfl, trivial⟩
def impl_cmp : Nat → Rw → Rw → Option Int
  | 0, _, _ => none
  | k + 1, a1, a2 => impl_cmp_b (impl_cmp k) a1 a2
theorem impl_cmp_ct' : ∀ (k : Nat) (a1 : Rw) (a2 : Rw) (r : Int), impl_cmp k a1 a2 = some r → Ct prog 101 [.agg [.d (D.sl a1)], .agg [.d (D.sl a2)]] (⟨[], []⟩) (.d (D.int .i64 r)) (⟨[], []⟩)
  | 0, _, _, _, h => by rw [impl_cmp] at h; cases h
  | k + 1, _, _, _, h => by rw [impl_cmp] at h; exact impl_cmp_b_ct (impl_cmp_ct' k) h
theorem impl_cmp_ct {k : Nat} {a1 : Rw} {a2 : Rw} {r : Int} (h : impl_cmp k a1 a2 = some r) : Ct prog 101 [.agg [.d (D.sl a1)], .agg [.d (D.sl a2)]] (⟨[], []⟩) (.d (D.int .i64 r)) (⟨[], []⟩) := impl_cmp_ct' k _ _ _ h

def impl_ordinalAt_2_p3 (o62 : Int) : Option (Bool × Int) :=
  some (true, o62)
set_option maxHeartbeats 4000000 in
set_option maxRecDepth 100000 in
theorem impl_ordinalAt_2_p3_ct {o62 : Int} {r : Bool × Int} (h : impl_ordinalAt_2_p3 o62 = some r) : X prog 1 (tlF f151 3) (mk 83 [] [(0, .box 3 [.d (D.int .i64 o62)])]) (finK prog f151 1 (.d (D.bool r.1)) (⟨[(3, [.d (D.int .i64 r.2)])], []⟩)) := by
  rw [impl_ordinalAt_2_p3] at h
  conv => whnf
  cases h
  exact Done.of [some 0] [] rfl rfl ⟨⟨rfl, rfl⟩, ⟨rfl, ⟨rfl, rfl, trivial⟩, trivial⟩, rfl, trivial⟩
def impl_ordinalAt_2_l0 (k : Nat) (rec_impl_ordinalAt_2 : Rw → Int → Int → Int → Option (Bool × Int)) (a1 : Rw) (a2 : Int) (a3 : Int) (K0 : Int → Option (Bool × Int)) : Rw → Nat → Int → Option (Bool × Int)
  | [], v77n, v78 => (K0 v78)
  | cs :: rest, v77n, v78 => (cell_si cs fun x120 x121 => (if (60 : Int) < (IntKind.i64.wrap (v78 + 1)) then some (false, IntKind.i64.wrap (v78 + 1)) else ((impl_in x121 1 1000000).bind fun y124 => (if y124 = true then ((rec_impl_ordinalAt_2 x120 x121 (IntKind.i64.wrap (a3 + 1)) (IntKind.i64.wrap (v78 + 1))).bind fun y127 => (if y127.1 = true then (if (0 : Int) < (v77n : Int) then (row_si a1 (IntKind.i64.wrap ((v77n : Int) - 1)) fun x131 x132 => ((impl_cmp k x131 x120).bind fun y135 => (if y135 ≤ (0 : Int) then some (false, y127.2) else (impl_ordinalAt_2_l0 k rec_impl_ordinalAt_2 a1 a2 a3 K0 rest (v77n + 1) y127.2)))) else (impl_ordinalAt_2_l0 k rec_impl_ordinalAt_2 a1 a2 a3 K0 rest (v77n + 1) y127.2)) else some (false, y127.2))) else some (false, IntKind.i64.wrap (v78 + 1))))))
set_option maxRecDepth 100000 in
theorem impl_ordinalAt_2_l0_ct {k : Nat} {rec_impl_ordinalAt_2 : Rw → Int → Int → Int → Option (Bool × Int)} {a1 : Rw} {a2 : Int} {a3 : Int} {K0 : Int → Option (Bool × Int)} (hrec_impl_ordinalAt_2 : ∀ (a1 : Rw) (a2 : Int) (a3 : Int) (a4 : Int) (r : Bool × Int), rec_impl_ordinalAt_2 a1 a2 a3 a4 = some r → Ct prog 151 [.dp [D.sl a1, D.int .i64 a2], .d (D.int .i64 a3), .ptr 0 0] (⟨[(3, [.d (D.int .i64 a4)])], []⟩) (.d (D.bool r.1)) (⟨[(3, [.d (D.int .i64 r.2)])], []⟩)) {r : Bool × Int} (hx : a1.length ≤ cap) : ∀ (rest : Rw) (v77n : Nat) (v78 : Int), a1.drop v77n = rest → impl_ordinalAt_2_l0 k rec_impl_ordinalAt_2 a1 a2 a3 K0 rest v77n v78 = some r → LoopOk prog 1 (lp f151 0) (mk 83 [(0, .dp [D.sl a1, D.int .i64 a2]), (1, .d (D.int .i64 a3)), (2, .ptr 0 0), (26, .d (D.int .i64 (a1.length : Int))), (27, .d (D.int .i64 (v77n : Int)))] [(0, .box 3 [.d (D.int .i64 v78)])]) (LoopEnd prog f151 1 83 (.d (D.bool r.1)) (⟨[(3, [.d (D.int .i64 r.2)])], []⟩) (fun i ts os => (i = 0 ∧ ∃ v99 : Int, K0 v99 = some r ∧ ts = [] ∧ os = [(0, .box 3 [.d (D.int .i64 v99)])])))
  | [], v77n, v78, hd, h => by
      rw [impl_ordinalAt_2_l0] at h
      have hn := drop_nil hd
      refine LoopOk.step ?_
      conv => whnf
      refine splD (fun g => absurd g hn) (fun _ => ?_)
      conv => whnf
      exact ⟨_, _, [some 0], [], ⟨rfl, _, h, rfl, rfl⟩, ⟨⟨rfl, rfl⟩, ⟨rfl, ⟨rfl, rfl, trivial⟩, trivial⟩, trivial⟩⟩
  | cs :: rest, v77n, v78, hd, h => by
      rw [impl_ordinalAt_2_l0] at h
      obtain ⟨hrow, hd1, hlt⟩ := drop_cons hd
      refine LoopOk.step ?_
      conv => whnf
      refine splD (fun _ => ?_) (fun g => absurd hlt g)
      conv => whnf
      obtain ⟨x120, x121, e122, h⟩ := cell_si_ex h
      rw [e122] at hrow
      refine Req.of (Int.natCast_nonneg _) ?_
      refine Row.of _ hrow ?_
      conv => whnf
      refine splD (fun g123 => ?_) (fun g123 => ?_)
      · replace h := iteP h g123
        conv => whnf
        refine CutK.norm [0, 1, 2, 7, 8, 26, 27, 62] [0] ?_
        conv => whnf
        cases h
        exact Done.of [some 0] [] rfl rfl ⟨⟨rfl, rfl⟩, ⟨rfl, ⟨rfl, rfl, trivial⟩, trivial⟩, rfl, trivial⟩
      · replace h := iteN h g123
        conv => whnf
        obtain ⟨y124, e125, h⟩ := bind_ex h
        refine CallOk.of (impl_in_ct e125) ?_
        conv => whnf
        refine spl (fun g126 => ?_) (fun g126 => ?_)
        · replace h := iteT h g126
          conv => whnf
          obtain ⟨y127, e128, h⟩ := bind_ex h
          refine CallOk.of (hrec_impl_ordinalAt_2 _ _ _ _ _ e128) ?_
          conv => whnf
          refine spl (fun g129 => ?_) (fun g129 => ?_)
          · replace h := iteT h g129
            conv => whnf
            refine CutK.norm [0, 1, 2, 7, 8, 26, 27, 62] [0] ?_
            conv => whnf
            refine CutK.norm [0, 1, 2, 7, 8, 26, 27] [0] ?_
            conv => whnf
            refine splD (fun g130 => ?_) (fun g130 => ?_)
            · replace h := iteP h g130
              conv => whnf
              obtain ⟨g134, x131, x132, e133, h⟩ := row_si_ex h
              refine Req.of g134 ?_
              refine Row.of _ e133 ?_
              conv => whnf
              obtain ⟨y135, e136, h⟩ := bind_ex h
              refine CallOk.of (impl_cmp_ct e136) ?_
              conv => whnf
              refine splD (fun g137 => ?_) (fun g137 => ?_)
              · replace h := iteP h g137
                conv => whnf
                refine CutK.norm [0, 1, 2, 26, 27, 81] [0] ?_
                conv => whnf
                cases h
                exact Done.of [some 0] [] rfl rfl ⟨⟨rfl, rfl⟩, ⟨rfl, ⟨rfl, rfl, trivial⟩, trivial⟩, rfl, trivial⟩
              · replace h := iteN h g137
                conv => whnf
                refine CutK.norm [0, 1, 2, 26, 27, 81] [0] ?_
                conv => whnf
                refine CutK.norm [0, 1, 2, 26, 27] [0] ?_
                conv => whnf
                exact LoopOk.back (impl_ordinalAt_2_l0_ct hrec_impl_ordinalAt_2 hx rest (v77n + 1) _ hd1 h) [some 0] [] ⟨⟨rfl, rfl⟩, ⟨rfl, ⟨rfl, rfl, trivial⟩, trivial⟩, rfl, rfl, ⟨rfl, rfl⟩, rfl, i64eq (wrap_up hlt hx), trivial⟩
            · replace h := iteN h g130
              conv => whnf
              refine CutK.norm [0, 1, 2, 26, 27, 81] [0] ?_
              conv => whnf
              refine CutK.norm [0, 1, 2, 26, 27] [0] ?_
              conv => whnf
              exact LoopOk.back (impl_ordinalAt_2_l0_ct hrec_impl_ordinalAt_2 hx rest (v77n + 1) _ hd1 h) [some 0] [] ⟨⟨rfl, rfl⟩, ⟨rfl, ⟨rfl, rfl, trivial⟩, trivial⟩, rfl, rfl, ⟨rfl, rfl⟩, rfl, i64eq (wrap_up hlt hx), trivial⟩
          · replace h := iteF h g129
            conv => whnf
            refine CutK.norm [0, 1, 2, 7, 8, 26, 27, 62] [0] ?_
            conv => whnf
            cases h
            exact Done.of [some 0] [] rfl rfl ⟨⟨rfl, rfl⟩, ⟨rfl, ⟨rfl, rfl, trivial⟩, trivial⟩, rfl, trivial⟩
        · replace h := iteF h g126
          conv => whnf
          refine CutK.norm [0, 1, 2, 7, 8, 26, 27, 62] [0] ?_
          conv => whnf
          cases h
          exact Done.of [some 0] [] rfl rfl ⟨⟨rfl, rfl⟩, ⟨rfl, ⟨rfl, rfl, trivial⟩, trivial⟩, rfl, trivial⟩
def impl_ordinalAt_2_b (k : Nat) (rec_impl_ordinalAt_2 : Rw → Int → Int → Int → Option (Bool × Int)) (a1 : Rw) (a2 : Int) (a3 : Int) (a4 : Int) : Option (Bool × Int) :=
  (if (60 : Int) < (IntKind.i64.wrap (a4 + 1)) then some (false, IntKind.i64.wrap (a4 + 1)) else (if (6 : Int) < a3 then some (false, IntKind.i64.wrap (a4 + 1)) else (if a1.length ≤ cap then (impl_ordinalAt_2_l0 k rec_impl_ordinalAt_2 a1 a2 a3 (fun (v99 : Int) => (impl_ordinalAt_2_p3 v99)) a1 0 (IntKind.i64.wrap (a4 + 1))) else none)))
set_option maxHeartbeats 4000000 in
set_option maxRecDepth 100000 in
theorem impl_ordinalAt_2_b_ct {k : Nat} {rec_impl_ordinalAt_2 : Rw → Int → Int → Int → Option (Bool × Int)} (hrec_impl_ordinalAt_2 : ∀ (a1 : Rw) (a2 : Int) (a3 : Int) (a4 : Int) (r : Bool × Int), rec_impl_ordinalAt_2 a1 a2 a3 a4 = some r → Ct prog 151 [.dp [D.sl a1, D.int .i64 a2], .d (D.int .i64 a3), .ptr 0 0] (⟨[(3, [.d (D.int .i64 a4)])], []⟩) (.d (D.bool r.1)) (⟨[(3, [.d (D.int .i64 r.2)])], []⟩)) {a1 : Rw} {a2 : Int} {a3 : Int} {a4 : Int} {r : Bool × Int} (h : impl_ordinalAt_2_b k rec_impl_ordinalAt_2 a1 a2 a3 a4 = some r) : Ct prog 151 [.dp [D.sl a1, D.int .i64 a2], .d (D.int .i64 a3), .ptr 0 0] (⟨[(3, [.d (D.int .i64 a4)])], []⟩) (.d (D.bool r.1)) (⟨[(3, [.d (D.int .i64 r.2)])], []⟩) := by
  rw [impl_ordinalAt_2_b] at h
  refine Ct.of (c := _) mixed func151 ⟨rfl, rfl, rfl⟩ ?_ rfl
  conv => whnf
  refine splD (fun g63 => ?_) (fun g63 => ?_)
  · replace h := iteP h g63
    conv => whnf
    cases h
    exact Done.of [some 0] [] rfl rfl ⟨⟨rfl, rfl⟩, ⟨rfl, ⟨rfl, rfl, trivial⟩, trivial⟩, rfl, trivial⟩
  · replace h := iteN h g63
    conv => whnf
    refine splD (fun g64 => ?_) (fun g64 => ?_)
    · replace h := iteP h g64
      conv => whnf
      cases h
      exact Done.of [some 0] [] rfl rfl ⟨⟨rfl, rfl⟩, ⟨rfl, ⟨rfl, rfl, trivial⟩, trivial⟩, rfl, trivial⟩
    · replace h := iteN h g64
      conv => whnf
      obtain ⟨g138, h⟩ := req_ex h
      refine LoopOk.into (impl_ordinalAt_2_l0_ct hrec_impl_ordinalAt_2 g138 _ _ _ rfl h) [some 0] [] ⟨⟨rfl, rfl⟩, ⟨rfl, ⟨rfl, rfl, trivial⟩, trivial⟩, rfl, rfl, ⟨rfl, rfl⟩, rfl, rfl, trivial⟩ ?_ (fun _ hs => hs)
      rintro i ts os ⟨rfl, v99, h, rfl, rfl⟩
      conv => whnf
      exact CutK.piece (impl_ordinalAt_2_p3_ct  h) [some 0] [] ⟨⟨rfl, rfl⟩, ⟨rfl, ⟨rfl, rfl, trivial⟩, trivial⟩, trivial⟩
def impl_ordinalAt_2 : Nat → Rw → Int → Int → Int → Option (Bool × Int)
  | 0, _, _, _, _ => none
  | k + 1, a1, a2, a3, a4 => impl_ordinalAt_2_b k (impl_ordinalAt_2 k) a1 a2 a3 a4
theorem impl_ordinalAt_2_ct' : ∀ (k : Nat) (a1 : Rw) (a2 : Int) (a3 : Int) (a4 : Int) (r : Bool × Int), impl_ordinalAt_2 k a1 a2 a3 a4 = some r → Ct prog 151 [.dp [D.sl a1, D.int .i64 a2], .d (D.int .i64 a3), .ptr 0 0] (⟨[(3, [.d (D.int .i64 a4)])], []⟩) (.d (D.bool r.1)) (⟨[(3, [.d (D.int .i64 r.2)])], []⟩)
  | 0, _, _, _, _, _, h => by rw [impl_ordinalAt_2] at h; cases h
  | k + 1, _, _, _, _, _, h => by rw [impl_ordinalAt_2] at h; exact impl_ordinalAt_2_b_ct (impl_ordinalAt_2_ct' k) h
theorem impl_ordinalAt_2_ct {k : Nat} {a1 : Rw} {a2 : Int} {a3 : Int} {a4 : Int} {r : Bool × Int} (h : impl_ordinalAt_2 k a1 a2 a3 a4 = some r) : Ct prog 151 [.dp [D.sl a1, D.int .i64 a2], .d (D.int .i64 a3), .ptr 0 0] (⟨[(3, [.d (D.int .i64 a4)])], []⟩) (.d (D.bool r.1)) (⟨[(3, [.d (D.int .i64 r.2)])], []⟩) := impl_ordinalAt_2_ct' k _ _ _ _ _ h

def impl_ordinalAt_p3 (a1 : Rw) (o61 : Int) : Option (Bool × Rw × Int) :=
  some (true, a1, o61)
set_option maxHeartbeats 4000000 in
set_option maxRecDepth 100000 in
theorem impl_ordinalAt_p3_ct {a1 : Rw} {o61 : Int} {r : Bool × Rw × Int} (h : impl_ordinalAt_p3 a1 o61 = some r) : X prog 2 (tlF f151 3) (mk 83 [] [(0, .box 26 [.d (D.sl a1)]), (64, .box 3 [.d (D.int .i64 o61)])]) (finK prog f151 2 (.d (D.bool r.1)) (⟨[(26, [.d (D.sl r.2.1)]), (3, [.d (D.int .i64 r.2.2)])], []⟩)) := by
  rw [impl_ordinalAt_p3] at h
  conv => whnf
  cases h
  exact Done.of [some 0, some 64] [] rfl rfl ⟨⟨rfl, rfl⟩, ⟨rfl, ⟨rfl, rfl, trivial⟩, ⟨rfl, rfl, trivial⟩, trivial⟩, rfl, trivial⟩
def impl_ordinalAt_l0 (k : Nat) (a1 : Rw) (a2 : Int) (K0 : Int → Option (Bool × Rw × Int)) : Rw → Nat → Int → Option (Bool × Rw × Int)
  | [], v76n, v77 => (K0 v77)
  | cs :: rest, v76n, v77 => (cell_si cs fun x119 x120 => (if (60 : Int) < (IntKind.i64.wrap (v77 + 1)) then some (false, a1, IntKind.i64.wrap (v77 + 1)) else ((impl_in x120 1 1000000).bind fun y123 => (if y123 = true then ((impl_ordinalAt_2 k x119 x120 (IntKind.i64.wrap (a2 + 1)) (IntKind.i64.wrap (v77 + 1))).bind fun y126 => (if y126.1 = true then (if (0 : Int) < (v76n : Int) then (row_si a1 (IntKind.i64.wrap ((v76n : Int) - 1)) fun x130 x131 => ((impl_cmp k x130 x119).bind fun y134 => (if y134 ≤ (0 : Int) then some (false, a1, y126.2) else (impl_ordinalAt_l0 k a1 a2 K0 rest (v76n + 1) y126.2)))) else (impl_ordinalAt_l0 k a1 a2 K0 rest (v76n + 1) y126.2)) else some (false, a1, y126.2))) else some (false, a1, IntKind.i64.wrap (v77 + 1))))))
set_option maxRecDepth 100000 in
theorem impl_ordinalAt_l0_ct {k : Nat} {a1 : Rw} {a2 : Int} {K0 : Int → Option (Bool × Rw × Int)} {r : Bool × Rw × Int} (hx : a1.length ≤ cap) : ∀ (rest : Rw) (v76n : Nat) (v77 : Int), a1.drop v76n = rest → impl_ordinalAt_l0 k a1 a2 K0 rest v76n v77 = some r → LoopOk prog 2 (lp f151 0) (mk 83 [(0, .ptr 0 0), (1, .d (D.int .i64 a2)), (2, .ptr 64 0), (26, .d (D.int .i64 (a1.length : Int))), (27, .d (D.int .i64 (v76n : Int)))] [(0, .box 26 [.d (D.sl a1)]), (64, .box 3 [.d (D.int .i64 v77)])]) (LoopEnd prog f151 2 83 (.d (D.bool r.1)) (⟨[(26, [.d (D.sl r.2.1)]), (3, [.d (D.int .i64 r.2.2)])], []⟩) (fun i ts os => (i = 0 ∧ ∃ v98 : Int, K0 v98 = some r ∧ ts = [] ∧ os = [(0, .box 26 [.d (D.sl a1)]), (64, .box 3 [.d (D.int .i64 v98)])])))
  | [], v76n, v77, hd, h => by
      rw [impl_ordinalAt_l0] at h
      have hn := drop_nil hd
      refine LoopOk.step ?_
      conv => whnf
      refine splD (fun g => absurd g hn) (fun _ => ?_)
      conv => whnf
      exact ⟨_, _, [some 0, some 64], [], ⟨rfl, _, h, rfl, rfl⟩, ⟨⟨rfl, rfl⟩, ⟨rfl, ⟨rfl, rfl, trivial⟩, ⟨rfl, rfl, trivial⟩, trivial⟩, trivial⟩⟩
  | cs :: rest, v76n, v77, hd, h => by
      rw [impl_ordinalAt_l0] at h
      obtain ⟨hrow, hd1, hlt⟩ := drop_cons hd
      refine LoopOk.step ?_
      conv => whnf
      refine splD (fun _ => ?_) (fun g => absurd hlt g)
      conv => whnf
      obtain ⟨x119, x120, e121, h⟩ := cell_si_ex h
      rw [e121] at hrow
      refine Req.of (Int.natCast_nonneg _) ?_
      refine Row.of _ hrow ?_
      conv => whnf
      refine splD (fun g122 => ?_) (fun g122 => ?_)
      · replace h := iteP h g122
        conv => whnf
        refine CutK.norm [0, 1, 2, 7, 8, 26, 27, 62] [0, 64] ?_
        conv => whnf
        cases h
        exact Done.of [some 0, some 64] [] rfl rfl ⟨⟨rfl, rfl⟩, ⟨rfl, ⟨rfl, rfl, trivial⟩, ⟨rfl, rfl, trivial⟩, trivial⟩, rfl, trivial⟩
      · replace h := iteN h g122
        conv => whnf
        obtain ⟨y123, e124, h⟩ := bind_ex h
        refine CallOk.of (impl_in_ct e124) ?_
        conv => whnf
        refine spl (fun g125 => ?_) (fun g125 => ?_)
        · replace h := iteT h g125
          conv => whnf
          obtain ⟨y126, e127, h⟩ := bind_ex h
          refine CallOk.of (impl_ordinalAt_2_ct e127) ?_
          conv => whnf
          refine spl (fun g128 => ?_) (fun g128 => ?_)
          · replace h := iteT h g128
            conv => whnf
            refine CutK.norm [0, 1, 2, 7, 8, 26, 27, 62] [0, 64] ?_
            conv => whnf
            refine CutK.norm [0, 1, 2, 7, 8, 26, 27] [0, 64] ?_
            conv => whnf
            refine splD (fun g129 => ?_) (fun g129 => ?_)
            · replace h := iteP h g129
              conv => whnf
              obtain ⟨g133, x130, x131, e132, h⟩ := row_si_ex h
              refine Req.of g133 ?_
              refine Row.of _ e132 ?_
              conv => whnf
              obtain ⟨y134, e135, h⟩ := bind_ex h
              refine CallOk.of (impl_cmp_ct e135) ?_
              conv => whnf
              refine splD (fun g136 => ?_) (fun g136 => ?_)
              · replace h := iteP h g136
                conv => whnf
                refine CutK.norm [0, 1, 2, 26, 27, 81] [0, 64] ?_
                conv => whnf
                cases h
                exact Done.of [some 0, some 64] [] rfl rfl ⟨⟨rfl, rfl⟩, ⟨rfl, ⟨rfl, rfl, trivial⟩, ⟨rfl, rfl, trivial⟩, trivial⟩, rfl, trivial⟩
              · replace h := iteN h g136
                conv => whnf
                refine CutK.norm [0, 1, 2, 26, 27, 81] [0, 64] ?_
                conv => whnf
                refine CutK.norm [0, 1, 2, 26, 27] [0, 64] ?_
                conv => whnf
                exact LoopOk.back (impl_ordinalAt_l0_ct hx rest (v76n + 1) _ hd1 h) [some 0, some 64] [] ⟨⟨rfl, rfl⟩, ⟨rfl, ⟨rfl, rfl, trivial⟩, ⟨rfl, rfl, trivial⟩, trivial⟩, ⟨rfl, rfl⟩, rfl, ⟨rfl, rfl⟩, rfl, i64eq (wrap_up hlt hx), trivial⟩
            · replace h := iteN h g129
              conv => whnf
              refine CutK.norm [0, 1, 2, 26, 27, 81] [0, 64] ?_
              conv => whnf
              refine CutK.norm [0, 1, 2, 26, 27] [0, 64] ?_
              conv => whnf
              exact LoopOk.back (impl_ordinalAt_l0_ct hx rest (v76n + 1) _ hd1 h) [some 0, some 64] [] ⟨⟨rfl, rfl⟩, ⟨rfl, ⟨rfl, rfl, trivial⟩, ⟨rfl, rfl, trivial⟩, trivial⟩, ⟨rfl, rfl⟩, rfl, ⟨rfl, rfl⟩, rfl, i64eq (wrap_up hlt hx), trivial⟩
          · replace h := iteF h g128
            conv => whnf
            refine CutK.norm [0, 1, 2, 7, 8, 26, 27, 62] [0, 64] ?_
            conv => whnf
            cases h
            exact Done.of [some 0, some 64] [] rfl rfl ⟨⟨rfl, rfl⟩, ⟨rfl, ⟨rfl, rfl, trivial⟩, ⟨rfl, rfl, trivial⟩, trivial⟩, rfl, trivial⟩
        · replace h := iteF h g125
          conv => whnf
          refine CutK.norm [0, 1, 2, 7, 8, 26, 27, 62] [0, 64] ?_
          conv => whnf
          cases h
          exact Done.of [some 0, some 64] [] rfl rfl ⟨⟨rfl, rfl⟩, ⟨rfl, ⟨rfl, rfl, trivial⟩, ⟨rfl, rfl, trivial⟩, trivial⟩, rfl, trivial⟩
def impl_ordinalAt (k : Nat) (a1 : Rw) (a2 : Int) (a3 : Int) : Option (Bool × Rw × Int) :=
  (if (60 : Int) < (IntKind.i64.wrap (a3 + 1)) then some (false, a1, IntKind.i64.wrap (a3 + 1)) else (if (6 : Int) < a2 then some (false, a1, IntKind.i64.wrap (a3 + 1)) else (if a1.length ≤ cap then (impl_ordinalAt_l0 k a1 a2 (fun (v98 : Int) => (impl_ordinalAt_p3 a1 v98)) a1 0 (IntKind.i64.wrap (a3 + 1))) else none)))
set_option maxHeartbeats 4000000 in
set_option maxRecDepth 100000 in
theorem impl_ordinalAt_ct {k : Nat} {a1 : Rw} {a2 : Int} {a3 : Int} {r : Bool × Rw × Int} (h : impl_ordinalAt k a1 a2 a3 = some r) : Ct prog 151 [.ptr 0 0, .d (D.int .i64 a2), .ptr 64 0] (⟨[(26, [.d (D.sl a1)]), (3, [.d (D.int .i64 a3)])], []⟩) (.d (D.bool r.1)) (⟨[(26, [.d (D.sl r.2.1)]), (3, [.d (D.int .i64 r.2.2)])], []⟩) := by
  rw [impl_ordinalAt] at h
  refine Ct.of (c := _) mixed func151 ⟨rfl, rfl, rfl⟩ ?_ rfl
  conv => whnf
  refine splD (fun g62 => ?_) (fun g62 => ?_)
  · replace h := iteP h g62
    conv => whnf
    cases h
    exact Done.of [some 0, some 64] [] rfl rfl ⟨⟨rfl, rfl⟩, ⟨rfl, ⟨rfl, rfl, trivial⟩, ⟨rfl, rfl, trivial⟩, trivial⟩, rfl, trivial⟩
  · replace h := iteN h g62
    conv => whnf
    refine splD (fun g63 => ?_) (fun g63 => ?_)
    · replace h := iteP h g63
      conv => whnf
      cases h
      exact Done.of [some 0, some 64] [] rfl rfl ⟨⟨rfl, rfl⟩, ⟨rfl, ⟨rfl, rfl, trivial⟩, ⟨rfl, rfl, trivial⟩, trivial⟩, rfl, trivial⟩
    · replace h := iteN h g63
      conv => whnf
      obtain ⟨g137, h⟩ := req_ex h
      refine LoopOk.into (impl_ordinalAt_l0_ct  g137 _ _ _ rfl h) [some 0, some 64] [] ⟨⟨rfl, rfl⟩, ⟨rfl, ⟨rfl, rfl, trivial⟩, ⟨rfl, rfl, trivial⟩, trivial⟩, ⟨rfl, rfl⟩, rfl, ⟨rfl, rfl⟩, rfl, rfl, trivial⟩ ?_ (fun _ hs => hs)
      rintro i ts os ⟨rfl, v98, h, rfl, rfl⟩
      conv => whnf
      exact CutK.piece (impl_ordinalAt_p3_ct  h) [some 0, some 64] [] ⟨⟨rfl, rfl⟩, ⟨rfl, ⟨rfl, rfl, trivial⟩, ⟨rfl, rfl, trivial⟩, trivial⟩, trivial⟩

def impl_IsOrdinal (k : Nat) (a1 : Rw) : Option Bool :=
  ((impl_ordinalAt k a1 0 0).bind fun y2 => (if y2.1 = true then some true else some false))
set_option maxHeartbeats 4000000 in
set_option maxRecDepth 100000 in
theorem impl_IsOrdinal_ct {k : Nat} {a1 : Rw} {r : Bool} (h : impl_IsOrdinal k a1 = some r) : Ct prog 70 [.agg [.d (D.sl a1)]] (⟨[], []⟩) (.d (D.bool r)) (⟨[], []⟩) := by
  rw [impl_IsOrdinal] at h
  refine Ct.of (c := _) mixed func70 ⟨rfl, rfl, rfl⟩ ?_ rfl
  conv => whnf
  obtain ⟨y2, e3, h⟩ := bind_ex h
  refine CallOk.of (impl_ordinalAt_ct e3) ?_
  conv => whnf
  refine spl (fun g4 => ?_) (fun g4 => ?_)
  · replace h := iteT h g4
    conv => whnf
    refine CutK.go ?_
    conv => whnf
    cases h
    exact Done.of [] [] rfl rfl ⟨⟨rfl, rfl⟩, ⟨rfl, trivial⟩, rfl, trivial⟩
  · replace h := iteF h g4
    conv => whnf
    refine CutK.go ?_
    conv => whnf
    cases h
    exact Done.of [] [] rfl rfl ⟨⟨rfl, rfl⟩, ⟨rfl, trivial⟩, rfl, trivial⟩

def impl_parted  (a1 : Rw) : Option (Rw × Int) :=
  (if (0 : Int) ≤ (IntKind.i64.wrap ((a1.length : Int) - 1)) then (row_si a1 (IntKind.i64.wrap ((a1.length : Int) - 1)) fun x3 x4 => ((impl_isZero x3).bind fun y7 => (if y7 = true then (if 0 ≤ (IntKind.i64.wrap ((a1.length : Int) - 1)) ∧ (IntKind.i64.wrap ((a1.length : Int) - 1)) ≤ (a1.length : Int) ∧ (∀ cs ∈ a1, cs.length = 2) then some (a1.take (IntKind.i64.wrap ((a1.length : Int) - 1) : Int).toNat, x4) else none) else some (a1, 0)))) else some (a1, 0))
set_option maxHeartbeats 4000000 in
set_option maxRecDepth 100000 in
theorem impl_parted_ct  {a1 : Rw} {r : Rw × Int} (h : impl_parted a1 = some r) : Ct prog 86 [.agg [.d (D.sl a1)]] (⟨[], []⟩) (.tup [.agg [.d (D.sl r.1)], .d (D.int .i64 r.2)]) (⟨[], []⟩) := by
  rw [impl_parted] at h
  refine Ct.of (c := _) mixed func86 ⟨rfl, rfl, rfl⟩ ?_ rfl
  conv => whnf
  refine splD (fun g2 => ?_) (fun g2 => ?_)
  · replace h := iteP h g2
    conv => whnf
    obtain ⟨g6, x3, x4, e5, h⟩ := row_si_ex h
    refine Req.of g6 ?_
    refine Row.of _ e5 ?_
    conv => whnf
    obtain ⟨y7, e8, h⟩ := bind_ex h
    refine CallOk.of (impl_isZero_ct e8) ?_
    conv => whnf
    refine spl (fun g9 => ?_) (fun g9 => ?_)
    · replace h := iteT h g9
      conv => whnf
      refine CutK.norm [1, 2, 4, 19] [64, 128] ?_
      conv => whnf
      obtain ⟨g10, h⟩ := req_ex h
      refine Req.of g10 ?_
      conv => whnf
      refine Req.of g6 ?_
      refine Row.of _ e5 ?_
      conv => whnf
      cases h
      exact Done.of [] [] rfl rfl ⟨⟨rfl, rfl⟩, ⟨rfl, trivial⟩, ⟨⟨rfl, trivial⟩, rfl, trivial⟩, trivial⟩
    · replace h := iteF h g9
      conv => whnf
      refine CutK.norm [1, 2, 4, 19] [64, 128] ?_
      conv => whnf
      refine CutK.norm [1, 2] [64, 128] ?_
      conv => whnf
      cases h
      exact Done.of [] [] rfl rfl ⟨⟨rfl, rfl⟩, ⟨rfl, trivial⟩, ⟨⟨rfl, trivial⟩, rfl, trivial⟩, trivial⟩
  · replace h := iteN h g2
    conv => whnf
    refine CutK.norm [1, 2, 4, 19] [64, 128] ?_
    conv => whnf
    refine CutK.norm [1, 2] [64, 128] ?_
    conv => whnf
    cases h
    exact Done.of [] [] rfl rfl ⟨⟨rfl, rfl⟩, ⟨rfl, trivial⟩, ⟨⟨rfl, trivial⟩, rfl, trivial⟩, trivial⟩

def impl_isLimit  (a1 : Rw) : Option Bool :=
  ((impl_parted a1).bind fun y2 => ((impl_isZero a1).bind fun y4 => (if y4 = true then some false else (if y2.2 = (0 : Int) then some true else some false))))
set_option maxHeartbeats 4000000 in
set_option maxRecDepth 100000 in
theorem impl_isLimit_ct  {a1 : Rw} {r : Bool} (h : impl_isLimit a1 = some r) : Ct prog 152 [.agg [.d (D.sl a1)]] (⟨[], []⟩) (.d (D.bool r)) (⟨[], []⟩) := by
  rw [impl_isLimit] at h
  refine Ct.of (c := _) mixed func152 ⟨rfl, rfl, rfl⟩ ?_ rfl
  conv => whnf
  obtain ⟨y2, e3, h⟩ := bind_ex h
  refine CallOk.of (impl_parted_ct e3) ?_
  conv => whnf
  refine CutK.go ?_
  conv => whnf
  obtain ⟨y4, e5, h⟩ := bind_ex h
  refine CallOk.of (impl_isZero_ct e5) ?_
  conv => whnf
  refine spl (fun g6 => ?_) (fun g6 => ?_)
  · replace h := iteT h g6
    conv => whnf
    refine CutK.go ?_
    conv => whnf
    cases h
    exact Done.of [] [] rfl rfl ⟨⟨rfl, rfl⟩, ⟨rfl, trivial⟩, rfl, trivial⟩
  · replace h := iteF h g6
    conv => whnf
    refine splD (fun g7 => ?_) (fun g7 => ?_)
    · replace h := iteP h g7
      conv => whnf
      refine CutK.go ?_
      conv => whnf
      cases h
      exact Done.of [] [] rfl rfl ⟨⟨rfl, rfl⟩, ⟨rfl, trivial⟩, rfl, trivial⟩
    · replace h := iteN h g7
      conv => whnf
      refine CutK.go ?_
      conv => whnf
      cases h
      exact Done.of [] [] rfl rfl ⟨⟨rfl, rfl⟩, ⟨rfl, trivial⟩, rfl, trivial⟩

def impl_finite  (a1 : Int) : Option Rw :=
  (if a1 = (0 : Int) then some ([] : Rw) else some ([[D.sl ([]), D.int .i64 a1]] : Rw))
set_option maxHeartbeats 4000000 in
set_option maxRecDepth 100000 in
theorem impl_finite_ct  {a1 : Int} {r : Rw} (h : impl_finite a1 = some r) : Ct prog 87 [.d (D.int .i64 a1)] (⟨[], []⟩) (.agg [.os 8 r.length]) (⟨[], [(104, true, r)]⟩) := by
  rw [impl_finite] at h
  refine Ct.of (c := _) mixed func87 ⟨rfl, rfl, rfl⟩ ?_ rfl
  conv => whnf
  refine splD (fun g2 => ?_) (fun g2 => ?_)
  · replace h := iteP h g2
    conv => whnf
    cases h
    exact Done.of [none] [] rfl rfl ⟨⟨rfl, rfl⟩, ⟨rfl, rfl, trivial⟩, ⟨⟨rfl, rfl⟩, trivial⟩, trivial⟩
  · replace h := iteN h g2
    conv => whnf
    cases h
    exact Done.of [some 512] [] rfl rfl ⟨⟨rfl, rfl⟩, ⟨rfl, ⟨rfl, rfl, rows_same⟩, trivial⟩, ⟨⟨(by first | rfl | exact List.length_append.symm | (simp; done) | omega), rfl⟩, trivial⟩, trivial⟩

def impl_plus_p4 (a2 : Rw) (o58 : Rw) : Option Rw :=
  (if o58.length + a2.length ≤ cap ∧ (∀ cs ∈ a2, cs.length = 2) then some (o58 ++ a2) else none)
set_option maxHeartbeats 4000000 in
set_option maxRecDepth 100000 in
theorem impl_plus_p4_ct {a2 : Rw} {o58 : Rw} {r : Rw} (h : impl_plus_p4 a2 o58 = some r) : X prog 0 (tlF f80 4) (mk 69 [(3, .ptr 192 0), (4, .ptr 256 0), (5, .ptr 320 0)] [(192, .box 26 [.d (D.sl a2)]), (256, .box 26 [.es]), (320, .box 26 [.os 1084000 o58.length]), (1084000, .arr 104 false o58)]) (finK prog f80 0 (.agg [.d (D.sl r)]) (⟨[], []⟩)) := by
  rw [impl_plus_p4] at h
  conv => whnf
  refine Take.all (rfl) ?_
  conv => whnf
  obtain ⟨g60, h⟩ := req_ex h
  refine Req.of (room (b := 32) (by decide) g60.1 g60.2) ?_
  conv => whnf
  cases h
  exact Done.of [] [4224] rfl rfl ⟨⟨rfl, rfl⟩, ⟨rfl, trivial⟩, ⟨⟨rfl, Nat.le_of_eq (by first | rfl | exact List.length_append.symm | (simp; done) | omega), eq_take (by first | rfl | exact List.length_append.symm | (simp; done) | omega)⟩, trivial⟩, trivial⟩
def impl_plus_l0 (k : Nat) (a1 : Rw) (a2 : Rw) (K0 : Rw → Option Rw) : Rw → Rw → Option Rw
  | [], v74 => (K0 v74)
  | cs :: rest, v74 => (cell_si cs fun x113 x114 => (row_si a2 0 fun x116 x117 => ((impl_cmp k x113 x116).bind fun y120 => (if y120 = (1 : Int) then (if v74.length + 1 ≤ cap then (impl_plus_l0 k a1 a2 K0 rest (v74 ++ ([[D.sl x113, D.int .i64 x114]]))) else none) else (if y120 = (0 : Int) then (if v74.length + 1 ≤ cap then (if 0 ≤ (1 : Int) ∧ (1 : Int) ≤ (a2.length : Int) ∧ (∀ cs ∈ a2, cs.length = 2) then (if (v74 ++ ([[D.sl x113, D.int .i64 (IntKind.i64.wrap (x114 + x117))]])).length + (a2.drop (1 : Int).toNat).length ≤ cap ∧ (∀ cs ∈ (a2.drop (1 : Int).toNat), cs.length = 2) then some ((v74 ++ ([[D.sl x113, D.int .i64 (IntKind.i64.wrap (x114 + x117))]])) ++ (a2.drop (1 : Int).toNat)) else none) else none) else none) else (impl_plus_l0 k a1 a2 K0 rest v74))))))
set_option maxRecDepth 100000 in
theorem impl_plus_l0_ct {k : Nat} {a1 : Rw} {a2 : Rw} {K0 : Rw → Option Rw} {r : Rw} (hx : a1.length ≤ cap) : ∀ (rest : Rw) (v73n : Nat) (v74 : Rw), a1.drop v73n = rest → impl_plus_l0 k a1 a2 K0 rest v74 = some r → LoopOk prog 0 (lp f80 0) (mk 69 [(3, .ptr 192 0), (4, .ptr 256 0), (5, .ptr 320 0), (13, .d (D.sl a1)), (14, .d (D.int .i64 (a1.length : Int))), (15, .d (D.int .i64 (v73n : Int)))] [(192, .box 26 [.d (D.sl a2)]), (256, .box 26 [.es]), (320, .box 26 [.os 64000 v74.length]), (64000, .arr 104 false v74)]) (LoopEnd prog f80 0 69 (.agg [.d (D.sl r)]) (⟨[], []⟩) (fun i ts os => (i = 0 ∧ ∃ v95 : Rw, K0 v95 = some r ∧ ts = [(3, .ptr 192 0), (4, .ptr 256 0), (5, .ptr 320 0)] ∧ os = [(192, .box 26 [.d (D.sl a2)]), (256, .box 26 [.es]), (320, .box 26 [.os 67001 v95.length]), (67001, .arr 104 false v95)])))
  | [], v73n, v74, hd, h => by
      rw [impl_plus_l0] at h
      have hn := drop_nil hd
      refine LoopOk.step ?_
      conv => whnf
      refine splD (fun g => absurd g hn) (fun _ => ?_)
      conv => whnf
      exact ⟨_, _, [some 192, some 256, some 320, some 64000], [], ⟨rfl, _, h, rfl, rfl⟩, ⟨⟨rfl, rfl⟩, ⟨rfl, ⟨rfl, rfl, trivial⟩, ⟨rfl, trivial, trivial⟩, ⟨rfl, ⟨rfl, rfl⟩, trivial⟩, ⟨rfl, rfl, rows_same⟩, trivial⟩, ⟨rfl, rfl⟩, ⟨rfl, rfl⟩, ⟨rfl, rfl⟩, trivial⟩⟩
  | cs :: rest, v73n, v74, hd, h => by
      rw [impl_plus_l0] at h
      obtain ⟨hrow, hd1, hlt⟩ := drop_cons hd
      refine LoopOk.step ?_
      conv => whnf
      refine splD (fun _ => ?_) (fun g => absurd hlt g)
      conv => whnf
      obtain ⟨x113, x114, e115, h⟩ := cell_si_ex h
      rw [e115] at hrow
      refine Req.of (Int.natCast_nonneg _) ?_
      refine Row.of _ hrow ?_
      conv => whnf
      obtain ⟨g119, x116, x117, e118, h⟩ := row_si_ex h
      refine Req.of g119 ?_
      refine Row.of _ e118 ?_
      conv => whnf
      obtain ⟨y120, e121, h⟩ := bind_ex h
      refine CallOk.of (impl_cmp_ct e121) ?_
      conv => whnf
      refine CutK.norm [3, 4, 5, 7, 13, 14, 15, 26] [192, 256, 320, 448, 64000] ?_
      conv => whnf
      refine splD (fun g122 => ?_) (fun g122 => ?_)
      · replace h := iteP h g122
        conv => whnf
        refine Take.all (rfl) ?_
        conv => whnf
        refine Take.all (by first | rfl | exact List.length_append.symm | (simp; done) | omega) ?_
        conv => whnf
        obtain ⟨g123, h⟩ := req_ex h
        refine Req.of (room (b := 32) (by decide) g123 (wide1 rfl wide0)) ?_
        conv => whnf
        refine CutK.norm [3, 4, 5, 13, 14, 15] [192, 256, 320, 2112] ?_
        conv => whnf
        exact LoopOk.back (impl_plus_l0_ct hx rest (v73n + 1) _ hd1 h) [some 192, some 256, some 320, some 2112] [] ⟨⟨rfl, rfl⟩, ⟨rfl, ⟨rfl, rfl, trivial⟩, ⟨rfl, trivial, trivial⟩, ⟨rfl, ⟨(by first | rfl | exact List.length_append.symm | (simp; done) | omega), rfl⟩, trivial⟩, ⟨rfl, rfl, rows_same⟩, trivial⟩, ⟨rfl, rfl⟩, ⟨rfl, rfl⟩, ⟨rfl, rfl⟩, rfl, rfl, i64eq (wrap_up hlt hx), trivial⟩
      · replace h := iteN h g122
        conv => whnf
        refine splD (fun g124 => ?_) (fun g124 => ?_)
        · replace h := iteP h g124
          conv => whnf
          refine Req.of g119 ?_
          refine Row.of _ e118 ?_
          conv => whnf
          refine Take.all (rfl) ?_
          conv => whnf
          refine Take.all (by first | rfl | exact List.length_append.symm | (simp; done) | omega) ?_
          conv => whnf
          obtain ⟨g125, h⟩ := req_ex h
          refine Req.of (room (b := 32) (by decide) g125 (wide1 rfl wide0)) ?_
          conv => whnf
          obtain ⟨g126, h⟩ := req_ex h
          refine Req.of g126 ?_
          conv => whnf
          refine Take.all (by first | rfl | exact List.length_append.symm | (simp; done) | omega) ?_
          conv => whnf
          obtain ⟨g127, h⟩ := req_ex h
          refine Req.of (room (b := 32) (by decide) g127.1 g127.2) ?_
          conv => whnf
          cases h
          exact Done.of [] [3712] rfl rfl ⟨⟨rfl, rfl⟩, ⟨rfl, trivial⟩, ⟨⟨rfl, Nat.le_of_eq (by first | rfl | exact List.length_append.symm | (simp; done) | omega), eq_take (by first | rfl | exact List.length_append.symm | (simp; done) | omega)⟩, trivial⟩, trivial⟩
        · replace h := iteN h g124
          conv => whnf
          refine CutK.norm [3, 4, 5, 13, 14, 15] [192, 256, 320, 64000] ?_
          conv => whnf
          exact LoopOk.back (impl_plus_l0_ct hx rest (v73n + 1) _ hd1 h) [some 192, some 256, some 320, some 64000] [] ⟨⟨rfl, rfl⟩, ⟨rfl, ⟨rfl, rfl, trivial⟩, ⟨rfl, trivial, trivial⟩, ⟨rfl, ⟨rfl, rfl⟩, trivial⟩, ⟨rfl, rfl, rows_same⟩, trivial⟩, ⟨rfl, rfl⟩, ⟨rfl, rfl⟩, ⟨rfl, rfl⟩, rfl, rfl, i64eq (wrap_up hlt hx), trivial⟩
def impl_plus_p2 (k : Nat) (a1 : Rw) (a2 : Rw) : Option Rw :=
  (if a1.length ≤ cap then (impl_plus_l0 k a1 a2 (fun (v95 : Rw) => (impl_plus_p4 a2 v95)) a1 ([] : Rw)) else none)
set_option maxHeartbeats 4000000 in
set_option maxRecDepth 100000 in
theorem impl_plus_p2_ct {k : Nat} {a1 : Rw} {a2 : Rw} {r : Rw} (h : impl_plus_p2 k a1 a2 = some r) : X prog 0 (tlF f80 2) (mk 69 [(2, .ptr 128 0), (3, .ptr 192 0), (4, .ptr 256 0)] [(128, .box 26 [.d (D.sl a1)]), (192, .box 26 [.d (D.sl a2)]), (256, .box 26 [.es])]) (finK prog f80 0 (.agg [.d (D.sl r)]) (⟨[], []⟩)) := by
  rw [impl_plus_p2] at h
  conv => whnf
  obtain ⟨g128, h⟩ := req_ex h
  refine LoopOk.into (impl_plus_l0_ct  g128 _ _ _ rfl h) [some 192, some 256, some 320, none] [] ⟨⟨rfl, rfl⟩, ⟨rfl, ⟨rfl, rfl, trivial⟩, ⟨rfl, trivial, trivial⟩, ⟨rfl, ⟨rfl, rfl⟩, trivial⟩, rfl, trivial⟩, ⟨rfl, rfl⟩, ⟨rfl, rfl⟩, ⟨rfl, rfl⟩, rfl, rfl, rfl, trivial⟩ ?_ (fun _ hs => hs)
  rintro i ts os ⟨rfl, v95, h, rfl, rfl⟩
  conv => whnf
  exact CutK.piece (impl_plus_p4_ct  h) [some 192, some 256, some 320, some 67001] [] ⟨⟨rfl, rfl⟩, ⟨rfl, ⟨rfl, rfl, trivial⟩, ⟨rfl, trivial, trivial⟩, ⟨rfl, ⟨rfl, rfl⟩, trivial⟩, ⟨rfl, rfl, rows_same⟩, trivial⟩, ⟨rfl, rfl⟩, ⟨rfl, rfl⟩, ⟨rfl, rfl⟩, trivial⟩
def impl_plus (k : Nat) (a1 : Rw) (a2 : Rw) : Option Rw :=
  ((impl_isZero a2).bind fun y129 => (if y129 = true then some a1 else (impl_plus_p2 k a1 a2)))
set_option maxHeartbeats 4000000 in
set_option maxRecDepth 100000 in
theorem impl_plus_ct {k : Nat} {a1 : Rw} {a2 : Rw} {r : Rw} (h : impl_plus k a1 a2 = some r) : Ct prog 80 [.agg [.d (D.sl a1)], .agg [.d (D.sl a2)]] (⟨[], []⟩) (.agg [.d (D.sl r)]) (⟨[], []⟩) := by
  rw [impl_plus] at h
  refine Ct.of (c := _) mixed func80 ⟨rfl, rfl, rfl⟩ ?_ rfl
  conv => whnf
  obtain ⟨y129, e130, h⟩ := bind_ex h
  refine CallOk.of (impl_isZero_ct e130) ?_
  conv => whnf
  refine spl (fun g131 => ?_) (fun g131 => ?_)
  · replace h := iteT h g131
    conv => whnf
    refine CutK.norm [2, 3, 4, 9] [128, 192, 256] ?_
    conv => whnf
    cases h
    exact Done.of [] [] rfl rfl ⟨⟨rfl, rfl⟩, ⟨rfl, trivial⟩, ⟨rfl, trivial⟩, trivial⟩
  · replace h := iteF h g131
    conv => whnf
    refine CutK.norm [2, 3, 4, 9] [128, 192, 256] ?_
    conv => whnf
    exact CutK.piece (impl_plus_p2_ct  h) [some 128, some 192, some 256] [] ⟨⟨rfl, rfl⟩, ⟨rfl, ⟨rfl, rfl, trivial⟩, ⟨rfl, rfl, trivial⟩, ⟨rfl, trivial, trivial⟩, trivial⟩, ⟨rfl, rfl⟩, ⟨rfl, rfl⟩, ⟨rfl, rfl⟩, trivial⟩

def impl_before (k : Nat) (a1 : Rw) : Option Rw :=
  ((impl_parted a1).bind fun y2 => ((impl_finite (IntKind.i64.wrap (y2.2 - 1))).bind fun y4 => ((impl_plus k y2.1 y4).bind fun y6 => some y6)))
set_option maxHeartbeats 4000000 in
set_option maxRecDepth 100000 in
theorem impl_before_ct {k : Nat} {a1 : Rw} {r : Rw} (h : impl_before k a1 = some r) : Ct prog 154 [.agg [.d (D.sl a1)]] (⟨[], []⟩) (.agg [.d (D.sl r)]) (⟨[], []⟩) := by
  rw [impl_before] at h
  refine Ct.of (c := _) mixed func154 ⟨rfl, rfl, rfl⟩ ?_ rfl
  conv => whnf
  obtain ⟨y2, e3, h⟩ := bind_ex h
  refine CallOk.of (impl_parted_ct e3) ?_
  conv => whnf
  refine CutK.go ?_
  conv => whnf
  obtain ⟨y4, e5, h⟩ := bind_ex h
  refine CallOk.of (impl_finite_ct e5) ?_
  conv => whnf
  refine Take.all (rfl) ?_
  conv => whnf
  obtain ⟨y6, e7, h⟩ := bind_ex h
  refine CallOk.of (impl_plus_ct e7) ?_
  conv => whnf
  refine CutK.go ?_
  conv => whnf
  cases h
  exact Done.of [] [] rfl rfl ⟨⟨rfl, rfl⟩, ⟨rfl, trivial⟩, ⟨rfl, trivial⟩, trivial⟩

def impl_power  (a1 : Rw) (a2 : Int) : Option Rw :=
  (if a2 = (0 : Int) then some ([] : Rw) else some ([[D.sl a1, D.int .i64 a2]] : Rw))
set_option maxHeartbeats 4000000 in
set_option maxRecDepth 100000 in
theorem impl_power_ct  {a1 : Rw} {a2 : Int} {r : Rw} (h : impl_power a1 a2 = some r) : Ct prog 90 [.agg [.d (D.sl a1)], .d (D.int .i64 a2)] (⟨[], []⟩) (.agg [.os 8 r.length]) (⟨[], [(104, false, r)]⟩) := by
  rw [impl_power] at h
  refine Ct.of (c := _) mixed func90 ⟨rfl, rfl, rfl⟩ ?_ rfl
  conv => whnf
  refine splD (fun g3 => ?_) (fun g3 => ?_)
  · replace h := iteP h g3
    conv => whnf
    cases h
    exact Done.of [none] [] rfl rfl ⟨⟨rfl, rfl⟩, ⟨rfl, rfl, trivial⟩, ⟨⟨rfl, rfl⟩, trivial⟩, trivial⟩
  · replace h := iteN h g3
    conv => whnf
    cases h
    exact Done.of [some 704] [] rfl rfl ⟨⟨rfl, rfl⟩, ⟨rfl, ⟨rfl, rfl, rows_same⟩, trivial⟩, ⟨⟨(by first | rfl | exact List.length_append.symm | (simp; done) | omega), rfl⟩, trivial⟩, trivial⟩

def slices_Clone  (a1 : Rw) : Option Rw :=
  (nilD 2 a1 (some ([] : Rw)) (if a1.length ≤ cap ∧ (∀ cs ∈ a1, cs.length = 2) then some ([] ++ a1 : Rw) else none))
set_option maxHeartbeats 4000000 in
set_option maxRecDepth 100000 in
theorem slices_Clone_ct  {a1 : Rw} {r : Rw} (h : slices_Clone a1 = some r) : Ct prog 204 [.d (D.sl a1)] (⟨[], []⟩) (.os 8 r.length) (⟨[], [(104, false, r)]⟩) := by
  rw [slices_Clone] at h
  refine Ct.of (c := _) mixed func204 ⟨rfl, rfl, rfl⟩ ?_ rfl
  conv => whnf
  obtain ⟨h2, h3⟩ := nilD_ex h
  refine NilCmp.mk ⟨fun e4 => ?_, ?_⟩
  · replace h := h2 e4
    conv => whnf
    cases h
    exact Done.of [none] [] rfl rfl ⟨⟨rfl, rfl⟩, ⟨rfl, rfl, trivial⟩, ⟨rfl, rfl⟩, trivial⟩
  · replace h := h3
    conv => whnf
    refine Take.all (by first | rfl | exact List.length_append.symm | (simp; done) | omega) ?_
    conv => whnf
    obtain ⟨g5, h⟩ := req_ex h
    refine Req.of (room0 (b := 32) (by decide) g5.1 g5.2) ?_
    conv => whnf
    cases h
    exact Done.of [some 448] [] rfl rfl ⟨⟨rfl, rfl⟩, ⟨rfl, ⟨rfl, rfl, rows_same⟩, trivial⟩, ⟨(by first | rfl | exact List.length_append.symm | (simp; done) | omega), rfl⟩, trivial⟩

def impl_fundamental_p7 (o42 : Rw) : Option Rw :=
  some o42
set_option maxHeartbeats 4000000 in
set_option maxRecDepth 100000 in
theorem impl_fundamental_p7_ct {o42 : Rw} {r : Rw} (h : impl_fundamental_p7 o42 = some r) : X prog 0 (tlF f153 7) (mk 54 [(4, .ptr 256 0)] [(256, .box 26 [.d (D.sl o42)])]) (finK prog f153 0 (.agg [.d (D.sl r)]) (⟨[], []⟩)) := by
  rw [impl_fundamental_p7] at h
  conv => whnf
  cases h
  exact Done.of [] [] rfl rfl ⟨⟨rfl, rfl⟩, ⟨rfl, trivial⟩, ⟨rfl, trivial⟩, trivial⟩
def impl_fundamental_p6 (k : Nat) (a2 : Int) (o24 : Rw) (o25 : Int) (o26 : Rw) : Option Rw :=
  ((impl_before k o24).bind fun y43 => ((impl_power y43 a2).bind fun y45 => ((impl_plus k o26 y45).bind fun y47 => (impl_fundamental_p7 y47))))
set_option maxHeartbeats 4000000 in
set_option maxRecDepth 100000 in
theorem impl_fundamental_p6_ct {k : Nat} {a2 : Int} {o24 : Rw} {o25 : Int} {o26 : Rw} {r : Rw} (h : impl_fundamental_p6 k a2 o24 o25 o26 = some r) : X prog 0 (tlF f153 6) (mk 54 [(1, .d (D.int .i64 a2)), (4, .ptr 256 0), (6, .ptr 384 0), (7, .ptr 448 0)] [(256, .box 26 [.es]), (384, .box 104 [.d (D.sl o24), .d (D.int .i64 o25)]), (448, .box 26 [.os 1094000 o26.length]), (1094000, .arr 104 false o26)]) (finK prog f153 0 (.agg [.d (D.sl r)]) (⟨[], []⟩)) := by
  rw [impl_fundamental_p6] at h
  conv => whnf
  obtain ⟨y43, e44, h⟩ := bind_ex h
  refine CallOk.of (impl_before_ct e44) ?_
  conv => whnf
  obtain ⟨y45, e46, h⟩ := bind_ex h
  refine CallOk.of (impl_power_ct e46) ?_
  conv => whnf
  refine Take.all (rfl) ?_
  conv => whnf
  refine Take.all (rfl) ?_
  conv => whnf
  obtain ⟨y47, e48, h⟩ := bind_ex h
  refine CallOk.of (impl_plus_ct e48) ?_
  conv => whnf
  exact CutK.piece (impl_fundamental_p7_ct  h) [some 256] [] ⟨⟨rfl, rfl⟩, ⟨rfl, ⟨rfl, rfl, trivial⟩, trivial⟩, ⟨rfl, rfl⟩, trivial⟩
def impl_fundamental_p4 (k : Nat) (rec_impl_fundamental : Rw → Int → Option Rw) (a2 : Int) (o10 : Rw) (o11 : Int) (o12 : Rw) : Option Rw :=
  (if (1 : Int) < o11 then (if o12.length + 1 ≤ cap then ((impl_isLimit o10).bind fun y51 => (if y51 = true then ((rec_impl_fundamental o10 a2).bind fun y54 => ((impl_power y54 1).bind fun y56 => ((impl_plus k (o12 ++ ([[D.sl o10, D.int .i64 (IntKind.i64.wrap (o11 - 1))]])) y56).bind fun y58 => some y58))) else (impl_fundamental_p6 k a2 o10 o11 (o12 ++ ([[D.sl o10, D.int .i64 (IntKind.i64.wrap (o11 - 1))]]))))) else none) else ((impl_isLimit o10).bind fun y60 => (if y60 = true then ((rec_impl_fundamental o10 a2).bind fun y63 => ((impl_power y63 1).bind fun y65 => ((impl_plus k o12 y65).bind fun y67 => some y67))) else (impl_fundamental_p6 k a2 o10 o11 o12))))
set_option maxHeartbeats 4000000 in
set_option maxRecDepth 100000 in
theorem impl_fundamental_p4_ct {k : Nat} {rec_impl_fundamental : Rw → Int → Option Rw} (hrec_impl_fundamental : ∀ (a1 : Rw) (a2 : Int) (r : Rw), rec_impl_fundamental a1 a2 = some r → Ct prog 153 [.agg [.d (D.sl a1)], .d (D.int .i64 a2)] (⟨[], []⟩) (.agg [.d (D.sl r)]) (⟨[], []⟩)) {a2 : Int} {o10 : Rw} {o11 : Int} {o12 : Rw} {r : Rw} (h : impl_fundamental_p4 k rec_impl_fundamental a2 o10 o11 o12 = some r) : X prog 0 (tlF f153 4) (mk 54 [(1, .d (D.int .i64 a2)), (4, .ptr 256 0), (6, .ptr 384 0), (7, .ptr 448 0)] [(256, .box 26 [.es]), (384, .box 104 [.d (D.sl o10), .d (D.int .i64 o11)]), (448, .box 26 [.os 1084000 o12.length]), (1084000, .arr 104 false o12)]) (finK prog f153 0 (.agg [.d (D.sl r)]) (⟨[], []⟩)) := by
  rw [impl_fundamental_p4] at h
  conv => whnf
  refine splD (fun g49 => ?_) (fun g49 => ?_)
  · replace h := iteP h g49
    conv => whnf
    refine Take.all (rfl) ?_
    conv => whnf
    refine Take.all (by first | rfl | exact List.length_append.symm | (simp; done) | omega) ?_
    conv => whnf
    obtain ⟨g50, h⟩ := req_ex h
    refine Req.of (room (b := 32) (by decide) g50 (wide1 rfl wide0)) ?_
    conv => whnf
    obtain ⟨y51, e52, h⟩ := bind_ex h
    refine CallOk.of (impl_isLimit_ct e52) ?_
    conv => whnf
    refine spl (fun g53 => ?_) (fun g53 => ?_)
    · replace h := iteT h g53
      conv => whnf
      refine CutK.norm [1, 4, 6, 7, 39] [256, 384, 448, 2240] ?_
      conv => whnf
      obtain ⟨y54, e55, h⟩ := bind_ex h
      refine CallOk.of (hrec_impl_fundamental _ _ _ e55) ?_
      conv => whnf
      obtain ⟨y56, e57, h⟩ := bind_ex h
      refine CallOk.of (impl_power_ct e57) ?_
      conv => whnf
      refine Take.all (by first | rfl | exact List.length_append.symm | (simp; done) | omega) ?_
      conv => whnf
      refine Take.all (rfl) ?_
      conv => whnf
      obtain ⟨y58, e59, h⟩ := bind_ex h
      refine CallOk.of (impl_plus_ct e59) ?_
      conv => whnf
      refine CutK.norm [4] [256] ?_
      conv => whnf
      cases h
      exact Done.of [] [] rfl rfl ⟨⟨rfl, rfl⟩, ⟨rfl, trivial⟩, ⟨rfl, trivial⟩, trivial⟩
    · replace h := iteF h g53
      conv => whnf
      refine CutK.norm [1, 4, 6, 7, 39] [256, 384, 448, 2240] ?_
      conv => whnf
      exact CutK.piece (impl_fundamental_p6_ct  h) [some 256, some 384, some 448, some 2240] [] ⟨⟨rfl, rfl⟩, ⟨rfl, ⟨rfl, trivial, trivial⟩, ⟨rfl, rfl, rfl, trivial⟩, ⟨rfl, ⟨(by first | rfl | exact List.length_append.symm | (simp; done) | omega), rfl⟩, trivial⟩, ⟨rfl, rfl, rows_same⟩, trivial⟩, rfl, ⟨rfl, rfl⟩, ⟨rfl, rfl⟩, ⟨rfl, rfl⟩, trivial⟩
  · replace h := iteN h g49
    conv => whnf
    obtain ⟨y60, e61, h⟩ := bind_ex h
    refine CallOk.of (impl_isLimit_ct e61) ?_
    conv => whnf
    refine spl (fun g62 => ?_) (fun g62 => ?_)
    · replace h := iteT h g62
      conv => whnf
      refine CutK.norm [1, 4, 6, 7, 39] [256, 384, 448, 1084000] ?_
      conv => whnf
      obtain ⟨y63, e64, h⟩ := bind_ex h
      refine CallOk.of (hrec_impl_fundamental _ _ _ e64) ?_
      conv => whnf
      obtain ⟨y65, e66, h⟩ := bind_ex h
      refine CallOk.of (impl_power_ct e66) ?_
      conv => whnf
      refine Take.all (rfl) ?_
      conv => whnf
      refine Take.all (rfl) ?_
      conv => whnf
      obtain ⟨y67, e68, h⟩ := bind_ex h
      refine CallOk.of (impl_plus_ct e68) ?_
      conv => whnf
      refine CutK.norm [4] [256] ?_
      conv => whnf
      cases h
      exact Done.of [] [] rfl rfl ⟨⟨rfl, rfl⟩, ⟨rfl, trivial⟩, ⟨rfl, trivial⟩, trivial⟩
    · replace h := iteF h g62
      conv => whnf
      refine CutK.norm [1, 4, 6, 7, 39] [256, 384, 448, 1084000] ?_
      conv => whnf
      exact CutK.piece (impl_fundamental_p6_ct  h) [some 256, some 384, some 448, some 1084000] [] ⟨⟨rfl, rfl⟩, ⟨rfl, ⟨rfl, trivial, trivial⟩, ⟨rfl, rfl, rfl, trivial⟩, ⟨rfl, ⟨rfl, rfl⟩, trivial⟩, ⟨rfl, rfl, rows_same⟩, trivial⟩, rfl, ⟨rfl, rfl⟩, ⟨rfl, rfl⟩, ⟨rfl, rfl⟩, trivial⟩
def impl_fundamental_b (k : Nat) (rec_impl_fundamental : Rw → Int → Option Rw) (a1 : Rw) (a2 : Int) : Option Rw :=
  (row_si a1 (IntKind.i64.wrap ((a1.length : Int) - 1)) fun x69 x70 => (if 0 ≤ (IntKind.i64.wrap ((a1.length : Int) - 1)) ∧ (IntKind.i64.wrap ((a1.length : Int) - 1)) ≤ (a1.length : Int) ∧ (∀ cs ∈ a1, cs.length = 2) then ((slices_Clone (a1.take (IntKind.i64.wrap ((a1.length : Int) - 1) : Int).toNat)).bind fun y74 => (impl_fundamental_p4 k rec_impl_fundamental a2 x69 x70 y74)) else none))
set_option maxHeartbeats 4000000 in
set_option maxRecDepth 100000 in
theorem impl_fundamental_b_ct {k : Nat} {rec_impl_fundamental : Rw → Int → Option Rw} (hrec_impl_fundamental : ∀ (a1 : Rw) (a2 : Int) (r : Rw), rec_impl_fundamental a1 a2 = some r → Ct prog 153 [.agg [.d (D.sl a1)], .d (D.int .i64 a2)] (⟨[], []⟩) (.agg [.d (D.sl r)]) (⟨[], []⟩)) {a1 : Rw} {a2 : Int} {r : Rw} (h : impl_fundamental_b k rec_impl_fundamental a1 a2 = some r) : Ct prog 153 [.agg [.d (D.sl a1)], .d (D.int .i64 a2)] (⟨[], []⟩) (.agg [.d (D.sl r)]) (⟨[], []⟩) := by
  rw [impl_fundamental_b] at h
  refine Ct.of (c := _) mixed func153 ⟨rfl, rfl, rfl⟩ ?_ rfl
  conv => whnf
  obtain ⟨g72, x69, x70, e71, h⟩ := row_si_ex h
  refine Req.of g72 ?_
  refine Row.of _ e71 ?_
  conv => whnf
  obtain ⟨g73, h⟩ := req_ex h
  refine Req.of g73 ?_
  conv => whnf
  obtain ⟨y74, e75, h⟩ := bind_ex h
  refine CallOk.of (slices_Clone_ct e75) ?_
  conv => whnf
  exact CutK.piece (impl_fundamental_p4_ct hrec_impl_fundamental h) [some 256, some 384, some 448, some 1344] [] ⟨⟨rfl, rfl⟩, ⟨rfl, ⟨rfl, trivial, trivial⟩, ⟨rfl, rfl, rfl, trivial⟩, ⟨rfl, ⟨rfl, rfl⟩, trivial⟩, ⟨rfl, rfl, rows_same⟩, trivial⟩, rfl, ⟨rfl, rfl⟩, ⟨rfl, rfl⟩, ⟨rfl, rfl⟩, trivial⟩
def impl_fundamental : Nat → Rw → Int → Option Rw
  | 0, _, _ => none
  | k + 1, a1, a2 => impl_fundamental_b k (impl_fundamental k) a1 a2
theorem impl_fundamental_ct' : ∀ (k : Nat) (a1 : Rw) (a2 : Int) (r : Rw), impl_fundamental k a1 a2 = some r → Ct prog 153 [.agg [.d (D.sl a1)], .d (D.int .i64 a2)] (⟨[], []⟩) (.agg [.d (D.sl r)]) (⟨[], []⟩)
  | 0, _, _, _, h => by rw [impl_fundamental] at h; cases h
  | k + 1, _, _, _, h => by rw [impl_fundamental] at h; exact impl_fundamental_b_ct (impl_fundamental_ct' k) h
theorem impl_fundamental_ct {k : Nat} {a1 : Rw} {a2 : Int} {r : Rw} (h : impl_fundamental k a1 a2 = some r) : Ct prog 153 [.agg [.d (D.sl a1)], .d (D.int .i64 a2)] (⟨[], []⟩) (.agg [.d (D.sl r)]) (⟨[], []⟩) := impl_fundamental_ct' k _ _ _ h

def impl_cloneOrdinal_l0 (rec_impl_cloneOrdinal : Rw → Option Rw) (a1 : Rw) (K0 : Rw → Option Rw) : Rw → Rw → Option Rw
  | [], v10 => (K0 v10)
  | cs :: rest, v10 => (cell_si cs fun x28 x29 => ((rec_impl_cloneOrdinal x28).bind fun y31 => (if v10.length + 1 ≤ cap then (impl_cloneOrdinal_l0 rec_impl_cloneOrdinal a1 K0 rest (v10 ++ ([[D.sl y31, D.int .i64 x29]]))) else none)))
set_option maxRecDepth 100000 in
theorem impl_cloneOrdinal_l0_ct {rec_impl_cloneOrdinal : Rw → Option Rw} {a1 : Rw} {K0 : Rw → Option Rw} (hrec_impl_cloneOrdinal : ∀ (a1 : Rw) (r : Rw), rec_impl_cloneOrdinal a1 = some r → Ct prog 159 [.agg [.d (D.sl a1)]] (⟨[], []⟩) (.agg [.os 8 r.length]) (⟨[], [(104, true, r)]⟩)) {r : Rw} (hx : a1.length ≤ cap) : ∀ (rest : Rw) (v9n : Nat) (v10 : Rw), a1.drop v9n = rest → impl_cloneOrdinal_l0 rec_impl_cloneOrdinal a1 K0 rest v10 = some r → LoopOk prog 0 (lp f159 0) (mk 27 [(2, .ptr 128 0), (3, .ptr 192 0), (8, .d (D.sl a1)), (9, .d (D.int .i64 (a1.length : Int))), (10, .d (D.int .i64 (v9n : Int)))] [(128, .box 26 [.es]), (192, .box 26 [.os 64000 v10.length]), (64000, .arr 104 true v10)]) (LoopEnd prog f159 0 27 (.agg [.os 8 r.length]) (⟨[], [(104, true, r)]⟩) (fun i ts os => (i = 0 ∧ ∃ v19 : Rw, K0 v19 = some r ∧ ts = [(2, .ptr 128 0), (3, .ptr 192 0)] ∧ os = [(128, .box 26 [.es]), (192, .box 26 [.os 67001 v19.length]), (67001, .arr 104 true v19)])))
  | [], v9n, v10, hd, h => by
      rw [impl_cloneOrdinal_l0] at h
      have hn := drop_nil hd
      refine LoopOk.step ?_
      conv => whnf
      refine splD (fun g => absurd g hn) (fun _ => ?_)
      conv => whnf
      exact ⟨_, _, [some 128, some 192, some 64000], [], ⟨rfl, _, h, rfl, rfl⟩, ⟨⟨rfl, rfl⟩, ⟨rfl, ⟨rfl, trivial, trivial⟩, ⟨rfl, ⟨rfl, rfl⟩, trivial⟩, ⟨rfl, rfl, rows_same⟩, trivial⟩, ⟨rfl, rfl⟩, ⟨rfl, rfl⟩, trivial⟩⟩
  | cs :: rest, v9n, v10, hd, h => by
      rw [impl_cloneOrdinal_l0] at h
      obtain ⟨hrow, hd1, hlt⟩ := drop_cons hd
      refine LoopOk.step ?_
      conv => whnf
      refine splD (fun _ => ?_) (fun g => absurd hlt g)
      conv => whnf
      obtain ⟨x28, x29, e30, h⟩ := cell_si_ex h
      rw [e30] at hrow
      refine Req.of (Int.natCast_nonneg _) ?_
      refine Row.of _ hrow ?_
      conv => whnf
      obtain ⟨y31, e32, h⟩ := bind_ex h
      refine CallOk.of (hrec_impl_cloneOrdinal _ _ e32) ?_
      conv => whnf
      refine Take.all (rfl) ?_
      conv => whnf
      refine Take.all (rfl) ?_
      conv => whnf
      refine Take.all (by first | rfl | exact List.length_append.symm | (simp; done) | omega) ?_
      conv => whnf
      obtain ⟨g33, h⟩ := req_ex h
      refine Req.of (room (b := 32) (by decide) g33 (wide1 rfl wide0)) ?_
      conv => whnf
      refine CutK.go ?_
      conv => whnf
      exact LoopOk.back (impl_cloneOrdinal_l0_ct hrec_impl_cloneOrdinal hx rest (v9n + 1) _ hd1 h) [some 128, some 192, some 1472] [] ⟨⟨rfl, rfl⟩, ⟨rfl, ⟨rfl, trivial, trivial⟩, ⟨rfl, ⟨(by first | rfl | exact List.length_append.symm | (simp; done) | omega), rfl⟩, trivial⟩, ⟨rfl, rfl, rows_same⟩, trivial⟩, ⟨rfl, rfl⟩, ⟨rfl, rfl⟩, rfl, rfl, i64eq (wrap_up hlt hx), trivial⟩
def impl_cloneOrdinal_b (rec_impl_cloneOrdinal : Rw → Option Rw) (a1 : Rw) : Option Rw :=
  (if a1.length ≤ cap then (impl_cloneOrdinal_l0 rec_impl_cloneOrdinal a1 (fun (v19 : Rw) => some v19) a1 ([] : Rw)) else none)
set_option maxHeartbeats 4000000 in
set_option maxRecDepth 100000 in
theorem impl_cloneOrdinal_b_ct {rec_impl_cloneOrdinal : Rw → Option Rw} (hrec_impl_cloneOrdinal : ∀ (a1 : Rw) (r : Rw), rec_impl_cloneOrdinal a1 = some r → Ct prog 159 [.agg [.d (D.sl a1)]] (⟨[], []⟩) (.agg [.os 8 r.length]) (⟨[], [(104, true, r)]⟩)) {a1 : Rw} {r : Rw} (h : impl_cloneOrdinal_b rec_impl_cloneOrdinal a1 = some r) : Ct prog 159 [.agg [.d (D.sl a1)]] (⟨[], []⟩) (.agg [.os 8 r.length]) (⟨[], [(104, true, r)]⟩) := by
  rw [impl_cloneOrdinal_b] at h
  refine Ct.of (c := _) mixed func159 ⟨rfl, rfl, rfl⟩ ?_ rfl
  conv => whnf
  obtain ⟨g34, h⟩ := req_ex h
  refine LoopOk.into (impl_cloneOrdinal_l0_ct hrec_impl_cloneOrdinal g34 _ _ _ rfl h) [some 128, some 192, none] [] ⟨⟨rfl, rfl⟩, ⟨rfl, ⟨rfl, trivial, trivial⟩, ⟨rfl, ⟨rfl, rfl⟩, trivial⟩, rfl, trivial⟩, ⟨rfl, rfl⟩, ⟨rfl, rfl⟩, rfl, rfl, rfl, trivial⟩ ?_ (fun _ hs => hs)
  rintro i ts os ⟨rfl, v19, h, rfl, rfl⟩
  conv => whnf
  refine CutK.go ?_
  conv => whnf
  cases h
  exact Done.of [some 67001] [] rfl rfl ⟨⟨rfl, rfl⟩, ⟨rfl, ⟨rfl, rfl, rows_same⟩, trivial⟩, ⟨⟨rfl, rfl⟩, trivial⟩, trivial⟩
def impl_cloneOrdinal : Nat → Rw → Option Rw
  | 0, _ => none
  | k + 1, a1 => impl_cloneOrdinal_b (impl_cloneOrdinal k) a1
theorem impl_cloneOrdinal_ct' : ∀ (k : Nat) (a1 : Rw) (r : Rw), impl_cloneOrdinal k a1 = some r → Ct prog 159 [.agg [.d (D.sl a1)]] (⟨[], []⟩) (.agg [.os 8 r.length]) (⟨[], [(104, true, r)]⟩)
  | 0, _, _, h => by rw [impl_cloneOrdinal] at h; cases h
  | k + 1, _, _, h => by rw [impl_cloneOrdinal] at h; exact impl_cloneOrdinal_b_ct (impl_cloneOrdinal_ct' k) h
theorem impl_cloneOrdinal_ct {k : Nat} {a1 : Rw} {r : Rw} (h : impl_cloneOrdinal k a1 = some r) : Ct prog 159 [.agg [.d (D.sl a1)]] (⟨[], []⟩) (.agg [.os 8 r.length]) (⟨[], [(104, true, r)]⟩) := impl_cloneOrdinal_ct' k _ _ h

def impl_told (k : Nat) (a1 : Rw) : Option (Rw × Bool) :=
  ((impl_IsOrdinal k a1).bind fun y2 => (if y2 = true then ((impl_cloneOrdinal k a1).bind fun y5 => some (y5, true)) else some (([] : Rw), false)))
set_option maxHeartbeats 4000000 in
set_option maxRecDepth 100000 in
theorem impl_told_ct {k : Nat} {a1 : Rw} {r : Rw × Bool} (h : impl_told k a1 = some r) : Ct prog 79 [.agg [.d (D.sl a1)]] (⟨[], []⟩) (.tup [.agg [.os 8 r.1.length], .d (D.bool r.2)]) (⟨[], [(104, true, r.1)]⟩) := by
  rw [impl_told] at h
  refine Ct.of (c := _) mixed func79 ⟨rfl, rfl, rfl⟩ ?_ rfl
  conv => whnf
  obtain ⟨y2, e3, h⟩ := bind_ex h
  refine CallOk.of (impl_IsOrdinal_ct e3) ?_
  conv => whnf
  refine spl (fun g4 => ?_) (fun g4 => ?_)
  · replace h := iteT h g4
    conv => whnf
    refine CutK.go ?_
    conv => whnf
    refine CutK.go ?_
    conv => whnf
    obtain ⟨y5, e6, h⟩ := bind_ex h
    refine CallOk.of (impl_cloneOrdinal_ct e6) ?_
    conv => whnf
    refine CutK.go ?_
    conv => whnf
    cases h
    exact Done.of [some 576] [] rfl rfl ⟨⟨rfl, rfl⟩, ⟨rfl, ⟨rfl, rfl, rows_same⟩, trivial⟩, ⟨⟨⟨rfl, rfl⟩, trivial⟩, rfl, trivial⟩, trivial⟩
  · replace h := iteF h g4
    conv => whnf
    refine CutK.go ?_
    conv => whnf
    cases h
    exact Done.of [none] [] rfl rfl ⟨⟨rfl, rfl⟩, ⟨rfl, rfl, trivial⟩, ⟨⟨⟨rfl, rfl⟩, trivial⟩, rfl, trivial⟩, trivial⟩

def impl_DescendOnce (k : Nat) (a1 : Rw) (a2 : Int) : Option (Rw × Int × Bool) :=
  ((impl_IsOrdinal k a1).bind fun y3 => (if y3 = true then ((impl_isZero a1).bind fun y6 => (if y6 = true then some (([] : Rw), 0, false) else ((impl_in a2 0 1000).bind fun y9 => (if y9 = true then ((impl_isLimit a1).bind fun y12 => (if y12 = true then ((impl_fundamental k a1 a2).bind fun y15 => ((impl_told k y15).bind fun y17 => (if y17.2 = true then some (y17.1, a2, true) else some (([] : Rw), 0, false)))) else ((impl_before k a1).bind fun y20 => ((impl_told k y20).bind fun y22 => (if y22.2 = true then some (y22.1, IntKind.i64.wrap (a2 + 1), true) else some (([] : Rw), 0, false)))))) else some (([] : Rw), 0, false))))) else some (([] : Rw), 0, false)))
set_option maxHeartbeats 4000000 in
set_option maxRecDepth 100000 in
theorem impl_DescendOnce_ct {k : Nat} {a1 : Rw} {a2 : Int} {r : Rw × Int × Bool} (h : impl_DescendOnce k a1 a2 = some r) : Ct prog 73 [.agg [.d (D.sl a1)], .d (D.int .i64 a2)] (⟨[], []⟩) (.tup [.agg [.os 8 r.1.length], .d (D.int .i64 r.2.1), .d (D.bool r.2.2)]) (⟨[], [(104, true, r.1)]⟩) := by
  rw [impl_DescendOnce] at h
  refine Ct.of (c := _) mixed func73 ⟨rfl, rfl, rfl⟩ ?_ rfl
  conv => whnf
  obtain ⟨y3, e4, h⟩ := bind_ex h
  refine CallOk.of (impl_IsOrdinal_ct e4) ?_
  conv => whnf
  refine spl (fun g5 => ?_) (fun g5 => ?_)
  · replace h := iteT h g5
    conv => whnf
    obtain ⟨y6, e7, h⟩ := bind_ex h
    refine CallOk.of (impl_isZero_ct e7) ?_
    conv => whnf
    refine spl (fun g8 => ?_) (fun g8 => ?_)
    · replace h := iteT h g8
      conv => whnf
      refine CutK.norm [1, 2, 4, 22] [128, 256] ?_
      conv => whnf
      cases h
      exact Done.of [none] [] rfl rfl ⟨⟨rfl, rfl⟩, ⟨rfl, rfl, trivial⟩, ⟨⟨⟨rfl, rfl⟩, trivial⟩, rfl, rfl, trivial⟩, trivial⟩
    · replace h := iteF h g8
      conv => whnf
      obtain ⟨y9, e10, h⟩ := bind_ex h
      refine CallOk.of (impl_in_ct e10) ?_
      conv => whnf
      refine spl (fun g11 => ?_) (fun g11 => ?_)
      · replace h := iteT h g11
        conv => whnf
        refine CutK.norm [1, 2, 4, 22] [128, 256] ?_
        conv => whnf
        refine CutK.norm [1, 2, 4] [128, 256] ?_
        conv => whnf
        obtain ⟨y12, e13, h⟩ := bind_ex h
        refine CallOk.of (impl_isLimit_ct e13) ?_
        conv => whnf
        refine spl (fun g14 => ?_) (fun g14 => ?_)
        · replace h := iteT h g14
          conv => whnf
          refine CutK.norm [1, 2, 4, 7, 8, 27] [128, 256, 448] ?_
          conv => whnf
          obtain ⟨y15, e16, h⟩ := bind_ex h
          refine CallOk.of (impl_fundamental_ct e16) ?_
          conv => whnf
          refine CutK.norm [4, 7, 8] [256, 448] ?_
          conv => whnf
          obtain ⟨y17, e18, h⟩ := bind_ex h
          refine CallOk.of (impl_told_ct e18) ?_
          conv => whnf
          refine spl (fun g19 => ?_) (fun g19 => ?_)
          · replace h := iteT h g19
            conv => whnf
            refine CutK.norm [4, 8, 9, 10] [256, 576, 2368] ?_
            conv => whnf
            cases h
            exact Done.of [some 2368] [] rfl rfl ⟨⟨rfl, rfl⟩, ⟨rfl, ⟨rfl, rfl, rows_same⟩, trivial⟩, ⟨⟨⟨rfl, rfl⟩, trivial⟩, rfl, rfl, trivial⟩, trivial⟩
          · replace h := iteF h g19
            conv => whnf
            refine CutK.norm [4, 8, 9, 10] [256, 576, 2368] ?_
            conv => whnf
            cases h
            exact Done.of [none] [] rfl rfl ⟨⟨rfl, rfl⟩, ⟨rfl, rfl, trivial⟩, ⟨⟨⟨rfl, rfl⟩, trivial⟩, rfl, rfl, trivial⟩, trivial⟩
        · replace h := iteF h g14
          conv => whnf
          refine CutK.norm [1, 2, 4, 7, 8, 27] [128, 256, 448] ?_
          conv => whnf
          obtain ⟨y20, e21, h⟩ := bind_ex h
          refine CallOk.of (impl_before_ct e21) ?_
          conv => whnf
          refine CutK.norm [4, 7, 8] [256, 448] ?_
          conv => whnf
          obtain ⟨y22, e23, h⟩ := bind_ex h
          refine CallOk.of (impl_told_ct e23) ?_
          conv => whnf
          refine spl (fun g24 => ?_) (fun g24 => ?_)
          · replace h := iteT h g24
            conv => whnf
            refine CutK.norm [4, 8, 9, 10] [256, 576, 2368] ?_
            conv => whnf
            cases h
            exact Done.of [some 2368] [] rfl rfl ⟨⟨rfl, rfl⟩, ⟨rfl, ⟨rfl, rfl, rows_same⟩, trivial⟩, ⟨⟨⟨rfl, rfl⟩, trivial⟩, rfl, rfl, trivial⟩, trivial⟩
          · replace h := iteF h g24
            conv => whnf
            refine CutK.norm [4, 8, 9, 10] [256, 576, 2368] ?_
            conv => whnf
            cases h
            exact Done.of [none] [] rfl rfl ⟨⟨rfl, rfl⟩, ⟨rfl, rfl, trivial⟩, ⟨⟨⟨rfl, rfl⟩, trivial⟩, rfl, rfl, trivial⟩, trivial⟩
      · replace h := iteF h g11
        conv => whnf
        refine CutK.norm [1, 2, 4, 22] [128, 256] ?_
        conv => whnf
        cases h
        exact Done.of [none] [] rfl rfl ⟨⟨rfl, rfl⟩, ⟨rfl, rfl, trivial⟩, ⟨⟨⟨rfl, rfl⟩, trivial⟩, rfl, rfl, trivial⟩, trivial⟩
  · replace h := iteF h g5
    conv => whnf
    refine CutK.norm [1, 2, 4, 22] [128, 256] ?_
    conv => whnf
    cases h
    exact Done.of [none] [] rfl rfl ⟨⟨rfl, rfl⟩, ⟨rfl, rfl, trivial⟩, ⟨⟨⟨rfl, rfl⟩, trivial⟩, rfl, rfl, trivial⟩, trivial⟩

def impl_HardyValue_p3 (o40 : Int) : Option (Int × Bool) :=
  some (o40, true)
set_option maxHeartbeats 4000000 in
set_option maxRecDepth 100000 in
theorem impl_HardyValue_p3_ct {o40 : Int} {r : Int × Bool} (h : impl_HardyValue_p3 o40 = some r) : X prog 0 (tlF f13 3) (mk 47 [(1, .d (D.int .i64 o40))] []) (finK prog f13 0 (.tup [.d (D.int .i64 r.1), .d (D.bool r.2)]) (⟨[], []⟩)) := by
  rw [impl_HardyValue_p3] at h
  conv => whnf
  cases h
  exact Done.of [] [] rfl rfl ⟨⟨rfl, rfl⟩, ⟨rfl, trivial⟩, ⟨rfl, rfl, trivial⟩, trivial⟩
def impl_HardyValue_l0 (k : Nat) (a3 : Int) (K0 : Int → Option (Int × Bool)) : Nat → Int → Int → Rw → Option (Int × Bool)
  | 0, _, _, _ => none
  | n + 1, v48, v49, v50 => ((impl_isZero v50).bind fun y68 => (if y68 = true then (K0 v48) else ((impl_DescendOnce k v50 v48).bind fun y71 => (if y71.2.2 = true then (if v49 = a3 then some (0, false) else (impl_HardyValue_l0 k a3 K0 n y71.2.1 (IntKind.i64.wrap (v49 + 1)) y71.1)) else some (0, false)))))
set_option maxRecDepth 100000 in
theorem impl_HardyValue_l0_ct {k : Nat} {a3 : Int} {K0 : Int → Option (Int × Bool)} {r : Int × Bool} : ∀ (n : Nat) (v48 : Int) (v49 : Int) (v50 : Rw), impl_HardyValue_l0 k a3 K0 n v48 v49 v50 = some r → LoopOk prog 0 (lp f13 0) (mk 47 [(1, .d (D.int .i64 v48)), (2, .d (D.int .i64 a3)), (3, .ptr 192 0), (8, .d (D.int .i64 v49))] [(192, .box 26 [.d (D.sl v50)])]) (LoopEnd prog f13 0 47 (.tup [.d (D.int .i64 r.1), .d (D.bool r.2)]) (⟨[], []⟩) (fun i ts os => (i = 0 ∧ ∃ v54 : Int, K0 v54 = some r ∧ ts = [(1, .d (D.int .i64 v54))] ∧ os = [])))
  | 0, _, _, _, h => by
      rw [impl_HardyValue_l0] at h; cases h
  | n + 1, v48, v49, v50, h => by
      rw [impl_HardyValue_l0] at h
      refine LoopOk.step ?_
      conv => whnf
      obtain ⟨y68, e69, h⟩ := bind_ex h
      refine CallOk.of (impl_isZero_ct e69) ?_
      conv => whnf
      refine spl (fun g70 => ?_) (fun g70 => ?_)
      · replace h := iteT h g70
        conv => whnf
        refine CutK.norm [1, 2, 3, 8, 27] [192] ?_
        conv => whnf
        exact ⟨_, _, [], [], ⟨rfl, _, h, rfl, rfl⟩, ⟨⟨rfl, rfl⟩, ⟨rfl, trivial⟩, rfl, trivial⟩⟩
      · replace h := iteF h g70
        conv => whnf
        refine CutK.norm [1, 2, 3, 8, 27] [192] ?_
        conv => whnf
        refine CutK.norm [1, 2, 3, 8] [192] ?_
        conv => whnf
        obtain ⟨y71, e72, h⟩ := bind_ex h
        refine CallOk.of (impl_DescendOnce_ct e72) ?_
        conv => whnf
        refine spl (fun g73 => ?_) (fun g73 => ?_)
        · replace h := iteT h g73
          conv => whnf
          refine CutK.norm [2, 3, 8, 9, 10, 11] [192, 576, 2112] ?_
          conv => whnf
          refine splD (fun g74 => ?_) (fun g74 => ?_)
          · replace h := iteP h g74
            conv => whnf
            cases h
            exact Done.of [] [] rfl rfl ⟨⟨rfl, rfl⟩, ⟨rfl, trivial⟩, ⟨rfl, rfl, trivial⟩, trivial⟩
          · replace h := iteN h g74
            conv => whnf
            refine CutK.norm [1, 2, 3, 8] [192, 2112] ?_
            conv => whnf
            exact LoopOk.back (impl_HardyValue_l0_ct  n _ _ _ h) [some 192] [2112] ⟨⟨rfl, rfl⟩, ⟨rfl, ⟨rfl, ⟨rfl, Nat.le_of_eq rfl, eq_take rfl⟩, trivial⟩, trivial⟩, rfl, rfl, ⟨rfl, rfl⟩, rfl, trivial⟩
        · replace h := iteF h g73
          conv => whnf
          refine CutK.norm [2, 3, 8, 9, 10, 11] [192, 576, 2112] ?_
          conv => whnf
          cases h
          exact Done.of [] [] rfl rfl ⟨⟨rfl, rfl⟩, ⟨rfl, trivial⟩, ⟨rfl, rfl, trivial⟩, trivial⟩
def impl_HardyValue_p2 (k : Nat) (a1 : Rw) (a2 : Int) (a3 : Int) : Option (Int × Bool) :=
  (impl_HardyValue_l0 k a3 (fun (v54 : Int) => (impl_HardyValue_p3 v54)) k a2 0 a1)
set_option maxHeartbeats 4000000 in
set_option maxRecDepth 100000 in
theorem impl_HardyValue_p2_ct {k : Nat} {a1 : Rw} {a2 : Int} {a3 : Int} {r : Int × Bool} (h : impl_HardyValue_p2 k a1 a2 a3 = some r) : X prog 0 (tlF f13 2) (mk 47 [(1, .d (D.int .i64 a2)), (2, .d (D.int .i64 a3)), (3, .ptr 192 0)] [(192, .box 26 [.d (D.sl a1)])]) (finK prog f13 0 (.tup [.d (D.int .i64 r.1), .d (D.bool r.2)]) (⟨[], []⟩)) := by
  rw [impl_HardyValue_p2] at h
  conv => whnf
  refine LoopOk.into (impl_HardyValue_l0_ct  _ _ _ _ h) [some 192] [] ⟨⟨rfl, rfl⟩, ⟨rfl, ⟨rfl, rfl, trivial⟩, trivial⟩, rfl, rfl, ⟨rfl, rfl⟩, rfl, trivial⟩ ?_ (fun _ hs => hs)
  rintro i ts os ⟨rfl, v54, h, rfl, rfl⟩
  conv => whnf
  exact CutK.piece (impl_HardyValue_p3_ct  h) [] [] ⟨⟨rfl, rfl⟩, ⟨rfl, trivial⟩, rfl, trivial⟩
def impl_HardyValue (k : Nat) (a1 : Rw) (a2 : Int) (a3 : Int) : Option (Int × Bool) :=
  ((impl_IsOrdinal k a1).bind fun y75 => (if y75 = true then ((impl_in a2 0 1000).bind fun y78 => (if y78 = true then ((impl_in a3 0 200).bind fun y81 => (if y81 = true then (impl_HardyValue_p2 k a1 a2 a3) else some (0, false))) else some (0, false))) else some (0, false)))
set_option maxHeartbeats 4000000 in
set_option maxRecDepth 100000 in
theorem impl_HardyValue_ct {k : Nat} {a1 : Rw} {a2 : Int} {a3 : Int} {r : Int × Bool} (h : impl_HardyValue k a1 a2 a3 = some r) : Ct prog 13 [.agg [.d (D.sl a1)], .d (D.int .i64 a2), .d (D.int .i64 a3)] (⟨[], []⟩) (.tup [.d (D.int .i64 r.1), .d (D.bool r.2)]) (⟨[], []⟩) := by
  rw [impl_HardyValue] at h
  refine Ct.of (c := _) mixed func13 ⟨rfl, rfl, rfl⟩ ?_ rfl
  conv => whnf
  obtain ⟨y75, e76, h⟩ := bind_ex h
  refine CallOk.of (impl_IsOrdinal_ct e76) ?_
  conv => whnf
  refine spl (fun g77 => ?_) (fun g77 => ?_)
  · replace h := iteT h g77
    conv => whnf
    obtain ⟨y78, e79, h⟩ := bind_ex h
    refine CallOk.of (impl_in_ct e79) ?_
    conv => whnf
    refine spl (fun g80 => ?_) (fun g80 => ?_)
    · replace h := iteT h g80
      conv => whnf
      obtain ⟨y81, e82, h⟩ := bind_ex h
      refine CallOk.of (impl_in_ct e82) ?_
      conv => whnf
      refine spl (fun g83 => ?_) (fun g83 => ?_)
      · replace h := iteT h g83
        conv => whnf
        refine CutK.norm [1, 2, 3, 24] [192] ?_
        conv => whnf
        exact CutK.piece (impl_HardyValue_p2_ct  h) [some 192] [] ⟨⟨rfl, rfl⟩, ⟨rfl, ⟨rfl, rfl, trivial⟩, trivial⟩, rfl, rfl, ⟨rfl, rfl⟩, trivial⟩
      · replace h := iteF h g83
        conv => whnf
        refine CutK.norm [1, 2, 3, 24] [192] ?_
        conv => whnf
        cases h
        exact Done.of [] [] rfl rfl ⟨⟨rfl, rfl⟩, ⟨rfl, trivial⟩, ⟨rfl, rfl, trivial⟩, trivial⟩
    · replace h := iteF h g80
      conv => whnf
      refine CutK.norm [1, 2, 3, 24] [192] ?_
      conv => whnf
      cases h
      exact Done.of [] [] rfl rfl ⟨⟨rfl, rfl⟩, ⟨rfl, trivial⟩, ⟨rfl, rfl, trivial⟩, trivial⟩
  · replace h := iteF h g77
    conv => whnf
    refine CutK.norm [1, 2, 3, 24] [192] ?_
    conv => whnf
    cases h
    exact Done.of [] [] rfl rfl ⟨⟨rfl, rfl⟩, ⟨rfl, trivial⟩, ⟨rfl, rfl, trivial⟩, trivial⟩

def laws_qSameOrdinal_p3  : Option Bool :=
  some true
set_option maxHeartbeats 4000000 in
set_option maxRecDepth 100000 in
theorem laws_qSameOrdinal_p3_ct  {r : Bool} (h : laws_qSameOrdinal_p3 = some r) : X prog 0 (tlF f17 3) (mk 49 [] []) (finK prog f17 0 (.d (D.bool r)) (⟨[], []⟩)) := by
  rw [laws_qSameOrdinal_p3] at h
  conv => whnf
  cases h
  exact Done.of [] [] rfl rfl ⟨⟨rfl, rfl⟩, ⟨rfl, trivial⟩, rfl, trivial⟩
def laws_qSameOrdinal_l0 (rec_laws_qSameOrdinal : Rw → Rw → Option Bool) (a1 : Rw) (a2 : Rw) (K0 : Option Bool) : Rw → Nat → Option Bool
  | [], v45n => (K0)
  | cs :: rest, v45n => (cell_si cs fun x59 x60 => (row_si a2 (v45n : Int) fun x62 x63 => (if x60 = x63 then ((rec_laws_qSameOrdinal x59 x62).bind fun y67 => (if y67 = true then (laws_qSameOrdinal_l0 rec_laws_qSameOrdinal a1 a2 K0 rest (v45n + 1)) else some false)) else some false)))
set_option maxRecDepth 100000 in
theorem laws_qSameOrdinal_l0_ct {rec_laws_qSameOrdinal : Rw → Rw → Option Bool} {a1 : Rw} {a2 : Rw} {K0 : Option Bool} (hrec_laws_qSameOrdinal : ∀ (a1 : Rw) (a2 : Rw) (r : Bool), rec_laws_qSameOrdinal a1 a2 = some r → Ct prog 17 [.agg [.d (D.sl a1)], .agg [.d (D.sl a2)]] (⟨[], []⟩) (.d (D.bool r)) (⟨[], []⟩)) {r : Bool} (hx : a1.length ≤ cap) : ∀ (rest : Rw) (v45n : Nat), a1.drop v45n = rest → laws_qSameOrdinal_l0 rec_laws_qSameOrdinal a1 a2 K0 rest v45n = some r → LoopOk prog 0 (lp f17 0) (mk 49 [(2, .ptr 128 0), (3, .ptr 192 0), (15, .d (D.int .i64 (a1.length : Int))), (16, .d (D.int .i64 (v45n : Int)))] [(128, .box 26 [.d (D.sl a1)]), (192, .box 26 [.d (D.sl a2)])]) (LoopEnd prog f17 0 49 (.d (D.bool r)) (⟨[], []⟩) (fun i ts os => (i = 0 ∧ K0 = some r ∧ ts = [] ∧ os = [])))
  | [], v45n, hd, h => by
      rw [laws_qSameOrdinal_l0] at h
      have hn := drop_nil hd
      refine LoopOk.step ?_
      conv => whnf
      refine splD (fun g => absurd g hn) (fun _ => ?_)
      conv => whnf
      exact ⟨_, _, [], [], ⟨rfl, h, rfl, rfl⟩, ⟨⟨rfl, rfl⟩, ⟨rfl, trivial⟩, trivial⟩⟩
  | cs :: rest, v45n, hd, h => by
      rw [laws_qSameOrdinal_l0] at h
      obtain ⟨hrow, hd1, hlt⟩ := drop_cons hd
      refine LoopOk.step ?_
      conv => whnf
      refine splD (fun _ => ?_) (fun g => absurd hlt g)
      conv => whnf
      obtain ⟨x59, x60, e61, h⟩ := cell_si_ex h
      rw [e61] at hrow
      refine Req.of (Int.natCast_nonneg _) ?_
      refine Row.of _ hrow ?_
      conv => whnf
      obtain ⟨g65, x62, x63, e64, h⟩ := row_si_ex h
      refine Req.of g65 ?_
      refine Row.of _ e64 ?_
      conv => whnf
      refine splN (fun g66 => ?_) (fun g66 => ?_)
      · replace h := iteN h g66
        conv => whnf
        refine CutK.norm [2, 3, 15, 16, 47] [128, 192] ?_
        conv => whnf
        cases h
        exact Done.of [] [] rfl rfl ⟨⟨rfl, rfl⟩, ⟨rfl, trivial⟩, rfl, trivial⟩
      · replace h := iteP h g66
        conv => whnf
        refine Req.of (Int.natCast_nonneg _) ?_
        refine Row.of _ hrow ?_
        conv => whnf
        refine Req.of g65 ?_
        refine Row.of _ e64 ?_
        conv => whnf
        obtain ⟨y67, e68, h⟩ := bind_ex h
        refine CallOk.of (hrec_laws_qSameOrdinal _ _ _ e68) ?_
        conv => whnf
        refine spl (fun g69 => ?_) (fun g69 => ?_)
        · replace h := iteT h g69
          conv => whnf
          refine CutK.norm [2, 3, 15, 16, 47] [128, 192] ?_
          conv => whnf
          refine CutK.norm [2, 3, 15, 16] [128, 192] ?_
          conv => whnf
          exact LoopOk.back (laws_qSameOrdinal_l0_ct hrec_laws_qSameOrdinal hx rest (v45n + 1)  hd1 h) [some 128, some 192] [] ⟨⟨rfl, rfl⟩, ⟨rfl, ⟨rfl, rfl, trivial⟩, ⟨rfl, rfl, trivial⟩, trivial⟩, ⟨rfl, rfl⟩, ⟨rfl, rfl⟩, rfl, i64eq (wrap_up hlt hx), trivial⟩
        · replace h := iteF h g69
          conv => whnf
          refine CutK.norm [2, 3, 15, 16, 47] [128, 192] ?_
          conv => whnf
          cases h
          exact Done.of [] [] rfl rfl ⟨⟨rfl, rfl⟩, ⟨rfl, trivial⟩, rfl, trivial⟩
def laws_qSameOrdinal_b (rec_laws_qSameOrdinal : Rw → Rw → Option Bool) (a1 : Rw) (a2 : Rw) : Option Bool :=
  (if (a1.length : Int) = (a2.length : Int) then (if a1.length ≤ cap then (laws_qSameOrdinal_l0 rec_laws_qSameOrdinal a1 a2 (laws_qSameOrdinal_p3) a1 0) else none) else some false)
set_option maxHeartbeats 4000000 in
set_option maxRecDepth 100000 in
theorem laws_qSameOrdinal_b_ct {rec_laws_qSameOrdinal : Rw → Rw → Option Bool} (hrec_laws_qSameOrdinal : ∀ (a1 : Rw) (a2 : Rw) (r : Bool), rec_laws_qSameOrdinal a1 a2 = some r → Ct prog 17 [.agg [.d (D.sl a1)], .agg [.d (D.sl a2)]] (⟨[], []⟩) (.d (D.bool r)) (⟨[], []⟩)) {a1 : Rw} {a2 : Rw} {r : Bool} (h : laws_qSameOrdinal_b rec_laws_qSameOrdinal a1 a2 = some r) : Ct prog 17 [.agg [.d (D.sl a1)], .agg [.d (D.sl a2)]] (⟨[], []⟩) (.d (D.bool r)) (⟨[], []⟩) := by
  rw [laws_qSameOrdinal_b] at h
  refine Ct.of (c := _) mixed func17 ⟨rfl, rfl, rfl⟩ ?_ rfl
  conv => whnf
  refine splN (fun g31 => ?_) (fun g31 => ?_)
  · replace h := iteN h g31
    conv => whnf
    cases h
    exact Done.of [] [] rfl rfl ⟨⟨rfl, rfl⟩, ⟨rfl, trivial⟩, rfl, trivial⟩
  · replace h := iteP h g31
    conv => whnf
    obtain ⟨g70, h⟩ := req_ex h
    refine LoopOk.into (laws_qSameOrdinal_l0_ct hrec_laws_qSameOrdinal g70 _ _  rfl h) [some 128, some 192] [] ⟨⟨rfl, rfl⟩, ⟨rfl, ⟨rfl, rfl, trivial⟩, ⟨rfl, rfl, trivial⟩, trivial⟩, ⟨rfl, rfl⟩, ⟨rfl, rfl⟩, rfl, rfl, trivial⟩ ?_ (fun _ hs => hs)
    rintro i ts os ⟨rfl, h, rfl, rfl⟩
    conv => whnf
    exact CutK.piece (laws_qSameOrdinal_p3_ct  h) [] [] ⟨⟨rfl, rfl⟩, ⟨rfl, trivial⟩, trivial⟩
def laws_qSameOrdinal : Nat → Rw → Rw → Option Bool
  | 0, _, _ => none
  | k + 1, a1, a2 => laws_qSameOrdinal_b (laws_qSameOrdinal k) a1 a2
theorem laws_qSameOrdinal_ct' : ∀ (k : Nat) (a1 : Rw) (a2 : Rw) (r : Bool), laws_qSameOrdinal k a1 a2 = some r → Ct prog 17 [.agg [.d (D.sl a1)], .agg [.d (D.sl a2)]] (⟨[], []⟩) (.d (D.bool r)) (⟨[], []⟩)
  | 0, _, _, _, h => by rw [laws_qSameOrdinal] at h; cases h
  | k + 1, _, _, _, h => by rw [laws_qSameOrdinal] at h; exact laws_qSameOrdinal_b_ct (laws_qSameOrdinal_ct' k) h
theorem laws_qSameOrdinal_ct {k : Nat} {a1 : Rw} {a2 : Rw} {r : Bool} (h : laws_qSameOrdinal k a1 a2 = some r) : Ct prog 17 [.agg [.d (D.sl a1)], .agg [.d (D.sl a2)]] (⟨[], []⟩) (.d (D.bool r)) (⟨[], []⟩) := laws_qSameOrdinal_ct' k _ _ _ h

def impl_both (k : Nat) (a1 : Rw) (a2 : Rw) : Option Bool :=
  ((impl_IsOrdinal k a1).bind fun y3 => (if y3 = true then ((impl_IsOrdinal k a2).bind fun y6 => (if y6 = true then some true else some false)) else some false))
set_option maxHeartbeats 4000000 in
set_option maxRecDepth 100000 in
theorem impl_both_ct {k : Nat} {a1 : Rw} {a2 : Rw} {r : Bool} (h : impl_both k a1 a2 = some r) : Ct prog 78 [.agg [.d (D.sl a1)], .agg [.d (D.sl a2)]] (⟨[], []⟩) (.d (D.bool r)) (⟨[], []⟩) := by
  rw [impl_both] at h
  refine Ct.of (c := _) mixed func78 ⟨rfl, rfl, rfl⟩ ?_ rfl
  conv => whnf
  obtain ⟨y3, e4, h⟩ := bind_ex h
  refine CallOk.of (impl_IsOrdinal_ct e4) ?_
  conv => whnf
  refine spl (fun g5 => ?_) (fun g5 => ?_)
  · replace h := iteT h g5
    conv => whnf
    obtain ⟨y6, e7, h⟩ := bind_ex h
    refine CallOk.of (impl_IsOrdinal_ct e7) ?_
    conv => whnf
    refine spl (fun g8 => ?_) (fun g8 => ?_)
    · replace h := iteT h g8
      conv => whnf
      refine CutK.go ?_
      conv => whnf
      cases h
      exact Done.of [] [] rfl rfl ⟨⟨rfl, rfl⟩, ⟨rfl, trivial⟩, rfl, trivial⟩
    · replace h := iteF h g8
      conv => whnf
      refine CutK.go ?_
      conv => whnf
      cases h
      exact Done.of [] [] rfl rfl ⟨⟨rfl, rfl⟩, ⟨rfl, trivial⟩, rfl, trivial⟩
  · replace h := iteF h g5
    conv => whnf
    refine CutK.go ?_
    conv => whnf
    cases h
    exact Done.of [] [] rfl rfl ⟨⟨rfl, rfl⟩, ⟨rfl, trivial⟩, rfl, trivial⟩

def impl_naturalSum_p4 (o163 : Rw) : Option Rw :=
  some o163
set_option maxHeartbeats 4000000 in
set_option maxRecDepth 100000 in
theorem impl_naturalSum_p4_ct {o163 : Rw} {r : Rw} (h : impl_naturalSum_p4 o163 = some r) : X prog 0 (tlF f81 4) (mk 85 [(4, .ptr 256 0), (5, .ptr 320 0)] [(256, .box 26 [.es]), (320, .box 26 [.os 1084000 o163.length]), (1084000, .arr 104 false o163)]) (finK prog f81 0 (.agg [.os 8 r.length]) (⟨[], [(104, false, r)]⟩)) := by
  rw [impl_naturalSum_p4] at h
  conv => whnf
  cases h
  exact Done.of [some 1084000] [] rfl rfl ⟨⟨rfl, rfl⟩, ⟨rfl, ⟨rfl, rfl, rows_same⟩, trivial⟩, ⟨⟨rfl, rfl⟩, trivial⟩, trivial⟩
def impl_naturalSum_l0 (k : Nat) (a1 : Rw) (a2 : Rw) (K0 : Rw → Option Rw) : Nat → Int → Rw → Int → Option Rw
  | 0, _, _, _ => none
  | n + 1, v170, v171, v185 => (if v170 < (a1.length : Int) then (if v185 = (a2.length : Int) then (row_si a1 v170 fun x326 x327 => (if v171.length + 1 ≤ cap then (impl_naturalSum_l0 k a1 a2 K0 n (IntKind.i64.wrap (v170 + 1)) (v171 ++ ([[D.sl x326, D.int .i64 x327]])) v185) else none)) else (if v170 = (a1.length : Int) then (row_si a2 v185 fun x332 x333 => (if v171.length + 1 ≤ cap then (impl_naturalSum_l0 k a1 a2 K0 n v170 (v171 ++ ([[D.sl x332, D.int .i64 (IntKind.i64.wrap (0 + x333))]])) (IntKind.i64.wrap (v185 + 1))) else none)) else (row_si a1 v170 fun x337 x338 => (row_si a2 v185 fun x341 x342 => ((impl_cmp k x337 x341).bind fun y345 => (if (0 : Int) ≤ y345 then (if y345 ≤ (0 : Int) then (if v171.length + 1 ≤ cap then (impl_naturalSum_l0 k a1 a2 K0 n (IntKind.i64.wrap (v170 + 1)) (v171 ++ ([[D.sl x341, D.int .i64 (IntKind.i64.wrap (x338 + x342))]])) (IntKind.i64.wrap (v185 + 1))) else none) else (if v171.length + 1 ≤ cap then (impl_naturalSum_l0 k a1 a2 K0 n (IntKind.i64.wrap (v170 + 1)) (v171 ++ ([[D.sl x337, D.int .i64 x338]])) v185) else none)) else (if y345 ≤ (0 : Int) then (if v171.length + 1 ≤ cap then (impl_naturalSum_l0 k a1 a2 K0 n v170 (v171 ++ ([[D.sl x341, D.int .i64 (IntKind.i64.wrap (0 + x342))]])) (IntKind.i64.wrap (v185 + 1))) else none) else none))))))) else (if v185 < (a2.length : Int) then (if v185 = (a2.length : Int) then (row_si a1 v170 fun x355 x356 => (if v171.length + 1 ≤ cap then (impl_naturalSum_l0 k a1 a2 K0 n (IntKind.i64.wrap (v170 + 1)) (v171 ++ ([[D.sl x355, D.int .i64 x356]])) v185) else none)) else (if v170 = (a1.length : Int) then (row_si a2 v185 fun x361 x362 => (if v171.length + 1 ≤ cap then (impl_naturalSum_l0 k a1 a2 K0 n v170 (v171 ++ ([[D.sl x361, D.int .i64 (IntKind.i64.wrap (0 + x362))]])) (IntKind.i64.wrap (v185 + 1))) else none)) else (row_si a1 v170 fun x366 x367 => (row_si a2 v185 fun x370 x371 => ((impl_cmp k x366 x370).bind fun y374 => (if (0 : Int) ≤ y374 then (if y374 ≤ (0 : Int) then (if v171.length + 1 ≤ cap then (impl_naturalSum_l0 k a1 a2 K0 n (IntKind.i64.wrap (v170 + 1)) (v171 ++ ([[D.sl x370, D.int .i64 (IntKind.i64.wrap (x367 + x371))]])) (IntKind.i64.wrap (v185 + 1))) else none) else (if v171.length + 1 ≤ cap then (impl_naturalSum_l0 k a1 a2 K0 n (IntKind.i64.wrap (v170 + 1)) (v171 ++ ([[D.sl x366, D.int .i64 x367]])) v185) else none)) else (if y374 ≤ (0 : Int) then (if v171.length + 1 ≤ cap then (impl_naturalSum_l0 k a1 a2 K0 n v170 (v171 ++ ([[D.sl x370, D.int .i64 (IntKind.i64.wrap (0 + x371))]])) (IntKind.i64.wrap (v185 + 1))) else none) else none))))))) else (K0 v171)))
set_option maxRecDepth 100000 in
theorem impl_naturalSum_l0_ct {k : Nat} {a1 : Rw} {a2 : Rw} {K0 : Rw → Option Rw} {r : Rw} : ∀ (n : Nat) (v170 : Int) (v171 : Rw) (v185 : Int), impl_naturalSum_l0 k a1 a2 K0 n v170 v171 v185 = some r → LoopOk prog 0 (lp f81 0) (mk 85 [(2, .ptr 128 0), (3, .ptr 192 0), (4, .ptr 256 0), (5, .ptr 320 0), (6, .d (D.int .i64 v170)), (7, .d (D.int .i64 v185))] [(128, .box 26 [.d (D.sl a1)]), (192, .box 26 [.d (D.sl a2)]), (256, .box 26 [.es]), (320, .box 26 [.os 64000 v171.length]), (64000, .arr 104 false v171)]) (LoopEnd prog f81 0 85 (.agg [.os 8 r.length]) (⟨[], [(104, false, r)]⟩) (fun i ts os => (i = 0 ∧ ∃ v265 : Rw, K0 v265 = some r ∧ ts = [(4, .ptr 256 0), (5, .ptr 320 0)] ∧ os = [(256, .box 26 [.es]), (320, .box 26 [.os 67001 v265.length]), (67001, .arr 104 false v265)])))
  | 0, _, _, _, h => by
      rw [impl_naturalSum_l0] at h; cases h
  | n + 1, v170, v171, v185, h => by
      rw [impl_naturalSum_l0] at h
      refine LoopOk.step ?_
      conv => whnf
      refine splD (fun g324 => ?_) (fun g324 => ?_)
      · replace h := iteP h g324
        conv => whnf
        refine splD (fun g325 => ?_) (fun g325 => ?_)
        · replace h := iteP h g325
          conv => whnf
          refine CutK.norm [2, 3, 4, 5, 6, 7, 8] [128, 192, 256, 320, 64000] ?_
          conv => whnf
          refine splD (fun _ => ?_) (fun g => absurd (by decide) g)
          conv => whnf
          obtain ⟨g329, x326, x327, e328, h⟩ := row_si_ex h
          refine Req.of g329 ?_
          refine Row.of _ e328 ?_
          conv => whnf
          refine splD (fun g => absurd g (by decide)) (fun _ => ?_)
          conv => whnf
          refine Take.all (rfl) ?_
          conv => whnf
          refine Take.all (by first | rfl | exact List.length_append.symm | (simp; done) | omega) ?_
          conv => whnf
          obtain ⟨g330, h⟩ := req_ex h
          refine Req.of (room (b := 32) (by decide) g330 (wide1 rfl wide0)) ?_
          conv => whnf
          exact LoopOk.back (impl_naturalSum_l0_ct  n _ _ _ h) [some 128, some 192, some 256, some 320, some 5248] [] ⟨⟨rfl, rfl⟩, ⟨rfl, ⟨rfl, rfl, trivial⟩, ⟨rfl, rfl, trivial⟩, ⟨rfl, trivial, trivial⟩, ⟨rfl, ⟨(by first | rfl | exact List.length_append.symm | (simp; done) | omega), rfl⟩, trivial⟩, ⟨rfl, rfl, rows_same⟩, trivial⟩, ⟨rfl, rfl⟩, ⟨rfl, rfl⟩, ⟨rfl, rfl⟩, ⟨rfl, rfl⟩, rfl, rfl, trivial⟩
        · replace h := iteN h g325
          conv => whnf
          refine splD (fun g331 => ?_) (fun g331 => ?_)
          · replace h := iteP h g331
            conv => whnf
            refine CutK.norm [2, 3, 4, 5, 6, 7, 8] [128, 192, 256, 320, 64000] ?_
            conv => whnf
            refine splD (fun g => absurd g (by decide)) (fun _ => ?_)
            conv => whnf
            refine splD (fun _ => ?_) (fun g => absurd (by decide) g)
            conv => whnf
            obtain ⟨g335, x332, x333, e334, h⟩ := row_si_ex h
            refine Req.of g335 ?_
            refine Row.of _ e334 ?_
            conv => whnf
            refine Req.of g335 ?_
            refine Row.of _ e334 ?_
            conv => whnf
            refine Take.all (rfl) ?_
            conv => whnf
            refine Take.all (by first | rfl | exact List.length_append.symm | (simp; done) | omega) ?_
            conv => whnf
            obtain ⟨g336, h⟩ := req_ex h
            refine Req.of (room (b := 32) (by decide) g336 (wide1 rfl wide0)) ?_
            conv => whnf
            exact LoopOk.back (impl_naturalSum_l0_ct  n _ _ _ h) [some 128, some 192, some 256, some 320, some 5248] [] ⟨⟨rfl, rfl⟩, ⟨rfl, ⟨rfl, rfl, trivial⟩, ⟨rfl, rfl, trivial⟩, ⟨rfl, trivial, trivial⟩, ⟨rfl, ⟨(by first | rfl | exact List.length_append.symm | (simp; done) | omega), rfl⟩, trivial⟩, ⟨rfl, rfl, rows_same⟩, trivial⟩, ⟨rfl, rfl⟩, ⟨rfl, rfl⟩, ⟨rfl, rfl⟩, ⟨rfl, rfl⟩, rfl, rfl, trivial⟩
          · replace h := iteN h g331
            conv => whnf
            obtain ⟨g340, x337, x338, e339, h⟩ := row_si_ex h
            refine Req.of g340 ?_
            refine Row.of _ e339 ?_
            conv => whnf
            obtain ⟨g344, x341, x342, e343, h⟩ := row_si_ex h
            refine Req.of g344 ?_
            refine Row.of _ e343 ?_
            conv => whnf
            obtain ⟨y345, e346, h⟩ := bind_ex h
            refine CallOk.of (impl_cmp_ct e346) ?_
            conv => whnf
            refine CutK.norm [2, 3, 4, 5, 6, 7, 8] [128, 192, 256, 320, 64000] ?_
            conv => whnf
            refine splD (fun g347 => ?_) (fun g347 => ?_)
            · replace h := iteP h g347
              conv => whnf
              refine Req.of g340 ?_
              refine Row.of _ e339 ?_
              conv => whnf
              refine splD (fun g348 => ?_) (fun g348 => ?_)
              · replace h := iteP h g348
                conv => whnf
                refine Req.of g344 ?_
                refine Row.of _ e343 ?_
                conv => whnf
                refine Req.of g344 ?_
                refine Row.of _ e343 ?_
                conv => whnf
                refine Take.all (rfl) ?_
                conv => whnf
                refine Take.all (by first | rfl | exact List.length_append.symm | (simp; done) | omega) ?_
                conv => whnf
                obtain ⟨g349, h⟩ := req_ex h
                refine Req.of (room (b := 32) (by decide) g349 (wide1 rfl wide0)) ?_
                conv => whnf
                exact LoopOk.back (impl_naturalSum_l0_ct  n _ _ _ h) [some 128, some 192, some 256, some 320, some 5248] [] ⟨⟨rfl, rfl⟩, ⟨rfl, ⟨rfl, rfl, trivial⟩, ⟨rfl, rfl, trivial⟩, ⟨rfl, trivial, trivial⟩, ⟨rfl, ⟨(by first | rfl | exact List.length_append.symm | (simp; done) | omega), rfl⟩, trivial⟩, ⟨rfl, rfl, rows_same⟩, trivial⟩, ⟨rfl, rfl⟩, ⟨rfl, rfl⟩, ⟨rfl, rfl⟩, ⟨rfl, rfl⟩, rfl, rfl, trivial⟩
              · replace h := iteN h g348
                conv => whnf
                refine Take.all (rfl) ?_
                conv => whnf
                refine Take.all (by first | rfl | exact List.length_append.symm | (simp; done) | omega) ?_
                conv => whnf
                obtain ⟨g350, h⟩ := req_ex h
                refine Req.of (room (b := 32) (by decide) g350 (wide1 rfl wide0)) ?_
                conv => whnf
                exact LoopOk.back (impl_naturalSum_l0_ct  n _ _ _ h) [some 128, some 192, some 256, some 320, some 5248] [] ⟨⟨rfl, rfl⟩, ⟨rfl, ⟨rfl, rfl, trivial⟩, ⟨rfl, rfl, trivial⟩, ⟨rfl, trivial, trivial⟩, ⟨rfl, ⟨(by first | rfl | exact List.length_append.symm | (simp; done) | omega), rfl⟩, trivial⟩, ⟨rfl, rfl, rows_same⟩, trivial⟩, ⟨rfl, rfl⟩, ⟨rfl, rfl⟩, ⟨rfl, rfl⟩, ⟨rfl, rfl⟩, rfl, rfl, trivial⟩
            · replace h := iteN h g347
              conv => whnf
              refine splD (fun g351 => ?_) (fun g351 => ?_)
              · replace h := iteP h g351
                conv => whnf
                refine Req.of g344 ?_
                refine Row.of _ e343 ?_
                conv => whnf
                refine Req.of g344 ?_
                refine Row.of _ e343 ?_
                conv => whnf
                refine Take.all (rfl) ?_
                conv => whnf
                refine Take.all (by first | rfl | exact List.length_append.symm | (simp; done) | omega) ?_
                conv => whnf
                obtain ⟨g352, h⟩ := req_ex h
                refine Req.of (room (b := 32) (by decide) g352 (wide1 rfl wide0)) ?_
                conv => whnf
                exact LoopOk.back (impl_naturalSum_l0_ct  n _ _ _ h) [some 128, some 192, some 256, some 320, some 5248] [] ⟨⟨rfl, rfl⟩, ⟨rfl, ⟨rfl, rfl, trivial⟩, ⟨rfl, rfl, trivial⟩, ⟨rfl, trivial, trivial⟩, ⟨rfl, ⟨(by first | rfl | exact List.length_append.symm | (simp; done) | omega), rfl⟩, trivial⟩, ⟨rfl, rfl, rows_same⟩, trivial⟩, ⟨rfl, rfl⟩, ⟨rfl, rfl⟩, ⟨rfl, rfl⟩, ⟨rfl, rfl⟩, rfl, rfl, trivial⟩
              · replace h := iteN h g351
                exfalso; omega
      · replace h := iteN h g324
        conv => whnf
        refine splD (fun g353 => ?_) (fun g353 => ?_)
        · replace h := iteP h g353
          conv => whnf
          refine splD (fun g354 => ?_) (fun g354 => ?_)
          · replace h := iteP h g354
            conv => whnf
            refine CutK.norm [2, 3, 4, 5, 6, 7, 8] [128, 192, 256, 320, 64000] ?_
            conv => whnf
            refine splD (fun _ => ?_) (fun g => absurd (by decide) g)
            conv => whnf
            obtain ⟨g358, x355, x356, e357, h⟩ := row_si_ex h
            refine Req.of g358 ?_
            refine Row.of _ e357 ?_
            conv => whnf
            refine splD (fun g => absurd g (by decide)) (fun _ => ?_)
            conv => whnf
            refine Take.all (rfl) ?_
            conv => whnf
            refine Take.all (by first | rfl | exact List.length_append.symm | (simp; done) | omega) ?_
            conv => whnf
            obtain ⟨g359, h⟩ := req_ex h
            refine Req.of (room (b := 32) (by decide) g359 (wide1 rfl wide0)) ?_
            conv => whnf
            exact LoopOk.back (impl_naturalSum_l0_ct  n _ _ _ h) [some 128, some 192, some 256, some 320, some 5248] [] ⟨⟨rfl, rfl⟩, ⟨rfl, ⟨rfl, rfl, trivial⟩, ⟨rfl, rfl, trivial⟩, ⟨rfl, trivial, trivial⟩, ⟨rfl, ⟨(by first | rfl | exact List.length_append.symm | (simp; done) | omega), rfl⟩, trivial⟩, ⟨rfl, rfl, rows_same⟩, trivial⟩, ⟨rfl, rfl⟩, ⟨rfl, rfl⟩, ⟨rfl, rfl⟩, ⟨rfl, rfl⟩, rfl, rfl, trivial⟩
          · replace h := iteN h g354
            conv => whnf
            refine splD (fun g360 => ?_) (fun g360 => ?_)
            · replace h := iteP h g360
              conv => whnf
              refine CutK.norm [2, 3, 4, 5, 6, 7, 8] [128, 192, 256, 320, 64000] ?_
              conv => whnf
              refine splD (fun g => absurd g (by decide)) (fun _ => ?_)
              conv => whnf
              refine splD (fun _ => ?_) (fun g => absurd (by decide) g)
              conv => whnf
              obtain ⟨g364, x361, x362, e363, h⟩ := row_si_ex h
              refine Req.of g364 ?_
              refine Row.of _ e363 ?_
              conv => whnf
              refine Req.of g364 ?_
              refine Row.of _ e363 ?_
              conv => whnf
              refine Take.all (rfl) ?_
              conv => whnf
              refine Take.all (by first | rfl | exact List.length_append.symm | (simp; done) | omega) ?_
              conv => whnf
              obtain ⟨g365, h⟩ := req_ex h
              refine Req.of (room (b := 32) (by decide) g365 (wide1 rfl wide0)) ?_
              conv => whnf
              exact LoopOk.back (impl_naturalSum_l0_ct  n _ _ _ h) [some 128, some 192, some 256, some 320, some 5248] [] ⟨⟨rfl, rfl⟩, ⟨rfl, ⟨rfl, rfl, trivial⟩, ⟨rfl, rfl, trivial⟩, ⟨rfl, trivial, trivial⟩, ⟨rfl, ⟨(by first | rfl | exact List.length_append.symm | (simp; done) | omega), rfl⟩, trivial⟩, ⟨rfl, rfl, rows_same⟩, trivial⟩, ⟨rfl, rfl⟩, ⟨rfl, rfl⟩, ⟨rfl, rfl⟩, ⟨rfl, rfl⟩, rfl, rfl, trivial⟩
            · replace h := iteN h g360
              conv => whnf
              obtain ⟨g369, x366, x367, e368, h⟩ := row_si_ex h
              refine Req.of g369 ?_
              refine Row.of _ e368 ?_
              conv => whnf
              obtain ⟨g373, x370, x371, e372, h⟩ := row_si_ex h
              refine Req.of g373 ?_
              refine Row.of _ e372 ?_
              conv => whnf
              obtain ⟨y374, e375, h⟩ := bind_ex h
              refine CallOk.of (impl_cmp_ct e375) ?_
              conv => whnf
              refine CutK.norm [2, 3, 4, 5, 6, 7, 8] [128, 192, 256, 320, 64000] ?_
              conv => whnf
              refine splD (fun g376 => ?_) (fun g376 => ?_)
              · replace h := iteP h g376
                conv => whnf
                refine Req.of g369 ?_
                refine Row.of _ e368 ?_
                conv => whnf
                refine splD (fun g377 => ?_) (fun g377 => ?_)
                · replace h := iteP h g377
                  conv => whnf
                  refine Req.of g373 ?_
                  refine Row.of _ e372 ?_
                  conv => whnf
                  refine Req.of g373 ?_
                  refine Row.of _ e372 ?_
                  conv => whnf
                  refine Take.all (rfl) ?_
                  conv => whnf
                  refine Take.all (by first | rfl | exact List.length_append.symm | (simp; done) | omega) ?_
                  conv => whnf
                  obtain ⟨g378, h⟩ := req_ex h
                  refine Req.of (room (b := 32) (by decide) g378 (wide1 rfl wide0)) ?_
                  conv => whnf
                  exact LoopOk.back (impl_naturalSum_l0_ct  n _ _ _ h) [some 128, some 192, some 256, some 320, some 5248] [] ⟨⟨rfl, rfl⟩, ⟨rfl, ⟨rfl, rfl, trivial⟩, ⟨rfl, rfl, trivial⟩, ⟨rfl, trivial, trivial⟩, ⟨rfl, ⟨(by first | rfl | exact List.length_append.symm | (simp; done) | omega), rfl⟩, trivial⟩, ⟨rfl, rfl, rows_same⟩, trivial⟩, ⟨rfl, rfl⟩, ⟨rfl, rfl⟩, ⟨rfl, rfl⟩, ⟨rfl, rfl⟩, rfl, rfl, trivial⟩
                · replace h := iteN h g377
                  conv => whnf
                  refine Take.all (rfl) ?_
                  conv => whnf
                  refine Take.all (by first | rfl | exact List.length_append.symm | (simp; done) | omega) ?_
                  conv => whnf
                  obtain ⟨g379, h⟩ := req_ex h
                  refine Req.of (room (b := 32) (by decide) g379 (wide1 rfl wide0)) ?_
                  conv => whnf
                  exact LoopOk.back (impl_naturalSum_l0_ct  n _ _ _ h) [some 128, some 192, some 256, some 320, some 5248] [] ⟨⟨rfl, rfl⟩, ⟨rfl, ⟨rfl, rfl, trivial⟩, ⟨rfl, rfl, trivial⟩, ⟨rfl, trivial, trivial⟩, ⟨rfl, ⟨(by first | rfl | exact List.length_append.symm | (simp; done) | omega), rfl⟩, trivial⟩, ⟨rfl, rfl, rows_same⟩, trivial⟩, ⟨rfl, rfl⟩, ⟨rfl, rfl⟩, ⟨rfl, rfl⟩, ⟨rfl, rfl⟩, rfl, rfl, trivial⟩
              · replace h := iteN h g376
                conv => whnf
                refine splD (fun g380 => ?_) (fun g380 => ?_)
                · replace h := iteP h g380
                  conv => whnf
                  refine Req.of g373 ?_
                  refine Row.of _ e372 ?_
                  conv => whnf
                  refine Req.of g373 ?_
                  refine Row.of _ e372 ?_
                  conv => whnf
                  refine Take.all (rfl) ?_
                  conv => whnf
                  refine Take.all (by first | rfl | exact List.length_append.symm | (simp; done) | omega) ?_
                  conv => whnf
                  obtain ⟨g381, h⟩ := req_ex h
                  refine Req.of (room (b := 32) (by decide) g381 (wide1 rfl wide0)) ?_
                  conv => whnf
                  exact LoopOk.back (impl_naturalSum_l0_ct  n _ _ _ h) [some 128, some 192, some 256, some 320, some 5248] [] ⟨⟨rfl, rfl⟩, ⟨rfl, ⟨rfl, rfl, trivial⟩, ⟨rfl, rfl, trivial⟩, ⟨rfl, trivial, trivial⟩, ⟨rfl, ⟨(by first | rfl | exact List.length_append.symm | (simp; done) | omega), rfl⟩, trivial⟩, ⟨rfl, rfl, rows_same⟩, trivial⟩, ⟨rfl, rfl⟩, ⟨rfl, rfl⟩, ⟨rfl, rfl⟩, ⟨rfl, rfl⟩, rfl, rfl, trivial⟩
                · replace h := iteN h g380
                  exfalso; omega
        · replace h := iteN h g353
          conv => whnf
          exact ⟨_, _, [some 256, some 320, some 64000], [], ⟨rfl, _, h, rfl, rfl⟩, ⟨⟨rfl, rfl⟩, ⟨rfl, ⟨rfl, trivial, trivial⟩, ⟨rfl, ⟨rfl, rfl⟩, trivial⟩, ⟨rfl, rfl, rows_same⟩, trivial⟩, ⟨rfl, rfl⟩, ⟨rfl, rfl⟩, trivial⟩⟩
def impl_naturalSum (k : Nat) (a1 : Rw) (a2 : Rw) : Option Rw :=
  (impl_naturalSum_l0 k a1 a2 (fun (v265 : Rw) => (impl_naturalSum_p4 v265)) k 0 ([] : Rw) 0)
set_option maxHeartbeats 4000000 in
set_option maxRecDepth 100000 in
theorem impl_naturalSum_ct {k : Nat} {a1 : Rw} {a2 : Rw} {r : Rw} (h : impl_naturalSum k a1 a2 = some r) : Ct prog 81 [.agg [.d (D.sl a1)], .agg [.d (D.sl a2)]] (⟨[], []⟩) (.agg [.os 8 r.length]) (⟨[], [(104, false, r)]⟩) := by
  rw [impl_naturalSum] at h
  refine Ct.of (c := _) mixed func81 ⟨rfl, rfl, rfl⟩ ?_ rfl
  conv => whnf
  refine LoopOk.into (impl_naturalSum_l0_ct  _ _ _ _ h) [some 128, some 192, some 256, some 320, none] [] ⟨⟨rfl, rfl⟩, ⟨rfl, ⟨rfl, rfl, trivial⟩, ⟨rfl, rfl, trivial⟩, ⟨rfl, trivial, trivial⟩, ⟨rfl, ⟨rfl, rfl⟩, trivial⟩, rfl, trivial⟩, ⟨rfl, rfl⟩, ⟨rfl, rfl⟩, ⟨rfl, rfl⟩, ⟨rfl, rfl⟩, rfl, rfl, trivial⟩ ?_ (fun _ hs => hs)
  rintro i ts os ⟨rfl, v265, h, rfl, rfl⟩
  conv => whnf
  exact CutK.piece (impl_naturalSum_p4_ct  h) [some 256, some 320, some 67001] [] ⟨⟨rfl, rfl⟩, ⟨rfl, ⟨rfl, trivial, trivial⟩, ⟨rfl, ⟨rfl, rfl⟩, trivial⟩, ⟨rfl, rfl, rows_same⟩, trivial⟩, ⟨rfl, rfl⟩, ⟨rfl, rfl⟩, trivial⟩

def impl_NaturalSum (k : Nat) (a1 : Rw) (a2 : Rw) : Option (Rw × Bool) :=
  ((impl_both k a1 a2).bind fun y3 => (if y3 = true then ((impl_naturalSum k a1 a2).bind fun y6 => ((impl_told k y6).bind fun y8 => (if y8.2 = true then some (y8.1, true) else some (y8.1, false)))) else some (([] : Rw), false)))
set_option maxHeartbeats 4000000 in
set_option maxRecDepth 100000 in
theorem impl_NaturalSum_ct {k : Nat} {a1 : Rw} {a2 : Rw} {r : Rw × Bool} (h : impl_NaturalSum k a1 a2 = some r) : Ct prog 16 [.agg [.d (D.sl a1)], .agg [.d (D.sl a2)]] (⟨[], []⟩) (.tup [.agg [.os 8 r.1.length], .d (D.bool r.2)]) (⟨[], [(104, true, r.1)]⟩) := by
  rw [impl_NaturalSum] at h
  refine Ct.of (c := _) mixed func16 ⟨rfl, rfl, rfl⟩ ?_ rfl
  conv => whnf
  obtain ⟨y3, e4, h⟩ := bind_ex h
  refine CallOk.of (impl_both_ct e4) ?_
  conv => whnf
  refine spl (fun g5 => ?_) (fun g5 => ?_)
  · replace h := iteT h g5
    conv => whnf
    refine CutK.go ?_
    conv => whnf
    refine CutK.go ?_
    conv => whnf
    obtain ⟨y6, e7, h⟩ := bind_ex h
    refine CallOk.of (impl_naturalSum_ct e7) ?_
    conv => whnf
    refine Take.all (rfl) ?_
    conv => whnf
    obtain ⟨y8, e9, h⟩ := bind_ex h
    refine CallOk.of (impl_told_ct e9) ?_
    conv => whnf
    refine spl (fun g10 => ?_) (fun g10 => ?_)
    · replace h := iteT h g10
      conv => whnf
      refine CutK.go ?_
      conv => whnf
      cases h
      exact Done.of [some 896] [] rfl rfl ⟨⟨rfl, rfl⟩, ⟨rfl, ⟨rfl, rfl, rows_same⟩, trivial⟩, ⟨⟨⟨rfl, rfl⟩, trivial⟩, rfl, trivial⟩, trivial⟩
    · replace h := iteF h g10
      conv => whnf
      refine CutK.go ?_
      conv => whnf
      cases h
      exact Done.of [some 896] [] rfl rfl ⟨⟨rfl, rfl⟩, ⟨rfl, ⟨rfl, rfl, rows_same⟩, trivial⟩, ⟨⟨⟨rfl, rfl⟩, trivial⟩, rfl, trivial⟩, trivial⟩
  · replace h := iteF h g5
    conv => whnf
    refine CutK.go ?_
    conv => whnf
    cases h
    exact Done.of [none] [] rfl rfl ⟨⟨rfl, rfl⟩, ⟨rfl, rfl, trivial⟩, ⟨⟨⟨rfl, rfl⟩, trivial⟩, rfl, trivial⟩, trivial⟩

def impl_AddOrdinals (k : Nat) (a1 : Rw) (a2 : Rw) : Option (Rw × Bool) :=
  ((impl_both k a1 a2).bind fun y3 => (if y3 = true then ((impl_plus k a1 a2).bind fun y6 => ((impl_told k y6).bind fun y8 => (if y8.2 = true then some (y8.1, true) else some (y8.1, false)))) else some (([] : Rw), false)))
set_option maxHeartbeats 4000000 in
set_option maxRecDepth 100000 in
theorem impl_AddOrdinals_ct {k : Nat} {a1 : Rw} {a2 : Rw} {r : Rw × Bool} (h : impl_AddOrdinals k a1 a2 = some r) : Ct prog 15 [.agg [.d (D.sl a1)], .agg [.d (D.sl a2)]] (⟨[], []⟩) (.tup [.agg [.os 8 r.1.length], .d (D.bool r.2)]) (⟨[], [(104, true, r.1)]⟩) := by
  rw [impl_AddOrdinals] at h
  refine Ct.of (c := _) mixed func15 ⟨rfl, rfl, rfl⟩ ?_ rfl
  conv => whnf
  obtain ⟨y3, e4, h⟩ := bind_ex h
  refine CallOk.of (impl_both_ct e4) ?_
  conv => whnf
  refine spl (fun g5 => ?_) (fun g5 => ?_)
  · replace h := iteT h g5
    conv => whnf
    refine CutK.go ?_
    conv => whnf
    refine CutK.go ?_
    conv => whnf
    obtain ⟨y6, e7, h⟩ := bind_ex h
    refine CallOk.of (impl_plus_ct e7) ?_
    conv => whnf
    obtain ⟨y8, e9, h⟩ := bind_ex h
    refine CallOk.of (impl_told_ct e9) ?_
    conv => whnf
    refine spl (fun g10 => ?_) (fun g10 => ?_)
    · replace h := iteT h g10
      conv => whnf
      refine CutK.go ?_
      conv => whnf
      cases h
      exact Done.of [some 896] [] rfl rfl ⟨⟨rfl, rfl⟩, ⟨rfl, ⟨rfl, rfl, rows_same⟩, trivial⟩, ⟨⟨⟨rfl, rfl⟩, trivial⟩, rfl, trivial⟩, trivial⟩
    · replace h := iteF h g10
      conv => whnf
      refine CutK.go ?_
      conv => whnf
      cases h
      exact Done.of [some 896] [] rfl rfl ⟨⟨rfl, rfl⟩, ⟨rfl, ⟨rfl, rfl, rows_same⟩, trivial⟩, ⟨⟨⟨rfl, rfl⟩, trivial⟩, rfl, trivial⟩, trivial⟩
  · replace h := iteF h g5
    conv => whnf
    refine CutK.go ?_
    conv => whnf
    cases h
    exact Done.of [none] [] rfl rfl ⟨⟨rfl, rfl⟩, ⟨rfl, rfl, trivial⟩, ⟨⟨⟨rfl, rfl⟩, trivial⟩, rfl, trivial⟩, trivial⟩

def spec_odLeft_l0 (rec_spec_odLeft : Rw → Int → Int → Option Int) (a1 : Rw) (a2 : Int) (K0 : Int → Option Int) : Rw → Int → Option Int
  | [], v13 => (K0 v13)
  | cs :: rest, v13 => (cell_si cs fun x34 x35 => (if v13 < (0 : Int) then some (-1) else (if a2 = (0 : Int) then some (-1) else ((rec_spec_odLeft x34 (IntKind.i64.wrap (a2 - 1)) (IntKind.i64.wrap (v13 - 1))).bind fun y39 => (spec_odLeft_l0 rec_spec_odLeft a1 a2 K0 rest y39)))))
set_option maxRecDepth 100000 in
theorem spec_odLeft_l0_ct {rec_spec_odLeft : Rw → Int → Int → Option Int} {a1 : Rw} {a2 : Int} {K0 : Int → Option Int} (hrec_spec_odLeft : ∀ (a1 : Rw) (a2 : Int) (a3 : Int) (r : Int), rec_spec_odLeft a1 a2 a3 = some r → Ct prog 155 [.agg [.d (D.sl a1)], .d (D.int .i64 a2), .d (D.int .i64 a3)] (⟨[], []⟩) (.d (D.int .i64 r)) (⟨[], []⟩)) {r : Int} (hx : a1.length ≤ cap) : ∀ (rest : Rw) (v14n : Nat) (v13 : Int), a1.drop v14n = rest → spec_odLeft_l0 rec_spec_odLeft a1 a2 K0 rest v13 = some r → LoopOk prog 0 (lp f155 0) (mk 33 [(1, .d (D.int .i64 a2)), (2, .d (D.int .i64 v13)), (12, .d (D.sl a1)), (13, .d (D.int .i64 (a1.length : Int))), (14, .d (D.int .i64 (v14n : Int)))] []) (LoopEnd prog f155 0 33 (.d (D.int .i64 r)) (⟨[], []⟩) (fun i ts os => (i = 0 ∧ ∃ v24 : Int, K0 v24 = some r ∧ ts = [(2, .d (D.int .i64 v24))] ∧ os = [])))
  | [], v14n, v13, hd, h => by
      rw [spec_odLeft_l0] at h
      have hn := drop_nil hd
      refine LoopOk.step ?_
      conv => whnf
      refine splD (fun g => absurd g hn) (fun _ => ?_)
      conv => whnf
      exact ⟨_, _, [], [], ⟨rfl, _, h, rfl, rfl⟩, ⟨⟨rfl, rfl⟩, ⟨rfl, trivial⟩, rfl, trivial⟩⟩
  | cs :: rest, v14n, v13, hd, h => by
      rw [spec_odLeft_l0] at h
      obtain ⟨hrow, hd1, hlt⟩ := drop_cons hd
      refine LoopOk.step ?_
      conv => whnf
      refine splD (fun _ => ?_) (fun g => absurd hlt g)
      conv => whnf
      obtain ⟨x34, x35, e36, h⟩ := cell_si_ex h
      rw [e36] at hrow
      refine Req.of (Int.natCast_nonneg _) ?_
      refine Row.of _ hrow ?_
      conv => whnf
      refine splD (fun g37 => ?_) (fun g37 => ?_)
      · replace h := iteP h g37
        conv => whnf
        cases h
        exact Done.of [] [] rfl rfl ⟨⟨rfl, rfl⟩, ⟨rfl, trivial⟩, rfl, trivial⟩
      · replace h := iteN h g37
        conv => whnf
        refine splD (fun g38 => ?_) (fun g38 => ?_)
        · replace h := iteP h g38
          conv => whnf
          cases h
          exact Done.of [] [] rfl rfl ⟨⟨rfl, rfl⟩, ⟨rfl, trivial⟩, rfl, trivial⟩
        · replace h := iteN h g38
          conv => whnf
          obtain ⟨y39, e40, h⟩ := bind_ex h
          refine CallOk.of (hrec_spec_odLeft _ _ _ _ e40) ?_
          conv => whnf
          refine CutK.norm [1, 2, 12, 13, 14] [] ?_
          conv => whnf
          exact LoopOk.back (spec_odLeft_l0_ct hrec_spec_odLeft hx rest (v14n + 1) _ hd1 h) [] [] ⟨⟨rfl, rfl⟩, ⟨rfl, trivial⟩, rfl, rfl, rfl, rfl, i64eq (wrap_up hlt hx), trivial⟩
def spec_odLeft_b (rec_spec_odLeft : Rw → Int → Int → Option Int) (a1 : Rw) (a2 : Int) (a3 : Int) : Option Int :=
  (if a1.length ≤ cap then (spec_odLeft_l0 rec_spec_odLeft a1 a2 (fun (v24 : Int) => some v24) a1 (IntKind.i64.wrap (a3 - 1))) else none)
set_option maxHeartbeats 4000000 in
set_option maxRecDepth 100000 in
theorem spec_odLeft_b_ct {rec_spec_odLeft : Rw → Int → Int → Option Int} (hrec_spec_odLeft : ∀ (a1 : Rw) (a2 : Int) (a3 : Int) (r : Int), rec_spec_odLeft a1 a2 a3 = some r → Ct prog 155 [.agg [.d (D.sl a1)], .d (D.int .i64 a2), .d (D.int .i64 a3)] (⟨[], []⟩) (.d (D.int .i64 r)) (⟨[], []⟩)) {a1 : Rw} {a2 : Int} {a3 : Int} {r : Int} (h : spec_odLeft_b rec_spec_odLeft a1 a2 a3 = some r) : Ct prog 155 [.agg [.d (D.sl a1)], .d (D.int .i64 a2), .d (D.int .i64 a3)] (⟨[], []⟩) (.d (D.int .i64 r)) (⟨[], []⟩) := by
  rw [spec_odLeft_b] at h
  refine Ct.of (c := _) mixed func155 ⟨rfl, rfl, rfl⟩ ?_ rfl
  conv => whnf
  obtain ⟨g41, h⟩ := req_ex h
  refine LoopOk.into (spec_odLeft_l0_ct hrec_spec_odLeft g41 _ _ _ rfl h) [] [] ⟨⟨rfl, rfl⟩, ⟨rfl, trivial⟩, rfl, rfl, rfl, rfl, rfl, trivial⟩ ?_ (fun _ hs => hs)
  rintro i ts os ⟨rfl, v24, h, rfl, rfl⟩
  conv => whnf
  refine CutK.norm [2] [] ?_
  conv => whnf
  cases h
  exact Done.of [] [] rfl rfl ⟨⟨rfl, rfl⟩, ⟨rfl, trivial⟩, rfl, trivial⟩
def spec_odLeft : Nat → Rw → Int → Int → Option Int
  | 0, _, _, _ => none
  | k + 1, a1, a2, a3 => spec_odLeft_b (spec_odLeft k) a1 a2 a3
theorem spec_odLeft_ct' : ∀ (k : Nat) (a1 : Rw) (a2 : Int) (a3 : Int) (r : Int), spec_odLeft k a1 a2 a3 = some r → Ct prog 155 [.agg [.d (D.sl a1)], .d (D.int .i64 a2), .d (D.int .i64 a3)] (⟨[], []⟩) (.d (D.int .i64 r)) (⟨[], []⟩)
  | 0, _, _, _, _, h => by rw [spec_odLeft] at h; cases h
  | k + 1, _, _, _, _, h => by rw [spec_odLeft] at h; exact spec_odLeft_b_ct (spec_odLeft_ct' k) h
theorem spec_odLeft_ct {k : Nat} {a1 : Rw} {a2 : Int} {a3 : Int} {r : Int} (h : spec_odLeft k a1 a2 a3 = some r) : Ct prog 155 [.agg [.d (D.sl a1)], .d (D.int .i64 a2), .d (D.int .i64 a3)] (⟨[], []⟩) (.d (D.int .i64 r)) (⟨[], []⟩) := spec_odLeft_ct' k _ _ _ _ h

def spec_l1In  (a1 : Int) (a2 : Int) (a3 : Int) : Option Bool :=
  (if a2 ≤ a1 then (if a1 ≤ a3 then some true else some false) else some false)
set_option maxHeartbeats 4000000 in
set_option maxRecDepth 100000 in
theorem spec_l1In_ct  {a1 : Int} {a2 : Int} {a3 : Int} {r : Bool} (h : spec_l1In a1 a2 a3 = some r) : Ct prog 75 [.d (D.int .i64 a1), .d (D.int .i64 a2), .d (D.int .i64 a3)] (⟨[], []⟩) (.d (D.bool r)) (⟨[], []⟩) := by
  rw [spec_l1In] at h
  refine Ct.of (c := _) mixed func75 ⟨rfl, rfl, rfl⟩ ?_ rfl
  conv => whnf
  refine splD (fun g4 => ?_) (fun g4 => ?_)
  · replace h := iteP h g4
    conv => whnf
    refine splD (fun g5 => ?_) (fun g5 => ?_)
    · replace h := iteP h g5
      conv => whnf
      cases h
      exact Done.of [] [] rfl rfl ⟨⟨rfl, rfl⟩, ⟨rfl, trivial⟩, rfl, trivial⟩
    · replace h := iteN h g5
      conv => whnf
      cases h
      exact Done.of [] [] rfl rfl ⟨⟨rfl, rfl⟩, ⟨rfl, trivial⟩, rfl, trivial⟩
  · replace h := iteN h g4
    conv => whnf
    cases h
    exact Done.of [] [] rfl rfl ⟨⟨rfl, rfl⟩, ⟨rfl, trivial⟩, rfl, trivial⟩

def spec_l1Sign  (a1 : Int) : Option Int :=
  (if (0 : Int) < a1 then some 1 else (if a1 < (0 : Int) then some (-1) else some 0))
set_option maxHeartbeats 4000000 in
set_option maxRecDepth 100000 in
theorem spec_l1Sign_ct  {a1 : Int} {r : Int} (h : spec_l1Sign a1 = some r) : Ct prog 198 [.d (D.int .i64 a1)] (⟨[], []⟩) (.d (D.int .i64 r)) (⟨[], []⟩) := by
  rw [spec_l1Sign] at h
  refine Ct.of (c := _) mixed func198 ⟨rfl, rfl, rfl⟩ ?_ rfl
  conv => whnf
  refine splD (fun g2 => ?_) (fun g2 => ?_)
  · replace h := iteP h g2
    conv => whnf
    cases h
    exact Done.of [] [] rfl rfl ⟨⟨rfl, rfl⟩, ⟨rfl, trivial⟩, rfl, trivial⟩
  · replace h := iteN h g2
    conv => whnf
    refine splD (fun g3 => ?_) (fun g3 => ?_)
    · replace h := iteP h g3
      conv => whnf
      cases h
      exact Done.of [] [] rfl rfl ⟨⟨rfl, rfl⟩, ⟨rfl, trivial⟩, rfl, trivial⟩
    · replace h := iteN h g3
      conv => whnf
      cases h
      exact Done.of [] [] rfl rfl ⟨⟨rfl, rfl⟩, ⟨rfl, trivial⟩, rfl, trivial⟩

def spec_odCmp_p2 (a1 : Rw) (a2 : Rw) : Option Int :=
  (if (a1.length : Int) < (a2.length : Int) then some (-1) else some 0)
set_option maxHeartbeats 4000000 in
set_option maxRecDepth 100000 in
theorem spec_odCmp_p2_ct {a1 : Rw} {a2 : Rw} {r : Int} (h : spec_odCmp_p2 a1 a2 = some r) : X prog 0 (tlF f162 2) (mk 60 [(2, .ptr 128 0), (3, .ptr 192 0)] [(128, .box 26 [.d (D.sl a1)]), (192, .box 26 [.d (D.sl a2)])]) (finK prog f162 0 (.d (D.int .i64 r)) (⟨[], []⟩)) := by
  rw [spec_odCmp_p2] at h
  conv => whnf
  refine splD (fun g37 => ?_) (fun g37 => ?_)
  · replace h := iteP h g37
    conv => whnf
    cases h
    exact Done.of [] [] rfl rfl ⟨⟨rfl, rfl⟩, ⟨rfl, trivial⟩, rfl, trivial⟩
  · replace h := iteN h g37
    conv => whnf
    cases h
    exact Done.of [] [] rfl rfl ⟨⟨rfl, rfl⟩, ⟨rfl, trivial⟩, rfl, trivial⟩
def spec_odCmp_l0 (rec_spec_odCmp : Rw → Rw → Option Int) (a1 : Rw) (a2 : Rw) (K0 : Option Int) : Rw → Nat → Option Int
  | [], v54n => (K0)
  | cs :: rest, v54n => (cell_si cs fun x71 x72 => (if (v54n : Int) = (a2.length : Int) then some 1 else (row_si a2 (v54n : Int) fun x75 x76 => ((rec_spec_odCmp x71 x75).bind fun y79 => (if y79 = (0 : Int) then (if x72 = x76 then (spec_odCmp_l0 rec_spec_odCmp a1 a2 K0 rest (v54n + 1)) else ((spec_l1Sign (IntKind.i64.wrap (x72 - x76))).bind fun y83 => some y83)) else some y79)))))
set_option maxRecDepth 100000 in
theorem spec_odCmp_l0_ct {rec_spec_odCmp : Rw → Rw → Option Int} {a1 : Rw} {a2 : Rw} {K0 : Option Int} (hrec_spec_odCmp : ∀ (a1 : Rw) (a2 : Rw) (r : Int), rec_spec_odCmp a1 a2 = some r → Ct prog 162 [.agg [.d (D.sl a1)], .agg [.d (D.sl a2)]] (⟨[], []⟩) (.d (D.int .i64 r)) (⟨[], []⟩)) {r : Int} (hx : a1.length ≤ cap) : ∀ (rest : Rw) (v54n : Nat), a1.drop v54n = rest → spec_odCmp_l0 rec_spec_odCmp a1 a2 K0 rest v54n = some r → LoopOk prog 0 (lp f162 0) (mk 60 [(2, .ptr 128 0), (3, .ptr 192 0), (9, .d (D.sl a1)), (10, .d (D.int .i64 (a1.length : Int))), (11, .d (D.int .i64 (v54n : Int)))] [(128, .box 26 [.d (D.sl a1)]), (192, .box 26 [.d (D.sl a2)])]) (LoopEnd prog f162 0 60 (.d (D.int .i64 r)) (⟨[], []⟩) (fun i ts os => (i = 0 ∧ K0 = some r ∧ ts = [(2, .ptr 128 0), (3, .ptr 192 0)] ∧ os = [(128, .box 26 [.d (D.sl a1)]), (192, .box 26 [.d (D.sl a2)])])))
  | [], v54n, hd, h => by
      rw [spec_odCmp_l0] at h
      have hn := drop_nil hd
      refine LoopOk.step ?_
      conv => whnf
      refine splD (fun g => absurd g hn) (fun _ => ?_)
      conv => whnf
      exact ⟨_, _, [some 128, some 192], [], ⟨rfl, h, rfl, rfl⟩, ⟨⟨rfl, rfl⟩, ⟨rfl, ⟨rfl, rfl, trivial⟩, ⟨rfl, rfl, trivial⟩, trivial⟩, ⟨rfl, rfl⟩, ⟨rfl, rfl⟩, trivial⟩⟩
  | cs :: rest, v54n, hd, h => by
      rw [spec_odCmp_l0] at h
      obtain ⟨hrow, hd1, hlt⟩ := drop_cons hd
      refine LoopOk.step ?_
      conv => whnf
      refine splD (fun _ => ?_) (fun g => absurd hlt g)
      conv => whnf
      obtain ⟨x71, x72, e73, h⟩ := cell_si_ex h
      rw [e73] at hrow
      refine Req.of (Int.natCast_nonneg _) ?_
      refine Row.of _ hrow ?_
      conv => whnf
      refine splD (fun g74 => ?_) (fun g74 => ?_)
      · replace h := iteP h g74
        conv => whnf
        cases h
        exact Done.of [] [] rfl rfl ⟨⟨rfl, rfl⟩, ⟨rfl, trivial⟩, rfl, trivial⟩
      · replace h := iteN h g74
        conv => whnf
        obtain ⟨g78, x75, x76, e77, h⟩ := row_si_ex h
        refine Req.of g78 ?_
        refine Row.of _ e77 ?_
        conv => whnf
        obtain ⟨y79, e80, h⟩ := bind_ex h
        refine CallOk.of (hrec_spec_odCmp _ _ _ e80) ?_
        conv => whnf
        refine CutK.norm [2, 3, 5, 6, 7, 9, 10, 11] [128, 192, 384] ?_
        conv => whnf
        refine splN (fun g81 => ?_) (fun g81 => ?_)
        · replace h := iteN h g81
          conv => whnf
          cases h
          exact Done.of [] [] rfl rfl ⟨⟨rfl, rfl⟩, ⟨rfl, trivial⟩, rfl, trivial⟩
        · replace h := iteP h g81
          conv => whnf
          refine CutK.norm [2, 3, 5, 6, 9, 10, 11] [128, 192, 384] ?_
          conv => whnf
          refine Req.of g78 ?_
          refine Row.of _ e77 ?_
          conv => whnf
          refine splN (fun g82 => ?_) (fun g82 => ?_)
          · replace h := iteN h g82
            conv => whnf
            refine Req.of g78 ?_
            refine Row.of _ e77 ?_
            conv => whnf
            obtain ⟨y83, e84, h⟩ := bind_ex h
            refine CallOk.of (spec_l1Sign_ct e84) ?_
            conv => whnf
            refine CutK.norm [4] [] ?_
            conv => whnf
            cases h
            exact Done.of [] [] rfl rfl ⟨⟨rfl, rfl⟩, ⟨rfl, trivial⟩, rfl, trivial⟩
          · replace h := iteP h g82
            conv => whnf
            refine CutK.norm [2, 3, 9, 10, 11] [128, 192] ?_
            conv => whnf
            exact LoopOk.back (spec_odCmp_l0_ct hrec_spec_odCmp hx rest (v54n + 1)  hd1 h) [some 128, some 192] [] ⟨⟨rfl, rfl⟩, ⟨rfl, ⟨rfl, rfl, trivial⟩, ⟨rfl, rfl, trivial⟩, trivial⟩, ⟨rfl, rfl⟩, ⟨rfl, rfl⟩, rfl, rfl, i64eq (wrap_up hlt hx), trivial⟩
def spec_odCmp_b (rec_spec_odCmp : Rw → Rw → Option Int) (a1 : Rw) (a2 : Rw) : Option Int :=
  (if a1.length ≤ cap then (spec_odCmp_l0 rec_spec_odCmp a1 a2 (spec_odCmp_p2 a1 a2) a1 0) else none)
set_option maxHeartbeats 4000000 in
set_option maxRecDepth 100000 in
theorem spec_odCmp_b_ct {rec_spec_odCmp : Rw → Rw → Option Int} (hrec_spec_odCmp : ∀ (a1 : Rw) (a2 : Rw) (r : Int), rec_spec_odCmp a1 a2 = some r → Ct prog 162 [.agg [.d (D.sl a1)], .agg [.d (D.sl a2)]] (⟨[], []⟩) (.d (D.int .i64 r)) (⟨[], []⟩)) {a1 : Rw} {a2 : Rw} {r : Int} (h : spec_odCmp_b rec_spec_odCmp a1 a2 = some r) : Ct prog 162 [.agg [.d (D.sl a1)], .agg [.d (D.sl a2)]] (⟨[], []⟩) (.d (D.int .i64 r)) (⟨[], []⟩) := by
  rw [spec_odCmp_b] at h
  refine Ct.of (c := _) mixed func162 ⟨rfl, rfl, rfl⟩ ?_ rfl
  conv => whnf
  obtain ⟨g85, h⟩ := req_ex h
  refine LoopOk.into (spec_odCmp_l0_ct hrec_spec_odCmp g85 _ _  rfl h) [some 128, some 192] [] ⟨⟨rfl, rfl⟩, ⟨rfl, ⟨rfl, rfl, trivial⟩, ⟨rfl, rfl, trivial⟩, trivial⟩, ⟨rfl, rfl⟩, ⟨rfl, rfl⟩, rfl, rfl, rfl, trivial⟩ ?_ (fun _ hs => hs)
  rintro i ts os ⟨rfl, h, rfl, rfl⟩
  conv => whnf
  exact CutK.piece (spec_odCmp_p2_ct  h) [some 128, some 192] [] ⟨⟨rfl, rfl⟩, ⟨rfl, ⟨rfl, rfl, trivial⟩, ⟨rfl, rfl, trivial⟩, trivial⟩, ⟨rfl, rfl⟩, ⟨rfl, rfl⟩, trivial⟩
def spec_odCmp : Nat → Rw → Rw → Option Int
  | 0, _, _ => none
  | k + 1, a1, a2 => spec_odCmp_b (spec_odCmp k) a1 a2
theorem spec_odCmp_ct' : ∀ (k : Nat) (a1 : Rw) (a2 : Rw) (r : Int), spec_odCmp k a1 a2 = some r → Ct prog 162 [.agg [.d (D.sl a1)], .agg [.d (D.sl a2)]] (⟨[], []⟩) (.d (D.int .i64 r)) (⟨[], []⟩)
  | 0, _, _, _, h => by rw [spec_odCmp] at h; cases h
  | k + 1, _, _, _, h => by rw [spec_odCmp] at h; exact spec_odCmp_b_ct (spec_odCmp_ct' k) h
theorem spec_odCmp_ct {k : Nat} {a1 : Rw} {a2 : Rw} {r : Int} (h : spec_odCmp k a1 a2 = some r) : Ct prog 162 [.agg [.d (D.sl a1)], .agg [.d (D.sl a2)]] (⟨[], []⟩) (.d (D.int .i64 r)) (⟨[], []⟩) := spec_odCmp_ct' k _ _ _ h

def spec_odForm_p3  : Option Bool :=
  some true
set_option maxHeartbeats 4000000 in
set_option maxRecDepth 100000 in
theorem spec_odForm_p3_ct  {r : Bool} (h : spec_odForm_p3 = some r) : X prog 0 (tlF f156 3) (mk 47 [] []) (finK prog f156 0 (.d (D.bool r)) (⟨[], []⟩)) := by
  rw [spec_odForm_p3] at h
  conv => whnf
  cases h
  exact Done.of [] [] rfl rfl ⟨⟨rfl, rfl⟩, ⟨rfl, trivial⟩, rfl, trivial⟩
def spec_odForm_l0 (k : Nat) (rec_spec_odForm : Rw → Int → Option Bool) (a1 : Rw) (a2 : Int) (K0 : Option Bool) : Rw → Nat → Option Bool
  | [], v47n => (K0)
  | cs :: rest, v47n => (cell_si cs fun x67 x68 => ((spec_l1In x68 1 1000000).bind fun y70 => (if y70 = true then ((rec_spec_odForm x67 (IntKind.i64.wrap (a2 - 1))).bind fun y73 => (if y73 = true then (if (0 : Int) < (v47n : Int) then (row_si a1 (IntKind.i64.wrap ((v47n : Int) - 1)) fun x77 x78 => ((spec_odCmp k x77 x67).bind fun y81 => (if y81 ≤ (0 : Int) then some false else (spec_odForm_l0 k rec_spec_odForm a1 a2 K0 rest (v47n + 1))))) else (spec_odForm_l0 k rec_spec_odForm a1 a2 K0 rest (v47n + 1))) else some false)) else some false)))
set_option maxRecDepth 100000 in
theorem spec_odForm_l0_ct {k : Nat} {rec_spec_odForm : Rw → Int → Option Bool} {a1 : Rw} {a2 : Int} {K0 : Option Bool} (hrec_spec_odForm : ∀ (a1 : Rw) (a2 : Int) (r : Bool), rec_spec_odForm a1 a2 = some r → Ct prog 156 [.agg [.d (D.sl a1)], .d (D.int .i64 a2)] (⟨[], []⟩) (.d (D.bool r)) (⟨[], []⟩)) {r : Bool} (hx : a1.length ≤ cap) : ∀ (rest : Rw) (v47n : Nat), a1.drop v47n = rest → spec_odForm_l0 k rec_spec_odForm a1 a2 K0 rest v47n = some r → LoopOk prog 0 (lp f156 0) (mk 47 [(1, .d (D.int .i64 a2)), (2, .ptr 128 0), (10, .d (D.sl a1)), (11, .d (D.int .i64 (a1.length : Int))), (12, .d (D.int .i64 (v47n : Int)))] [(128, .box 26 [.d (D.sl a1)])]) (LoopEnd prog f156 0 47 (.d (D.bool r)) (⟨[], []⟩) (fun i ts os => (i = 0 ∧ K0 = some r ∧ ts = [] ∧ os = [])))
  | [], v47n, hd, h => by
      rw [spec_odForm_l0] at h
      have hn := drop_nil hd
      refine LoopOk.step ?_
      conv => whnf
      refine splD (fun g => absurd g hn) (fun _ => ?_)
      conv => whnf
      exact ⟨_, _, [], [], ⟨rfl, h, rfl, rfl⟩, ⟨⟨rfl, rfl⟩, ⟨rfl, trivial⟩, trivial⟩⟩
  | cs :: rest, v47n, hd, h => by
      rw [spec_odForm_l0] at h
      obtain ⟨hrow, hd1, hlt⟩ := drop_cons hd
      refine LoopOk.step ?_
      conv => whnf
      refine splD (fun _ => ?_) (fun g => absurd hlt g)
      conv => whnf
      obtain ⟨x67, x68, e69, h⟩ := cell_si_ex h
      rw [e69] at hrow
      refine Req.of (Int.natCast_nonneg _) ?_
      refine Row.of _ hrow ?_
      conv => whnf
      obtain ⟨y70, e71, h⟩ := bind_ex h
      refine CallOk.of (spec_l1In_ct e71) ?_
      conv => whnf
      refine spl (fun g72 => ?_) (fun g72 => ?_)
      · replace h := iteT h g72
        conv => whnf
        obtain ⟨y73, e74, h⟩ := bind_ex h
        refine CallOk.of (hrec_spec_odForm _ _ _ e74) ?_
        conv => whnf
        refine spl (fun g75 => ?_) (fun g75 => ?_)
        · replace h := iteT h g75
          conv => whnf
          refine splD (fun g76 => ?_) (fun g76 => ?_)
          · replace h := iteP h g76
            conv => whnf
            obtain ⟨g80, x77, x78, e79, h⟩ := row_si_ex h
            refine Req.of g80 ?_
            refine Row.of _ e79 ?_
            conv => whnf
            obtain ⟨y81, e82, h⟩ := bind_ex h
            refine CallOk.of (spec_odCmp_ct e82) ?_
            conv => whnf
            refine splD (fun g83 => ?_) (fun g83 => ?_)
            · replace h := iteP h g83
              conv => whnf
              refine CutK.norm [1, 2, 10, 11, 12, 45] [128] ?_
              conv => whnf
              cases h
              exact Done.of [] [] rfl rfl ⟨⟨rfl, rfl⟩, ⟨rfl, trivial⟩, rfl, trivial⟩
            · replace h := iteN h g83
              conv => whnf
              refine CutK.norm [1, 2, 10, 11, 12, 45] [128] ?_
              conv => whnf
              refine CutK.norm [1, 2, 10, 11, 12] [128] ?_
              conv => whnf
              exact LoopOk.back (spec_odForm_l0_ct hrec_spec_odForm hx rest (v47n + 1)  hd1 h) [some 128] [] ⟨⟨rfl, rfl⟩, ⟨rfl, ⟨rfl, rfl, trivial⟩, trivial⟩, rfl, ⟨rfl, rfl⟩, rfl, rfl, i64eq (wrap_up hlt hx), trivial⟩
          · replace h := iteN h g76
            conv => whnf
            refine CutK.norm [1, 2, 10, 11, 12, 45] [128] ?_
            conv => whnf
            refine CutK.norm [1, 2, 10, 11, 12] [128] ?_
            conv => whnf
            exact LoopOk.back (spec_odForm_l0_ct hrec_spec_odForm hx rest (v47n + 1)  hd1 h) [some 128] [] ⟨⟨rfl, rfl⟩, ⟨rfl, ⟨rfl, rfl, trivial⟩, trivial⟩, rfl, ⟨rfl, rfl⟩, rfl, rfl, i64eq (wrap_up hlt hx), trivial⟩
        · replace h := iteF h g75
          conv => whnf
          refine CutK.norm [1, 2, 10, 11, 12, 45] [128] ?_
          conv => whnf
          cases h
          exact Done.of [] [] rfl rfl ⟨⟨rfl, rfl⟩, ⟨rfl, trivial⟩, rfl, trivial⟩
      · replace h := iteF h g72
        conv => whnf
        refine CutK.norm [1, 2, 10, 11, 12, 45] [128] ?_
        conv => whnf
        cases h
        exact Done.of [] [] rfl rfl ⟨⟨rfl, rfl⟩, ⟨rfl, trivial⟩, rfl, trivial⟩
def spec_odForm_b (k : Nat) (rec_spec_odForm : Rw → Int → Option Bool) (a1 : Rw) (a2 : Int) : Option Bool :=
  (if a2 < (0 : Int) then some false else (if a1.length ≤ cap then (spec_odForm_l0 k rec_spec_odForm a1 a2 (spec_odForm_p3) a1 0) else none))
set_option maxHeartbeats 4000000 in
set_option maxRecDepth 100000 in
theorem spec_odForm_b_ct {k : Nat} {rec_spec_odForm : Rw → Int → Option Bool} (hrec_spec_odForm : ∀ (a1 : Rw) (a2 : Int) (r : Bool), rec_spec_odForm a1 a2 = some r → Ct prog 156 [.agg [.d (D.sl a1)], .d (D.int .i64 a2)] (⟨[], []⟩) (.d (D.bool r)) (⟨[], []⟩)) {a1 : Rw} {a2 : Int} {r : Bool} (h : spec_odForm_b k rec_spec_odForm a1 a2 = some r) : Ct prog 156 [.agg [.d (D.sl a1)], .d (D.int .i64 a2)] (⟨[], []⟩) (.d (D.bool r)) (⟨[], []⟩) := by
  rw [spec_odForm_b] at h
  refine Ct.of (c := _) mixed func156 ⟨rfl, rfl, rfl⟩ ?_ rfl
  conv => whnf
  refine splD (fun g35 => ?_) (fun g35 => ?_)
  · replace h := iteP h g35
    conv => whnf
    cases h
    exact Done.of [] [] rfl rfl ⟨⟨rfl, rfl⟩, ⟨rfl, trivial⟩, rfl, trivial⟩
  · replace h := iteN h g35
    conv => whnf
    obtain ⟨g84, h⟩ := req_ex h
    refine LoopOk.into (spec_odForm_l0_ct hrec_spec_odForm g84 _ _  rfl h) [some 128] [] ⟨⟨rfl, rfl⟩, ⟨rfl, ⟨rfl, rfl, trivial⟩, trivial⟩, rfl, ⟨rfl, rfl⟩, rfl, rfl, rfl, trivial⟩ ?_ (fun _ hs => hs)
    rintro i ts os ⟨rfl, h, rfl, rfl⟩
    conv => whnf
    exact CutK.piece (spec_odForm_p3_ct  h) [] [] ⟨⟨rfl, rfl⟩, ⟨rfl, trivial⟩, trivial⟩
def spec_odForm : Nat → Rw → Int → Option Bool
  | 0, _, _ => none
  | k + 1, a1, a2 => spec_odForm_b k (spec_odForm k) a1 a2
theorem spec_odForm_ct' : ∀ (k : Nat) (a1 : Rw) (a2 : Int) (r : Bool), spec_odForm k a1 a2 = some r → Ct prog 156 [.agg [.d (D.sl a1)], .d (D.int .i64 a2)] (⟨[], []⟩) (.d (D.bool r)) (⟨[], []⟩)
  | 0, _, _, _, h => by rw [spec_odForm] at h; cases h
  | k + 1, _, _, _, h => by rw [spec_odForm] at h; exact spec_odForm_b_ct (spec_odForm_ct' k) h
theorem spec_odForm_ct {k : Nat} {a1 : Rw} {a2 : Int} {r : Bool} (h : spec_odForm k a1 a2 = some r) : Ct prog 156 [.agg [.d (D.sl a1)], .d (D.int .i64 a2)] (⟨[], []⟩) (.d (D.bool r)) (⟨[], []⟩) := spec_odForm_ct' k _ _ _ h

def spec_odGood (k : Nat) (a1 : Rw) : Option Bool :=
  ((spec_odLeft k a1 6 60).bind fun y2 => (if (0 : Int) ≤ y2 then ((spec_odForm k a1 6).bind fun y5 => (if y5 = true then some true else some false)) else some false))
set_option maxHeartbeats 4000000 in
set_option maxRecDepth 100000 in
theorem spec_odGood_ct {k : Nat} {a1 : Rw} {r : Bool} (h : spec_odGood k a1 = some r) : Ct prog 74 [.agg [.d (D.sl a1)]] (⟨[], []⟩) (.d (D.bool r)) (⟨[], []⟩) := by
  rw [spec_odGood] at h
  refine Ct.of (c := _) mixed func74 ⟨rfl, rfl, rfl⟩ ?_ rfl
  conv => whnf
  obtain ⟨y2, e3, h⟩ := bind_ex h
  refine CallOk.of (spec_odLeft_ct e3) ?_
  conv => whnf
  refine splD (fun g4 => ?_) (fun g4 => ?_)
  · replace h := iteP h g4
    conv => whnf
    obtain ⟨y5, e6, h⟩ := bind_ex h
    refine CallOk.of (spec_odForm_ct e6) ?_
    conv => whnf
    refine spl (fun g7 => ?_) (fun g7 => ?_)
    · replace h := iteT h g7
      conv => whnf
      refine CutK.go ?_
      conv => whnf
      cases h
      exact Done.of [] [] rfl rfl ⟨⟨rfl, rfl⟩, ⟨rfl, trivial⟩, rfl, trivial⟩
    · replace h := iteF h g7
      conv => whnf
      refine CutK.go ?_
      conv => whnf
      cases h
      exact Done.of [] [] rfl rfl ⟨⟨rfl, rfl⟩, ⟨rfl, trivial⟩, rfl, trivial⟩
  · replace h := iteN h g4
    conv => whnf
    refine CutK.go ?_
    conv => whnf
    cases h
    exact Done.of [] [] rfl rfl ⟨⟨rfl, rfl⟩, ⟨rfl, trivial⟩, rfl, trivial⟩

def spec_odZero  (a1 : Rw) : Option Bool :=
  (if (a1.length : Int) = (0 : Int) then some true else some false)
set_option maxHeartbeats 4000000 in
set_option maxRecDepth 100000 in
theorem spec_odZero_ct  {a1 : Rw} {r : Bool} (h : spec_odZero a1 = some r) : Ct prog 76 [.agg [.d (D.sl a1)]] (⟨[], []⟩) (.d (D.bool r)) (⟨[], []⟩) := by
  rw [spec_odZero] at h
  refine Ct.of (c := _) mixed func76 ⟨rfl, rfl, rfl⟩ ?_ rfl
  conv => whnf
  refine splD (fun g2 => ?_) (fun g2 => ?_)
  · replace h := iteP h g2
    conv => whnf
    cases h
    exact Done.of [] [] rfl rfl ⟨⟨rfl, rfl⟩, ⟨rfl, trivial⟩, rfl, trivial⟩
  · replace h := iteN h g2
    conv => whnf
    cases h
    exact Done.of [] [] rfl rfl ⟨⟨rfl, rfl⟩, ⟨rfl, trivial⟩, rfl, trivial⟩

def spec_odFinite  (a1 : Rw) : Option (Int × Rw) :=
  (if (0 : Int) ≤ (IntKind.i64.wrap ((a1.length : Int) - 1)) then (row_si a1 (IntKind.i64.wrap ((a1.length : Int) - 1)) fun x3 x4 => ((spec_odZero x3).bind fun y7 => (if y7 = true then (if 0 ≤ (IntKind.i64.wrap ((a1.length : Int) - 1)) ∧ (IntKind.i64.wrap ((a1.length : Int) - 1)) ≤ (a1.length : Int) ∧ (∀ cs ∈ a1, cs.length = 2) then some (x4, a1.take (IntKind.i64.wrap ((a1.length : Int) - 1) : Int).toNat) else none) else some (0, a1)))) else some (0, a1))
set_option maxHeartbeats 4000000 in
set_option maxRecDepth 100000 in
theorem spec_odFinite_ct  {a1 : Rw} {r : Int × Rw} (h : spec_odFinite a1 = some r) : Ct prog 161 [.agg [.d (D.sl a1)]] (⟨[], []⟩) (.tup [.d (D.int .i64 r.1), .agg [.d (D.sl r.2)]]) (⟨[], []⟩) := by
  rw [spec_odFinite] at h
  refine Ct.of (c := _) mixed func161 ⟨rfl, rfl, rfl⟩ ?_ rfl
  conv => whnf
  refine splD (fun g2 => ?_) (fun g2 => ?_)
  · replace h := iteP h g2
    conv => whnf
    obtain ⟨g6, x3, x4, e5, h⟩ := row_si_ex h
    refine Req.of g6 ?_
    refine Row.of _ e5 ?_
    conv => whnf
    obtain ⟨y7, e8, h⟩ := bind_ex h
    refine CallOk.of (spec_odZero_ct e8) ?_
    conv => whnf
    refine spl (fun g9 => ?_) (fun g9 => ?_)
    · replace h := iteT h g9
      conv => whnf
      refine CutK.norm [1, 3, 4, 19] [64, 192] ?_
      conv => whnf
      refine Req.of g6 ?_
      refine Row.of _ e5 ?_
      conv => whnf
      obtain ⟨g10, h⟩ := req_ex h
      refine Req.of g10 ?_
      conv => whnf
      cases h
      exact Done.of [] [] rfl rfl ⟨⟨rfl, rfl⟩, ⟨rfl, trivial⟩, ⟨rfl, ⟨rfl, trivial⟩, trivial⟩, trivial⟩
    · replace h := iteF h g9
      conv => whnf
      refine CutK.norm [1, 3, 4, 19] [64, 192] ?_
      conv => whnf
      refine CutK.norm [1, 3] [64, 192] ?_
      conv => whnf
      cases h
      exact Done.of [] [] rfl rfl ⟨⟨rfl, rfl⟩, ⟨rfl, trivial⟩, ⟨rfl, ⟨rfl, trivial⟩, trivial⟩, trivial⟩
  · replace h := iteN h g2
    conv => whnf
    refine CutK.norm [1, 3, 4, 19] [64, 192] ?_
    conv => whnf
    refine CutK.norm [1, 3] [64, 192] ?_
    conv => whnf
    cases h
    exact Done.of [] [] rfl rfl ⟨⟨rfl, rfl⟩, ⟨rfl, trivial⟩, ⟨rfl, ⟨rfl, trivial⟩, trivial⟩, trivial⟩

def spec_odLimit  (a1 : Rw) : Option Bool :=
  ((spec_odFinite a1).bind fun y2 => ((spec_odZero a1).bind fun y4 => (if y4 = true then some false else (if y2.1 = (0 : Int) then some true else some false))))
set_option maxHeartbeats 4000000 in
set_option maxRecDepth 100000 in
theorem spec_odLimit_ct  {a1 : Rw} {r : Bool} (h : spec_odLimit a1 = some r) : Ct prog 205 [.agg [.d (D.sl a1)]] (⟨[], []⟩) (.d (D.bool r)) (⟨[], []⟩) := by
  rw [spec_odLimit] at h
  refine Ct.of (c := _) mixed func205 ⟨rfl, rfl, rfl⟩ ?_ rfl
  conv => whnf
  obtain ⟨y2, e3, h⟩ := bind_ex h
  refine CallOk.of (spec_odFinite_ct e3) ?_
  conv => whnf
  refine CutK.go ?_
  conv => whnf
  obtain ⟨y4, e5, h⟩ := bind_ex h
  refine CallOk.of (spec_odZero_ct e5) ?_
  conv => whnf
  refine spl (fun g6 => ?_) (fun g6 => ?_)
  · replace h := iteT h g6
    conv => whnf
    refine CutK.go ?_
    conv => whnf
    cases h
    exact Done.of [] [] rfl rfl ⟨⟨rfl, rfl⟩, ⟨rfl, trivial⟩, rfl, trivial⟩
  · replace h := iteF h g6
    conv => whnf
    refine splD (fun g7 => ?_) (fun g7 => ?_)
    · replace h := iteP h g7
      conv => whnf
      refine CutK.go ?_
      conv => whnf
      cases h
      exact Done.of [] [] rfl rfl ⟨⟨rfl, rfl⟩, ⟨rfl, trivial⟩, rfl, trivial⟩
    · replace h := iteN h g7
      conv => whnf
      refine CutK.go ?_
      conv => whnf
      cases h
      exact Done.of [] [] rfl rfl ⟨⟨rfl, rfl⟩, ⟨rfl, trivial⟩, rfl, trivial⟩

def spec_odBefore  (a1 : Rw) : Option Rw :=
  (row_si a1 (IntKind.i64.wrap ((a1.length : Int) - 1)) fun x2 x3 => (if 0 ≤ (IntKind.i64.wrap ((a1.length : Int) - 1)) ∧ (IntKind.i64.wrap ((a1.length : Int) - 1)) ≤ (a1.length : Int) ∧ (∀ cs ∈ a1, cs.length = 2) then (if (a1.take (IntKind.i64.wrap ((a1.length : Int) - 1) : Int).toNat).length ≤ cap ∧ (∀ cs ∈ (a1.take (IntKind.i64.wrap ((a1.length : Int) - 1) : Int).toNat), cs.length = 2) then (if (1 : Int) < x3 then (if ([] ++ (a1.take (IntKind.i64.wrap ((a1.length : Int) - 1) : Int).toNat) : Rw).length + 1 ≤ cap then some (([] ++ (a1.take (IntKind.i64.wrap ((a1.length : Int) - 1) : Int).toNat)) ++ ([[D.sl x2, D.int .i64 (IntKind.i64.wrap (x3 - 1))]])) else none) else some ([] ++ (a1.take (IntKind.i64.wrap ((a1.length : Int) - 1) : Int).toNat) : Rw)) else none) else none))
set_option maxHeartbeats 4000000 in
set_option maxRecDepth 100000 in
theorem spec_odBefore_ct  {a1 : Rw} {r : Rw} (h : spec_odBefore a1 = some r) : Ct prog 206 [.agg [.d (D.sl a1)]] (⟨[], []⟩) (.agg [.os 8 r.length]) (⟨[], [(104, false, r)]⟩) := by
  rw [spec_odBefore] at h
  refine Ct.of (c := _) mixed func206 ⟨rfl, rfl, rfl⟩ ?_ rfl
  conv => whnf
  obtain ⟨g5, x2, x3, e4, h⟩ := row_si_ex h
  refine Req.of g5 ?_
  refine Row.of _ e4 ?_
  conv => whnf
  obtain ⟨g6, h⟩ := req_ex h
  refine Req.of g6 ?_
  conv => whnf
  refine Take.all (by first | rfl | exact List.length_append.symm | (simp; done) | omega) ?_
  conv => whnf
  obtain ⟨g7, h⟩ := req_ex h
  refine Req.of (room0 (b := 32) (by decide) g7.1 g7.2) ?_
  conv => whnf
  refine splD (fun g8 => ?_) (fun g8 => ?_)
  · replace h := iteP h g8
    conv => whnf
    refine Take.all (by first | rfl | exact List.length_append.symm | (simp; done) | omega) ?_
    conv => whnf
    refine Take.all (by first | rfl | exact List.length_append.symm | (simp; done) | omega) ?_
    conv => whnf
    obtain ⟨g9, h⟩ := req_ex h
    refine Req.of (room (b := 32) (by decide) g9 (wide1 rfl wide0)) ?_
    conv => whnf
    cases h
    exact Done.of [some 2112] [] rfl rfl ⟨⟨rfl, rfl⟩, ⟨rfl, ⟨rfl, rfl, rows_same⟩, trivial⟩, ⟨⟨(by first | rfl | exact List.length_append.symm | (simp; done) | omega), rfl⟩, trivial⟩, trivial⟩
  · replace h := iteN h g8
    conv => whnf
    cases h
    exact Done.of [some 1280] [] rfl rfl ⟨⟨rfl, rfl⟩, ⟨rfl, ⟨rfl, rfl, rows_same⟩, trivial⟩, ⟨⟨(by first | rfl | exact List.length_append.symm | (simp; done) | omega), rfl⟩, trivial⟩, trivial⟩

def spec_odOwn_l0 (rec_spec_odOwn : Rw → Option Rw) (a1 : Rw) (K0 : Rw → Option Rw) : Rw → Rw → Option Rw
  | [], v10 => (K0 v10)
  | cs :: rest, v10 => (cell_si cs fun x28 x29 => ((rec_spec_odOwn x28).bind fun y31 => (if v10.length + 1 ≤ cap then (spec_odOwn_l0 rec_spec_odOwn a1 K0 rest (v10 ++ ([[D.sl y31, D.int .i64 x29]]))) else none)))
set_option maxRecDepth 100000 in
theorem spec_odOwn_l0_ct {rec_spec_odOwn : Rw → Option Rw} {a1 : Rw} {K0 : Rw → Option Rw} (hrec_spec_odOwn : ∀ (a1 : Rw) (r : Rw), rec_spec_odOwn a1 = some r → Ct prog 166 [.agg [.d (D.sl a1)]] (⟨[], []⟩) (.agg [.os 8 r.length]) (⟨[], [(104, true, r)]⟩)) {r : Rw} (hx : a1.length ≤ cap) : ∀ (rest : Rw) (v9n : Nat) (v10 : Rw), a1.drop v9n = rest → spec_odOwn_l0 rec_spec_odOwn a1 K0 rest v10 = some r → LoopOk prog 0 (lp f166 0) (mk 27 [(2, .ptr 128 0), (3, .ptr 192 0), (8, .d (D.sl a1)), (9, .d (D.int .i64 (a1.length : Int))), (10, .d (D.int .i64 (v9n : Int)))] [(128, .box 26 [.es]), (192, .box 26 [.os 64000 v10.length]), (64000, .arr 104 true v10)]) (LoopEnd prog f166 0 27 (.agg [.os 8 r.length]) (⟨[], [(104, true, r)]⟩) (fun i ts os => (i = 0 ∧ ∃ v19 : Rw, K0 v19 = some r ∧ ts = [(2, .ptr 128 0), (3, .ptr 192 0)] ∧ os = [(128, .box 26 [.es]), (192, .box 26 [.os 67001 v19.length]), (67001, .arr 104 true v19)])))
  | [], v9n, v10, hd, h => by
      rw [spec_odOwn_l0] at h
      have hn := drop_nil hd
      refine LoopOk.step ?_
      conv => whnf
      refine splD (fun g => absurd g hn) (fun _ => ?_)
      conv => whnf
      exact ⟨_, _, [some 128, some 192, some 64000], [], ⟨rfl, _, h, rfl, rfl⟩, ⟨⟨rfl, rfl⟩, ⟨rfl, ⟨rfl, trivial, trivial⟩, ⟨rfl, ⟨rfl, rfl⟩, trivial⟩, ⟨rfl, rfl, rows_same⟩, trivial⟩, ⟨rfl, rfl⟩, ⟨rfl, rfl⟩, trivial⟩⟩
  | cs :: rest, v9n, v10, hd, h => by
      rw [spec_odOwn_l0] at h
      obtain ⟨hrow, hd1, hlt⟩ := drop_cons hd
      refine LoopOk.step ?_
      conv => whnf
      refine splD (fun _ => ?_) (fun g => absurd hlt g)
      conv => whnf
      obtain ⟨x28, x29, e30, h⟩ := cell_si_ex h
      rw [e30] at hrow
      refine Req.of (Int.natCast_nonneg _) ?_
      refine Row.of _ hrow ?_
      conv => whnf
      obtain ⟨y31, e32, h⟩ := bind_ex h
      refine CallOk.of (hrec_spec_odOwn _ _ e32) ?_
      conv => whnf
      refine Take.all (rfl) ?_
      conv => whnf
      refine Take.all (rfl) ?_
      conv => whnf
      refine Take.all (by first | rfl | exact List.length_append.symm | (simp; done) | omega) ?_
      conv => whnf
      obtain ⟨g33, h⟩ := req_ex h
      refine Req.of (room (b := 32) (by decide) g33 (wide1 rfl wide0)) ?_
      conv => whnf
      refine CutK.go ?_
      conv => whnf
      exact LoopOk.back (spec_odOwn_l0_ct hrec_spec_odOwn hx rest (v9n + 1) _ hd1 h) [some 128, some 192, some 1472] [] ⟨⟨rfl, rfl⟩, ⟨rfl, ⟨rfl, trivial, trivial⟩, ⟨rfl, ⟨(by first | rfl | exact List.length_append.symm | (simp; done) | omega), rfl⟩, trivial⟩, ⟨rfl, rfl, rows_same⟩, trivial⟩, ⟨rfl, rfl⟩, ⟨rfl, rfl⟩, rfl, rfl, i64eq (wrap_up hlt hx), trivial⟩
def spec_odOwn_b (rec_spec_odOwn : Rw → Option Rw) (a1 : Rw) : Option Rw :=
  (if a1.length ≤ cap then (spec_odOwn_l0 rec_spec_odOwn a1 (fun (v19 : Rw) => some v19) a1 ([] : Rw)) else none)
set_option maxHeartbeats 4000000 in
set_option maxRecDepth 100000 in
theorem spec_odOwn_b_ct {rec_spec_odOwn : Rw → Option Rw} (hrec_spec_odOwn : ∀ (a1 : Rw) (r : Rw), rec_spec_odOwn a1 = some r → Ct prog 166 [.agg [.d (D.sl a1)]] (⟨[], []⟩) (.agg [.os 8 r.length]) (⟨[], [(104, true, r)]⟩)) {a1 : Rw} {r : Rw} (h : spec_odOwn_b rec_spec_odOwn a1 = some r) : Ct prog 166 [.agg [.d (D.sl a1)]] (⟨[], []⟩) (.agg [.os 8 r.length]) (⟨[], [(104, true, r)]⟩) := by
  rw [spec_odOwn_b] at h
  refine Ct.of (c := _) mixed func166 ⟨rfl, rfl, rfl⟩ ?_ rfl
  conv => whnf
  obtain ⟨g34, h⟩ := req_ex h
  refine LoopOk.into (spec_odOwn_l0_ct hrec_spec_odOwn g34 _ _ _ rfl h) [some 128, some 192, none] [] ⟨⟨rfl, rfl⟩, ⟨rfl, ⟨rfl, trivial, trivial⟩, ⟨rfl, ⟨rfl, rfl⟩, trivial⟩, rfl, trivial⟩, ⟨rfl, rfl⟩, ⟨rfl, rfl⟩, rfl, rfl, rfl, trivial⟩ ?_ (fun _ hs => hs)
  rintro i ts os ⟨rfl, v19, h, rfl, rfl⟩
  conv => whnf
  refine CutK.go ?_
  conv => whnf
  cases h
  exact Done.of [some 67001] [] rfl rfl ⟨⟨rfl, rfl⟩, ⟨rfl, ⟨rfl, rfl, rows_same⟩, trivial⟩, ⟨⟨rfl, rfl⟩, trivial⟩, trivial⟩
def spec_odOwn : Nat → Rw → Option Rw
  | 0, _ => none
  | k + 1, a1 => spec_odOwn_b (spec_odOwn k) a1
theorem spec_odOwn_ct' : ∀ (k : Nat) (a1 : Rw) (r : Rw), spec_odOwn k a1 = some r → Ct prog 166 [.agg [.d (D.sl a1)]] (⟨[], []⟩) (.agg [.os 8 r.length]) (⟨[], [(104, true, r)]⟩)
  | 0, _, _, h => by rw [spec_odOwn] at h; cases h
  | k + 1, _, _, h => by rw [spec_odOwn] at h; exact spec_odOwn_b_ct (spec_odOwn_ct' k) h
theorem spec_odOwn_ct {k : Nat} {a1 : Rw} {r : Rw} (h : spec_odOwn k a1 = some r) : Ct prog 166 [.agg [.d (D.sl a1)]] (⟨[], []⟩) (.agg [.os 8 r.length]) (⟨[], [(104, true, r)]⟩) := spec_odOwn_ct' k _ _ h

def spec_odIf (k : Nat) (a1 : Rw) : Option (Rw × Bool) :=
  ((spec_odGood k a1).bind fun y2 => (if y2 = true then ((spec_odOwn k a1).bind fun y5 => some (y5, true)) else some (([] : Rw), false)))
set_option maxHeartbeats 4000000 in
set_option maxRecDepth 100000 in
theorem spec_odIf_ct {k : Nat} {a1 : Rw} {r : Rw × Bool} (h : spec_odIf k a1 = some r) : Ct prog 84 [.agg [.d (D.sl a1)]] (⟨[], []⟩) (.tup [.agg [.os 8 r.1.length], .d (D.bool r.2)]) (⟨[], [(104, true, r.1)]⟩) := by
  rw [spec_odIf] at h
  refine Ct.of (c := _) mixed func84 ⟨rfl, rfl, rfl⟩ ?_ rfl
  conv => whnf
  obtain ⟨y2, e3, h⟩ := bind_ex h
  refine CallOk.of (spec_odGood_ct e3) ?_
  conv => whnf
  refine spl (fun g4 => ?_) (fun g4 => ?_)
  · replace h := iteT h g4
    conv => whnf
    refine CutK.go ?_
    conv => whnf
    refine CutK.go ?_
    conv => whnf
    obtain ⟨y5, e6, h⟩ := bind_ex h
    refine CallOk.of (spec_odOwn_ct e6) ?_
    conv => whnf
    refine CutK.go ?_
    conv => whnf
    cases h
    exact Done.of [some 576] [] rfl rfl ⟨⟨rfl, rfl⟩, ⟨rfl, ⟨rfl, rfl, rows_same⟩, trivial⟩, ⟨⟨⟨rfl, rfl⟩, trivial⟩, rfl, trivial⟩, trivial⟩
  · replace h := iteF h g4
    conv => whnf
    refine CutK.go ?_
    conv => whnf
    cases h
    exact Done.of [none] [] rfl rfl ⟨⟨rfl, rfl⟩, ⟨rfl, rfl, trivial⟩, ⟨⟨⟨rfl, rfl⟩, trivial⟩, rfl, trivial⟩, trivial⟩

def spec_PredecessorOf (k : Nat) (a1 : Rw) : Option (Rw × Bool) :=
  ((spec_odGood k a1).bind fun y2 => (if y2 = true then ((spec_odZero a1).bind fun y5 => (if y5 = true then some (([] : Rw), false) else ((spec_odLimit a1).bind fun y8 => (if y8 = true then some (([] : Rw), false) else ((spec_odBefore a1).bind fun y11 => ((spec_odIf k y11).bind fun y13 => (if y13.2 = true then some (y13.1, true) else some (y13.1, false)))))))) else some (([] : Rw), false)))
set_option maxHeartbeats 4000000 in
set_option maxRecDepth 100000 in
theorem spec_PredecessorOf_ct {k : Nat} {a1 : Rw} {r : Rw × Bool} (h : spec_PredecessorOf k a1 = some r) : Ct prog 157 [.agg [.d (D.sl a1)]] (⟨[], []⟩) (.tup [.agg [.os 8 r.1.length], .d (D.bool r.2)]) (⟨[], [(104, true, r.1)]⟩) := by
  rw [spec_PredecessorOf] at h
  refine Ct.of (c := _) mixed func157 ⟨rfl, rfl, rfl⟩ ?_ rfl
  conv => whnf
  obtain ⟨y2, e3, h⟩ := bind_ex h
  refine CallOk.of (spec_odGood_ct e3) ?_
  conv => whnf
  refine spl (fun g4 => ?_) (fun g4 => ?_)
  · replace h := iteT h g4
    conv => whnf
    obtain ⟨y5, e6, h⟩ := bind_ex h
    refine CallOk.of (spec_odZero_ct e6) ?_
    conv => whnf
    refine spl (fun g7 => ?_) (fun g7 => ?_)
    · replace h := iteT h g7
      conv => whnf
      refine CutK.go ?_
      conv => whnf
      cases h
      exact Done.of [none] [] rfl rfl ⟨⟨rfl, rfl⟩, ⟨rfl, rfl, trivial⟩, ⟨⟨⟨rfl, rfl⟩, trivial⟩, rfl, trivial⟩, trivial⟩
    · replace h := iteF h g7
      conv => whnf
      obtain ⟨y8, e9, h⟩ := bind_ex h
      refine CallOk.of (spec_odLimit_ct e9) ?_
      conv => whnf
      refine spl (fun g10 => ?_) (fun g10 => ?_)
      · replace h := iteT h g10
        conv => whnf
        refine CutK.go ?_
        conv => whnf
        cases h
        exact Done.of [none] [] rfl rfl ⟨⟨rfl, rfl⟩, ⟨rfl, rfl, trivial⟩, ⟨⟨⟨rfl, rfl⟩, trivial⟩, rfl, trivial⟩, trivial⟩
      · replace h := iteF h g10
        conv => whnf
        refine CutK.go ?_
        conv => whnf
        refine CutK.go ?_
        conv => whnf
        obtain ⟨y11, e12, h⟩ := bind_ex h
        refine CallOk.of (spec_odBefore_ct e12) ?_
        conv => whnf
        refine Take.all (rfl) ?_
        conv => whnf
        obtain ⟨y13, e14, h⟩ := bind_ex h
        refine CallOk.of (spec_odIf_ct e14) ?_
        conv => whnf
        refine spl (fun g15 => ?_) (fun g15 => ?_)
        · replace h := iteT h g15
          conv => whnf
          refine CutK.go ?_
          conv => whnf
          cases h
          exact Done.of [some 1152] [] rfl rfl ⟨⟨rfl, rfl⟩, ⟨rfl, ⟨rfl, rfl, rows_same⟩, trivial⟩, ⟨⟨⟨rfl, rfl⟩, trivial⟩, rfl, trivial⟩, trivial⟩
        · replace h := iteF h g15
          conv => whnf
          refine CutK.go ?_
          conv => whnf
          cases h
          exact Done.of [some 1152] [] rfl rfl ⟨⟨rfl, rfl⟩, ⟨rfl, ⟨rfl, rfl, rows_same⟩, trivial⟩, ⟨⟨⟨rfl, rfl⟩, trivial⟩, rfl, trivial⟩, trivial⟩
  · replace h := iteF h g4
    conv => whnf
    refine CutK.go ?_
    conv => whnf
    cases h
    exact Done.of [none] [] rfl rfl ⟨⟨rfl, rfl⟩, ⟨rfl, rfl, trivial⟩, ⟨⟨⟨rfl, rfl⟩, trivial⟩, rfl, trivial⟩, trivial⟩

def spec_odTerm  (a1 : Rw) (a2 : Int) : Option Rw :=
  (if a2 = (0 : Int) then some ([] : Rw) else some ([[D.sl a1, D.int .i64 a2]] : Rw))
set_option maxHeartbeats 4000000 in
set_option maxRecDepth 100000 in
theorem spec_odTerm_ct  {a1 : Rw} {a2 : Int} {r : Rw} (h : spec_odTerm a1 a2 = some r) : Ct prog 149 [.agg [.d (D.sl a1)], .d (D.int .i64 a2)] (⟨[], []⟩) (.agg [.os 8 r.length]) (⟨[], [(104, false, r)]⟩) := by
  rw [spec_odTerm] at h
  refine Ct.of (c := _) mixed func149 ⟨rfl, rfl, rfl⟩ ?_ rfl
  conv => whnf
  refine splD (fun g3 => ?_) (fun g3 => ?_)
  · replace h := iteP h g3
    conv => whnf
    cases h
    exact Done.of [none] [] rfl rfl ⟨⟨rfl, rfl⟩, ⟨rfl, rfl, trivial⟩, ⟨⟨rfl, rfl⟩, trivial⟩, trivial⟩
  · replace h := iteN h g3
    conv => whnf
    cases h
    exact Done.of [some 704] [] rfl rfl ⟨⟨rfl, rfl⟩, ⟨rfl, ⟨rfl, rfl, rows_same⟩, trivial⟩, ⟨⟨(by first | rfl | exact List.length_append.symm | (simp; done) | omega), rfl⟩, trivial⟩, trivial⟩

def spec_odPlus_p3 (o151 : Rw) : Option Rw :=
  some o151
set_option maxHeartbeats 4000000 in
set_option maxRecDepth 100000 in
theorem spec_odPlus_p3_ct {o151 : Rw} {r : Rw} (h : spec_odPlus_p3 o151 = some r) : X prog 0 (tlF f209 3) (mk 85 [(4, .ptr 256 0), (5, .ptr 320 0)] [(256, .box 26 [.es]), (320, .box 26 [.os 1079000 o151.length]), (1079000, .arr 104 false o151)]) (finK prog f209 0 (.agg [.os 8 r.length]) (⟨[], [(104, false, r)]⟩)) := by
  rw [spec_odPlus_p3] at h
  conv => whnf
  cases h
  exact Done.of [some 1079000] [] rfl rfl ⟨⟨rfl, rfl⟩, ⟨rfl, ⟨rfl, rfl, rows_same⟩, trivial⟩, ⟨⟨rfl, rfl⟩, trivial⟩, trivial⟩
def spec_odPlus_l1 (k : Nat) (a2 : Rw) (v199n : Nat) (x300 : Rw) (x301 : Int) (K2 : Rw → Option Rw) : Nat → Rw → Option Rw
  | 0, _ => none
  | n + 1, v313 => (if (0 : Int) < (v313.length : Int) then (if 0 ≤ (IntKind.i64.wrap ((v313.length : Int) - 1)) ∧ (IntKind.i64.wrap ((v313.length : Int) - 1)) < (v313.length : Int) then (row_si v313 (IntKind.i64.wrap ((v313.length : Int) - 1)) fun x337 x338 => ((spec_odCmp k x337 x300).bind fun y341 => (if y341 < (0 : Int) then (if 0 ≤ (IntKind.i64.wrap ((v313.length : Int) - 1)) ∧ (IntKind.i64.wrap ((v313.length : Int) - 1)) ≤ (v313.length : Int) then (if (IntKind.i64.wrap ((v313.length : Int) - 1) : Int).toNat ≤ v313.length then (spec_odPlus_l1 k a2 v199n x300 x301 K2 n (v313.take ((IntKind.i64.wrap ((v313.length : Int) - 1) : Int).toNat))) else none) else none) else (K2 v313)))) else none) else (K2 v313))
set_option maxRecDepth 100000 in
theorem spec_odPlus_l1_ct {k : Nat} {a2 : Rw} {v199n : Nat} {x300 : Rw} {x301 : Int} {K2 : Rw → Option Rw} {r : Rw} : ∀ (n : Nat) (v313 : Rw), spec_odPlus_l1 k a2 v199n x300 x301 K2 n v313 = some r → LoopOk prog 0 (lp f209 1) (mk 85 [(4, .ptr 256 0), (5, .ptr 320 0), (7, .ptr 448 0), (15, .d (D.sl a2)), (16, .d (D.int .i64 (a2.length : Int))), (17, .d (D.int .i64 (v199n : Int)))] [(256, .box 26 [.es]), (320, .box 26 [.os 76800 v313.length]), (448, .box 104 [.d (D.sl x300), .d (D.int .i64 x301)]), (76800, .arr 104 false v313)]) (LoopEnd prog f209 0 85 (.agg [.os 8 r.length]) (⟨[], [(104, false, r)]⟩) (fun i ts os => (i = 2 ∧ ∃ v324 : Rw, K2 v324 = some r ∧ ts = [(4, .ptr 256 0), (5, .ptr 320 0), (7, .ptr 448 0), (15, .d (D.sl a2)), (16, .d (D.int .i64 (a2.length : Int))), (17, .d (D.int .i64 (v199n : Int)))] ∧ os = [(256, .box 26 [.es]), (320, .box 26 [.os 79801 v324.length]), (448, .box 104 [.d (D.sl x300), .d (D.int .i64 x301)]), (79801, .arr 104 false v324)])))
  | 0, _, h => by
      rw [spec_odPlus_l1] at h; cases h
  | n + 1, v313, h => by
      rw [spec_odPlus_l1] at h
      refine LoopOk.step ?_
      conv => whnf
      refine splD (fun g335 => ?_) (fun g335 => ?_)
      · replace h := iteP h g335
        conv => whnf
        obtain ⟨g336, h⟩ := req_ex h
        refine Req.of g336 ?_
        conv => whnf
        obtain ⟨g340, x337, x338, e339, h⟩ := row_si_ex h
        refine Row.of _ e339 ?_
        conv => whnf
        obtain ⟨y341, e342, h⟩ := bind_ex h
        refine CallOk.of (spec_odCmp_ct e342) ?_
        conv => whnf
        refine splD (fun g343 => ?_) (fun g343 => ?_)
        · replace h := iteP h g343
          conv => whnf
          refine CutK.norm [4, 5, 7, 15, 16, 17, 39] [256, 320, 448, 76800] ?_
          conv => whnf
          refine CutK.norm [4, 5, 7, 15, 16, 17] [256, 320, 448, 76800] ?_
          conv => whnf
          obtain ⟨g344, h⟩ := req_ex h
          refine Req.of (⟨rfl, g344⟩) ?_
          conv => whnf
          obtain ⟨g345, h⟩ := req_ex h
          exact LoopOk.back (spec_odPlus_l1_ct  n _ h) [some 256, some 320, some 448, some 76800] [] ⟨⟨rfl, rfl⟩, ⟨rfl, ⟨rfl, trivial, trivial⟩, ⟨rfl, ⟨take_len g345, rfl⟩, trivial⟩, ⟨rfl, rfl, rfl, trivial⟩, ⟨rfl, rfl, _, rfl⟩, trivial⟩, ⟨rfl, rfl⟩, ⟨rfl, rfl⟩, ⟨rfl, rfl⟩, rfl, rfl, rfl, trivial⟩
        · replace h := iteN h g343
          conv => whnf
          refine CutK.norm [4, 5, 7, 15, 16, 17, 39] [256, 320, 448, 76800] ?_
          conv => whnf
          exact ⟨_, _, [some 256, some 320, some 448, some 76800], [], ⟨rfl, _, h, rfl, rfl⟩, ⟨⟨rfl, rfl⟩, ⟨rfl, ⟨rfl, trivial, trivial⟩, ⟨rfl, ⟨rfl, rfl⟩, trivial⟩, ⟨rfl, rfl, rfl, trivial⟩, ⟨rfl, rfl, rows_same⟩, trivial⟩, ⟨rfl, rfl⟩, ⟨rfl, rfl⟩, ⟨rfl, rfl⟩, rfl, rfl, rfl, trivial⟩⟩
      · replace h := iteN h g335
        conv => whnf
        refine CutK.norm [4, 5, 7, 15, 16, 17, 39] [256, 320, 448, 76800] ?_
        conv => whnf
        exact ⟨_, _, [some 256, some 320, some 448, some 76800], [], ⟨rfl, _, h, rfl, rfl⟩, ⟨⟨rfl, rfl⟩, ⟨rfl, ⟨rfl, trivial, trivial⟩, ⟨rfl, ⟨rfl, rfl⟩, trivial⟩, ⟨rfl, rfl, rfl, trivial⟩, ⟨rfl, rfl, rows_same⟩, trivial⟩, ⟨rfl, rfl⟩, ⟨rfl, rfl⟩, ⟨rfl, rfl⟩, rfl, rfl, rfl, trivial⟩⟩
def spec_odPlus_l0 (k : Nat) (a2 : Rw) (K0 : Rw → Option Rw) : Rw → Nat → Rw → Option Rw
  | [], v199n, v200 => (K0 v200)
  | cs :: rest, v199n, v200 => (cell_si cs fun x300 x301 => (spec_odPlus_l1 k a2 v199n x300 x301 (fun (v324 : Rw) => (if (0 : Int) ≤ (IntKind.i64.wrap ((v324.length : Int) - 1)) then (if 0 ≤ (IntKind.i64.wrap ((v324.length : Int) - 1)) ∧ (IntKind.i64.wrap ((v324.length : Int) - 1)) < (v324.length : Int) then (row_si v324 (IntKind.i64.wrap ((v324.length : Int) - 1)) fun x348 x349 => ((spec_odCmp k x348 x300).bind fun y352 => (if y352 = (0 : Int) then (spec_odPlus_l0 k a2 K0 rest (v199n + 1) (v324.set ((IntKind.i64.wrap ((v324.length : Int) - 1) : Int).toNat) [D.sl x348, D.int .i64 (IntKind.i64.wrap (x349 + x301))])) else (if v324.length + 1 ≤ cap then (spec_odPlus_l0 k a2 K0 rest (v199n + 1) (v324 ++ ([[D.sl x300, D.int .i64 x301]]))) else none)))) else none) else (if v324.length + 1 ≤ cap then (spec_odPlus_l0 k a2 K0 rest (v199n + 1) (v324 ++ ([[D.sl x300, D.int .i64 x301]]))) else none))) k v200))
set_option maxRecDepth 100000 in
theorem spec_odPlus_l0_ct {k : Nat} {a2 : Rw} {K0 : Rw → Option Rw} {r : Rw} (hx : a2.length ≤ cap) : ∀ (rest : Rw) (v199n : Nat) (v200 : Rw), a2.drop v199n = rest → spec_odPlus_l0 k a2 K0 rest v199n v200 = some r → LoopOk prog 0 (lp f209 0) (mk 85 [(4, .ptr 256 0), (5, .ptr 320 0), (15, .d (D.sl a2)), (16, .d (D.int .i64 (a2.length : Int))), (17, .d (D.int .i64 (v199n : Int)))] [(256, .box 26 [.es]), (320, .box 26 [.os 64000 v200.length]), (64000, .arr 104 false v200)]) (LoopEnd prog f209 0 85 (.agg [.os 8 r.length]) (⟨[], [(104, false, r)]⟩) (fun i ts os => (i = 0 ∧ ∃ v251 : Rw, K0 v251 = some r ∧ ts = [(4, .ptr 256 0), (5, .ptr 320 0)] ∧ os = [(256, .box 26 [.es]), (320, .box 26 [.os 67001 v251.length]), (67001, .arr 104 false v251)])))
  | [], v199n, v200, hd, h => by
      rw [spec_odPlus_l0] at h
      have hn := drop_nil hd
      refine LoopOk.step ?_
      conv => whnf
      refine splD (fun g => absurd g hn) (fun _ => ?_)
      conv => whnf
      exact ⟨_, _, [some 256, some 320, some 64000], [], ⟨rfl, _, h, rfl, rfl⟩, ⟨⟨rfl, rfl⟩, ⟨rfl, ⟨rfl, trivial, trivial⟩, ⟨rfl, ⟨rfl, rfl⟩, trivial⟩, ⟨rfl, rfl, rows_same⟩, trivial⟩, ⟨rfl, rfl⟩, ⟨rfl, rfl⟩, trivial⟩⟩
  | cs :: rest, v199n, v200, hd, h => by
      rw [spec_odPlus_l0] at h
      obtain ⟨hrow, hd1, hlt⟩ := drop_cons hd
      refine LoopOk.step ?_
      conv => whnf
      refine splD (fun _ => ?_) (fun g => absurd hlt g)
      conv => whnf
      obtain ⟨x300, x301, e302, h⟩ := cell_si_ex h
      rw [e302] at hrow
      refine Req.of (Int.natCast_nonneg _) ?_
      refine Row.of _ hrow ?_
      conv => whnf
      refine LoopOk.into (spec_odPlus_l1_ct  _ _ h) [some 256, some 320, some 448, some 64000] [] ⟨⟨rfl, rfl⟩, ⟨rfl, ⟨rfl, trivial, trivial⟩, ⟨rfl, ⟨rfl, rfl⟩, trivial⟩, ⟨rfl, rfl, rfl, trivial⟩, ⟨rfl, rfl, rows_same⟩, trivial⟩, ⟨rfl, rfl⟩, ⟨rfl, rfl⟩, ⟨rfl, rfl⟩, rfl, rfl, rfl, trivial⟩ ?_ (fun _ hs => hs)
      rintro i ts os ⟨rfl, v324, h, rfl, rfl⟩
      conv => whnf
      refine CutK.norm [4, 5, 7, 15, 16, 17] [256, 320, 448, 79801] ?_
      conv => whnf
      refine splD (fun g346 => ?_) (fun g346 => ?_)
      · replace h := iteP h g346
        conv => whnf
        obtain ⟨g347, h⟩ := req_ex h
        refine Req.of g347 ?_
        conv => whnf
        obtain ⟨g351, x348, x349, e350, h⟩ := row_si_ex h
        refine Row.of _ e350 ?_
        conv => whnf
        obtain ⟨y352, e353, h⟩ := bind_ex h
        refine CallOk.of (spec_odCmp_ct e353) ?_
        conv => whnf
        refine splD (fun g354 => ?_) (fun g354 => ?_)
        · replace h := iteP h g354
          conv => whnf
          refine CutK.norm [4, 5, 7, 8, 15, 16, 17, 65] [256, 320, 448, 79801] ?_
          conv => whnf
          refine Req.of g347 ?_
          conv => whnf
          refine Row.of _ e350 ?_
          conv => whnf
          refine Req.of g347 ?_
          conv => whnf
          refine Row.of _ e350 ?_
          conv => whnf
          refine CutK.norm [4, 5, 15, 16, 17] [256, 320, 79801] ?_
          conv => whnf
          exact LoopOk.back (spec_odPlus_l0_ct hx rest (v199n + 1) _ hd1 h) [some 256, some 320, some 79801] [] ⟨⟨rfl, rfl⟩, ⟨rfl, ⟨rfl, trivial, trivial⟩, ⟨rfl, ⟨(by first | rfl | exact List.length_append.symm | (simp; done) | omega), rfl⟩, trivial⟩, ⟨rfl, rfl, rows_same⟩, trivial⟩, ⟨rfl, rfl⟩, ⟨rfl, rfl⟩, rfl, rfl, i64eq (wrap_up hlt hx), trivial⟩
        · replace h := iteN h g354
          conv => whnf
          refine CutK.norm [4, 5, 7, 8, 15, 16, 17, 65] [256, 320, 448, 79801] ?_
          conv => whnf
          refine Take.all (rfl) ?_
          conv => whnf
          refine Take.all (by first | rfl | exact List.length_append.symm | (simp; done) | omega) ?_
          conv => whnf
          obtain ⟨g355, h⟩ := req_ex h
          refine Req.of (room (b := 32) (by decide) g355 (wide1 rfl wide0)) ?_
          conv => whnf
          refine CutK.norm [4, 5, 15, 16, 17] [256, 320, 5184] ?_
          conv => whnf
          exact LoopOk.back (spec_odPlus_l0_ct hx rest (v199n + 1) _ hd1 h) [some 256, some 320, some 5184] [] ⟨⟨rfl, rfl⟩, ⟨rfl, ⟨rfl, trivial, trivial⟩, ⟨rfl, ⟨(by first | rfl | exact List.length_append.symm | (simp; done) | omega), rfl⟩, trivial⟩, ⟨rfl, rfl, rows_same⟩, trivial⟩, ⟨rfl, rfl⟩, ⟨rfl, rfl⟩, rfl, rfl, i64eq (wrap_up hlt hx), trivial⟩
      · replace h := iteN h g346
        conv => whnf
        refine CutK.norm [4, 5, 7, 8, 15, 16, 17, 65] [256, 320, 448, 79801] ?_
        conv => whnf
        refine Take.all (rfl) ?_
        conv => whnf
        refine Take.all (by first | rfl | exact List.length_append.symm | (simp; done) | omega) ?_
        conv => whnf
        obtain ⟨g356, h⟩ := req_ex h
        refine Req.of (room (b := 32) (by decide) g356 (wide1 rfl wide0)) ?_
        conv => whnf
        refine CutK.norm [4, 5, 15, 16, 17] [256, 320, 5184] ?_
        conv => whnf
        exact LoopOk.back (spec_odPlus_l0_ct hx rest (v199n + 1) _ hd1 h) [some 256, some 320, some 5184] [] ⟨⟨rfl, rfl⟩, ⟨rfl, ⟨rfl, trivial, trivial⟩, ⟨rfl, ⟨(by first | rfl | exact List.length_append.symm | (simp; done) | omega), rfl⟩, trivial⟩, ⟨rfl, rfl, rows_same⟩, trivial⟩, ⟨rfl, rfl⟩, ⟨rfl, rfl⟩, rfl, rfl, i64eq (wrap_up hlt hx), trivial⟩
def spec_odPlus (k : Nat) (a1 : Rw) (a2 : Rw) : Option Rw :=
  (if a1.length ≤ cap ∧ (∀ cs ∈ a1, cs.length = 2) then (if a2.length ≤ cap then (spec_odPlus_l0 k a2 (fun (v251 : Rw) => (spec_odPlus_p3 v251)) a2 0 ([] ++ a1 : Rw)) else none) else none)
set_option maxHeartbeats 4000000 in
set_option maxRecDepth 100000 in
theorem spec_odPlus_ct {k : Nat} {a1 : Rw} {a2 : Rw} {r : Rw} (h : spec_odPlus k a1 a2 = some r) : Ct prog 209 [.agg [.d (D.sl a1)], .agg [.d (D.sl a2)]] (⟨[], []⟩) (.agg [.os 8 r.length]) (⟨[], [(104, false, r)]⟩) := by
  rw [spec_odPlus] at h
  refine Ct.of (c := _) mixed func209 ⟨rfl, rfl, rfl⟩ ?_ rfl
  conv => whnf
  refine Take.all (by first | rfl | exact List.length_append.symm | (simp; done) | omega) ?_
  conv => whnf
  obtain ⟨g152, h⟩ := req_ex h
  refine Req.of (room0 (b := 32) (by decide) g152.1 g152.2) ?_
  conv => whnf
  obtain ⟨g357, h⟩ := req_ex h
  refine LoopOk.into (spec_odPlus_l0_ct  g357 _ _ _ rfl h) [some 256, some 320, some 768] [] ⟨⟨rfl, rfl⟩, ⟨rfl, ⟨rfl, trivial, trivial⟩, ⟨rfl, ⟨(by first | rfl | exact List.length_append.symm | (simp; done) | omega), rfl⟩, trivial⟩, ⟨rfl, rfl, rows_same⟩, trivial⟩, ⟨rfl, rfl⟩, ⟨rfl, rfl⟩, rfl, rfl, rfl, trivial⟩ ?_ (fun _ hs => hs)
  rintro i ts os ⟨rfl, v251, h, rfl, rfl⟩
  conv => whnf
  exact CutK.piece (spec_odPlus_p3_ct  h) [some 256, some 320, some 67001] [] ⟨⟨rfl, rfl⟩, ⟨rfl, ⟨rfl, trivial, trivial⟩, ⟨rfl, ⟨rfl, rfl⟩, trivial⟩, ⟨rfl, rfl, rows_same⟩, trivial⟩, ⟨rfl, rfl⟩, ⟨rfl, rfl⟩, trivial⟩

def spec_odAt_b (k : Nat) (rec_spec_odAt : Rw → Int → Option Rw) (a1 : Rw) (a2 : Int) : Option Rw :=
  (row_si a1 (IntKind.i64.wrap ((a1.length : Int) - 1)) fun x3 x4 => ((spec_odLimit x3).bind fun y7 => (if y7 = true then ((spec_odBefore a1).bind fun y10 => ((rec_spec_odAt x3 a2).bind fun y12 => ((spec_odTerm y12 1).bind fun y14 => ((spec_odPlus k y10 y14).bind fun y16 => some y16)))) else ((spec_odBefore a1).bind fun y18 => ((spec_odBefore x3).bind fun y20 => ((spec_odTerm y20 a2).bind fun y22 => ((spec_odPlus k y18 y22).bind fun y24 => some y24)))))))
set_option maxHeartbeats 4000000 in
set_option maxRecDepth 100000 in
theorem spec_odAt_b_ct {k : Nat} {rec_spec_odAt : Rw → Int → Option Rw} (hrec_spec_odAt : ∀ (a1 : Rw) (a2 : Int) (r : Rw), rec_spec_odAt a1 a2 = some r → Ct prog 207 [.agg [.d (D.sl a1)], .d (D.int .i64 a2)] (⟨[], []⟩) (.agg [.os 8 r.length]) (⟨[], [(104, false, r)]⟩)) {a1 : Rw} {a2 : Int} {r : Rw} (h : spec_odAt_b k rec_spec_odAt a1 a2 = some r) : Ct prog 207 [.agg [.d (D.sl a1)], .d (D.int .i64 a2)] (⟨[], []⟩) (.agg [.os 8 r.length]) (⟨[], [(104, false, r)]⟩) := by
  rw [spec_odAt_b] at h
  refine Ct.of (c := _) mixed func207 ⟨rfl, rfl, rfl⟩ ?_ rfl
  conv => whnf
  obtain ⟨g6, x3, x4, e5, h⟩ := row_si_ex h
  refine Req.of g6 ?_
  refine Row.of _ e5 ?_
  conv => whnf
  obtain ⟨y7, e8, h⟩ := bind_ex h
  refine CallOk.of (spec_odLimit_ct e8) ?_
  conv => whnf
  refine spl (fun g9 => ?_) (fun g9 => ?_)
  · replace h := iteT h g9
    conv => whnf
    refine CutK.norm [1, 2, 4, 5, 16] [128, 256, 320] ?_
    conv => whnf
    obtain ⟨y10, e11, h⟩ := bind_ex h
    refine CallOk.of (spec_odBefore_ct e11) ?_
    conv => whnf
    obtain ⟨y12, e13, h⟩ := bind_ex h
    refine CallOk.of (hrec_spec_odAt _ _ _ e13) ?_
    conv => whnf
    refine Take.all (rfl) ?_
    conv => whnf
    obtain ⟨y14, e15, h⟩ := bind_ex h
    refine CallOk.of (spec_odTerm_ct e15) ?_
    conv => whnf
    refine Take.all (rfl) ?_
    conv => whnf
    refine Take.all (rfl) ?_
    conv => whnf
    obtain ⟨y16, e17, h⟩ := bind_ex h
    refine CallOk.of (spec_odPlus_ct e17) ?_
    conv => whnf
    refine CutK.norm [4] [256, 1472] ?_
    conv => whnf
    cases h
    exact Done.of [some 1472] [] rfl rfl ⟨⟨rfl, rfl⟩, ⟨rfl, ⟨rfl, rfl, rows_same⟩, trivial⟩, ⟨⟨rfl, rfl⟩, trivial⟩, trivial⟩
  · replace h := iteF h g9
    conv => whnf
    refine CutK.norm [1, 2, 4, 5, 16] [128, 256, 320] ?_
    conv => whnf
    refine CutK.norm [1, 2, 4, 5] [128, 256, 320] ?_
    conv => whnf
    obtain ⟨y18, e19, h⟩ := bind_ex h
    refine CallOk.of (spec_odBefore_ct e19) ?_
    conv => whnf
    obtain ⟨y20, e21, h⟩ := bind_ex h
    refine CallOk.of (spec_odBefore_ct e21) ?_
    conv => whnf
    refine Take.all (rfl) ?_
    conv => whnf
    obtain ⟨y22, e23, h⟩ := bind_ex h
    refine CallOk.of (spec_odTerm_ct e23) ?_
    conv => whnf
    refine Take.all (rfl) ?_
    conv => whnf
    refine Take.all (rfl) ?_
    conv => whnf
    obtain ⟨y24, e25, h⟩ := bind_ex h
    refine CallOk.of (spec_odPlus_ct e25) ?_
    conv => whnf
    refine CutK.norm [4] [256, 1920] ?_
    conv => whnf
    cases h
    exact Done.of [some 1920] [] rfl rfl ⟨⟨rfl, rfl⟩, ⟨rfl, ⟨rfl, rfl, rows_same⟩, trivial⟩, ⟨⟨rfl, rfl⟩, trivial⟩, trivial⟩
def spec_odAt : Nat → Rw → Int → Option Rw
  | 0, _, _ => none
  | k + 1, a1, a2 => spec_odAt_b k (spec_odAt k) a1 a2
theorem spec_odAt_ct' : ∀ (k : Nat) (a1 : Rw) (a2 : Int) (r : Rw), spec_odAt k a1 a2 = some r → Ct prog 207 [.agg [.d (D.sl a1)], .d (D.int .i64 a2)] (⟨[], []⟩) (.agg [.os 8 r.length]) (⟨[], [(104, false, r)]⟩)
  | 0, _, _, _, h => by rw [spec_odAt] at h; cases h
  | k + 1, _, _, _, h => by rw [spec_odAt] at h; exact spec_odAt_b_ct (spec_odAt_ct' k) h
theorem spec_odAt_ct {k : Nat} {a1 : Rw} {a2 : Int} {r : Rw} (h : spec_odAt k a1 a2 = some r) : Ct prog 207 [.agg [.d (D.sl a1)], .d (D.int .i64 a2)] (⟨[], []⟩) (.agg [.os 8 r.length]) (⟨[], [(104, false, r)]⟩) := spec_odAt_ct' k _ _ _ h

def spec_FundamentalAt (k : Nat) (a1 : Rw) (a2 : Int) : Option (Rw × Bool) :=
  ((spec_odGood k a1).bind fun y3 => (if y3 = true then ((spec_odLimit a1).bind fun y6 => (if y6 = true then ((spec_l1In a2 0 1000).bind fun y9 => (if y9 = true then ((spec_odAt k a1 a2).bind fun y12 => ((spec_odIf k y12).bind fun y14 => (if y14.2 = true then some (y14.1, true) else some (y14.1, false)))) else some (([] : Rw), false))) else some (([] : Rw), false))) else some (([] : Rw), false)))
set_option maxHeartbeats 4000000 in
set_option maxRecDepth 100000 in
theorem spec_FundamentalAt_ct {k : Nat} {a1 : Rw} {a2 : Int} {r : Rw × Bool} (h : spec_FundamentalAt k a1 a2 = some r) : Ct prog 158 [.agg [.d (D.sl a1)], .d (D.int .i64 a2)] (⟨[], []⟩) (.tup [.agg [.os 8 r.1.length], .d (D.bool r.2)]) (⟨[], [(104, true, r.1)]⟩) := by
  rw [spec_FundamentalAt] at h
  refine Ct.of (c := _) mixed func158 ⟨rfl, rfl, rfl⟩ ?_ rfl
  conv => whnf
  obtain ⟨y3, e4, h⟩ := bind_ex h
  refine CallOk.of (spec_odGood_ct e4) ?_
  conv => whnf
  refine spl (fun g5 => ?_) (fun g5 => ?_)
  · replace h := iteT h g5
    conv => whnf
    obtain ⟨y6, e7, h⟩ := bind_ex h
    refine CallOk.of (spec_odLimit_ct e7) ?_
    conv => whnf
    refine spl (fun g8 => ?_) (fun g8 => ?_)
    · replace h := iteT h g8
      conv => whnf
      obtain ⟨y9, e10, h⟩ := bind_ex h
      refine CallOk.of (spec_l1In_ct e10) ?_
      conv => whnf
      refine spl (fun g11 => ?_) (fun g11 => ?_)
      · replace h := iteT h g11
        conv => whnf
        refine CutK.go ?_
        conv => whnf
        refine CutK.go ?_
        conv => whnf
        obtain ⟨y12, e13, h⟩ := bind_ex h
        refine CallOk.of (spec_odAt_ct e13) ?_
        conv => whnf
        refine Take.all (rfl) ?_
        conv => whnf
        obtain ⟨y14, e15, h⟩ := bind_ex h
        refine CallOk.of (spec_odIf_ct e15) ?_
        conv => whnf
        refine spl (fun g16 => ?_) (fun g16 => ?_)
        · replace h := iteT h g16
          conv => whnf
          refine CutK.go ?_
          conv => whnf
          cases h
          exact Done.of [some 1472] [] rfl rfl ⟨⟨rfl, rfl⟩, ⟨rfl, ⟨rfl, rfl, rows_same⟩, trivial⟩, ⟨⟨⟨rfl, rfl⟩, trivial⟩, rfl, trivial⟩, trivial⟩
        · replace h := iteF h g16
          conv => whnf
          refine CutK.go ?_
          conv => whnf
          cases h
          exact Done.of [some 1472] [] rfl rfl ⟨⟨rfl, rfl⟩, ⟨rfl, ⟨rfl, rfl, rows_same⟩, trivial⟩, ⟨⟨⟨rfl, rfl⟩, trivial⟩, rfl, trivial⟩, trivial⟩
      · replace h := iteF h g11
        conv => whnf
        refine CutK.go ?_
        conv => whnf
        cases h
        exact Done.of [none] [] rfl rfl ⟨⟨rfl, rfl⟩, ⟨rfl, rfl, trivial⟩, ⟨⟨⟨rfl, rfl⟩, trivial⟩, rfl, trivial⟩, trivial⟩
    · replace h := iteF h g8
      conv => whnf
      refine CutK.go ?_
      conv => whnf
      cases h
      exact Done.of [none] [] rfl rfl ⟨⟨rfl, rfl⟩, ⟨rfl, rfl, trivial⟩, ⟨⟨⟨rfl, rfl⟩, trivial⟩, rfl, trivial⟩, trivial⟩
  · replace h := iteF h g5
    conv => whnf
    refine CutK.go ?_
    conv => whnf
    cases h
    exact Done.of [none] [] rfl rfl ⟨⟨rfl, rfl⟩, ⟨rfl, rfl, trivial⟩, ⟨⟨⟨rfl, rfl⟩, trivial⟩, rfl, trivial⟩, trivial⟩

def spec_DescendOnce (k : Nat) (a1 : Rw) (a2 : Int) : Option (Rw × Int × Bool) :=
  ((spec_odGood k a1).bind fun y3 => (if y3 = true then ((spec_l1In a2 0 1000).bind fun y6 => (if y6 = true then ((spec_odZero a1).bind fun y9 => (if y9 = true then some (([] : Rw), 0, false) else ((spec_PredecessorOf k a1).bind fun y12 => (if y12.2 = true then some (y12.1, IntKind.i64.wrap (a2 + 1), true) else ((spec_FundamentalAt k a1 a2).bind fun y15 => (if y15.2 = true then some (y15.1, a2, true) else some (([] : Rw), 0, false))))))) else some (([] : Rw), 0, false))) else some (([] : Rw), 0, false)))
set_option maxHeartbeats 4000000 in
set_option maxRecDepth 100000 in
theorem spec_DescendOnce_ct {k : Nat} {a1 : Rw} {a2 : Int} {r : Rw × Int × Bool} (h : spec_DescendOnce k a1 a2 = some r) : Ct prog 77 [.agg [.d (D.sl a1)], .d (D.int .i64 a2)] (⟨[], []⟩) (.tup [.agg [.os 8 r.1.length], .d (D.int .i64 r.2.1), .d (D.bool r.2.2)]) (⟨[], [(104, true, r.1)]⟩) := by
  rw [spec_DescendOnce] at h
  refine Ct.of (c := _) mixed func77 ⟨rfl, rfl, rfl⟩ ?_ rfl
  conv => whnf
  obtain ⟨y3, e4, h⟩ := bind_ex h
  refine CallOk.of (spec_odGood_ct e4) ?_
  conv => whnf
  refine spl (fun g5 => ?_) (fun g5 => ?_)
  · replace h := iteT h g5
    conv => whnf
    obtain ⟨y6, e7, h⟩ := bind_ex h
    refine CallOk.of (spec_l1In_ct e7) ?_
    conv => whnf
    refine spl (fun g8 => ?_) (fun g8 => ?_)
    · replace h := iteT h g8
      conv => whnf
      obtain ⟨y9, e10, h⟩ := bind_ex h
      refine CallOk.of (spec_odZero_ct e10) ?_
      conv => whnf
      refine spl (fun g11 => ?_) (fun g11 => ?_)
      · replace h := iteT h g11
        conv => whnf
        refine CutK.norm [1, 2, 4, 22] [128, 256] ?_
        conv => whnf
        cases h
        exact Done.of [none] [] rfl rfl ⟨⟨rfl, rfl⟩, ⟨rfl, rfl, trivial⟩, ⟨⟨⟨rfl, rfl⟩, trivial⟩, rfl, rfl, trivial⟩, trivial⟩
      · replace h := iteF h g11
        conv => whnf
        refine CutK.norm [1, 2, 4, 22] [128, 256] ?_
        conv => whnf
        refine CutK.norm [1, 2, 4] [128, 256] ?_
        conv => whnf
        obtain ⟨y12, e13, h⟩ := bind_ex h
        refine CallOk.of (spec_PredecessorOf_ct e13) ?_
        conv => whnf
        refine spl (fun g14 => ?_) (fun g14 => ?_)
        · replace h := iteT h g14
          conv => whnf
          refine CutK.norm [1, 2, 4, 7, 8] [128, 256, 448, 1664] ?_
          conv => whnf
          cases h
          exact Done.of [some 1664] [] rfl rfl ⟨⟨rfl, rfl⟩, ⟨rfl, ⟨rfl, rfl, rows_same⟩, trivial⟩, ⟨⟨⟨rfl, rfl⟩, trivial⟩, rfl, rfl, trivial⟩, trivial⟩
        · replace h := iteF h g14
          conv => whnf
          refine CutK.norm [1, 2, 4, 7, 8] [128, 256, 448, 1664] ?_
          conv => whnf
          refine CutK.norm [1, 2, 4] [128, 256] ?_
          conv => whnf
          obtain ⟨y15, e16, h⟩ := bind_ex h
          refine CallOk.of (spec_FundamentalAt_ct e16) ?_
          conv => whnf
          refine spl (fun g17 => ?_) (fun g17 => ?_)
          · replace h := iteT h g17
            conv => whnf
            refine CutK.norm [1, 4, 9, 10] [256, 576, 2304] ?_
            conv => whnf
            cases h
            exact Done.of [some 2304] [] rfl rfl ⟨⟨rfl, rfl⟩, ⟨rfl, ⟨rfl, rfl, rows_same⟩, trivial⟩, ⟨⟨⟨rfl, rfl⟩, trivial⟩, rfl, rfl, trivial⟩, trivial⟩
          · replace h := iteF h g17
            conv => whnf
            refine CutK.norm [1, 4, 9, 10] [256, 576, 2304] ?_
            conv => whnf
            cases h
            exact Done.of [none] [] rfl rfl ⟨⟨rfl, rfl⟩, ⟨rfl, rfl, trivial⟩, ⟨⟨⟨rfl, rfl⟩, trivial⟩, rfl, rfl, trivial⟩, trivial⟩
    · replace h := iteF h g8
      conv => whnf
      refine CutK.norm [1, 2, 4, 22] [128, 256] ?_
      conv => whnf
      cases h
      exact Done.of [none] [] rfl rfl ⟨⟨rfl, rfl⟩, ⟨rfl, rfl, trivial⟩, ⟨⟨⟨rfl, rfl⟩, trivial⟩, rfl, rfl, trivial⟩, trivial⟩
  · replace h := iteF h g5
    conv => whnf
    refine CutK.norm [1, 2, 4, 22] [128, 256] ?_
    conv => whnf
    cases h
    exact Done.of [none] [] rfl rfl ⟨⟨rfl, rfl⟩, ⟨rfl, rfl, trivial⟩, ⟨⟨⟨rfl, rfl⟩, trivial⟩, rfl, rfl, trivial⟩, trivial⟩

def spec_HardyValue_l0 (k : Nat) (K0 : Int → Option (Int × Bool)) : Nat → Int → Int → Rw → Option (Int × Bool)
  | 0, _, _, _ => none
  | n + 1, v20, v21, v22 => ((spec_odZero v22).bind fun y38 => (if y38 = true then (K0 v20) else (if v21 = (0 : Int) then some (0, false) else ((spec_DescendOnce k v22 v20).bind fun y42 => (if y42.2.2 = true then (spec_HardyValue_l0 k K0 n y42.2.1 (IntKind.i64.wrap (v21 - 1)) y42.1) else some (0, false))))))
set_option maxRecDepth 100000 in
theorem spec_HardyValue_l0_ct {k : Nat} {K0 : Int → Option (Int × Bool)} {r : Int × Bool} : ∀ (n : Nat) (v20 : Int) (v21 : Int) (v22 : Rw), spec_HardyValue_l0 k K0 n v20 v21 v22 = some r → LoopOk prog 0 (lp f14 0) (mk 43 [(1, .d (D.int .i64 v20)), (2, .d (D.int .i64 v21)), (3, .ptr 192 0)] [(192, .box 26 [.d (D.sl v22)])]) (LoopEnd prog f14 0 43 (.tup [.d (D.int .i64 r.1), .d (D.bool r.2)]) (⟨[], []⟩) (fun i ts os => (i = 0 ∧ ∃ v26 : Int, K0 v26 = some r ∧ ts = [(1, .d (D.int .i64 v26))] ∧ os = [])))
  | 0, _, _, _, h => by
      rw [spec_HardyValue_l0] at h; cases h
  | n + 1, v20, v21, v22, h => by
      rw [spec_HardyValue_l0] at h
      refine LoopOk.step ?_
      conv => whnf
      obtain ⟨y38, e39, h⟩ := bind_ex h
      refine CallOk.of (spec_odZero_ct e39) ?_
      conv => whnf
      refine spl (fun g40 => ?_) (fun g40 => ?_)
      · replace h := iteT h g40
        conv => whnf
        refine CutK.norm [1, 2, 3, 26] [192] ?_
        conv => whnf
        exact ⟨_, _, [], [], ⟨rfl, _, h, rfl, rfl⟩, ⟨⟨rfl, rfl⟩, ⟨rfl, trivial⟩, rfl, trivial⟩⟩
      · replace h := iteF h g40
        conv => whnf
        refine CutK.norm [1, 2, 3, 26] [192] ?_
        conv => whnf
        refine CutK.norm [1, 2, 3] [192] ?_
        conv => whnf
        refine splD (fun g41 => ?_) (fun g41 => ?_)
        · replace h := iteP h g41
          conv => whnf
          cases h
          exact Done.of [] [] rfl rfl ⟨⟨rfl, rfl⟩, ⟨rfl, trivial⟩, ⟨rfl, rfl, trivial⟩, trivial⟩
        · replace h := iteN h g41
          conv => whnf
          obtain ⟨y42, e43, h⟩ := bind_ex h
          refine CallOk.of (spec_DescendOnce_ct e43) ?_
          conv => whnf
          refine spl (fun g44 => ?_) (fun g44 => ?_)
          · replace h := iteT h g44
            conv => whnf
            refine CutK.norm [2, 3, 8, 9, 10] [192, 512, 2176] ?_
            conv => whnf
            refine CutK.norm [1, 2, 3] [192, 2176] ?_
            conv => whnf
            exact LoopOk.back (spec_HardyValue_l0_ct  n _ _ _ h) [some 192] [2176] ⟨⟨rfl, rfl⟩, ⟨rfl, ⟨rfl, ⟨rfl, Nat.le_of_eq rfl, eq_take rfl⟩, trivial⟩, trivial⟩, rfl, rfl, ⟨rfl, rfl⟩, trivial⟩
          · replace h := iteF h g44
            conv => whnf
            refine CutK.norm [2, 3, 8, 9, 10] [192, 512, 2176] ?_
            conv => whnf
            cases h
            exact Done.of [] [] rfl rfl ⟨⟨rfl, rfl⟩, ⟨rfl, trivial⟩, ⟨rfl, rfl, trivial⟩, trivial⟩
def spec_HardyValue (k : Nat) (a1 : Rw) (a2 : Int) (a3 : Int) : Option (Int × Bool) :=
  ((spec_odGood k a1).bind fun y4 => (if y4 = true then ((spec_l1In a2 0 1000).bind fun y7 => (if y7 = true then ((spec_l1In a3 0 200).bind fun y10 => (if y10 = true then (spec_HardyValue_l0 k (fun (v26 : Int) => some (v26, true)) k a2 a3 a1) else some (0, false))) else some (0, false))) else some (0, false)))
set_option maxHeartbeats 4000000 in
set_option maxRecDepth 100000 in
theorem spec_HardyValue_ct {k : Nat} {a1 : Rw} {a2 : Int} {a3 : Int} {r : Int × Bool} (h : spec_HardyValue k a1 a2 a3 = some r) : Ct prog 14 [.agg [.d (D.sl a1)], .d (D.int .i64 a2), .d (D.int .i64 a3)] (⟨[], []⟩) (.tup [.d (D.int .i64 r.1), .d (D.bool r.2)]) (⟨[], []⟩) := by
  rw [spec_HardyValue] at h
  refine Ct.of (c := _) mixed func14 ⟨rfl, rfl, rfl⟩ ?_ rfl
  conv => whnf
  obtain ⟨y4, e5, h⟩ := bind_ex h
  refine CallOk.of (spec_odGood_ct e5) ?_
  conv => whnf
  refine spl (fun g6 => ?_) (fun g6 => ?_)
  · replace h := iteT h g6
    conv => whnf
    obtain ⟨y7, e8, h⟩ := bind_ex h
    refine CallOk.of (spec_l1In_ct e8) ?_
    conv => whnf
    refine spl (fun g9 => ?_) (fun g9 => ?_)
    · replace h := iteT h g9
      conv => whnf
      obtain ⟨y10, e11, h⟩ := bind_ex h
      refine CallOk.of (spec_l1In_ct e11) ?_
      conv => whnf
      refine spl (fun g12 => ?_) (fun g12 => ?_)
      · replace h := iteT h g12
        conv => whnf
        refine CutK.norm [1, 2, 3, 23] [192] ?_
        conv => whnf
        refine CutK.norm [1, 2, 3] [192] ?_
        conv => whnf
        refine LoopOk.into (spec_HardyValue_l0_ct  _ _ _ _ h) [some 192] [] ⟨⟨rfl, rfl⟩, ⟨rfl, ⟨rfl, rfl, trivial⟩, trivial⟩, rfl, rfl, ⟨rfl, rfl⟩, trivial⟩ ?_ (fun _ hs => hs)
        rintro i ts os ⟨rfl, v26, h, rfl, rfl⟩
        conv => whnf
        refine CutK.norm [1] [] ?_
        conv => whnf
        cases h
        exact Done.of [] [] rfl rfl ⟨⟨rfl, rfl⟩, ⟨rfl, trivial⟩, ⟨rfl, rfl, trivial⟩, trivial⟩
      · replace h := iteF h g12
        conv => whnf
        refine CutK.norm [1, 2, 3, 23] [192] ?_
        conv => whnf
        cases h
        exact Done.of [] [] rfl rfl ⟨⟨rfl, rfl⟩, ⟨rfl, trivial⟩, ⟨rfl, rfl, trivial⟩, trivial⟩
    · replace h := iteF h g9
      conv => whnf
      refine CutK.norm [1, 2, 3, 23] [192] ?_
      conv => whnf
      cases h
      exact Done.of [] [] rfl rfl ⟨⟨rfl, rfl⟩, ⟨rfl, trivial⟩, ⟨rfl, rfl, trivial⟩, trivial⟩
  · replace h := iteF h g6
    conv => whnf
    refine CutK.norm [1, 2, 3, 23] [192] ?_
    conv => whnf
    cases h
    exact Done.of [] [] rfl rfl ⟨⟨rfl, rfl⟩, ⟨rfl, trivial⟩, ⟨rfl, rfl, trivial⟩, trivial⟩

def spec_l1Cur_next  (a1 : Rw) (a2 : Int) (a3 : Int) : Option (Int × Rw × Int × Int) :=
  (if a2 < (a1.length : Int) then (row_iu8 a1 a2 fun x5 => (if (IntKind.i64.wrap (a2 + 1)) ≤ (a1.length : Int) then some (IntKind.i64.wrap x5, a1, IntKind.i64.wrap (a2 + 1), IntKind.u64.wrap ((IntKind.u64.wrap ((IntKind.u64.wrap (a3 * 6364136223846793005)) + (IntKind.u64.wrap (IntKind.i64.wrap x5)))) + 1442695040888963407)) else some (IntKind.i64.wrap (IntKind.u64.wrap (BitVec.ofInt (IntKind.u64).bits ((IntKind.u64.wrap ((IntKind.u64.wrap ((IntKind.u64.wrap (a3 * 6364136223846793005)) + (IntKind.u64.wrap (IntKind.i64.wrap x5)))) + 1442695040888963407)).fdiv (2 ^ (min (40 : Int).toNat (IntKind.u64).bits))) &&& BitVec.ofInt (IntKind.u64).bits 255).toNat), a1, IntKind.i64.wrap (a2 + 1), IntKind.u64.wrap ((IntKind.u64.wrap ((IntKind.u64.wrap (a3 * 6364136223846793005)) + (IntKind.u64.wrap (IntKind.i64.wrap x5)))) + 1442695040888963407)))) else (if (IntKind.i64.wrap (a2 + 1)) ≤ (a1.length : Int) then some (0, a1, IntKind.i64.wrap (a2 + 1), IntKind.u64.wrap ((IntKind.u64.wrap ((IntKind.u64.wrap (a3 * 6364136223846793005)) + (IntKind.u64.wrap 0))) + 1442695040888963407)) else some (IntKind.i64.wrap (IntKind.u64.wrap (BitVec.ofInt (IntKind.u64).bits ((IntKind.u64.wrap ((IntKind.u64.wrap ((IntKind.u64.wrap (a3 * 6364136223846793005)) + (IntKind.u64.wrap 0))) + 1442695040888963407)).fdiv (2 ^ (min (40 : Int).toNat (IntKind.u64).bits))) &&& BitVec.ofInt (IntKind.u64).bits 255).toNat), a1, IntKind.i64.wrap (a2 + 1), IntKind.u64.wrap ((IntKind.u64.wrap ((IntKind.u64.wrap (a3 * 6364136223846793005)) + (IntKind.u64.wrap 0))) + 1442695040888963407))))
set_option maxHeartbeats 4000000 in
set_option maxRecDepth 100000 in
theorem spec_l1Cur_next_ct  {a1 : Rw} {a2 : Int} {a3 : Int} {r : Int × Rw × Int × Int} (h : spec_l1Cur_next a1 a2 a3 = some r) : Ct prog 147 [.ptr 0 0] (⟨[(91, [.d (D.sl a1), .d (D.int .i64 a2), .d (D.int .u64 a3)])], []⟩) (.d (D.int .i64 r.1)) (⟨[(91, [.d (D.sl r.2.1), .d (D.int .i64 r.2.2.1), .d (D.int .u64 r.2.2.2)])], []⟩) := by
  rw [spec_l1Cur_next] at h
  refine Ct.of (c := _) mixed func147 ⟨rfl, rfl, rfl⟩ ?_ rfl
  conv => whnf
  refine splD (fun g4 => ?_) (fun g4 => ?_)
  · replace h := iteP h g4
    conv => whnf
    obtain ⟨g7, x5, e6, h⟩ := row_iu8_ex h
    refine Req.of g7 ?_
    refine Row.of _ e6 ?_
    conv => whnf
    refine splD (fun g8 => ?_) (fun g8 => ?_)
    · replace h := iteP h g8
      conv => whnf
      cases h
      exact Done.of [some 0] [] rfl rfl ⟨⟨rfl, rfl⟩, ⟨rfl, ⟨rfl, rfl, rfl, rfl, trivial⟩, trivial⟩, rfl, trivial⟩
    · replace h := iteN h g8
      conv => whnf
      cases h
      exact Done.of [some 0] [] rfl rfl ⟨⟨rfl, rfl⟩, ⟨rfl, ⟨rfl, rfl, rfl, rfl, trivial⟩, trivial⟩, rfl, trivial⟩
  · replace h := iteN h g4
    conv => whnf
    refine splD (fun g9 => ?_) (fun g9 => ?_)
    · replace h := iteP h g9
      conv => whnf
      cases h
      exact Done.of [some 0] [] rfl rfl ⟨⟨rfl, rfl⟩, ⟨rfl, ⟨rfl, rfl, rfl, rfl, trivial⟩, trivial⟩, rfl, trivial⟩
    · replace h := iteN h g9
      conv => whnf
      cases h
      exact Done.of [some 0] [] rfl rfl ⟨⟨rfl, rfl⟩, ⟨rfl, ⟨rfl, rfl, rfl, rfl, trivial⟩, trivial⟩, rfl, trivial⟩

def spec_l1Cur_pick  (a1 : Rw) (a2 : Int) (a3 : Int) (a4 : Int) : Option (Int × Rw × Int × Int) :=
  (if a4 ≤ (1 : Int) then some (0, a1, a2, a3) else ((spec_l1Cur_next a1 a2 a3).bind fun y6 => (if (200 : Int) < a4 then ((spec_l1Cur_next y6.2.1 y6.2.2.1 y6.2.2.2).bind fun y9 => (if a4 ≠ 0 then some ((IntKind.i64.wrap ((IntKind.i64.wrap (y6.1 * 256)) + y9.1)).tmod a4, y9.2.1, y9.2.2.1, y9.2.2.2) else none)) else (if a4 ≠ 0 then some (y6.1.tmod a4, y6.2.1, y6.2.2.1, y6.2.2.2) else none))))
set_option maxHeartbeats 4000000 in
set_option maxRecDepth 100000 in
theorem spec_l1Cur_pick_ct  {a1 : Rw} {a2 : Int} {a3 : Int} {a4 : Int} {r : Int × Rw × Int × Int} (h : spec_l1Cur_pick a1 a2 a3 a4 = some r) : Ct prog 65 [.ptr 0 0, .d (D.int .i64 a4)] (⟨[(91, [.d (D.sl a1), .d (D.int .i64 a2), .d (D.int .u64 a3)])], []⟩) (.d (D.int .i64 r.1)) (⟨[(91, [.d (D.sl r.2.1), .d (D.int .i64 r.2.2.1), .d (D.int .u64 r.2.2.2)])], []⟩) := by
  rw [spec_l1Cur_pick] at h
  refine Ct.of (c := _) mixed func65 ⟨rfl, rfl, rfl⟩ ?_ rfl
  conv => whnf
  refine splD (fun g5 => ?_) (fun g5 => ?_)
  · replace h := iteP h g5
    conv => whnf
    cases h
    exact Done.of [some 0] [] rfl rfl ⟨⟨rfl, rfl⟩, ⟨rfl, ⟨rfl, rfl, rfl, rfl, trivial⟩, trivial⟩, rfl, trivial⟩
  · replace h := iteN h g5
    conv => whnf
    obtain ⟨y6, e7, h⟩ := bind_ex h
    refine CallOk.of (spec_l1Cur_next_ct e7) ?_
    conv => whnf
    refine CutK.go ?_
    conv => whnf
    refine splD (fun g8 => ?_) (fun g8 => ?_)
    · replace h := iteP h g8
      conv => whnf
      obtain ⟨y9, e10, h⟩ := bind_ex h
      refine CallOk.of (spec_l1Cur_next_ct e10) ?_
      conv => whnf
      refine CutK.go ?_
      conv => whnf
      obtain ⟨g11, h⟩ := req_ex h
      refine Req.of g11 ?_
      conv => whnf
      cases h
      exact Done.of [some 0] [] rfl rfl ⟨⟨rfl, rfl⟩, ⟨rfl, ⟨rfl, rfl, rfl, rfl, trivial⟩, trivial⟩, rfl, trivial⟩
    · replace h := iteN h g8
      conv => whnf
      refine CutK.go ?_
      conv => whnf
      obtain ⟨g12, h⟩ := req_ex h
      refine Req.of g12 ?_
      conv => whnf
      cases h
      exact Done.of [some 0] [] rfl rfl ⟨⟨rfl, rfl⟩, ⟨rfl, ⟨rfl, rfl, rfl, rfl, trivial⟩, trivial⟩, rfl, trivial⟩

def spec_l1Cur_one  (a1 : Rw) (a2 : Int) (a3 : Int) (a4 : Int) : Option (Bool × Rw × Int × Int) :=
  ((spec_l1Cur_pick a1 a2 a3 a4).bind fun y5 => (if y5.1 = (0 : Int) then some (true, y5.2.1, y5.2.2.1, y5.2.2.2) else some (false, y5.2.1, y5.2.2.1, y5.2.2.2)))
set_option maxHeartbeats 4000000 in
set_option maxRecDepth 100000 in
theorem spec_l1Cur_one_ct  {a1 : Rw} {a2 : Int} {a3 : Int} {a4 : Int} {r : Bool × Rw × Int × Int} (h : spec_l1Cur_one a1 a2 a3 a4 = some r) : Ct prog 66 [.ptr 0 0, .d (D.int .i64 a4)] (⟨[(91, [.d (D.sl a1), .d (D.int .i64 a2), .d (D.int .u64 a3)])], []⟩) (.d (D.bool r.1)) (⟨[(91, [.d (D.sl r.2.1), .d (D.int .i64 r.2.2.1), .d (D.int .u64 r.2.2.2)])], []⟩) := by
  rw [spec_l1Cur_one] at h
  refine Ct.of (c := _) mixed func66 ⟨rfl, rfl, rfl⟩ ?_ rfl
  conv => whnf
  obtain ⟨y5, e6, h⟩ := bind_ex h
  refine CallOk.of (spec_l1Cur_pick_ct e6) ?_
  conv => whnf
  refine splD (fun g7 => ?_) (fun g7 => ?_)
  · replace h := iteP h g7
    conv => whnf
    refine CutK.go ?_
    conv => whnf
    cases h
    exact Done.of [some 0] [] rfl rfl ⟨⟨rfl, rfl⟩, ⟨rfl, ⟨rfl, rfl, rfl, rfl, trivial⟩, trivial⟩, rfl, trivial⟩
  · replace h := iteN h g7
    conv => whnf
    refine CutK.go ?_
    conv => whnf
    cases h
    exact Done.of [some 0] [] rfl rfl ⟨⟨rfl, rfl⟩, ⟨rfl, ⟨rfl, rfl, rfl, rfl, trivial⟩, trivial⟩, rfl, trivial⟩

def spec_l1Cur_among  (a1 : Rw) (a2 : Int) (a3 : Int) (a4 : Rw) : Option (Int × Rw × Int × Int) :=
  ((spec_l1Cur_pick a1 a2 a3 (a4.length : Int)).bind fun y5 => (row_i a4 y5.1 fun x7 => some (x7, y5.2.1, y5.2.2.1, y5.2.2.2)))
set_option maxHeartbeats 4000000 in
set_option maxRecDepth 100000 in
theorem spec_l1Cur_among_ct  {a1 : Rw} {a2 : Int} {a3 : Int} {a4 : Rw} {r : Int × Rw × Int × Int} (h : spec_l1Cur_among a1 a2 a3 a4 = some r) : Ct prog 67 [.ptr 0 0, .d (D.sl a4)] (⟨[(91, [.d (D.sl a1), .d (D.int .i64 a2), .d (D.int .u64 a3)])], []⟩) (.d (D.int .i64 r.1)) (⟨[(91, [.d (D.sl r.2.1), .d (D.int .i64 r.2.2.1), .d (D.int .u64 r.2.2.2)])], []⟩) := by
  rw [spec_l1Cur_among] at h
  refine Ct.of (c := _) mixed func67 ⟨rfl, rfl, rfl⟩ ?_ rfl
  conv => whnf
  obtain ⟨y5, e6, h⟩ := bind_ex h
  refine CallOk.of (spec_l1Cur_pick_ct e6) ?_
  conv => whnf
  obtain ⟨g9, x7, e8, h⟩ := row_i_ex h
  refine Req.of g9 ?_
  refine Row.of _ e8 ?_
  conv => whnf
  refine CutK.go ?_
  conv => whnf
  cases h
  exact Done.of [some 0] [] rfl rfl ⟨⟨rfl, rfl⟩, ⟨rfl, ⟨rfl, rfl, rfl, rfl, trivial⟩, trivial⟩, rfl, trivial⟩

def spec_deForm_l0 (rec_spec_deForm : Int → Int → Option Rw) (a2 : Int) (K0 : Rw → Option Rw) : Nat → Int → Int → Rw → Option Rw
  | 0, _, _, _ => none
  | n + 1, v9, v10, v11 => (if (0 : Int) < v9 then (if a2 ≠ 0 then (if (0 : Int) < (v9.tmod a2) then ((rec_spec_deForm v10 a2).bind fun y28 => (if ([[D.sl y28, D.int .i64 (v9.tmod a2)]] : Rw).length + v11.length ≤ cap ∧ (∀ cs ∈ v11, cs.length = 2) then (spec_deForm_l0 rec_spec_deForm a2 K0 n (IntKind.i64.wrap (v9.tdiv a2)) (IntKind.i64.wrap (v10 + 1)) (([[D.sl y28, D.int .i64 (v9.tmod a2)]]) ++ v11)) else none)) else (spec_deForm_l0 rec_spec_deForm a2 K0 n (IntKind.i64.wrap (v9.tdiv a2)) (IntKind.i64.wrap (v10 + 1)) v11)) else none) else (K0 v11))
set_option maxRecDepth 100000 in
theorem spec_deForm_l0_ct {rec_spec_deForm : Int → Int → Option Rw} {a2 : Int} {K0 : Rw → Option Rw} (hrec_spec_deForm : ∀ (a1 : Int) (a2 : Int) (r : Rw), rec_spec_deForm a1 a2 = some r → Ct prog 68 [.d (D.int .i64 a1), .d (D.int .i64 a2)] (⟨[], []⟩) (.agg [.os 8 r.length]) (⟨[], [(104, true, r)]⟩)) {r : Rw} : ∀ (n : Nat) (v9 : Int) (v10 : Int) (v11 : Rw), spec_deForm_l0 rec_spec_deForm a2 K0 n v9 v10 v11 = some r → LoopOk prog 0 (lp f68 0) (mk 34 [(0, .d (D.int .i64 v9)), (1, .d (D.int .i64 a2)), (4, .ptr 256 0), (5, .ptr 320 0), (6, .d (D.int .i64 v10))] [(256, .box 26 [.es]), (320, .box 26 [.os 64000 v11.length]), (64000, .arr 104 true v11)]) (LoopEnd prog f68 0 34 (.agg [.os 8 r.length]) (⟨[], [(104, true, r)]⟩) (fun i ts os => (i = 0 ∧ ∃ v18 : Rw, K0 v18 = some r ∧ ts = [(4, .ptr 256 0), (5, .ptr 320 0)] ∧ os = [(256, .box 26 [.es]), (320, .box 26 [.os 67001 v18.length]), (67001, .arr 104 true v18)])))
  | 0, _, _, _, h => by
      rw [spec_deForm_l0] at h; cases h
  | n + 1, v9, v10, v11, h => by
      rw [spec_deForm_l0] at h
      refine LoopOk.step ?_
      conv => whnf
      refine splD (fun g25 => ?_) (fun g25 => ?_)
      · replace h := iteP h g25
        conv => whnf
        obtain ⟨g26, h⟩ := req_ex h
        refine Req.of g26 ?_
        conv => whnf
        refine splD (fun g27 => ?_) (fun g27 => ?_)
        · replace h := iteP h g27
          conv => whnf
          obtain ⟨y28, e29, h⟩ := bind_ex h
          refine CallOk.of (hrec_spec_deForm _ _ _ e29) ?_
          conv => whnf
          refine Req.of g26 ?_
          conv => whnf
          refine CutK.norm [0, 1, 4, 5, 6, 7] [256, 320, 448, 1216, 64000] ?_
          conv => whnf
          refine Take.all (rfl) ?_
          conv => whnf
          refine Take.all (by first | rfl | exact List.length_append.symm | (simp; done) | omega) ?_
          conv => whnf
          refine Take.all (rfl) ?_
          conv => whnf
          obtain ⟨g30, h⟩ := req_ex h
          refine Req.of (room (b := 32) (by decide) g30.1 g30.2) ?_
          conv => whnf
          refine CutK.norm [0, 1, 4, 5, 6] [256, 320, 1792] ?_
          conv => whnf
          refine Req.of g26 ?_
          conv => whnf
          refine CutK.norm [0, 1, 4, 5, 6] [256, 320, 1792] ?_
          conv => whnf
          exact LoopOk.back (spec_deForm_l0_ct hrec_spec_deForm n _ _ _ h) [some 256, some 320, some 1792] [] ⟨⟨rfl, rfl⟩, ⟨rfl, ⟨rfl, trivial, trivial⟩, ⟨rfl, ⟨(by first | rfl | exact List.length_append.symm | (simp; done) | omega), rfl⟩, trivial⟩, ⟨rfl, rfl, rows_same⟩, trivial⟩, rfl, rfl, ⟨rfl, rfl⟩, ⟨rfl, rfl⟩, rfl, trivial⟩
        · replace h := iteN h g27
          conv => whnf
          refine CutK.norm [0, 1, 4, 5, 6] [256, 320, 64000] ?_
          conv => whnf
          refine Req.of g26 ?_
          conv => whnf
          refine CutK.norm [0, 1, 4, 5, 6] [256, 320, 64000] ?_
          conv => whnf
          exact LoopOk.back (spec_deForm_l0_ct hrec_spec_deForm n _ _ _ h) [some 256, some 320, some 64000] [] ⟨⟨rfl, rfl⟩, ⟨rfl, ⟨rfl, trivial, trivial⟩, ⟨rfl, ⟨rfl, rfl⟩, trivial⟩, ⟨rfl, rfl, rows_same⟩, trivial⟩, rfl, rfl, ⟨rfl, rfl⟩, ⟨rfl, rfl⟩, rfl, trivial⟩
      · replace h := iteN h g25
        conv => whnf
        exact ⟨_, _, [some 256, some 320, some 64000], [], ⟨rfl, _, h, rfl, rfl⟩, ⟨⟨rfl, rfl⟩, ⟨rfl, ⟨rfl, trivial, trivial⟩, ⟨rfl, ⟨rfl, rfl⟩, trivial⟩, ⟨rfl, rfl, rows_same⟩, trivial⟩, ⟨rfl, rfl⟩, ⟨rfl, rfl⟩, trivial⟩⟩
def spec_deForm_b (k : Nat) (rec_spec_deForm : Int → Int → Option Rw) (a1 : Int) (a2 : Int) : Option Rw :=
  (spec_deForm_l0 rec_spec_deForm a2 (fun (v18 : Rw) => some v18) k a1 0 ([] : Rw))
set_option maxHeartbeats 4000000 in
set_option maxRecDepth 100000 in
theorem spec_deForm_b_ct {k : Nat} {rec_spec_deForm : Int → Int → Option Rw} (hrec_spec_deForm : ∀ (a1 : Int) (a2 : Int) (r : Rw), rec_spec_deForm a1 a2 = some r → Ct prog 68 [.d (D.int .i64 a1), .d (D.int .i64 a2)] (⟨[], []⟩) (.agg [.os 8 r.length]) (⟨[], [(104, true, r)]⟩)) {a1 : Int} {a2 : Int} {r : Rw} (h : spec_deForm_b k rec_spec_deForm a1 a2 = some r) : Ct prog 68 [.d (D.int .i64 a1), .d (D.int .i64 a2)] (⟨[], []⟩) (.agg [.os 8 r.length]) (⟨[], [(104, true, r)]⟩) := by
  rw [spec_deForm_b] at h
  refine Ct.of (c := _) mixed func68 ⟨rfl, rfl, rfl⟩ ?_ rfl
  conv => whnf
  refine LoopOk.into (spec_deForm_l0_ct hrec_spec_deForm _ _ _ _ h) [some 256, some 320, none] [] ⟨⟨rfl, rfl⟩, ⟨rfl, ⟨rfl, trivial, trivial⟩, ⟨rfl, ⟨rfl, rfl⟩, trivial⟩, rfl, trivial⟩, rfl, rfl, ⟨rfl, rfl⟩, ⟨rfl, rfl⟩, rfl, trivial⟩ ?_ (fun _ hs => hs)
  rintro i ts os ⟨rfl, v18, h, rfl, rfl⟩
  conv => whnf
  refine CutK.norm [4, 5] [256, 320, 67001] ?_
  conv => whnf
  cases h
  exact Done.of [some 67001] [] rfl rfl ⟨⟨rfl, rfl⟩, ⟨rfl, ⟨rfl, rfl, rows_same⟩, trivial⟩, ⟨⟨rfl, rfl⟩, trivial⟩, trivial⟩
def spec_deForm : Nat → Int → Int → Option Rw
  | 0, _, _ => none
  | k + 1, a1, a2 => spec_deForm_b k (spec_deForm k) a1 a2
theorem spec_deForm_ct' : ∀ (k : Nat) (a1 : Int) (a2 : Int) (r : Rw), spec_deForm k a1 a2 = some r → Ct prog 68 [.d (D.int .i64 a1), .d (D.int .i64 a2)] (⟨[], []⟩) (.agg [.os 8 r.length]) (⟨[], [(104, true, r)]⟩)
  | 0, _, _, _, h => by rw [spec_deForm] at h; cases h
  | k + 1, _, _, _, h => by rw [spec_deForm] at h; exact spec_deForm_b_ct (spec_deForm_ct' k) h
theorem spec_deForm_ct {k : Nat} {a1 : Int} {a2 : Int} {r : Rw} (h : spec_deForm k a1 a2 = some r) : Ct prog 68 [.d (D.int .i64 a1), .d (D.int .i64 a2)] (⟨[], []⟩) (.agg [.os 8 r.length]) (⟨[], [(104, true, r)]⟩) := spec_deForm_ct' k _ _ _ h

def spec_odInt  (a1 : Int) : Option Rw :=
  ((spec_odTerm ([] : Rw) a1).bind fun y2 => some y2)
set_option maxHeartbeats 4000000 in
set_option maxRecDepth 100000 in
theorem spec_odInt_ct  {a1 : Int} {r : Rw} (h : spec_odInt a1 = some r) : Ct prog 148 [.d (D.int .i64 a1)] (⟨[], []⟩) (.agg [.os 8 r.length]) (⟨[], [(104, false, r)]⟩) := by
  rw [spec_odInt] at h
  refine Ct.of (c := _) mixed func148 ⟨rfl, rfl, rfl⟩ ?_ rfl
  conv => whnf
  obtain ⟨y2, e3, h⟩ := bind_ex h
  refine CallOk.of (spec_odTerm_ct e3) ?_
  conv => whnf
  refine CutK.go ?_
  conv => whnf
  cases h
  exact Done.of [some 320] [] rfl rfl ⟨⟨rfl, rfl⟩, ⟨rfl, ⟨rfl, rfl, rows_same⟩, trivial⟩, ⟨⟨rfl, rfl⟩, trivial⟩, trivial⟩

def spec_odMeet_p4 (a2 : Rw) (a3 : Int) (o61 : Rw) (v62 : Bool) : Option Rw :=
  (cond v62 (some o61) (if o61.length + 1 ≤ cap then some (o61 ++ ([[D.sl a2, D.int .i64 a3]])) else none))
set_option maxHeartbeats 4000000 in
set_option maxRecDepth 100000 in
theorem spec_odMeet_p4_ct {a2 : Rw} {a3 : Int} {o61 : Rw} {v62 : Bool} {r : Rw} (h : spec_odMeet_p4 a2 a3 o61 v62 = some r) : X prog 0 (tlF f150 4) (mk 66 [(3, .ptr 192 0), (4, .ptr 256 0), (5, .ptr 320 0), (6, .d (D.bool v62))] [(192, .box 104 [.d (D.sl a2), .d (D.int .i64 a3)]), (256, .box 26 [.es]), (320, .box 26 [.os 1084000 o61.length]), (1084000, .arr 104 false o61)]) (finK prog f150 0 (.agg [.os 8 r.length]) (⟨[], [(104, false, r)]⟩)) := by
  rw [spec_odMeet_p4] at h
  cases v62
  · replace h := condF h
    conv => whnf
    refine Take.all (rfl) ?_
    conv => whnf
    refine Take.all (by first | rfl | exact List.length_append.symm | (simp; done) | omega) ?_
    conv => whnf
    obtain ⟨g64, h⟩ := req_ex h
    refine Req.of (room (b := 32) (by decide) g64 (wide1 rfl wide0)) ?_
    conv => whnf
    cases h
    exact Done.of [some 4032] [] rfl rfl ⟨⟨rfl, rfl⟩, ⟨rfl, ⟨rfl, rfl, rows_same⟩, trivial⟩, ⟨⟨(by first | rfl | exact List.length_append.symm | (simp; done) | omega), rfl⟩, trivial⟩, trivial⟩
  · replace h := condT h
    conv => whnf
    cases h
    exact Done.of [some 1084000] [] rfl rfl ⟨⟨rfl, rfl⟩, ⟨rfl, ⟨rfl, rfl, rows_same⟩, trivial⟩, ⟨⟨rfl, rfl⟩, trivial⟩, trivial⟩
def spec_odMeet_l0 (k : Nat) (a1 : Rw) (a2 : Rw) (a3 : Int) (K0 : Rw → Bool → Option Rw) : Rw → Bool → Rw → Option Rw
  | [], v74, v76 => (cond v74 (K0 v76 true) (K0 v76 false))
  | cs :: rest, v74, v76 => (cond v74 (cell_si cs fun x133 x134 => ((spec_odCmp k x133 a2).bind fun y136 => (if v76.length + 1 ≤ cap then (spec_odMeet_l0 k a1 a2 a3 K0 rest true (v76 ++ ([[D.sl x133, D.int .i64 x134]]))) else none))) (cell_si cs fun x122 x123 => ((spec_odCmp k x122 a2).bind fun y125 => (if y125 ≤ (0 : Int) then (if y125 = (0 : Int) then (if v76.length + 1 ≤ cap then (spec_odMeet_l0 k a1 a2 a3 K0 rest true (v76 ++ ([[D.sl a2, D.int .i64 (IntKind.i64.wrap (a3 + x123))]]))) else none) else (if v76.length + 1 ≤ cap then (if (v76 ++ ([[D.sl a2, D.int .i64 a3]])).length + 1 ≤ cap then (spec_odMeet_l0 k a1 a2 a3 K0 rest true ((v76 ++ ([[D.sl a2, D.int .i64 a3]])) ++ ([[D.sl x122, D.int .i64 x123]]))) else none) else none)) else (if v76.length + 1 ≤ cap then (spec_odMeet_l0 k a1 a2 a3 K0 rest false (v76 ++ ([[D.sl x122, D.int .i64 x123]]))) else none)))))
set_option maxRecDepth 100000 in
theorem spec_odMeet_l0_ct {k : Nat} {a1 : Rw} {a2 : Rw} {a3 : Int} {K0 : Rw → Bool → Option Rw} {r : Rw} (hx : a1.length ≤ cap) : ∀ (rest : Rw) (v75n : Nat) (v74 : Bool) (v76 : Rw), a1.drop v75n = rest → spec_odMeet_l0 k a1 a2 a3 K0 rest v74 v76 = some r → LoopOk prog 0 (lp f150 0) (mk 66 [(3, .ptr 192 0), (4, .ptr 256 0), (5, .ptr 320 0), (6, .d (D.bool v74)), (12, .d (D.sl a1)), (13, .d (D.int .i64 (a1.length : Int))), (14, .d (D.int .i64 (v75n : Int)))] [(192, .box 104 [.d (D.sl a2), .d (D.int .i64 a3)]), (256, .box 26 [.es]), (320, .box 26 [.os 64000 v76.length]), (64000, .arr 104 false v76)]) (LoopEnd prog f150 0 66 (.agg [.os 8 r.length]) (⟨[], [(104, false, r)]⟩) (fun i ts os => (i = 0 ∧ ∃ v91 : Rw, ∃ v100 : Bool, K0 v91 v100 = some r ∧ ts = [(3, .ptr 192 0), (4, .ptr 256 0), (5, .ptr 320 0), (6, .d (D.bool v100))] ∧ os = [(192, .box 104 [.d (D.sl a2), .d (D.int .i64 a3)]), (256, .box 26 [.es]), (320, .box 26 [.os 67001 v91.length]), (67001, .arr 104 false v91)])))
  | [], v75n, v74, v76, hd, h => by
      rw [spec_odMeet_l0] at h
      have hn := drop_nil hd
      cases v74
      · replace h := condF h
        refine LoopOk.step ?_
        conv => whnf
        refine splD (fun g => absurd g hn) (fun _ => ?_)
        conv => whnf
        exact ⟨_, _, [some 192, some 256, some 320, some 64000], [], ⟨rfl, _, _, h, rfl, rfl⟩, ⟨⟨rfl, rfl⟩, ⟨rfl, ⟨rfl, rfl, rfl, trivial⟩, ⟨rfl, trivial, trivial⟩, ⟨rfl, ⟨rfl, rfl⟩, trivial⟩, ⟨rfl, rfl, rows_same⟩, trivial⟩, ⟨rfl, rfl⟩, ⟨rfl, rfl⟩, ⟨rfl, rfl⟩, rfl, trivial⟩⟩
      · replace h := condT h
        refine LoopOk.step ?_
        conv => whnf
        refine splD (fun g => absurd g hn) (fun _ => ?_)
        conv => whnf
        exact ⟨_, _, [some 192, some 256, some 320, some 64000], [], ⟨rfl, _, _, h, rfl, rfl⟩, ⟨⟨rfl, rfl⟩, ⟨rfl, ⟨rfl, rfl, rfl, trivial⟩, ⟨rfl, trivial, trivial⟩, ⟨rfl, ⟨rfl, rfl⟩, trivial⟩, ⟨rfl, rfl, rows_same⟩, trivial⟩, ⟨rfl, rfl⟩, ⟨rfl, rfl⟩, ⟨rfl, rfl⟩, rfl, trivial⟩⟩
  | cs :: rest, v75n, v74, v76, hd, h => by
      rw [spec_odMeet_l0] at h
      obtain ⟨hrow, hd1, hlt⟩ := drop_cons hd
      cases v74
      · replace h := condF h
        refine LoopOk.step ?_
        conv => whnf
        refine splD (fun _ => ?_) (fun g => absurd hlt g)
        conv => whnf
        obtain ⟨x122, x123, e124, h⟩ := cell_si_ex h
        rw [e124] at hrow
        refine Req.of (Int.natCast_nonneg _) ?_
        refine Row.of _ hrow ?_
        conv => whnf
        obtain ⟨y125, e126, h⟩ := bind_ex h
        refine CallOk.of (spec_odCmp_ct e126) ?_
        conv => whnf
        refine CutK.norm [3, 4, 5, 6, 8, 9, 12, 13, 14] [192, 256, 320, 512, 64000] ?_
        conv => whnf
        refine splD (fun g127 => ?_) (fun g127 => ?_)
        · replace h := iteP h g127
          conv => whnf
          refine splD (fun g128 => ?_) (fun g128 => ?_)
          · replace h := iteP h g128
            conv => whnf
            refine Take.all (rfl) ?_
            conv => whnf
            refine Take.all (by first | rfl | exact List.length_append.symm | (simp; done) | omega) ?_
            conv => whnf
            obtain ⟨g129, h⟩ := req_ex h
            refine Req.of (room (b := 32) (by decide) g129 (wide1 rfl wide0)) ?_
            conv => whnf
            refine CutK.norm [3, 4, 5, 6, 12, 13, 14] [192, 256, 320, 2688] ?_
            conv => whnf
            exact LoopOk.back (spec_odMeet_l0_ct hx rest (v75n + 1) _ _ hd1 h) [some 192, some 256, some 320, some 2688] [] ⟨⟨rfl, rfl⟩, ⟨rfl, ⟨rfl, rfl, rfl, trivial⟩, ⟨rfl, trivial, trivial⟩, ⟨rfl, ⟨(by first | rfl | exact List.length_append.symm | (simp; done) | omega), rfl⟩, trivial⟩, ⟨rfl, rfl, rows_same⟩, trivial⟩, ⟨rfl, rfl⟩, ⟨rfl, rfl⟩, ⟨rfl, rfl⟩, rfl, rfl, rfl, i64eq (wrap_up hlt hx), trivial⟩
          · replace h := iteN h g128
            conv => whnf
            refine Take.all (rfl) ?_
            conv => whnf
            refine Take.all (by first | rfl | exact List.length_append.symm | (simp; done) | omega) ?_
            conv => whnf
            obtain ⟨g130, h⟩ := req_ex h
            refine Req.of (room (b := 32) (by decide) g130 (wide1 rfl wide0)) ?_
            conv => whnf
            refine CutK.norm [3, 4, 5, 6, 8, 12, 13, 14] [192, 256, 320, 512, 3072] ?_
            conv => whnf
            refine Take.all (by first | rfl | exact List.length_append.symm | (simp; done) | omega) ?_
            conv => whnf
            refine Take.all (by first | rfl | exact List.length_append.symm | (simp; done) | omega) ?_
            conv => whnf
            obtain ⟨g131, h⟩ := req_ex h
            refine Req.of (room (b := 32) (by decide) g131 (wide1 rfl wide0)) ?_
            conv => whnf
            refine CutK.norm [3, 4, 5, 6, 12, 13, 14] [192, 256, 320, 3456] ?_
            conv => whnf
            exact LoopOk.back (spec_odMeet_l0_ct hx rest (v75n + 1) _ _ hd1 h) [some 192, some 256, some 320, some 3456] [] ⟨⟨rfl, rfl⟩, ⟨rfl, ⟨rfl, rfl, rfl, trivial⟩, ⟨rfl, trivial, trivial⟩, ⟨rfl, ⟨(by first | rfl | exact List.length_append.symm | (simp; done) | omega), rfl⟩, trivial⟩, ⟨rfl, rfl, rows_same⟩, trivial⟩, ⟨rfl, rfl⟩, ⟨rfl, rfl⟩, ⟨rfl, rfl⟩, rfl, rfl, rfl, i64eq (wrap_up hlt hx), trivial⟩
        · replace h := iteN h g127
          conv => whnf
          refine CutK.norm [3, 4, 5, 6, 8, 12, 13, 14] [192, 256, 320, 512, 64000] ?_
          conv => whnf
          refine Take.all (rfl) ?_
          conv => whnf
          refine Take.all (by first | rfl | exact List.length_append.symm | (simp; done) | omega) ?_
          conv => whnf
          obtain ⟨g132, h⟩ := req_ex h
          refine Req.of (room (b := 32) (by decide) g132 (wide1 rfl wide0)) ?_
          conv => whnf
          refine CutK.norm [3, 4, 5, 6, 12, 13, 14] [192, 256, 320, 3456] ?_
          conv => whnf
          exact LoopOk.back (spec_odMeet_l0_ct hx rest (v75n + 1) _ _ hd1 h) [some 192, some 256, some 320, some 3456] [] ⟨⟨rfl, rfl⟩, ⟨rfl, ⟨rfl, rfl, rfl, trivial⟩, ⟨rfl, trivial, trivial⟩, ⟨rfl, ⟨(by first | rfl | exact List.length_append.symm | (simp; done) | omega), rfl⟩, trivial⟩, ⟨rfl, rfl, rows_same⟩, trivial⟩, ⟨rfl, rfl⟩, ⟨rfl, rfl⟩, ⟨rfl, rfl⟩, rfl, rfl, rfl, i64eq (wrap_up hlt hx), trivial⟩
      · replace h := condT h
        refine LoopOk.step ?_
        conv => whnf
        refine splD (fun _ => ?_) (fun g => absurd hlt g)
        conv => whnf
        obtain ⟨x133, x134, e135, h⟩ := cell_si_ex h
        rw [e135] at hrow
        refine Req.of (Int.natCast_nonneg _) ?_
        refine Row.of _ hrow ?_
        conv => whnf
        obtain ⟨y136, e137, h⟩ := bind_ex h
        refine CallOk.of (spec_odCmp_ct e137) ?_
        conv => whnf
        refine CutK.norm [3, 4, 5, 6, 8, 9, 12, 13, 14] [192, 256, 320, 512, 64000] ?_
        conv => whnf
        refine CutK.norm [3, 4, 5, 6, 8, 12, 13, 14] [192, 256, 320, 512, 64000] ?_
        conv => whnf
        refine Take.all (rfl) ?_
        conv => whnf
        refine Take.all (by first | rfl | exact List.length_append.symm | (simp; done) | omega) ?_
        conv => whnf
        obtain ⟨g138, h⟩ := req_ex h
        refine Req.of (room (b := 32) (by decide) g138 (wide1 rfl wide0)) ?_
        conv => whnf
        refine CutK.norm [3, 4, 5, 6, 12, 13, 14] [192, 256, 320, 3456] ?_
        conv => whnf
        exact LoopOk.back (spec_odMeet_l0_ct hx rest (v75n + 1) _ _ hd1 h) [some 192, some 256, some 320, some 3456] [] ⟨⟨rfl, rfl⟩, ⟨rfl, ⟨rfl, rfl, rfl, trivial⟩, ⟨rfl, trivial, trivial⟩, ⟨rfl, ⟨(by first | rfl | exact List.length_append.symm | (simp; done) | omega), rfl⟩, trivial⟩, ⟨rfl, rfl, rows_same⟩, trivial⟩, ⟨rfl, rfl⟩, ⟨rfl, rfl⟩, ⟨rfl, rfl⟩, rfl, rfl, rfl, i64eq (wrap_up hlt hx), trivial⟩
def spec_odMeet (k : Nat) (a1 : Rw) (a2 : Rw) (a3 : Int) : Option Rw :=
  (if a1.length ≤ cap then (spec_odMeet_l0 k a1 a2 a3 (fun (v91 : Rw) (v100 : Bool) => (cond v100 (spec_odMeet_p4 a2 a3 v91 true) (spec_odMeet_p4 a2 a3 v91 false))) a1 false ([] : Rw)) else none)
set_option maxHeartbeats 4000000 in
set_option maxRecDepth 100000 in
theorem spec_odMeet_ct {k : Nat} {a1 : Rw} {a2 : Rw} {a3 : Int} {r : Rw} (h : spec_odMeet k a1 a2 a3 = some r) : Ct prog 150 [.agg [.d (D.sl a1)], .agg [.d (D.sl a2), .d (D.int .i64 a3)]] (⟨[], []⟩) (.agg [.os 8 r.length]) (⟨[], [(104, false, r)]⟩) := by
  rw [spec_odMeet] at h
  refine Ct.of (c := _) mixed func150 ⟨rfl, rfl, rfl⟩ ?_ rfl
  conv => whnf
  obtain ⟨g139, h⟩ := req_ex h
  refine LoopOk.into (spec_odMeet_l0_ct  g139 _ _ _ _ rfl h) [some 192, some 256, some 320, none] [] ⟨⟨rfl, rfl⟩, ⟨rfl, ⟨rfl, rfl, rfl, trivial⟩, ⟨rfl, trivial, trivial⟩, ⟨rfl, ⟨rfl, rfl⟩, trivial⟩, rfl, trivial⟩, ⟨rfl, rfl⟩, ⟨rfl, rfl⟩, ⟨rfl, rfl⟩, rfl, rfl, rfl, rfl, trivial⟩ ?_ (fun _ hs => hs)
  rintro i ts os ⟨rfl, v91, v100, h, rfl, rfl⟩
  cases v100
  · replace h := condF h
    conv => whnf
    exact CutK.piece (spec_odMeet_p4_ct  h) [some 192, some 256, some 320, some 67001] [] ⟨⟨rfl, rfl⟩, ⟨rfl, ⟨rfl, rfl, rfl, trivial⟩, ⟨rfl, trivial, trivial⟩, ⟨rfl, ⟨rfl, rfl⟩, trivial⟩, ⟨rfl, rfl, rows_same⟩, trivial⟩, ⟨rfl, rfl⟩, ⟨rfl, rfl⟩, ⟨rfl, rfl⟩, rfl, trivial⟩
  · replace h := condT h
    conv => whnf
    exact CutK.piece (spec_odMeet_p4_ct  h) [some 192, some 256, some 320, some 67001] [] ⟨⟨rfl, rfl⟩, ⟨rfl, ⟨rfl, rfl, rfl, trivial⟩, ⟨rfl, trivial, trivial⟩, ⟨rfl, ⟨rfl, rfl⟩, trivial⟩, ⟨rfl, rfl, rows_same⟩, trivial⟩, ⟨rfl, rfl⟩, ⟨rfl, rfl⟩, ⟨rfl, rfl⟩, rfl, trivial⟩

def spec_l1Cur_ordinal_l0 (k : Nat) (rec_spec_l1Cur_ordinal : Rw → Int → Int → Int → Option (Rw × Rw × Int × Int)) (a4 : Int) (K0 : Rw → Int → Int → Rw → Option (Rw × Rw × Int × Int)) : Nat → Int → Rw → Int → Int → Rw → Option (Rw × Rw × Int × Int)
  | 0, _, _, _, _, _ => none
  | n + 1, v28, v29, v30, v31, v32 => (if (0 : Int) < v28 then ((spec_l1Cur_pick v29 v30 v31 3).bind fun y76 => ((spec_odInt y76.1).bind fun y78 => ((spec_l1Cur_pick y76.2.1 y76.2.2.1 y76.2.2.2 1000).bind fun y80 => ((spec_l1Cur_among y80.2.1 y80.2.2.1 y80.2.2.2 ([[D.int .i64 1], [D.int .i64 1], [D.int .i64 2], [D.int .i64 3], [D.int .i64 (IntKind.i64.wrap (1 + y80.1))]] : Rw)).bind fun y82 => ((spec_l1Cur_one y82.2.1 y82.2.2.1 y82.2.2.2 3).bind fun y84 => (if y84.1 = true then ((rec_spec_l1Cur_ordinal y84.2.1 y84.2.2.1 y84.2.2.2 (IntKind.i64.wrap (a4 - 1))).bind fun y87 => ((spec_odMeet k v32 y87.1 y82.1).bind fun y89 => (spec_l1Cur_ordinal_l0 k rec_spec_l1Cur_ordinal a4 K0 n (IntKind.i64.wrap (v28 - 1)) y87.2.1 y87.2.2.1 y87.2.2.2 y89))) else ((spec_odMeet k v32 y78 y82.1).bind fun y91 => (spec_l1Cur_ordinal_l0 k rec_spec_l1Cur_ordinal a4 K0 n (IntKind.i64.wrap (v28 - 1)) y84.2.1 y84.2.2.1 y84.2.2.2 y91)))))))) else (K0 v29 v30 v31 v32))
set_option maxRecDepth 100000 in
theorem spec_l1Cur_ordinal_l0_ct {k : Nat} {rec_spec_l1Cur_ordinal : Rw → Int → Int → Int → Option (Rw × Rw × Int × Int)} {a4 : Int} {K0 : Rw → Int → Int → Rw → Option (Rw × Rw × Int × Int)} (hrec_spec_l1Cur_ordinal : ∀ (a1 : Rw) (a2 : Int) (a3 : Int) (a4 : Int) (r : Rw × Rw × Int × Int), rec_spec_l1Cur_ordinal a1 a2 a3 a4 = some r → Ct prog 95 [.ptr 0 0, .d (D.int .i64 a4)] (⟨[(91, [.d (D.sl a1), .d (D.int .i64 a2), .d (D.int .u64 a3)])], []⟩) (.agg [.os 8 r.1.length]) (⟨[(91, [.d (D.sl r.2.1), .d (D.int .i64 r.2.2.1), .d (D.int .u64 r.2.2.2)])], [(104, false, r.1)]⟩)) {r : Rw × Rw × Int × Int} : ∀ (n : Nat) (v28 : Int) (v29 : Rw) (v30 : Int) (v31 : Int) (v32 : Rw), spec_l1Cur_ordinal_l0 k rec_spec_l1Cur_ordinal a4 K0 n v28 v29 v30 v31 v32 = some r → LoopOk prog 1 (lp f95 0) (mk 42 [(0, .ptr 0 0), (1, .d (D.int .i64 a4)), (4, .ptr 256 0), (5, .ptr 320 0), (6, .d (D.int .i64 v28))] [(0, .box 91 [.d (D.sl v29), .d (D.int .i64 v30), .d (D.int .u64 v31)]), (256, .box 26 [.es]), (320, .box 26 [.os 64000 v32.length]), (64000, .arr 104 false v32)]) (LoopEnd prog f95 1 42 (.agg [.os 8 r.1.length]) (⟨[(91, [.d (D.sl r.2.1), .d (D.int .i64 r.2.2.1), .d (D.int .u64 r.2.2.2)])], [(104, false, r.1)]⟩) (fun i ts os => (i = 0 ∧ ∃ v53 : Rw, ∃ v54 : Int, ∃ v55 : Int, ∃ v56 : Rw, K0 v53 v54 v55 v56 = some r ∧ ts = [(4, .ptr 256 0), (5, .ptr 320 0)] ∧ os = [(0, .box 91 [.d (D.sl v53), .d (D.int .i64 v54), .d (D.int .u64 v55)]), (256, .box 26 [.es]), (320, .box 26 [.os 67001 v56.length]), (67001, .arr 104 false v56)])))
  | 0, _, _, _, _, _, h => by
      rw [spec_l1Cur_ordinal_l0] at h; cases h
  | n + 1, v28, v29, v30, v31, v32, h => by
      rw [spec_l1Cur_ordinal_l0] at h
      refine LoopOk.step ?_
      conv => whnf
      refine splD (fun g75 => ?_) (fun g75 => ?_)
      · replace h := iteP h g75
        conv => whnf
        obtain ⟨y76, e77, h⟩ := bind_ex h
        refine CallOk.of (spec_l1Cur_pick_ct e77) ?_
        conv => whnf
        obtain ⟨y78, e79, h⟩ := bind_ex h
        refine CallOk.of (spec_odInt_ct e79) ?_
        conv => whnf
        obtain ⟨y80, e81, h⟩ := bind_ex h
        refine CallOk.of (spec_l1Cur_pick_ct e81) ?_
        conv => whnf
        refine Take.all (by first | rfl | exact List.length_append.symm | (simp; done) | omega) ?_
        conv => whnf
        obtain ⟨y82, e83, h⟩ := bind_ex h
        refine CallOk.of (spec_l1Cur_among_ct e83) ?_
        conv => whnf
        refine CutK.norm [0, 1, 4, 5, 6, 7] [0, 256, 320, 448, 1472, 64000] ?_
        conv => whnf
        obtain ⟨y84, e85, h⟩ := bind_ex h
        refine CallOk.of (spec_l1Cur_one_ct e85) ?_
        conv => whnf
        refine spl (fun g86 => ?_) (fun g86 => ?_)
        · replace h := iteT h g86
          conv => whnf
          refine CutK.norm [0, 1, 4, 5, 6, 7, 32] [0, 256, 320, 448, 1472, 64000] ?_
          conv => whnf
          obtain ⟨y87, e88, h⟩ := bind_ex h
          refine CallOk.of (hrec_spec_l1Cur_ordinal _ _ _ _ _ e88) ?_
          conv => whnf
          refine CutK.norm [0, 1, 4, 5, 6, 7] [0, 256, 320, 448, 2304, 64000] ?_
          conv => whnf
          refine Take.all (rfl) ?_
          conv => whnf
          refine Take.all (rfl) ?_
          conv => whnf
          obtain ⟨y89, e90, h⟩ := bind_ex h
          refine CallOk.of (spec_odMeet_ct e90) ?_
          conv => whnf
          refine CutK.norm [0, 1, 4, 5, 6] [0, 256, 320, 2560] ?_
          conv => whnf
          exact LoopOk.back (spec_l1Cur_ordinal_l0_ct hrec_spec_l1Cur_ordinal n _ _ _ _ _ h) [some 0, some 256, some 320, some 2560] [] ⟨⟨rfl, rfl⟩, ⟨rfl, ⟨rfl, rfl, rfl, rfl, trivial⟩, ⟨rfl, trivial, trivial⟩, ⟨rfl, ⟨rfl, rfl⟩, trivial⟩, ⟨rfl, rfl, rows_same⟩, trivial⟩, ⟨rfl, rfl⟩, rfl, ⟨rfl, rfl⟩, ⟨rfl, rfl⟩, rfl, trivial⟩
        · replace h := iteF h g86
          conv => whnf
          refine CutK.norm [0, 1, 4, 5, 6, 7, 32] [0, 256, 320, 448, 1472, 64000] ?_
          conv => whnf
          refine CutK.norm [0, 1, 4, 5, 6, 7] [0, 256, 320, 448, 1472, 64000] ?_
          conv => whnf
          refine Take.all (rfl) ?_
          conv => whnf
          refine Take.all (rfl) ?_
          conv => whnf
          obtain ⟨y91, e92, h⟩ := bind_ex h
          refine CallOk.of (spec_odMeet_ct e92) ?_
          conv => whnf
          refine CutK.norm [0, 1, 4, 5, 6] [0, 256, 320, 2560] ?_
          conv => whnf
          exact LoopOk.back (spec_l1Cur_ordinal_l0_ct hrec_spec_l1Cur_ordinal n _ _ _ _ _ h) [some 0, some 256, some 320, some 2560] [] ⟨⟨rfl, rfl⟩, ⟨rfl, ⟨rfl, rfl, rfl, rfl, trivial⟩, ⟨rfl, trivial, trivial⟩, ⟨rfl, ⟨rfl, rfl⟩, trivial⟩, ⟨rfl, rfl, rows_same⟩, trivial⟩, ⟨rfl, rfl⟩, rfl, ⟨rfl, rfl⟩, ⟨rfl, rfl⟩, rfl, trivial⟩
      · replace h := iteN h g75
        conv => whnf
        exact ⟨_, _, [some 0, some 256, some 320, some 64000], [], ⟨rfl, _, _, _, _, h, rfl, rfl⟩, ⟨⟨rfl, rfl⟩, ⟨rfl, ⟨rfl, rfl, rfl, rfl, trivial⟩, ⟨rfl, trivial, trivial⟩, ⟨rfl, ⟨rfl, rfl⟩, trivial⟩, ⟨rfl, rfl, rows_same⟩, trivial⟩, ⟨rfl, rfl⟩, ⟨rfl, rfl⟩, trivial⟩⟩
def spec_l1Cur_ordinal_b (k : Nat) (rec_spec_l1Cur_ordinal : Rw → Int → Int → Int → Option (Rw × Rw × Int × Int)) (a1 : Rw) (a2 : Int) (a3 : Int) (a4 : Int) : Option (Rw × Rw × Int × Int) :=
  (if a4 = (0 : Int) then ((spec_l1Cur_pick a1 a2 a3 4).bind fun y6 => ((spec_odInt y6.1).bind fun y8 => some (y8, y6.2.1, y6.2.2.1, y6.2.2.2))) else ((spec_l1Cur_among a1 a2 a3 ([[D.int .i64 0], [D.int .i64 1], [D.int .i64 1], [D.int .i64 2], [D.int .i64 2], [D.int .i64 3]] : Rw)).bind fun y10 => (spec_l1Cur_ordinal_l0 k rec_spec_l1Cur_ordinal a4 (fun (v53 : Rw) (v54 : Int) (v55 : Int) (v56 : Rw) => some (v56, v53, v54, v55)) k y10.1 y10.2.1 y10.2.2.1 y10.2.2.2 ([] : Rw))))
set_option maxHeartbeats 4000000 in
set_option maxRecDepth 100000 in
theorem spec_l1Cur_ordinal_b_ct {k : Nat} {rec_spec_l1Cur_ordinal : Rw → Int → Int → Int → Option (Rw × Rw × Int × Int)} (hrec_spec_l1Cur_ordinal : ∀ (a1 : Rw) (a2 : Int) (a3 : Int) (a4 : Int) (r : Rw × Rw × Int × Int), rec_spec_l1Cur_ordinal a1 a2 a3 a4 = some r → Ct prog 95 [.ptr 0 0, .d (D.int .i64 a4)] (⟨[(91, [.d (D.sl a1), .d (D.int .i64 a2), .d (D.int .u64 a3)])], []⟩) (.agg [.os 8 r.1.length]) (⟨[(91, [.d (D.sl r.2.1), .d (D.int .i64 r.2.2.1), .d (D.int .u64 r.2.2.2)])], [(104, false, r.1)]⟩)) {a1 : Rw} {a2 : Int} {a3 : Int} {a4 : Int} {r : Rw × Rw × Int × Int} (h : spec_l1Cur_ordinal_b k rec_spec_l1Cur_ordinal a1 a2 a3 a4 = some r) : Ct prog 95 [.ptr 0 0, .d (D.int .i64 a4)] (⟨[(91, [.d (D.sl a1), .d (D.int .i64 a2), .d (D.int .u64 a3)])], []⟩) (.agg [.os 8 r.1.length]) (⟨[(91, [.d (D.sl r.2.1), .d (D.int .i64 r.2.2.1), .d (D.int .u64 r.2.2.2)])], [(104, false, r.1)]⟩) := by
  rw [spec_l1Cur_ordinal_b] at h
  refine Ct.of (c := _) mixed func95 ⟨rfl, rfl, rfl⟩ ?_ rfl
  conv => whnf
  refine splD (fun g5 => ?_) (fun g5 => ?_)
  · replace h := iteP h g5
    conv => whnf
    obtain ⟨y6, e7, h⟩ := bind_ex h
    refine CallOk.of (spec_l1Cur_pick_ct e7) ?_
    conv => whnf
    obtain ⟨y8, e9, h⟩ := bind_ex h
    refine CallOk.of (spec_odInt_ct e9) ?_
    conv => whnf
    refine CutK.norm [4] [0, 256, 832] ?_
    conv => whnf
    cases h
    exact Done.of [some 0, some 832] [] rfl rfl ⟨⟨rfl, rfl⟩, ⟨rfl, ⟨rfl, rfl, rfl, rfl, trivial⟩, ⟨rfl, rfl, rows_same⟩, trivial⟩, ⟨⟨rfl, rfl⟩, trivial⟩, trivial⟩
  · replace h := iteN h g5
    conv => whnf
    refine CutK.norm [0, 1, 4, 5] [0, 256, 320] ?_
    conv => whnf
    refine Take.all (by first | rfl | exact List.length_append.symm | (simp; done) | omega) ?_
    conv => whnf
    obtain ⟨y10, e11, h⟩ := bind_ex h
    refine CallOk.of (spec_l1Cur_among_ct e11) ?_
    conv => whnf
    refine CutK.norm [0, 1, 4, 5, 6] [0, 256, 320] ?_
    conv => whnf
    refine LoopOk.into (spec_l1Cur_ordinal_l0_ct hrec_spec_l1Cur_ordinal _ _ _ _ _ _ h) [some 0, some 256, some 320, none] [] ⟨⟨rfl, rfl⟩, ⟨rfl, ⟨rfl, rfl, rfl, rfl, trivial⟩, ⟨rfl, trivial, trivial⟩, ⟨rfl, ⟨rfl, rfl⟩, trivial⟩, rfl, trivial⟩, ⟨rfl, rfl⟩, rfl, ⟨rfl, rfl⟩, ⟨rfl, rfl⟩, rfl, trivial⟩ ?_ (fun _ hs => hs)
    rintro i ts os ⟨rfl, v53, v54, v55, v56, h, rfl, rfl⟩
    conv => whnf
    refine CutK.norm [4, 5] [0, 256, 320, 67001] ?_
    conv => whnf
    cases h
    exact Done.of [some 0, some 67001] [] rfl rfl ⟨⟨rfl, rfl⟩, ⟨rfl, ⟨rfl, rfl, rfl, rfl, trivial⟩, ⟨rfl, rfl, rows_same⟩, trivial⟩, ⟨⟨rfl, rfl⟩, trivial⟩, trivial⟩
def spec_l1Cur_ordinal : Nat → Rw → Int → Int → Int → Option (Rw × Rw × Int × Int)
  | 0, _, _, _, _ => none
  | k + 1, a1, a2, a3, a4 => spec_l1Cur_ordinal_b k (spec_l1Cur_ordinal k) a1 a2 a3 a4
theorem spec_l1Cur_ordinal_ct' : ∀ (k : Nat) (a1 : Rw) (a2 : Int) (a3 : Int) (a4 : Int) (r : Rw × Rw × Int × Int), spec_l1Cur_ordinal k a1 a2 a3 a4 = some r → Ct prog 95 [.ptr 0 0, .d (D.int .i64 a4)] (⟨[(91, [.d (D.sl a1), .d (D.int .i64 a2), .d (D.int .u64 a3)])], []⟩) (.agg [.os 8 r.1.length]) (⟨[(91, [.d (D.sl r.2.1), .d (D.int .i64 r.2.2.1), .d (D.int .u64 r.2.2.2)])], [(104, false, r.1)]⟩)
  | 0, _, _, _, _, _, h => by rw [spec_l1Cur_ordinal] at h; cases h
  | k + 1, _, _, _, _, _, h => by rw [spec_l1Cur_ordinal] at h; exact spec_l1Cur_ordinal_b_ct (spec_l1Cur_ordinal_ct' k) h
theorem spec_l1Cur_ordinal_ct {k : Nat} {a1 : Rw} {a2 : Int} {a3 : Int} {a4 : Int} {r : Rw × Rw × Int × Int} (h : spec_l1Cur_ordinal k a1 a2 a3 a4 = some r) : Ct prog 95 [.ptr 0 0, .d (D.int .i64 a4)] (⟨[(91, [.d (D.sl a1), .d (D.int .i64 a2), .d (D.int .u64 a3)])], []⟩) (.agg [.os 8 r.1.length]) (⟨[(91, [.d (D.sl r.2.1), .d (D.int .i64 r.2.2.1), .d (D.int .u64 r.2.2.2)])], [(104, false, r.1)]⟩) := spec_l1Cur_ordinal_ct' k _ _ _ _ _ h
end
end Go.Proofs.Try
