/- Printed by program (axgen): pure functions, and that the Go functions compute them. -/
import Derived.Test.YtlhdcdnbiodphaaProg
import Derived.Test.YtlhdcdnbiodphaaAxC
import Derived.KernelRfl
set_option linter.unusedVariables false
set_option linter.unusedSimpArgs false
namespace Go.Proofs.Try
open Go Go.AX
theorem mixed : prog.follows .mixedOrders = true := by kernel_rfl
def cell_i {α : Type} (cs : List D) (K : Int → Option α) : Option α := match cs with | [.int .i64 a0] => K a0 | _ => none
def row_i {α : Type} (es : Rw) (i : Int) (K : Int → Option α) : Option α := if 0 ≤ i then (match es[i.toNat]? with | some cs => cell_i cs K | none => none) else none
theorem cell_i_ex {α : Type} {cs : List D} {K : Int → Option α} {r : α} (h : cell_i cs K = some r) : ∃ a0, cs = [.int .i64 a0] ∧ K a0 = some r := by
  unfold cell_i at h
  split at h
  · exact ⟨_, rfl, h⟩
  · cases h
theorem row_i_ex {α : Type} {es : Rw} {i : Int} {K : Int → Option α} {r : α} (h : row_i es i K = some r) : 0 ≤ i ∧ ∃ a0, es[i.toNat]? = some [.int .i64 a0] ∧ K a0 = some r := by
  unfold row_i at h
  obtain ⟨g, h⟩ := req_ex h
  split at h
  · rename_i cs e
    obtain ⟨a0, rfl, h⟩ := cell_i_ex h
    exact ⟨g, a0, e, h⟩
  · cases h
def cell_iu8 {α : Type} (cs : List D) (K : Int → Option α) : Option α := match cs with | [.int .u8 a0] => K a0 | _ => none
def row_iu8 {α : Type} (es : Rw) (i : Int) (K : Int → Option α) : Option α := if 0 ≤ i then (match es[i.toNat]? with | some cs => cell_iu8 cs K | none => none) else none
theorem cell_iu8_ex {α : Type} {cs : List D} {K : Int → Option α} {r : α} (h : cell_iu8 cs K = some r) : ∃ a0, cs = [.int .u8 a0] ∧ K a0 = some r := by
  unfold cell_iu8 at h
  split at h
  · exact ⟨_, rfl, h⟩
  · cases h
theorem row_iu8_ex {α : Type} {es : Rw} {i : Int} {K : Int → Option α} {r : α} (h : row_iu8 es i K = some r) : 0 ≤ i ∧ ∃ a0, es[i.toNat]? = some [.int .u8 a0] ∧ K a0 = some r := by
  unfold row_iu8 at h
  obtain ⟨g, h⟩ := req_ex h
  split at h
  · rename_i cs e
    obtain ⟨a0, rfl, h⟩ := cell_iu8_ex h
    exact ⟨g, a0, e, h⟩
  · cases h
def cell_si {α : Type} (cs : List D) (K : Rw → Int → Option α) : Option α := match cs with | [.sl a0, .int .i64 a1] => K a0 a1 | _ => none
def row_si {α : Type} (es : Rw) (i : Int) (K : Rw → Int → Option α) : Option α := if 0 ≤ i then (match es[i.toNat]? with | some cs => cell_si cs K | none => none) else none
theorem cell_si_ex {α : Type} {cs : List D} {K : Rw → Int → Option α} {r : α} (h : cell_si cs K = some r) : ∃ a0 a1, cs = [.sl a0, .int .i64 a1] ∧ K a0 a1 = some r := by
  unfold cell_si at h
  split at h
  · exact ⟨_, _, rfl, h⟩
  · cases h
theorem row_si_ex {α : Type} {es : Rw} {i : Int} {K : Rw → Int → Option α} {r : α} (h : row_si es i K = some r) : 0 ≤ i ∧ ∃ a0 a1, es[i.toNat]? = some [.sl a0, .int .i64 a1] ∧ K a0 a1 = some r := by
  unfold row_si at h
  obtain ⟨g, h⟩ := req_ex h
  split at h
  · rename_i cs e
    obtain ⟨a0, a1, rfl, h⟩ := cell_si_ex h
    exact ⟨g, a0, a1, e, h⟩
  · cases h
noncomputable section
def laws_sameOrdinal_l0 (rec_laws_sameOrdinal : Rw → Rw → Option Bool) (a1 : Rw) (a2 : Rw) (K0 : Option Bool) : Rw → Nat → Option Bool
  | [], v17n => (K0)
  | cs :: rest, v17n => (cell_si cs fun x31 x32 => (row_si a2 (v17n : Int) fun x34 x35 => (if x32 = x35 then ((rec_laws_sameOrdinal x31 x34).bind fun y39 => (if y39 = true then (laws_sameOrdinal_l0 rec_laws_sameOrdinal a1 a2 K0 rest (v17n + 1)) else some false)) else some false)))
set_option maxRecDepth 100000 in
theorem laws_sameOrdinal_l0_ct {rec_laws_sameOrdinal : Rw → Rw → Option Bool} {a1 : Rw} {a2 : Rw} {K0 : Option Bool} (hrec_laws_sameOrdinal : ∀ (a1 : Rw) (a2 : Rw) (r : Bool), rec_laws_sameOrdinal a1 a2 = some r → Ct prog 26 [.agg [.d (D.sl a1)], .agg [.d (D.sl a2)]] (⟨[], []⟩) (.d (D.bool r)) (⟨[], []⟩)) {r : Bool} (hx : a1.length ≤ cap) : ∀ (rest : Rw) (v17n : Nat), a1.drop v17n = rest → laws_sameOrdinal_l0 rec_laws_sameOrdinal a1 a2 K0 rest v17n = some r → LoopOk prog 0 (lp f26 0) (mk 44 [(3, .ptr 192 0), (15, .d (D.sl a1)), (16, .d (D.int .i64 (a1.length : Int))), (17, .d (D.int .i64 (v17n : Int)))] [(192, .box 26 [.d (D.sl a2)])]) (LoopEnd prog f26 0 44 (.d (D.bool r)) (⟨[], []⟩) (fun i ts os => (i = 0 ∧ K0 = some r ∧ ts = [] ∧ os = [])))
  | [], v17n, hd, h => by
      rw [laws_sameOrdinal_l0] at h
      have hn := drop_nil hd
      refine LoopOk.step ?_
      conv => whnf
      refine splD (fun g => absurd g hn) (fun _ => ?_)
      conv => whnf
      exact ⟨_, _, [], [], ⟨rfl, h, rfl, rfl⟩, ⟨⟨rfl, rfl⟩, ⟨rfl, trivial⟩, trivial⟩⟩
  | cs :: rest, v17n, hd, h => by
      rw [laws_sameOrdinal_l0] at h
      obtain ⟨hrow, hd1, hlt⟩ := drop_cons hd
      refine LoopOk.step ?_
      conv => whnf
      refine splD (fun _ => ?_) (fun g => absurd hlt g)
      conv => whnf
      obtain ⟨x31, x32, e33, h⟩ := cell_si_ex h
      rw [e33] at hrow
      refine Req.of (Int.natCast_nonneg _) ?_
      refine Row.of _ hrow ?_
      conv => whnf
      obtain ⟨g37, x34, x35, e36, h⟩ := row_si_ex h
      refine Req.of g37 ?_
      refine Row.of _ e36 ?_
      conv => whnf
      refine splN (fun g38 => ?_) (fun g38 => ?_)
      · replace h := iteN h g38
        conv => whnf
        refine CutK.norm [3, 15, 16, 17, 42] [192] ?_
        conv => whnf
        cases h
        exact Done.of [] [] rfl rfl ⟨⟨rfl, rfl⟩, ⟨rfl, trivial⟩, rfl, trivial⟩
      · replace h := iteP h g38
        conv => whnf
        refine Req.of g37 ?_
        refine Row.of _ e36 ?_
        conv => whnf
        obtain ⟨y39, e40, h⟩ := bind_ex h
        refine CallOk.of (hrec_laws_sameOrdinal _ _ _ e40) ?_
        conv => whnf
        refine spl (fun g41 => ?_) (fun g41 => ?_)
        · replace h := iteT h g41
          conv => whnf
          refine CutK.norm [3, 15, 16, 17, 42] [192] ?_
          conv => whnf
          refine CutK.norm [3, 15, 16, 17] [192] ?_
          conv => whnf
          exact LoopOk.back (laws_sameOrdinal_l0_ct hrec_laws_sameOrdinal hx rest (v17n + 1)  hd1 h) [some 192] [] ⟨⟨rfl, rfl⟩, ⟨rfl, ⟨rfl, rfl, trivial⟩, trivial⟩, ⟨rfl, rfl⟩, rfl, rfl, i64eq (wrap_up hlt hx), trivial⟩
        · replace h := iteF h g41
          conv => whnf
          refine CutK.norm [3, 15, 16, 17, 42] [192] ?_
          conv => whnf
          cases h
          exact Done.of [] [] rfl rfl ⟨⟨rfl, rfl⟩, ⟨rfl, trivial⟩, rfl, trivial⟩
def laws_sameOrdinal_b (rec_laws_sameOrdinal : Rw → Rw → Option Bool) (a1 : Rw) (a2 : Rw) : Option Bool :=
  (if (a1.length : Int) = (a2.length : Int) then (if a1.length ≤ cap then (laws_sameOrdinal_l0 rec_laws_sameOrdinal a1 a2 (some true) a1 0) else none) else some false)
set_option maxHeartbeats 4000000 in
set_option maxRecDepth 100000 in
theorem laws_sameOrdinal_b_ct {rec_laws_sameOrdinal : Rw → Rw → Option Bool} (hrec_laws_sameOrdinal : ∀ (a1 : Rw) (a2 : Rw) (r : Bool), rec_laws_sameOrdinal a1 a2 = some r → Ct prog 26 [.agg [.d (D.sl a1)], .agg [.d (D.sl a2)]] (⟨[], []⟩) (.d (D.bool r)) (⟨[], []⟩)) {a1 : Rw} {a2 : Rw} {r : Bool} (h : laws_sameOrdinal_b rec_laws_sameOrdinal a1 a2 = some r) : Ct prog 26 [.agg [.d (D.sl a1)], .agg [.d (D.sl a2)]] (⟨[], []⟩) (.d (D.bool r)) (⟨[], []⟩) := by
  rw [laws_sameOrdinal_b] at h
  refine Ct.of (c := _) mixed func26 ⟨rfl, rfl, rfl⟩ ?_ rfl
  conv => whnf
  refine splN (fun g3 => ?_) (fun g3 => ?_)
  · replace h := iteN h g3
    conv => whnf
    cases h
    exact Done.of [] [] rfl rfl ⟨⟨rfl, rfl⟩, ⟨rfl, trivial⟩, rfl, trivial⟩
  · replace h := iteP h g3
    conv => whnf
    obtain ⟨g42, h⟩ := req_ex h
    refine LoopOk.into (laws_sameOrdinal_l0_ct hrec_laws_sameOrdinal g42 _ _  rfl h) [some 192] [] ⟨⟨rfl, rfl⟩, ⟨rfl, ⟨rfl, rfl, trivial⟩, trivial⟩, ⟨rfl, rfl⟩, rfl, rfl, rfl, trivial⟩ ?_ (fun _ hs => hs)
    rintro i ts os ⟨rfl, h, rfl, rfl⟩
    conv => whnf
    refine CutK.norm [] [] ?_
    conv => whnf
    cases h
    exact Done.of [] [] rfl rfl ⟨⟨rfl, rfl⟩, ⟨rfl, trivial⟩, rfl, trivial⟩
def laws_sameOrdinal : Nat → Rw → Rw → Option Bool
  | 0, _, _ => none
  | k + 1, a1, a2 => laws_sameOrdinal_b (laws_sameOrdinal k) a1 a2
theorem laws_sameOrdinal_ct' : ∀ (k : Nat) (a1 : Rw) (a2 : Rw) (r : Bool), laws_sameOrdinal k a1 a2 = some r → Ct prog 26 [.agg [.d (D.sl a1)], .agg [.d (D.sl a2)]] (⟨[], []⟩) (.d (D.bool r)) (⟨[], []⟩)
  | 0, _, _, _, h => by rw [laws_sameOrdinal] at h; cases h
  | k + 1, _, _, _, h => by rw [laws_sameOrdinal] at h; exact laws_sameOrdinal_b_ct (laws_sameOrdinal_ct' k) h
theorem laws_sameOrdinal_ct {k : Nat} {a1 : Rw} {a2 : Rw} {r : Bool} (h : laws_sameOrdinal k a1 a2 = some r) : Ct prog 26 [.agg [.d (D.sl a1)], .agg [.d (D.sl a2)]] (⟨[], []⟩) (.d (D.bool r)) (⟨[], []⟩) := laws_sameOrdinal_ct' k _ _ _ h

def impl_in  (a1 : Int) (a2 : Int) (a3 : Int) : Option Bool :=
  (if a2 ≤ a1 then (if a1 ≤ a3 then some true else some false) else some false)
set_option maxHeartbeats 4000000 in
set_option maxRecDepth 100000 in
theorem impl_in_ct  {a1 : Int} {a2 : Int} {a3 : Int} {r : Bool} (h : impl_in a1 a2 a3 = some r) : Ct prog 71 [.d (D.int .i64 a1), .d (D.int .i64 a2), .d (D.int .i64 a3)] (⟨[], []⟩) (.d (D.bool r)) (⟨[], []⟩) := by
  rw [impl_in] at h
  refine Ct.of (c := _) mixed func71 ⟨rfl, rfl, rfl⟩ ?_ rfl
  conv => whnf
  refine splD (fun g4 => ?_) (fun g4 => ?_)
  · replace h := iteP h g4
    conv => whnf
    refine splD (fun g5 => ?_) (fun g5 => ?_)
    · replace h := iteP h g5
      conv => whnf
      cases h
      exact Done.of [] [] rfl rfl ⟨⟨rfl, rfl⟩, ⟨rfl, trivial⟩, rfl, trivial⟩
    · replace h := iteN h g5
      conv => whnf
      cases h
      exact Done.of [] [] rfl rfl ⟨⟨rfl, rfl⟩, ⟨rfl, trivial⟩, rfl, trivial⟩
  · replace h := iteN h g4
    conv => whnf
    cases h
    exact Done.of [] [] rfl rfl ⟨⟨rfl, rfl⟩, ⟨rfl, trivial⟩, rfl, trivial⟩

def impl_compare  (a1 : Int) (a2 : Int) : Option Int :=
  (if a1 < a2 then some (-1) else (if a2 < a1 then some 1 else some 0))
set_option maxHeartbeats 4000000 in
set_option maxRecDepth 100000 in
theorem impl_compare_ct  {a1 : Int} {a2 : Int} {r : Int} (h : impl_compare a1 a2 = some r) : Ct prog 176 [.d (D.int .i64 a1), .d (D.int .i64 a2)] (⟨[], []⟩) (.d (D.int .i64 r)) (⟨[], []⟩) := by
  rw [impl_compare] at h
  refine Ct.of (c := _) mixed func176 ⟨rfl, rfl, rfl⟩ ?_ rfl
  conv => whnf
  refine splD (fun g3 => ?_) (fun g3 => ?_)
  · replace h := iteP h g3
    conv => whnf
    cases h
    exact Done.of [] [] rfl rfl ⟨⟨rfl, rfl⟩, ⟨rfl, trivial⟩, rfl, trivial⟩
  · replace h := iteN h g3
    conv => whnf
    refine splD (fun g4 => ?_) (fun g4 => ?_)
    · replace h := iteP h g4
      conv => whnf
      cases h
      exact Done.of [] [] rfl rfl ⟨⟨rfl, rfl⟩, ⟨rfl, trivial⟩, rfl, trivial⟩
    · replace h := iteN h g4
      conv => whnf
      cases h
      exact Done.of [] [] rfl rfl ⟨⟨rfl, rfl⟩, ⟨rfl, trivial⟩, rfl, trivial⟩

def impl_cmpTerms (rec_impl_cmp : Rw → Rw → Option Int) (a1 : Rw) (a2 : Int) (a3 : Rw) (a4 : Int) : Option Int :=
  ((rec_impl_cmp a1 a3).bind fun y5 => (if y5 = (0 : Int) then ((impl_compare a2 a4).bind fun y8 => some y8) else some y5))
set_option maxHeartbeats 4000000 in
set_option maxRecDepth 100000 in
theorem impl_cmpTerms_ct {rec_impl_cmp : Rw → Rw → Option Int} (hrec_impl_cmp : ∀ (a1 : Rw) (a2 : Rw) (r : Int), rec_impl_cmp a1 a2 = some r → Ct prog 101 [.agg [.d (D.sl a1)], .agg [.d (D.sl a2)]] (⟨[], []⟩) (.d (D.int .i64 r)) (⟨[], []⟩)) {a1 : Rw} {a2 : Int} {a3 : Rw} {a4 : Int} {r : Int} (h : impl_cmpTerms rec_impl_cmp a1 a2 a3 a4 = some r) : Ct prog 175 [.agg [.d (D.sl a1), .d (D.int .i64 a2)], .agg [.d (D.sl a3), .d (D.int .i64 a4)]] (⟨[], []⟩) (.d (D.int .i64 r)) (⟨[], []⟩) := by
  rw [impl_cmpTerms] at h
  refine Ct.of (c := _) mixed func175 ⟨rfl, rfl, rfl⟩ ?_ rfl
  conv => whnf
  obtain ⟨y5, e6, h⟩ := bind_ex h
  refine CallOk.of (hrec_impl_cmp _ _ _ e6) ?_
  conv => whnf
  refine CutK.go ?_
  conv => whnf
  refine splN (fun g7 => ?_) (fun g7 => ?_)
  · replace h := iteN h g7
    conv => whnf
    cases h
    exact Done.of [] [] rfl rfl ⟨⟨rfl, rfl⟩, ⟨rfl, trivial⟩, rfl, trivial⟩
  · replace h := iteP h g7
    conv => whnf
    refine CutK.go ?_
    conv => whnf
    obtain ⟨y8, e9, h⟩ := bind_ex h
    refine CallOk.of (impl_compare_ct e9) ?_
    conv => whnf
    refine CutK.go ?_
    conv => whnf
    cases h
    exact Done.of [] [] rfl rfl ⟨⟨rfl, rfl⟩, ⟨rfl, trivial⟩, rfl, trivial⟩

def slices_CompareFunc__cmpTerms_l0 (rec_impl_cmp : Rw → Rw → Option Int) (a1 : Rw) (a2 : Rw) (K0 : Option Int) : Rw → Nat → Option Int
  | [], v16n => (K0)
  | cs :: rest, v16n => (cell_si cs fun x30 x31 => (if (a2.length : Int) ≤ (v16n : Int) then some 1 else (row_si a2 (v16n : Int) fun x34 x35 => ((impl_cmpTerms rec_impl_cmp x30 x31 x34 x35).bind fun y38 => (if y38 = (0 : Int) then (slices_CompareFunc__cmpTerms_l0 rec_impl_cmp a1 a2 K0 rest (v16n + 1)) else some y38)))))
set_option maxRecDepth 100000 in
theorem slices_CompareFunc__cmpTerms_l0_ct {rec_impl_cmp : Rw → Rw → Option Int} {a1 : Rw} {a2 : Rw} {K0 : Option Int} (hrec_impl_cmp : ∀ (a1 : Rw) (a2 : Rw) (r : Int), rec_impl_cmp a1 a2 = some r → Ct prog 101 [.agg [.d (D.sl a1)], .agg [.d (D.sl a2)]] (⟨[], []⟩) (.d (D.int .i64 r)) (⟨[], []⟩)) {r : Int} (hx : a1.length ≤ cap) : ∀ (rest : Rw) (v16n : Nat), a1.drop v16n = rest → slices_CompareFunc__cmpTerms_l0 rec_impl_cmp a1 a2 K0 rest v16n = some r → LoopOk prog 0 (lp f174 0) (mk 39 [(0, .d (D.sl a1)), (1, .d (D.sl a2)), (2, .fn 175 []), (11, .d (D.sl a1)), (12, .d (D.int .i64 (a1.length : Int))), (13, .d (D.int .i64 (v16n : Int)))] []) (LoopEnd prog f174 0 39 (.d (D.int .i64 r)) (⟨[], []⟩) (fun i ts os => (i = 0 ∧ K0 = some r ∧ ts = [(0, .d (D.sl a1)), (1, .d (D.sl a2))] ∧ os = [])))
  | [], v16n, hd, h => by
      rw [slices_CompareFunc__cmpTerms_l0] at h
      have hn := drop_nil hd
      refine LoopOk.step ?_
      conv => whnf
      refine splD (fun g => absurd g hn) (fun _ => ?_)
      conv => whnf
      exact ⟨_, _, [], [], ⟨rfl, h, rfl, rfl⟩, ⟨⟨rfl, rfl⟩, ⟨rfl, trivial⟩, rfl, rfl, trivial⟩⟩
  | cs :: rest, v16n, hd, h => by
      rw [slices_CompareFunc__cmpTerms_l0] at h
      obtain ⟨hrow, hd1, hlt⟩ := drop_cons hd
      refine LoopOk.step ?_
      conv => whnf
      refine splD (fun _ => ?_) (fun g => absurd hlt g)
      conv => whnf
      obtain ⟨x30, x31, e32, h⟩ := cell_si_ex h
      rw [e32] at hrow
      refine Req.of (Int.natCast_nonneg _) ?_
      refine Row.of _ hrow ?_
      conv => whnf
      refine splD (fun g33 => ?_) (fun g33 => ?_)
      · replace h := iteP h g33
        conv => whnf
        cases h
        exact Done.of [] [] rfl rfl ⟨⟨rfl, rfl⟩, ⟨rfl, trivial⟩, rfl, trivial⟩
      · replace h := iteN h g33
        conv => whnf
        obtain ⟨g37, x34, x35, e36, h⟩ := row_si_ex h
        refine Req.of g37 ?_
        refine Row.of _ e36 ?_
        conv => whnf
        obtain ⟨y38, e39, h⟩ := bind_ex h
        refine CallOk.of (impl_cmpTerms_ct hrec_impl_cmp e39) ?_
        conv => whnf
        refine CutK.norm [0, 1, 2, 10, 11, 12, 13] [] ?_
        conv => whnf
        refine splN (fun g40 => ?_) (fun g40 => ?_)
        · replace h := iteN h g40
          conv => whnf
          cases h
          exact Done.of [] [] rfl rfl ⟨⟨rfl, rfl⟩, ⟨rfl, trivial⟩, rfl, trivial⟩
        · replace h := iteP h g40
          conv => whnf
          refine CutK.norm [0, 1, 2, 11, 12, 13] [] ?_
          conv => whnf
          exact LoopOk.back (slices_CompareFunc__cmpTerms_l0_ct hrec_impl_cmp hx rest (v16n + 1)  hd1 h) [] [] ⟨⟨rfl, rfl⟩, ⟨rfl, trivial⟩, rfl, rfl, ⟨rfl, trivial⟩, rfl, rfl, i64eq (wrap_up hlt hx), trivial⟩
def slices_CompareFunc__cmpTerms (rec_impl_cmp : Rw → Rw → Option Int) (a1 : Rw) (a2 : Rw) : Option Int :=
  (if a1.length ≤ cap then (slices_CompareFunc__cmpTerms_l0 rec_impl_cmp a1 a2 (if (a1.length : Int) < (a2.length : Int) then some (-1) else some 0) a1 0) else none)
set_option maxHeartbeats 4000000 in
set_option maxRecDepth 100000 in
theorem slices_CompareFunc__cmpTerms_ct {rec_impl_cmp : Rw → Rw → Option Int} (hrec_impl_cmp : ∀ (a1 : Rw) (a2 : Rw) (r : Int), rec_impl_cmp a1 a2 = some r → Ct prog 101 [.agg [.d (D.sl a1)], .agg [.d (D.sl a2)]] (⟨[], []⟩) (.d (D.int .i64 r)) (⟨[], []⟩)) {a1 : Rw} {a2 : Rw} {r : Int} (h : slices_CompareFunc__cmpTerms rec_impl_cmp a1 a2 = some r) : Ct prog 174 [.d (D.sl a1), .d (D.sl a2), .fn 175 []] (⟨[], []⟩) (.d (D.int .i64 r)) (⟨[], []⟩) := by
  rw [slices_CompareFunc__cmpTerms] at h
  refine Ct.of (c := _) mixed func174 ⟨rfl, rfl, rfl⟩ ?_ rfl
  conv => whnf
  obtain ⟨g41, h⟩ := req_ex h
  refine LoopOk.into (slices_CompareFunc__cmpTerms_l0_ct hrec_impl_cmp g41 _ _  rfl h) [] [] ⟨⟨rfl, rfl⟩, ⟨rfl, trivial⟩, rfl, rfl, ⟨rfl, trivial⟩, rfl, rfl, rfl, trivial⟩ ?_ (fun _ hs => hs)
  rintro i ts os ⟨rfl, h, rfl, rfl⟩
  conv => whnf
  refine CutK.norm [0, 1] [] ?_
  conv => whnf
  refine splD (fun g42 => ?_) (fun g42 => ?_)
  · replace h := iteP h g42
    conv => whnf
    cases h
    exact Done.of [] [] rfl rfl ⟨⟨rfl, rfl⟩, ⟨rfl, trivial⟩, rfl, trivial⟩
  · replace h := iteN h g42
    conv => whnf
    cases h
    exact Done.of [] [] rfl rfl ⟨⟨rfl, rfl⟩, ⟨rfl, trivial⟩, rfl, trivial⟩

def impl_cmp_b (rec_impl_cmp : Rw → Rw → Option Int) (a1 : Rw) (a2 : Rw) : Option Int :=
  ((slices_CompareFunc__cmpTerms rec_impl_cmp a1 a2).bind fun y3 => some y3)
set_option maxHeartbeats 4000000 in
set_option maxRecDepth 100000 in
theorem impl_cmp_b_ct {rec_impl_cmp : Rw → Rw → Option Int} (hrec_impl_cmp : ∀ (a1 : Rw) (a2 : Rw) (r : Int), rec_impl_cmp a1 a2 = some r → Ct prog 101 [.agg [.d (D.sl a1)], .agg [.d (D.sl a2)]] (⟨[], []⟩) (.d (D.int .i64 r)) (⟨[], []⟩)) {a1 : Rw} {a2 : Rw} {r : Int} (h : impl_cmp_b rec_impl_cmp a1 a2 = some r) : Ct prog 101 [.agg [.d (D.sl a1)], .agg [.d (D.sl a2)]] (⟨[], []⟩) (.d (D.int .i64 r)) (⟨[], []⟩) := by
  rw [impl_cmp_b] at h
  refine Ct.of (c := _) mixed func101 ⟨rfl, rfl, rfl⟩ ?_ rfl
  conv => whnf
  obtain ⟨y3, e4, h⟩ := bind_ex h
  refine CallOk.of (slices_CompareFunc__cmpTerms_ct hrec_impl_cmp e4) ?_
  conv => whnf
  refine CutK.go ?_
  conv => whnf
  cases h
  exact Done.of [] [] rfl rfl ⟨⟨rfl, rfl⟩, ⟨rfl, trivial⟩, rfl, trivial⟩
def impl_cmp : Nat → Rw → Rw → Option Int
  | 0, _, _ => none
  | k + 1, a1, a2 => impl_cmp_b (impl_cmp k) a1 a2
theorem impl_cmp_ct' : ∀ (k : Nat) (a1 : Rw) (a2 : Rw) (r : Int), impl_cmp k a1 a2 = some r → Ct prog 101 [.agg [.d (D.sl a1)], .agg [.d (D.sl a2)]] (⟨[], []⟩) (.d (D.int .i64 r)) (⟨[], []⟩)
  | 0, _, _, _, h => by rw [impl_cmp] at h; cases h
  | k + 1, _, _, _, h => by rw [impl_cmp] at h; exact impl_cmp_b_ct (impl_cmp_ct' k) h
theorem impl_cmp_ct {k : Nat} {a1 : Rw} {a2 : Rw} {r : Int} (h : impl_cmp k a1 a2 = some r) : Ct prog 101 [.agg [.d (D.sl a1)], .agg [.d (D.sl a2)]] (⟨[], []⟩) (.d (D.int .i64 r)) (⟨[], []⟩) := impl_cmp_ct' k _ _ _ h

def impl_ordinalAt_2_p3 (o62 : Int) : Option (Bool × Int) :=
  some (true, o62)
set_option maxHeartbeats 4000000 in
set_option maxRecDepth 100000 in
theorem impl_ordinalAt_2_p3_ct {o62 : Int} {r : Bool × Int} (h : impl_ordinalAt_2_p3 o62 = some r) : X prog 1 (tlF f151 3) (mk 83 [] [(0, .box 3 [.d (D.int .i64 o62)])]) (finK prog f151 1 (.d (D.bool r.1)) (⟨[(3, [.d (D.int .i64 r.2)])], []⟩)) := by
  rw [impl_ordinalAt_2_p3] at h
  conv => whnf
  cases h
  exact Done.of [some 0] [] rfl rfl ⟨⟨rfl, rfl⟩, ⟨rfl, ⟨rfl, rfl, trivial⟩, trivial⟩, rfl, trivial⟩
def impl_ordinalAt_2_l0 (k : Nat) (rec_impl_ordinalAt_2 : Rw → Int → Int → Int → Option (Bool × Int)) (a1 : Rw) (a2 : Int) (a3 : Int) (K0 : Int → Option (Bool × Int)) : Rw → Nat → Int → Option (Bool × Int)
  | [], v77n, v78 => (K0 v78)
  | cs :: rest, v77n, v78 => (cell_si cs fun x120 x121 => (if (60 : Int) < (IntKind.i64.wrap (v78 + 1)) then some (false, IntKind.i64.wrap (v78 + 1)) else ((impl_in x121 1 1000000).bind fun y124 => (if y124 = true then ((rec_impl_ordinalAt_2 x120 x121 (IntKind.i64.wrap (a3 + 1)) (IntKind.i64.wrap (v78 + 1))).bind fun y127 => (if y127.1 = true then (if (0 : Int) < (v77n : Int) then (row_si a1 (IntKind.i64.wrap ((v77n : Int) - 1)) fun x131 x132 => ((impl_cmp k x131 x120).bind fun y135 => (if y135 ≤ (0 : Int) then some (false, y127.2) else (impl_ordinalAt_2_l0 k rec_impl_ordinalAt_2 a1 a2 a3 K0 rest (v77n + 1) y127.2)))) else (impl_ordinalAt_2_l0 k rec_impl_ordinalAt_2 a1 a2 a3 K0 rest (v77n + 1) y127.2)) else some (false, y127.2))) else some (false, IntKind.i64.wrap (v78 + 1))))))
set_option maxRecDepth 100000 in
theorem impl_ordinalAt_2_l0_ct {k : Nat} {rec_impl_ordinalAt_2 : Rw → Int → Int → Int → Option (Bool × Int)} {a1 : Rw} {a2 : Int} {a3 : Int} {K0 : Int → Option (Bool × Int)} (hrec_impl_ordinalAt_2 : ∀ (a1 : Rw) (a2 : Int) (a3 : Int) (a4 : Int) (r : Bool × Int), rec_impl_ordinalAt_2 a1 a2 a3 a4 = some r → Ct prog 151 [.dp [D.sl a1, D.int .i64 a2], .d (D.int .i64 a3), .ptr 0 0] (⟨[(3, [.d (D.int .i64 a4)])], []⟩) (.d (D.bool r.1)) (⟨[(3, [.d (D.int .i64 r.2)])], []⟩)) {r : Bool × Int} (hx : a1.length ≤ cap) : ∀ (rest : Rw) (v77n : Nat) (v78 : Int), a1.drop v77n = rest → impl_ordinalAt_2_l0 k rec_impl_ordinalAt_2 a1 a2 a3 K0 rest v77n v78 = some r → LoopOk prog 1 (lp f151 0) (mk 83 [(0, .dp [D.sl a1, D.int .i64 a2]), (1, .d (D.int .i64 a3)), (2, .ptr 0 0), (26, .d (D.int .i64 (a1.length : Int))), (27, .d (D.int .i64 (v77n : Int)))] [(0, .box 3 [.d (D.int .i64 v78)])]) (LoopEnd prog f151 1 83 (.d (D.bool r.1)) (⟨[(3, [.d (D.int .i64 r.2)])], []⟩) (fun i ts os => (i = 0 ∧ ∃ v99 : Int, K0 v99 = some r ∧ ts = [] ∧ os = [(0, .box 3 [.d (D.int .i64 v99)])])))
  | [], v77n, v78, hd, h => by
      rw [impl_ordinalAt_2_l0] at h
      have hn := drop_nil hd
      refine LoopOk.step ?_
      conv => whnf
      refine splD (fun g => absurd g hn) (fun _ => ?_)
      conv => whnf
      exact ⟨_, _, [some 0], [], ⟨rfl, _, h, rfl, rfl⟩, ⟨⟨rfl, rfl⟩, ⟨rfl, ⟨rfl, rfl, trivial⟩, trivial⟩, trivial⟩⟩
  | cs :: rest, v77n, v78, hd, h => by
      rw [impl_ordinalAt_2_l0] at h
      obtain ⟨hrow, hd1, hlt⟩ := drop_cons hd
      refine LoopOk.step ?_
      conv => whnf
      refine splD (fun _ => ?_) (fun g => absurd hlt g)
      conv => whnf
      obtain ⟨x120, x121, e122, h⟩ := cell_si_ex h
      rw [e122] at hrow
      refine Req.of (Int.natCast_nonneg _) ?_
      refine Row.of _ hrow ?_
      conv => whnf
      refine splD (fun g123 => ?_) (fun g123 => ?_)
      · replace h := iteP h g123
        conv => whnf
        refine CutK.norm [0, 1, 2, 7, 8, 26, 27, 62] [0] ?_
        conv => whnf
        cases h
        exact Done.of [some 0] [] rfl rfl ⟨⟨rfl, rfl⟩, ⟨rfl, ⟨rfl, rfl, trivial⟩, trivial⟩, rfl, trivial⟩
      · replace h := iteN h g123
        conv => whnf
        obtain ⟨y124, e125, h⟩ := bind_ex h
        refine CallOk.of (impl_in_ct e125) ?_
        conv => whnf
        refine spl (fun g126 => ?_) (fun g126 => ?_)
        · replace h := iteT h g126
          conv => whnf
          obtain ⟨y127, e128, h⟩ := bind_ex h
          refine CallOk.of (hrec_impl_ordinalAt_2 _ _ _ _ _ e128) ?_
          conv => whnf
          refine spl (fun g129 => ?_) (fun g129 => ?_)
          · replace h := iteT h g129
            conv => whnf
            refine CutK.norm [0, 1, 2, 7, 8, 26, 27, 62] [0] ?_
            conv => whnf
            refine CutK.norm [0, 1, 2, 7, 8, 26, 27] [0] ?_
            conv => whnf
            refine splD (fun g130 => ?_) (fun g130 => ?_)
            · replace h := iteP h g130
              conv => whnf
              obtain ⟨g134, x131, x132, e133, h⟩ := row_si_ex h
              refine Req.of g134 ?_
              refine Row.of _ e133 ?_
              conv => whnf
              obtain ⟨y135, e136, h⟩ := bind_ex h
              refine CallOk.of (impl_cmp_ct e136) ?_
              conv => whnf
              refine splD (fun g137 => ?_) (fun g137 => ?_)
              · replace h := iteP h g137
                conv => whnf
                refine CutK.norm [0, 1, 2, 26, 27, 81] [0] ?_
                conv => whnf
                cases h
                exact Done.of [some 0] [] rfl rfl ⟨⟨rfl, rfl⟩, ⟨rfl, ⟨rfl, rfl, trivial⟩, trivial⟩, rfl, trivial⟩
              · replace h := iteN h g137
                conv => whnf
                refine CutK.norm [0, 1, 2, 26, 27, 81] [0] ?_
                conv => whnf
                refine CutK.norm [0, 1, 2, 26, 27] [0] ?_
                conv => whnf
                exact LoopOk.back (impl_ordinalAt_2_l0_ct hrec_impl_ordinalAt_2 hx rest (v77n + 1) _ hd1 h) [some 0] [] ⟨⟨rfl, rfl⟩, ⟨rfl, ⟨rfl, rfl, trivial⟩, trivial⟩, rfl, rfl, ⟨rfl, rfl⟩, rfl, i64eq (wrap_up hlt hx), trivial⟩
            · replace h := iteN h g130
              conv => whnf
              refine CutK.norm [0, 1, 2, 26, 27, 81] [0] ?_
              conv => whnf
              refine CutK.norm [0, 1, 2, 26, 27] [0] ?_
              conv => whnf
              exact LoopOk.back (impl_ordinalAt_2_l0_ct hrec_impl_ordinalAt_2 hx rest (v77n + 1) _ hd1 h) [some 0] [] ⟨⟨rfl, rfl⟩, ⟨rfl, ⟨rfl, rfl, trivial⟩, trivial⟩, rfl, rfl, ⟨rfl, rfl⟩, rfl, i64eq (wrap_up hlt hx), trivial⟩
          · replace h := iteF h g129
            conv => whnf
            refine CutK.norm [0, 1, 2, 7, 8, 26, 27, 62] [0] ?_
            conv => whnf
            cases h
            exact Done.of [some 0] [] rfl rfl ⟨⟨rfl, rfl⟩, ⟨rfl, ⟨rfl, rfl, trivial⟩, trivial⟩, rfl, trivial⟩
        · replace h := iteF h g126
          conv => whnf
          refine CutK.norm [0, 1, 2, 7, 8, 26, 27, 62] [0] ?_
          conv => whnf
          cases h
          exact Done.of [some 0] [] rfl rfl ⟨⟨rfl, rfl⟩, ⟨rfl, ⟨rfl, rfl, trivial⟩, trivial⟩, rfl, trivial⟩
def impl_ordinalAt_2_b (k : Nat) (rec_impl_ordinalAt_2 : Rw → Int → Int → Int → Option (Bool × Int)) (a1 : Rw) (a2 : Int) (a3 : Int) (a4 : Int) : Option (Bool × Int) :=
  (if (60 : Int) < (IntKind.i64.wrap (a4 + 1)) then some (false, IntKind.i64.wrap (a4 + 1)) else (if (6 : Int) < a3 then some (false, IntKind.i64.wrap (a4 + 1)) else (if a1.length ≤ cap then (impl_ordinalAt_2_l0 k rec_impl_ordinalAt_2 a1 a2 a3 (fun (v99 : Int) => (impl_ordinalAt_2_p3 v99)) a1 0 (IntKind.i64.wrap (a4 + 1))) else none)))
set_option maxHeartbeats 4000000 in
set_option maxRecDepth 100000 in
theorem impl_ordinalAt_2_b_ct {k : Nat} {rec_impl_ordinalAt_2 : Rw → Int → Int → Int → Option (Bool × Int)} (hrec_impl_ordinalAt_2 : ∀ (a1 : Rw) (a2 : Int) (a3 : Int) (a4 : Int) (r : Bool × Int), rec_impl_ordinalAt_2 a1 a2 a3 a4 = some r → Ct prog 151 [.dp [D.sl a1, D.int .i64 a2], .d (D.int .i64 a3), .ptr 0 0] (⟨[(3, [.d (D.int .i64 a4)])], []⟩) (.d (D.bool r.1)) (⟨[(3, [.d (D.int .i64 r.2)])], []⟩)) {a1 : Rw} {a2 : Int} {a3 : Int} {a4 : Int} {r : Bool × Int} (h : impl_ordinalAt_2_b k rec_impl_ordinalAt_2 a1 a2 a3 a4 = some r) : Ct prog 151 [.dp [D.sl a1, D.int .i64 a2], .d (D.int .i64 a3), .ptr 0 0] (⟨[(3, [.d (D.int .i64 a4)])], []⟩) (.d (D.bool r.1)) (⟨[(3, [.d (D.int .i64 r.2)])], []⟩) := by
  rw [impl_ordinalAt_2_b] at h
  refine Ct.of (c := _) mixed func151 ⟨rfl, rfl, rfl⟩ ?_ rfl
  conv => whnf
  refine splD (fun g63 => ?_) (fun g63 => ?_)
  · replace h := iteP h g63
    conv => whnf
    cases h
    exact Done.of [some 0] [] rfl rfl ⟨⟨rfl, rfl⟩, ⟨rfl, ⟨rfl, rfl, trivial⟩, trivial⟩, rfl, trivial⟩
  · replace h := iteN h g63
    conv => whnf
    refine splD (fun g64 => ?_) (fun g64 => ?_)
    · replace h := iteP h g64
      conv => whnf
      cases h
      exact Done.of [some 0] [] rfl rfl ⟨⟨rfl, rfl⟩, ⟨rfl, ⟨rfl, rfl, trivial⟩, trivial⟩, rfl, trivial⟩
    · replace h := iteN h g64
      conv => whnf
      obtain ⟨g138, h⟩ := req_ex h
      refine LoopOk.into (impl_ordinalAt_2_l0_ct hrec_impl_ordinalAt_2 g138 _ _ _ rfl h) [some 0] [] ⟨⟨rfl, rfl⟩, ⟨rfl, ⟨rfl, rfl, trivial⟩, trivial⟩, rfl, rfl, ⟨rfl, rfl⟩, rfl, rfl, trivial⟩ ?_ (fun _ hs => hs)
      rintro i ts os ⟨rfl, v99, h, rfl, rfl⟩
      conv => whnf
      exact CutK.piece (impl_ordinalAt_2_p3_ct  h) [some 0] [] ⟨⟨rfl, rfl⟩, ⟨rfl, ⟨rfl, rfl, trivial⟩, trivial⟩, trivial⟩
def impl_ordinalAt_2 : Nat → Rw → Int → Int → Int → Option (Bool × Int)
  | 0, _, _, _, _ => none
  | k + 1, a1, a2, a3, a4 => impl_ordinalAt_2_b k (impl_ordinalAt_2 k) a1 a2 a3 a4
theorem impl_ordinalAt_2_ct' : ∀ (k : Nat) (a1 : Rw) (a2 : Int) (a3 : Int) (a4 : Int) (r : Bool × Int), impl_ordinalAt_2 k a1 a2 a3 a4 = some r → Ct prog 151 [.dp [D.sl a1, D.int .i64 a2], .d (D.int .i64 a3), .ptr 0 0] (⟨[(3, [.d (D.int .i64 a4)])], []⟩) (.d (D.bool r.1)) (⟨[(3, [.d (D.int .i64 r.2)])], []⟩)
  | 0, _, _, _, _, _, h => by rw [impl_ordinalAt_2] at h; cases h
  | k + 1, _, _, _, _, _, h => by rw [impl_ordinalAt_2] at h; exact impl_ordinalAt_2_b_ct (impl_ordinalAt_2_ct' k) h
theorem impl_ordinalAt_2_ct {k : Nat} {a1 : Rw} {a2 : Int} {a3 : Int} {a4 : Int} {r : Bool × Int} (h : impl_ordinalAt_2 k a1 a2 a3 a4 = some r) : Ct prog 151 [.dp [D.sl a1, D.int .i64 a2], .d (D.int .i64 a3), .ptr 0 0] (⟨[(3, [.d (D.int .i64 a4)])], []⟩) (.d (D.bool r.1)) (⟨[(3, [.d (D.int .i64 r.2)])], []⟩) := impl_ordinalAt_2_ct' k _ _ _ _ _ h

def impl_ordinalAt_p3 (a1 : Rw) (o61 : Int) : Option (Bool × Rw × Int) :=
  some (true, a1, o61)
set_option maxHeartbeats 4000000 in
set_option maxRecDepth 100000 in
theorem impl_ordinalAt_p3_ct {a1 : Rw} {o61 : Int} {r : Bool × Rw × Int} (h : impl_ordinalAt_p3 a1 o61 = some r) : X prog 2 (tlF f151 3) (mk 83 [] [(0, .box 26 [.d (D.sl a1)]), (64, .box 3 [.d (D.int .i64 o61)])]) (finK prog f151 2 (.d (D.bool r.1)) (⟨[(26, [.d (D.sl r.2.1)]), (3, [.d (D.int .i64 r.2.2)])], []⟩)) := by
  rw [impl_ordinalAt_p3] at h
  conv => whnf
  cases h
  exact Done.of [some 0, some 64] [] rfl rfl ⟨⟨rfl, rfl⟩, ⟨rfl, ⟨rfl, rfl, trivial⟩, ⟨rfl, rfl, trivial⟩, trivial⟩, rfl, trivial⟩
def impl_ordinalAt_l0 (k : Nat) (a1 : Rw) (a2 : Int) (K0 : Int → Option (Bool × Rw × Int)) : Rw → Nat → Int → Option (Bool × Rw × Int)
  | [], v76n, v77 => (K0 v77)
  | cs :: rest, v76n, v77 => (cell_si cs fun x119 x120 => (if (60 : Int) < (IntKind.i64.wrap (v77 + 1)) then some (false, a1, IntKind.i64.wrap (v77 + 1)) else ((impl_in x120 1 1000000).bind fun y123 => (if y123 = true then ((impl_ordinalAt_2 k x119 x120 (IntKind.i64.wrap (a2 + 1)) (IntKind.i64.wrap (v77 + 1))).bind fun y126 => (if y126.1 = true then (if (0 : Int) < (v76n : Int) then (row_si a1 (IntKind.i64.wrap ((v76n : Int) - 1)) fun x130 x131 => ((impl_cmp k x130 x119).bind fun y134 => (if y134 ≤ (0 : Int) then some (false, a1, y126.2) else (impl_ordinalAt_l0 k a1 a2 K0 rest (v76n + 1) y126.2)))) else (impl_ordinalAt_l0 k a1 a2 K0 rest (v76n + 1) y126.2)) else some (false, a1, y126.2))) else some (false, a1, IntKind.i64.wrap (v77 + 1))))))
set_option maxRecDepth 100000 in
theorem impl_ordinalAt_l0_ct {k : Nat} {a1 : Rw} {a2 : Int} {K0 : Int → Option (Bool × Rw × Int)} {r : Bool × Rw × Int} (hx : a1.length ≤ cap) : ∀ (rest : Rw) (v76n : Nat) (v77 : Int), a1.drop v76n = rest → impl_ordinalAt_l0 k a1 a2 K0 rest v76n v77 = some r → LoopOk prog 2 (lp f151 0) (mk 83 [(0, .ptr 0 0), (1, .d (D.int .i64 a2)), (2, .ptr 64 0), (26, .d (D.int .i64 (a1.length : Int))), (27, .d (D.int .i64 (v76n : Int)))] [(0, .box 26 [.d (D.sl a1)]), (64, .box 3 [.d (D.int .i64 v77)])]) (LoopEnd prog f151 2 83 (.d (D.bool r.1)) (⟨[(26, [.d (D.sl r.2.1)]), (3, [.d (D.int .i64 r.2.2)])], []⟩) (fun i ts os => (i = 0 ∧ ∃ v98 : Int, K0 v98 = some r ∧ ts = [] ∧ os = [(0, .box 26 [.d (D.sl a1)]), (64, .box 3 [.d (D.int .i64 v98)])])))
  | [], v76n, v77, hd, h => by
      rw [impl_ordinalAt_l0] at h
      have hn := drop_nil hd
      refine LoopOk.step ?_
      conv => whnf
      refine splD (fun g => absurd g hn) (fun _ => ?_)
      conv => whnf
      exact ⟨_, _, [some 0, some 64], [], ⟨rfl, _, h, rfl, rfl⟩, ⟨⟨rfl, rfl⟩, ⟨rfl, ⟨rfl, rfl, trivial⟩, ⟨rfl, rfl, trivial⟩, trivial⟩, trivial⟩⟩
  | cs :: rest, v76n, v77, hd, h => by
      rw [impl_ordinalAt_l0] at h
      obtain ⟨hrow, hd1, hlt⟩ := drop_cons hd
      refine LoopOk.step ?_
      conv => whnf
      refine splD (fun _ => ?_) (fun g => absurd hlt g)
      conv => whnf
      obtain ⟨x119, x120, e121, h⟩ := cell_si_ex h
      rw [e121] at hrow
      refine Req.of (Int.natCast_nonneg _) ?_
      refine Row.of _ hrow ?_
      conv => whnf
      refine splD (fun g122 => ?_) (fun g122 => ?_)
      · replace h := iteP h g122
        conv => whnf
        refine CutK.norm [0, 1, 2, 7, 8, 26, 27, 62] [0, 64] ?_
        conv => whnf
        cases h
        exact Done.of [some 0, some 64] [] rfl rfl ⟨⟨rfl, rfl⟩, ⟨rfl, ⟨rfl, rfl, trivial⟩, ⟨rfl, rfl, trivial⟩, trivial⟩, rfl, trivial⟩
      · replace h := iteN h g122
        conv => whnf
        obtain ⟨y123, e124, h⟩ := bind_ex h
        refine CallOk.of (impl_in_ct e124) ?_
        conv => whnf
        refine spl (fun g125 => ?_) (fun g125 => ?_)
        · replace h := iteT h g125
          conv => whnf
          obtain ⟨y126, e127, h⟩ := bind_ex h
          refine CallOk.of (impl_ordinalAt_2_ct e127) ?_
          conv => whnf
          refine spl (fun g128 => ?_) (fun g128 => ?_)
          · replace h := iteT h g128
            conv => whnf
            refine CutK.norm [0, 1, 2, 7, 8, 26, 27, 62] [0, 64] ?_
            conv => whnf
            refine CutK.norm [0, 1, 2, 7, 8, 26, 27] [0, 64] ?_
            conv => whnf
            refine splD (fun g129 => ?_) (fun g129 => ?_)
            · replace h := iteP h g129
              conv => whnf
              obtain ⟨g133, x130, x131, e132, h⟩ := row_si_ex h
              refine Req.of g133 ?_
              refine Row.of _ e132 ?_
              conv => whnf
              obtain ⟨y134, e135, h⟩ := bind_ex h
              refine CallOk.of (impl_cmp_ct e135) ?_
              conv => whnf
              refine splD (fun g136 => ?_) (fun g136 => ?_)
              · replace h := iteP h g136
                conv => whnf
                refine CutK.norm [0, 1, 2, 26, 27, 81] [0, 64] ?_
                conv => whnf
                cases h
                exact Done.of [some 0, some 64] [] rfl rfl ⟨⟨rfl, rfl⟩, ⟨rfl, ⟨rfl, rfl, trivial⟩, ⟨rfl, rfl, trivial⟩, trivial⟩, rfl, trivial⟩
              · replace h := iteN h g136
                conv => whnf
                refine CutK.norm [0, 1, 2, 26, 27, 81] [0, 64] ?_
                conv => whnf
                refine CutK.norm [0, 1, 2, 26, 27] [0, 64] ?_
                conv => whnf
                exact LoopOk.back (impl_ordinalAt_l0_ct hx rest (v76n + 1) _ hd1 h) [some 0, some 64] [] ⟨⟨rfl, rfl⟩, ⟨rfl, ⟨rfl, rfl, trivial⟩, ⟨rfl, rfl, trivial⟩, trivial⟩, ⟨rfl, rfl⟩, rfl, ⟨rfl, rfl⟩, rfl, i64eq (wrap_up hlt hx), trivial⟩
            · replace h := iteN h g129
              conv => whnf
              refine CutK.norm [0, 1, 2, 26, 27, 81] [0, 64] ?_
              conv => whnf
              refine CutK.norm [0, 1, 2, 26, 27] [0, 64] ?_
              conv => whnf
              exact LoopOk.back (impl_ordinalAt_l0_ct hx rest (v76n + 1) _ hd1 h) [some 0, some 64] [] ⟨⟨rfl, rfl⟩, ⟨rfl, ⟨rfl, rfl, trivial⟩, ⟨rfl, rfl, trivial⟩, trivial⟩, ⟨rfl, rfl⟩, rfl, ⟨rfl, rfl⟩, rfl, i64eq (wrap_up hlt hx), trivial⟩
          · replace h := iteF h g128
            conv => whnf
            refine CutK.norm [0, 1, 2, 7, 8, 26, 27, 62] [0, 64] ?_
            conv => whnf
            cases h
            exact Done.of [some 0, some 64] [] rfl rfl ⟨⟨rfl, rfl⟩, ⟨rfl, ⟨rfl, rfl, trivial⟩, ⟨rfl, rfl, trivial⟩, trivial⟩, rfl, trivial⟩
        · replace h := iteF h g125
          conv => whnf
          refine CutK.norm [0, 1, 2, 7, 8, 26, 27, 62] [0, 64] ?_
          conv => whnf
          cases h
          exact Done.of [some 0, some 64] [] rfl rfl ⟨⟨rfl, rfl⟩, ⟨rfl, ⟨rfl, rfl, trivial⟩, ⟨rfl, rfl, trivial⟩, trivial⟩, rfl, trivial⟩
def impl_ordinalAt (k : Nat) (a1 : Rw) (a2 : Int) (a3 : Int) : Option (Bool × Rw × Int) :=
  (if (60 : Int) < (IntKind.i64.wrap (a3 + 1)) then some (false, a1, IntKind.i64.wrap (a3 + 1)) else (if (6 : Int) < a2 then some (false, a1, IntKind.i64.wrap (a3 + 1)) else (if a1.length ≤ cap then (impl_ordinalAt_l0 k a1 a2 (fun (v98 : Int) => (impl_ordinalAt_p3 a1 v98)) a1 0 (IntKind.i64.wrap (a3 + 1))) else none)))
set_option maxHeartbeats 4000000 in
set_option maxRecDepth 100000 in
theorem impl_ordinalAt_ct {k : Nat} {a1 : Rw} {a2 : Int} {a3 : Int} {r : Bool × Rw × Int} (h : impl_ordinalAt k a1 a2 a3 = some r) : Ct prog 151 [.ptr 0 0, .d (D.int .i64 a2), .ptr 64 0] (⟨[(26, [.d (D.sl a1)]), (3, [.d (D.int .i64 a3)])], []⟩) (.d (D.bool r.1)) (⟨[(26, [.d (D.sl r.2.1)]), (3, [.d (D.int .i64 r.2.2)])], []⟩) := by
  rw [impl_ordinalAt] at h
  refine Ct.of (c := _) mixed func151 ⟨rfl, rfl, rfl⟩ ?_ rfl
  conv => whnf
  refine splD (fun g62 => ?_) (fun g62 => ?_)
  · replace h := iteP h g62
    conv => whnf
    cases h
    exact Done.of [some 0, some 64] [] rfl rfl ⟨⟨rfl, rfl⟩, ⟨rfl, ⟨rfl, rfl, trivial⟩, ⟨rfl, rfl, trivial⟩, trivial⟩, rfl, trivial⟩
  · replace h := iteN h g62
    conv => whnf
    refine splD (fun g63 => ?_) (fun g63 => ?_)
    · replace h := iteP h g63
      conv => whnf
      cases h
      exact Done.of [some 0, some 64] [] rfl rfl ⟨⟨rfl, rfl⟩, ⟨rfl, ⟨rfl, rfl, trivial⟩, ⟨rfl, rfl, trivial⟩, trivial⟩, rfl, trivial⟩
    · replace h := iteN h g63
      conv => whnf
      obtain ⟨g137, h⟩ := req_ex h
      refine LoopOk.into (impl_ordinalAt_l0_ct  g137 _ _ _ rfl h) [some 0, some 64] [] ⟨⟨rfl, rfl⟩, ⟨rfl, ⟨rfl, rfl, trivial⟩, ⟨rfl, rfl, trivial⟩, trivial⟩, ⟨rfl, rfl⟩, rfl, ⟨rfl, rfl⟩, rfl, rfl, trivial⟩ ?_ (fun _ hs => hs)
      rintro i ts os ⟨rfl, v98, h, rfl, rfl⟩
      conv => whnf
      exact CutK.piece (impl_ordinalAt_p3_ct  h) [some 0, some 64] [] ⟨⟨rfl, rfl⟩, ⟨rfl, ⟨rfl, rfl, trivial⟩, ⟨rfl, rfl, trivial⟩, trivial⟩, trivial⟩

def impl_IsOrdinal (k : Nat) (a1 : Rw) : Option Bool :=
  ((impl_ordinalAt k a1 0 0).bind fun y2 => (if y2.1 = true then some true else some false))
set_option maxHeartbeats 4000000 in
set_option maxRecDepth 100000 in
theorem impl_IsOrdinal_ct {k : Nat} {a1 : Rw} {r : Bool} (h : impl_IsOrdinal k a1 = some r) : Ct prog 70 [.agg [.d (D.sl a1)]] (⟨[], []⟩) (.d (D.bool r)) (⟨[], []⟩) := by
  rw [impl_IsOrdinal] at h
  refine Ct.of (c := _) mixed func70 ⟨rfl, rfl, rfl⟩ ?_ rfl
  conv => whnf
  obtain ⟨y2, e3, h⟩ := bind_ex h
  refine CallOk.of (impl_ordinalAt_ct e3) ?_
  conv => whnf
  refine spl (fun g4 => ?_) (fun g4 => ?_)
  · replace h := iteT h g4
    conv => whnf
    refine CutK.go ?_
    conv => whnf
    cases h
    exact Done.of [] [] rfl rfl ⟨⟨rfl, rfl⟩, ⟨rfl, trivial⟩, rfl, trivial⟩
  · replace h := iteF h g4
    conv => whnf
    refine CutK.go ?_
    conv => whnf
    cases h
    exact Done.of [] [] rfl rfl ⟨⟨rfl, rfl⟩, ⟨rfl, trivial⟩, rfl, trivial⟩

def impl_both (k : Nat) (a1 : Rw) (a2 : Rw) : Option Bool :=
  ((impl_IsOrdinal k a1).bind fun y3 => (if y3 = true then ((impl_IsOrdinal k a2).bind fun y6 => (if y6 = true then some true else some false)) else some false))
set_option maxHeartbeats 4000000 in
set_option maxRecDepth 100000 in
theorem impl_both_ct {k : Nat} {a1 : Rw} {a2 : Rw} {r : Bool} (h : impl_both k a1 a2 = some r) : Ct prog 78 [.agg [.d (D.sl a1)], .agg [.d (D.sl a2)]] (⟨[], []⟩) (.d (D.bool r)) (⟨[], []⟩) := by
  rw [impl_both] at h
  refine Ct.of (c := _) mixed func78 ⟨rfl, rfl, rfl⟩ ?_ rfl
  conv => whnf
  obtain ⟨y3, e4, h⟩ := bind_ex h
  refine CallOk.of (impl_IsOrdinal_ct e4) ?_
  conv => whnf
  refine spl (fun g5 => ?_) (fun g5 => ?_)
  · replace h := iteT h g5
    conv => whnf
    obtain ⟨y6, e7, h⟩ := bind_ex h
    refine CallOk.of (impl_IsOrdinal_ct e7) ?_
    conv => whnf
    refine spl (fun g8 => ?_) (fun g8 => ?_)
    · replace h := iteT h g8
      conv => whnf
      refine CutK.go ?_
      conv => whnf
      cases h
      exact Done.of [] [] rfl rfl ⟨⟨rfl, rfl⟩, ⟨rfl, trivial⟩, rfl, trivial⟩
    · replace h := iteF h g8
      conv => whnf
      refine CutK.go ?_
      conv => whnf
      cases h
      exact Done.of [] [] rfl rfl ⟨⟨rfl, rfl⟩, ⟨rfl, trivial⟩, rfl, trivial⟩
  · replace h := iteF h g5
    conv => whnf
    refine CutK.go ?_
    conv => whnf
    cases h
    exact Done.of [] [] rfl rfl ⟨⟨rfl, rfl⟩, ⟨rfl, trivial⟩, rfl, trivial⟩

def impl_isZero  (a1 : Rw) : Option Bool :=
  (if (a1.length : Int) = (0 : Int) then some true else some false)
set_option maxHeartbeats 4000000 in
set_option maxRecDepth 100000 in
theorem impl_isZero_ct  {a1 : Rw} {r : Bool} (h : impl_isZero a1 = some r) : Ct prog 72 [.agg [.d (D.sl a1)]] (⟨[], []⟩) (.d (D.bool r)) (⟨[], []⟩) := by
  rw [impl_isZero] at h
  refine Ct.of (c := _) mixed func72 ⟨rfl, rfl, rfl⟩ ?_ rfl
  conv => whnf
  refine splD (fun g2 => ?_) (fun g2 => ?_)
  · replace h := iteP h g2
    conv => whnf
    cases h
    exact Done.of [] [] rfl rfl ⟨⟨rfl, rfl⟩, ⟨rfl, trivial⟩, rfl, trivial⟩
  · replace h := iteN h g2
    conv => whnf
    cases h
    exact Done.of [] [] rfl rfl ⟨⟨rfl, rfl⟩, ⟨rfl, trivial⟩, rfl, trivial⟩

def impl_degree  (a1 : Rw) : Option Rw :=
  ((impl_isZero a1).bind fun y2 => (if y2 = true then some ([] : Rw) else (row_si a1 0 fun x5 x6 => some x5)))
set_option maxHeartbeats 4000000 in
set_option maxRecDepth 100000 in
theorem impl_degree_ct  {a1 : Rw} {r : Rw} (h : impl_degree a1 = some r) : Ct prog 88 [.agg [.d (D.sl a1)]] (⟨[], []⟩) (.agg [.d (D.sl r)]) (⟨[], []⟩) := by
  rw [impl_degree] at h
  refine Ct.of (c := _) mixed func88 ⟨rfl, rfl, rfl⟩ ?_ rfl
  conv => whnf
  obtain ⟨y2, e3, h⟩ := bind_ex h
  refine CallOk.of (impl_isZero_ct e3) ?_
  conv => whnf
  refine spl (fun g4 => ?_) (fun g4 => ?_)
  · replace h := iteT h g4
    conv => whnf
    refine CutK.go ?_
    conv => whnf
    cases h
    exact Done.of [] [] rfl rfl ⟨⟨rfl, rfl⟩, ⟨rfl, trivial⟩, ⟨rfl, trivial⟩, trivial⟩
  · replace h := iteF h g4
    conv => whnf
    refine CutK.go ?_
    conv => whnf
    refine CutK.go ?_
    conv => whnf
    obtain ⟨g8, x5, x6, e7, h⟩ := row_si_ex h
    refine Req.of g8 ?_
    refine Row.of _ e7 ?_
    conv => whnf
    cases h
    exact Done.of [] [] rfl rfl ⟨⟨rfl, rfl⟩, ⟨rfl, trivial⟩, ⟨rfl, trivial⟩, trivial⟩

def impl_plus_p4 (a2 : Rw) (o58 : Rw) : Option Rw :=
  (if o58.length + a2.length ≤ cap ∧ (∀ cs ∈ a2, cs.length = 2) then some (o58 ++ a2) else none)
set_option maxHeartbeats 4000000 in
set_option maxRecDepth 100000 in
theorem impl_plus_p4_ct {a2 : Rw} {o58 : Rw} {r : Rw} (h : impl_plus_p4 a2 o58 = some r) : X prog 0 (tlF f80 4) (mk 69 [(3, .ptr 192 0), (4, .ptr 256 0), (5, .ptr 320 0)] [(192, .box 26 [.d (D.sl a2)]), (256, .box 26 [.es]), (320, .box 26 [.os 1084000 o58.length]), (1084000, .arr 104 false o58)]) (finK prog f80 0 (.agg [.d (D.sl r)]) (⟨[], []⟩)) := by
  rw [impl_plus_p4] at h
  conv => whnf
  refine Take.all (rfl) ?_
  conv => whnf
  obtain ⟨g60, h⟩ := req_ex h
  refine Req.of (room (b := 32) (by decide) g60.1 g60.2) ?_
  conv => whnf
  cases h
  exact Done.of [] [4224] rfl rfl ⟨⟨rfl, rfl⟩, ⟨rfl, trivial⟩, ⟨⟨rfl, Nat.le_of_eq (by first | rfl | exact List.length_append.symm | (simp; done) | omega), eq_take (by first | rfl | exact List.length_append.symm | (simp; done) | omega)⟩, trivial⟩, trivial⟩
def impl_plus_l0 (k : Nat) (a1 : Rw) (a2 : Rw) (K0 : Rw → Option Rw) : Rw → Rw → Option Rw
  | [], v74 => (K0 v74)
  | cs :: rest, v74 => (cell_si cs fun x113 x114 => (row_si a2 0 fun x116 x117 => ((impl_cmp k x113 x116).bind fun y120 => (if y120 = (1 : Int) then (if v74.length + 1 ≤ cap then (impl_plus_l0 k a1 a2 K0 rest (v74 ++ ([[D.sl x113, D.int .i64 x114]]))) else none) else (if y120 = (0 : Int) then (if v74.length + 1 ≤ cap then (if 0 ≤ (1 : Int) ∧ (1 : Int) ≤ (a2.length : Int) ∧ (∀ cs ∈ a2, cs.length = 2) then (if (v74 ++ ([[D.sl x113, D.int .i64 (IntKind.i64.wrap (x114 + x117))]])).length + (a2.drop (1 : Int).toNat).length ≤ cap ∧ (∀ cs ∈ (a2.drop (1 : Int).toNat), cs.length = 2) then some ((v74 ++ ([[D.sl x113, D.int .i64 (IntKind.i64.wrap (x114 + x117))]])) ++ (a2.drop (1 : Int).toNat)) else none) else none) else none) else (impl_plus_l0 k a1 a2 K0 rest v74))))))
set_option maxRecDepth 100000 in
theorem impl_plus_l0_ct {k : Nat} {a1 : Rw} {a2 : Rw} {K0 : Rw → Option Rw} {r : Rw} (hx : a1.length ≤ cap) : ∀ (rest : Rw) (v73n : Nat) (v74 : Rw), a1.drop v73n = rest → impl_plus_l0 k a1 a2 K0 rest v74 = some r → LoopOk prog 0 (lp f80 0) (mk 69 [(3, .ptr 192 0), (4, .ptr 256 0), (5, .ptr 320 0), (13, .d (D.sl a1)), (14, .d (D.int .i64 (a1.length : Int))), (15, .d (D.int .i64 (v73n : Int)))] [(192, .box 26 [.d (D.sl a2)]), (256, .box 26 [.es]), (320, .box 26 [.os 64000 v74.length]), (64000, .arr 104 false v74)]) (LoopEnd prog f80 0 69 (.agg [.d (D.sl r)]) (⟨[], []⟩) (fun i ts os => (i = 0 ∧ ∃ v95 : Rw, K0 v95 = some r ∧ ts = [(3, .ptr 192 0), (4, .ptr 256 0), (5, .ptr 320 0)] ∧ os = [(192, .box 26 [.d (D.sl a2)]), (256, .box 26 [.es]), (320, .box 26 [.os 67001 v95.length]), (67001, .arr 104 false v95)])))
  | [], v73n, v74, hd, h => by
      rw [impl_plus_l0] at h
      have hn := drop_nil hd
      refine LoopOk.step ?_
      conv => whnf
      refine splD (fun g => absurd g hn) (fun _ => ?_)
      conv => whnf
      exact ⟨_, _, [some 192, some 256, some 320, some 64000], [], ⟨rfl, _, h, rfl, rfl⟩, ⟨⟨rfl, rfl⟩, ⟨rfl, ⟨rfl, rfl, trivial⟩, ⟨rfl, trivial, trivial⟩, ⟨rfl, ⟨rfl, rfl⟩, trivial⟩, ⟨rfl, rfl, rows_same⟩, trivial⟩, ⟨rfl, rfl⟩, ⟨rfl, rfl⟩, ⟨rfl, rfl⟩, trivial⟩⟩
  | cs :: rest, v73n, v74, hd, h => by
      rw [impl_plus_l0] at h
      obtain ⟨hrow, hd1, hlt⟩ := drop_cons hd
      refine LoopOk.step ?_
      conv => whnf
      refine splD (fun _ => ?_) (fun g => absurd hlt g)
      conv => whnf
      obtain ⟨x113, x114, e115, h⟩ := cell_si_ex h
      rw [e115] at hrow
      refine Req.of (Int.natCast_nonneg _) ?_
      refine Row.of _ hrow ?_
      conv => whnf
      obtain ⟨g119, x116, x117, e118, h⟩ := row_si_ex h
      refine Req.of g119 ?_
      refine Row.of _ e118 ?_
      conv => whnf
      obtain ⟨y120, e121, h⟩ := bind_ex h
      refine CallOk.of (impl_cmp_ct e121) ?_
      conv => whnf
      refine CutK.norm [3, 4, 5, 7, 13, 14, 15, 26] [192, 256, 320, 448, 64000] ?_
      conv => whnf
      refine splD (fun g122 => ?_) (fun g122 => ?_)
      · replace h := iteP h g122
        conv => whnf
        refine Take.all (rfl) ?_
        conv => whnf
        refine Take.all (by first | rfl | exact List.length_append.symm | (simp; done) | omega) ?_
        conv => whnf
        obtain ⟨g123, h⟩ := req_ex h
        refine Req.of (room (b := 32) (by decide) g123 (wide1 rfl wide0)) ?_
        conv => whnf
        refine CutK.norm [3, 4, 5, 13, 14, 15] [192, 256, 320, 2112] ?_
        conv => whnf
        exact LoopOk.back (impl_plus_l0_ct hx rest (v73n + 1) _ hd1 h) [some 192, some 256, some 320, some 2112] [] ⟨⟨rfl, rfl⟩, ⟨rfl, ⟨rfl, rfl, trivial⟩, ⟨rfl, trivial, trivial⟩, ⟨rfl, ⟨(by first | rfl | exact List.length_append.symm | (simp; done) | omega), rfl⟩, trivial⟩, ⟨rfl, rfl, rows_same⟩, trivial⟩, ⟨rfl, rfl⟩, ⟨rfl, rfl⟩, ⟨rfl, rfl⟩, rfl, rfl, i64eq (wrap_up hlt hx), trivial⟩
      · replace h := iteN h g122
        conv => whnf
        refine splD (fun g124 => ?_) (fun g124 => ?_)
        · replace h := iteP h g124
          conv => whnf
          refine Req.of g119 ?_
          refine Row.of _ e118 ?_
          conv => whnf
          refine Take.all (rfl) ?_
          conv => whnf
          refine Take.all (by first | rfl | exact List.length_append.symm | (simp; done) | omega) ?_
          conv => whnf
          obtain ⟨g125, h⟩ := req_ex h
          refine Req.of (room (b := 32) (by decide) g125 (wide1 rfl wide0)) ?_
          conv => whnf
          obtain ⟨g126, h⟩ := req_ex h
          refine Req.of g126 ?_
          conv => whnf
          refine Take.all (by first | rfl | exact List.length_append.symm | (simp; done) | omega) ?_
          conv => whnf
          obtain ⟨g127, h⟩ := req_ex h
          refine Req.of (room (b := 32) (by decide) g127.1 g127.2) ?_
          conv => whnf
          cases h
          exact Done.of [] [3712] rfl rfl ⟨⟨rfl, rfl⟩, ⟨rfl, trivial⟩, ⟨⟨rfl, Nat.le_of_eq (by first | rfl | exact List.length_append.symm | (simp; done) | omega), eq_take (by first | rfl | exact List.length_append.symm | (simp; done) | omega)⟩, trivial⟩, trivial⟩
        · replace h := iteN h g124
          conv => whnf
          refine CutK.norm [3, 4, 5, 13, 14, 15] [192, 256, 320, 64000] ?_
          conv => whnf
          exact LoopOk.back (impl_plus_l0_ct hx rest (v73n + 1) _ hd1 h) [some 192, some 256, some 320, some 64000] [] ⟨⟨rfl, rfl⟩, ⟨rfl, ⟨rfl, rfl, trivial⟩, ⟨rfl, trivial, trivial⟩, ⟨rfl, ⟨rfl, rfl⟩, trivial⟩, ⟨rfl, rfl, rows_same⟩, trivial⟩, ⟨rfl, rfl⟩, ⟨rfl, rfl⟩, ⟨rfl, rfl⟩, rfl, rfl, i64eq (wrap_up hlt hx), trivial⟩
def impl_plus_p2 (k : Nat) (a1 : Rw) (a2 : Rw) : Option Rw :=
  (if a1.length ≤ cap then (impl_plus_l0 k a1 a2 (fun (v95 : Rw) => (impl_plus_p4 a2 v95)) a1 ([] : Rw)) else none)
set_option maxHeartbeats 4000000 in
set_option maxRecDepth 100000 in
theorem impl_plus_p2_ct {k : Nat} {a1 : Rw} {a2 : Rw} {r : Rw} (h : impl_plus_p2 k a1 a2 = some r) : X prog 0 (tlF f80 2) (mk 69 [(2, .ptr 128 0), (3, .ptr 192 0), (4, .ptr 256 0)] [(128, .box 26 [.d (D.sl a1)]), (192, .box 26 [.d (D.sl a2)]), (256, .box 26 [.es])]) (finK prog f80 0 (.agg [.d (D.sl r)]) (⟨[], []⟩)) := by
  rw [impl_plus_p2] at h
  conv => whnf
  obtain ⟨g128, h⟩ := req_ex h
  refine LoopOk.into (impl_plus_l0_ct  g128 _ _ _ rfl h) [some 192, some 256, some 320, none] [] ⟨⟨rfl, rfl⟩, ⟨rfl, ⟨rfl, rfl, trivial⟩, ⟨rfl, trivial, trivial⟩, ⟨rfl, ⟨rfl, rfl⟩, trivial⟩, rfl, trivial⟩, ⟨rfl, rfl⟩, ⟨rfl, rfl⟩, ⟨rfl, rfl⟩, rfl, rfl, rfl, trivial⟩ ?_ (fun _ hs => hs)
  rintro i ts os ⟨rfl, v95, h, rfl, rfl⟩
  conv => whnf
  exact CutK.piece (impl_plus_p4_ct  h) [some 192, some 256, some 320, some 67001] [] ⟨⟨rfl, rfl⟩, ⟨rfl, ⟨rfl, rfl, trivial⟩, ⟨rfl, trivial, trivial⟩, ⟨rfl, ⟨rfl, rfl⟩, trivial⟩, ⟨rfl, rfl, rows_same⟩, trivial⟩, ⟨rfl, rfl⟩, ⟨rfl, rfl⟩, ⟨rfl, rfl⟩, trivial⟩
def impl_plus (k : Nat) (a1 : Rw) (a2 : Rw) : Option Rw :=
  ((impl_isZero a2).bind fun y129 => (if y129 = true then some a1 else (impl_plus_p2 k a1 a2)))
set_option maxHeartbeats 4000000 in
set_option maxRecDepth 100000 in
theorem impl_plus_ct {k : Nat} {a1 : Rw} {a2 : Rw} {r : Rw} (h : impl_plus k a1 a2 = some r) : Ct prog 80 [.agg [.d (D.sl a1)], .agg [.d (D.sl a2)]] (⟨[], []⟩) (.agg [.d (D.sl r)]) (⟨[], []⟩) := by
  rw [impl_plus] at h
  refine Ct.of (c := _) mixed func80 ⟨rfl, rfl, rfl⟩ ?_ rfl
  conv => whnf
  obtain ⟨y129, e130, h⟩ := bind_ex h
  refine CallOk.of (impl_isZero_ct e130) ?_
  conv => whnf
  refine spl (fun g131 => ?_) (fun g131 => ?_)
  · replace h := iteT h g131
    conv => whnf
    refine CutK.norm [2, 3, 4, 9] [128, 192, 256] ?_
    conv => whnf
    cases h
    exact Done.of [] [] rfl rfl ⟨⟨rfl, rfl⟩, ⟨rfl, trivial⟩, ⟨rfl, trivial⟩, trivial⟩
  · replace h := iteF h g131
    conv => whnf
    refine CutK.norm [2, 3, 4, 9] [128, 192, 256] ?_
    conv => whnf
    exact CutK.piece (impl_plus_p2_ct  h) [some 128, some 192, some 256] [] ⟨⟨rfl, rfl⟩, ⟨rfl, ⟨rfl, rfl, trivial⟩, ⟨rfl, rfl, trivial⟩, ⟨rfl, trivial, trivial⟩, trivial⟩, ⟨rfl, rfl⟩, ⟨rfl, rfl⟩, ⟨rfl, rfl⟩, trivial⟩

def impl_product_p4 (o73 : Rw) : Option Rw :=
  some o73
set_option maxHeartbeats 4000000 in
set_option maxRecDepth 100000 in
theorem impl_product_p4_ct {o73 : Rw} {r : Rw} (h : impl_product_p4 o73 = some r) : X prog 0 (tlF f91 4) (mk 61 [(4, .ptr 256 0), (5, .ptr 320 0)] [(256, .box 26 [.es]), (320, .box 26 [.os 1084000 o73.length]), (1084000, .arr 104 false o73)]) (finK prog f91 0 (.agg [.os 8 r.length]) (⟨[], [(104, false, r)]⟩)) := by
  rw [impl_product_p4] at h
  conv => whnf
  cases h
  exact Done.of [some 1084000] [] rfl rfl ⟨⟨rfl, rfl⟩, ⟨rfl, ⟨rfl, rfl, rows_same⟩, trivial⟩, ⟨⟨rfl, rfl⟩, trivial⟩, trivial⟩
def impl_product_l0 (k : Nat) (a1 : Rw) (a2 : Rw) (K0 : Rw → Option Rw) : Rw → Rw → Option Rw
  | [], v91 => (K0 v91)
  | cs :: rest, v91 => (cell_si cs fun x141 x142 => ((impl_isZero x141).bind fun y144 => (if y144 = true then ((impl_degree a1).bind fun y147 => (row_si a1 0 fun x149 x150 => (if v91.length + 1 ≤ cap then (if 0 ≤ (1 : Int) ∧ (1 : Int) ≤ (a1.length : Int) ∧ (∀ cs ∈ a1, cs.length = 2) then (if (v91 ++ ([[D.sl y147, D.int .i64 (IntKind.i64.wrap (x150 * x142))]])).length + (a1.drop (1 : Int).toNat).length ≤ cap ∧ (∀ cs ∈ (a1.drop (1 : Int).toNat), cs.length = 2) then (impl_product_l0 k a1 a2 K0 rest ((v91 ++ ([[D.sl y147, D.int .i64 (IntKind.i64.wrap (x150 * x142))]])) ++ (a1.drop (1 : Int).toNat))) else none) else none) else none))) else ((impl_degree a1).bind fun y156 => ((impl_plus k y156 x141).bind fun y158 => (if v91.length + 1 ≤ cap then (impl_product_l0 k a1 a2 K0 rest (v91 ++ ([[D.sl y158, D.int .i64 x142]]))) else none))))))
set_option maxRecDepth 100000 in
theorem impl_product_l0_ct {k : Nat} {a1 : Rw} {a2 : Rw} {K0 : Rw → Option Rw} {r : Rw} (hx : a2.length ≤ cap) : ∀ (rest : Rw) (v90n : Nat) (v91 : Rw), a2.drop v90n = rest → impl_product_l0 k a1 a2 K0 rest v91 = some r → LoopOk prog 0 (lp f91 0) (mk 61 [(2, .ptr 128 0), (4, .ptr 256 0), (5, .ptr 320 0), (13, .d (D.sl a2)), (14, .d (D.int .i64 (a2.length : Int))), (15, .d (D.int .i64 (v90n : Int)))] [(128, .box 26 [.d (D.sl a1)]), (256, .box 26 [.es]), (320, .box 26 [.os 64000 v91.length]), (64000, .arr 104 false v91)]) (LoopEnd prog f91 0 61 (.agg [.os 8 r.length]) (⟨[], [(104, false, r)]⟩) (fun i ts os => (i = 0 ∧ ∃ v118 : Rw, K0 v118 = some r ∧ ts = [(4, .ptr 256 0), (5, .ptr 320 0)] ∧ os = [(256, .box 26 [.es]), (320, .box 26 [.os 67001 v118.length]), (67001, .arr 104 false v118)])))
  | [], v90n, v91, hd, h => by
      rw [impl_product_l0] at h
      have hn := drop_nil hd
      refine LoopOk.step ?_
      conv => whnf
      refine splD (fun g => absurd g hn) (fun _ => ?_)
      conv => whnf
      exact ⟨_, _, [some 256, some 320, some 64000], [], ⟨rfl, _, h, rfl, rfl⟩, ⟨⟨rfl, rfl⟩, ⟨rfl, ⟨rfl, trivial, trivial⟩, ⟨rfl, ⟨rfl, rfl⟩, trivial⟩, ⟨rfl, rfl, rows_same⟩, trivial⟩, ⟨rfl, rfl⟩, ⟨rfl, rfl⟩, trivial⟩⟩
  | cs :: rest, v90n, v91, hd, h => by
      rw [impl_product_l0] at h
      obtain ⟨hrow, hd1, hlt⟩ := drop_cons hd
      refine LoopOk.step ?_
      conv => whnf
      refine splD (fun _ => ?_) (fun g => absurd hlt g)
      conv => whnf
      obtain ⟨x141, x142, e143, h⟩ := cell_si_ex h
      rw [e143] at hrow
      refine Req.of (Int.natCast_nonneg _) ?_
      refine Row.of _ hrow ?_
      conv => whnf
      obtain ⟨y144, e145, h⟩ := bind_ex h
      refine CallOk.of (impl_isZero_ct e145) ?_
      conv => whnf
      refine spl (fun g146 => ?_) (fun g146 => ?_)
      · replace h := iteT h g146
        conv => whnf
        refine CutK.norm [2, 4, 5, 7, 13, 14, 15, 22] [128, 256, 320, 448, 64000] ?_
        conv => whnf
        refine CutK.norm [2, 4, 5, 7, 13, 14, 15] [128, 256, 320, 448, 64000] ?_
        conv => whnf
        obtain ⟨y147, e148, h⟩ := bind_ex h
        refine CallOk.of (impl_degree_ct e148) ?_
        conv => whnf
        obtain ⟨g152, x149, x150, e151, h⟩ := row_si_ex h
        refine Req.of g152 ?_
        refine Row.of _ e151 ?_
        conv => whnf
        refine Take.all (rfl) ?_
        conv => whnf
        refine Take.all (by first | rfl | exact List.length_append.symm | (simp; done) | omega) ?_
        conv => whnf
        obtain ⟨g153, h⟩ := req_ex h
        refine Req.of (room (b := 32) (by decide) g153 (wide1 rfl wide0)) ?_
        conv => whnf
        refine CutK.norm [2, 4, 5, 13, 14, 15] [128, 256, 320, 3200] ?_
        conv => whnf
        obtain ⟨g154, h⟩ := req_ex h
        refine Req.of g154 ?_
        conv => whnf
        refine Take.all (by first | rfl | exact List.length_append.symm | (simp; done) | omega) ?_
        conv => whnf
        obtain ⟨g155, h⟩ := req_ex h
        refine Req.of (room (b := 32) (by decide) g155.1 g155.2) ?_
        conv => whnf
        refine CutK.norm [2, 4, 5, 13, 14, 15] [128, 256, 320, 3648] ?_
        conv => whnf
        exact LoopOk.back (impl_product_l0_ct hx rest (v90n + 1) _ hd1 h) [some 128, some 256, some 320, some 3648] [] ⟨⟨rfl, rfl⟩, ⟨rfl, ⟨rfl, rfl, trivial⟩, ⟨rfl, trivial, trivial⟩, ⟨rfl, ⟨(by first | rfl | exact List.length_append.symm | (simp; done) | omega), rfl⟩, trivial⟩, ⟨rfl, rfl, rows_same⟩, trivial⟩, ⟨rfl, rfl⟩, ⟨rfl, rfl⟩, ⟨rfl, rfl⟩, rfl, rfl, i64eq (wrap_up hlt hx), trivial⟩
      · replace h := iteF h g146
        conv => whnf
        refine CutK.norm [2, 4, 5, 7, 13, 14, 15, 22] [128, 256, 320, 448, 64000] ?_
        conv => whnf
        obtain ⟨y156, e157, h⟩ := bind_ex h
        refine CallOk.of (impl_degree_ct e157) ?_
        conv => whnf
        obtain ⟨y158, e159, h⟩ := bind_ex h
        refine CallOk.of (impl_plus_ct e159) ?_
        conv => whnf
        refine Take.all (rfl) ?_
        conv => whnf
        refine Take.all (by first | rfl | exact List.length_append.symm | (simp; done) | omega) ?_
        conv => whnf
        obtain ⟨g160, h⟩ := req_ex h
        refine Req.of (room (b := 32) (by decide) g160 (wide1 rfl wide0)) ?_
        conv => whnf
        refine CutK.norm [2, 4, 5, 13, 14, 15] [128, 256, 320, 2176] ?_
        conv => whnf
        refine CutK.norm [2, 4, 5, 13, 14, 15] [128, 256, 320, 2176] ?_
        conv => whnf
        exact LoopOk.back (impl_product_l0_ct hx rest (v90n + 1) _ hd1 h) [some 128, some 256, some 320, some 2176] [] ⟨⟨rfl, rfl⟩, ⟨rfl, ⟨rfl, rfl, trivial⟩, ⟨rfl, trivial, trivial⟩, ⟨rfl, ⟨(by first | rfl | exact List.length_append.symm | (simp; done) | omega), rfl⟩, trivial⟩, ⟨rfl, rfl, rows_same⟩, trivial⟩, ⟨rfl, rfl⟩, ⟨rfl, rfl⟩, ⟨rfl, rfl⟩, rfl, rfl, i64eq (wrap_up hlt hx), trivial⟩
def impl_product_p3 (k : Nat) (a1 : Rw) (a2 : Rw) : Option Rw :=
  (if a2.length ≤ cap then (impl_product_l0 k a1 a2 (fun (v118 : Rw) => (impl_product_p4 v118)) a2 ([] : Rw)) else none)
set_option maxHeartbeats 4000000 in
set_option maxRecDepth 100000 in
theorem impl_product_p3_ct {k : Nat} {a1 : Rw} {a2 : Rw} {r : Rw} (h : impl_product_p3 k a1 a2 = some r) : X prog 0 (tlF f91 3) (mk 61 [(2, .ptr 128 0), (3, .ptr 192 0), (4, .ptr 256 0), (5, .ptr 320 0)] [(128, .box 26 [.d (D.sl a1)]), (192, .box 26 [.d (D.sl a2)]), (256, .box 26 [.es]), (320, .box 26 [.es])]) (finK prog f91 0 (.agg [.os 8 r.length]) (⟨[], [(104, false, r)]⟩)) := by
  rw [impl_product_p3] at h
  conv => whnf
  obtain ⟨g161, h⟩ := req_ex h
  refine LoopOk.into (impl_product_l0_ct  g161 _ _ _ rfl h) [some 128, some 256, some 320, none] [] ⟨⟨rfl, rfl⟩, ⟨rfl, ⟨rfl, rfl, trivial⟩, ⟨rfl, trivial, trivial⟩, ⟨rfl, ⟨rfl, rfl⟩, trivial⟩, rfl, trivial⟩, ⟨rfl, rfl⟩, ⟨rfl, rfl⟩, ⟨rfl, rfl⟩, rfl, rfl, rfl, trivial⟩ ?_ (fun _ hs => hs)
  rintro i ts os ⟨rfl, v118, h, rfl, rfl⟩
  conv => whnf
  exact CutK.piece (impl_product_p4_ct  h) [some 256, some 320, some 67001] [] ⟨⟨rfl, rfl⟩, ⟨rfl, ⟨rfl, trivial, trivial⟩, ⟨rfl, ⟨rfl, rfl⟩, trivial⟩, ⟨rfl, rfl, rows_same⟩, trivial⟩, ⟨rfl, rfl⟩, ⟨rfl, rfl⟩, trivial⟩
def impl_product (k : Nat) (a1 : Rw) (a2 : Rw) : Option Rw :=
  ((impl_isZero a1).bind fun y162 => (if y162 = true then some ([] : Rw) else (impl_product_p3 k a1 a2)))
set_option maxHeartbeats 4000000 in
set_option maxRecDepth 100000 in
theorem impl_product_ct {k : Nat} {a1 : Rw} {a2 : Rw} {r : Rw} (h : impl_product k a1 a2 = some r) : Ct prog 91 [.agg [.d (D.sl a1)], .agg [.d (D.sl a2)]] (⟨[], []⟩) (.agg [.os 8 r.length]) (⟨[], [(104, false, r)]⟩) := by
  rw [impl_product] at h
  refine Ct.of (c := _) mixed func91 ⟨rfl, rfl, rfl⟩ ?_ rfl
  conv => whnf
  obtain ⟨y162, e163, h⟩ := bind_ex h
  refine CallOk.of (impl_isZero_ct e163) ?_
  conv => whnf
  refine spl (fun g164 => ?_) (fun g164 => ?_)
  · replace h := iteT h g164
    conv => whnf
    refine CutK.norm [2, 3, 4, 5, 10] [128, 192, 256, 320] ?_
    conv => whnf
    cases h
    exact Done.of [none] [] rfl rfl ⟨⟨rfl, rfl⟩, ⟨rfl, rfl, trivial⟩, ⟨⟨rfl, rfl⟩, trivial⟩, trivial⟩
  · replace h := iteF h g164
    conv => whnf
    refine CutK.norm [2, 3, 4, 5, 10] [128, 192, 256, 320] ?_
    conv => whnf
    exact CutK.piece (impl_product_p3_ct  h) [some 128, some 192, some 256, some 320] [] ⟨⟨rfl, rfl⟩, ⟨rfl, ⟨rfl, rfl, trivial⟩, ⟨rfl, rfl, trivial⟩, ⟨rfl, trivial, trivial⟩, ⟨rfl, trivial, trivial⟩, trivial⟩, ⟨rfl, rfl⟩, ⟨rfl, rfl⟩, ⟨rfl, rfl⟩, ⟨rfl, rfl⟩, trivial⟩

def impl_cloneOrdinal_l0 (rec_impl_cloneOrdinal : Rw → Option Rw) (a1 : Rw) (K0 : Rw → Option Rw) : Rw → Rw → Option Rw
  | [], v10 => (K0 v10)
  | cs :: rest, v10 => (cell_si cs fun x28 x29 => ((rec_impl_cloneOrdinal x28).bind fun y31 => (if v10.length + 1 ≤ cap then (impl_cloneOrdinal_l0 rec_impl_cloneOrdinal a1 K0 rest (v10 ++ ([[D.sl y31, D.int .i64 x29]]))) else none)))
set_option maxRecDepth 100000 in
theorem impl_cloneOrdinal_l0_ct {rec_impl_cloneOrdinal : Rw → Option Rw} {a1 : Rw} {K0 : Rw → Option Rw} (hrec_impl_cloneOrdinal : ∀ (a1 : Rw) (r : Rw), rec_impl_cloneOrdinal a1 = some r → Ct prog 159 [.agg [.d (D.sl a1)]] (⟨[], []⟩) (.agg [.os 8 r.length]) (⟨[], [(104, true, r)]⟩)) {r : Rw} (hx : a1.length ≤ cap) : ∀ (rest : Rw) (v9n : Nat) (v10 : Rw), a1.drop v9n = rest → impl_cloneOrdinal_l0 rec_impl_cloneOrdinal a1 K0 rest v10 = some r → LoopOk prog 0 (lp f159 0) (mk 27 [(2, .ptr 128 0), (3, .ptr 192 0), (8, .d (D.sl a1)), (9, .d (D.int .i64 (a1.length : Int))), (10, .d (D.int .i64 (v9n : Int)))] [(128, .box 26 [.es]), (192, .box 26 [.os 64000 v10.length]), (64000, .arr 104 true v10)]) (LoopEnd prog f159 0 27 (.agg [.os 8 r.length]) (⟨[], [(104, true, r)]⟩) (fun i ts os => (i = 0 ∧ ∃ v19 : Rw, K0 v19 = some r ∧ ts = [(2, .ptr 128 0), (3, .ptr 192 0)] ∧ os = [(128, .box 26 [.es]), (192, .box 26 [.os 67001 v19.length]), (67001, .arr 104 true v19)])))
  | [], v9n, v10, hd, h => by
      rw [impl_cloneOrdinal_l0] at h
      have hn := drop_nil hd
      refine LoopOk.step ?_
      conv => whnf
      refine splD (fun g => absurd g hn) (fun _ => ?_)
      conv => whnf
      exact ⟨_, _, [some 128, some 192, some 64000], [], ⟨rfl, _, h, rfl, rfl⟩, ⟨⟨rfl, rfl⟩, ⟨rfl, ⟨rfl, trivial, trivial⟩, ⟨rfl, ⟨rfl, rfl⟩, trivial⟩, ⟨rfl, rfl, rows_same⟩, trivial⟩, ⟨rfl, rfl⟩, ⟨rfl, rfl⟩, trivial⟩⟩
  | cs :: rest, v9n, v10, hd, h => by
      rw [impl_cloneOrdinal_l0] at h
      obtain ⟨hrow, hd1, hlt⟩ := drop_cons hd
      refine LoopOk.step ?_
      conv => whnf
      refine splD (fun _ => ?_) (fun g => absurd hlt g)
      conv => whnf
      obtain ⟨x28, x29, e30, h⟩ := cell_si_ex h
      rw [e30] at hrow
      refine Req.of (Int.natCast_nonneg _) ?_
      refine Row.of _ hrow ?_
      conv => whnf
      obtain ⟨y31, e32, h⟩ := bind_ex h
      refine CallOk.of (hrec_impl_cloneOrdinal _ _ e32) ?_
      conv => whnf
      refine Take.all (rfl) ?_
      conv => whnf
      refine Take.all (rfl) ?_
      conv => whnf
      refine Take.all (by first | rfl | exact List.length_append.symm | (simp; done) | omega) ?_
      conv => whnf
      obtain ⟨g33, h⟩ := req_ex h
      refine Req.of (room (b := 32) (by decide) g33 (wide1 rfl wide0)) ?_
      conv => whnf
      refine CutK.go ?_
      conv => whnf
      exact LoopOk.back (impl_cloneOrdinal_l0_ct hrec_impl_cloneOrdinal hx rest (v9n + 1) _ hd1 h) [some 128, some 192, some 1472] [] ⟨⟨rfl, rfl⟩, ⟨rfl, ⟨rfl, trivial, trivial⟩, ⟨rfl, ⟨(by first | rfl | exact List.length_append.symm | (simp; done) | omega), rfl⟩, trivial⟩, ⟨rfl, rfl, rows_same⟩, trivial⟩, ⟨rfl, rfl⟩, ⟨rfl, rfl⟩, rfl, rfl, i64eq (wrap_up hlt hx), trivial⟩
def impl_cloneOrdinal_b (rec_impl_cloneOrdinal : Rw → Option Rw) (a1 : Rw) : Option Rw :=
  (if a1.length ≤ cap then (impl_cloneOrdinal_l0 rec_impl_cloneOrdinal a1 (fun (v19 : Rw) => some v19) a1 ([] : Rw)) else none)
set_option maxHeartbeats 4000000 in
set_option maxRecDepth 100000 in
theorem impl_cloneOrdinal_b_ct {rec_impl_cloneOrdinal : Rw → Option Rw} (hrec_impl_cloneOrdinal : ∀ (a1 : Rw) (r : Rw), rec_impl_cloneOrdinal a1 = some r → Ct prog 159 [.agg [.d (D.sl a1)]] (⟨[], []⟩) (.agg [.os 8 r.length]) (⟨[], [(104, true, r)]⟩)) {a1 : Rw} {r : Rw} (h : impl_cloneOrdinal_b rec_impl_cloneOrdinal a1 = some r) : Ct prog 159 [.agg [.d (D.sl a1)]] (⟨[], []⟩) (.agg [.os 8 r.length]) (⟨[], [(104, true, r)]⟩) := by
  rw [impl_cloneOrdinal_b] at h
  refine Ct.of (c := _) mixed func159 ⟨rfl, rfl, rfl⟩ ?_ rfl
  conv => whnf
  obtain ⟨g34, h⟩ := req_ex h
  refine LoopOk.into (impl_cloneOrdinal_l0_ct hrec_impl_cloneOrdinal g34 _ _ _ rfl h) [some 128, some 192, none] [] ⟨⟨rfl, rfl⟩, ⟨rfl, ⟨rfl, trivial, trivial⟩, ⟨rfl, ⟨rfl, rfl⟩, trivial⟩, rfl, trivial⟩, ⟨rfl, rfl⟩, ⟨rfl, rfl⟩, rfl, rfl, rfl, trivial⟩ ?_ (fun _ hs => hs)
  rintro i ts os ⟨rfl, v19, h, rfl, rfl⟩
  conv => whnf
  refine CutK.go ?_
  conv => whnf
  cases h
  exact Done.of [some 67001] [] rfl rfl ⟨⟨rfl, rfl⟩, ⟨rfl, ⟨rfl, rfl, rows_same⟩, trivial⟩, ⟨⟨rfl, rfl⟩, trivial⟩, trivial⟩
def impl_cloneOrdinal : Nat → Rw → Option Rw
  | 0, _ => none
  | k + 1, a1 => impl_cloneOrdinal_b (impl_cloneOrdinal k) a1
theorem impl_cloneOrdinal_ct' : ∀ (k : Nat) (a1 : Rw) (r : Rw), impl_cloneOrdinal k a1 = some r → Ct prog 159 [.agg [.d (D.sl a1)]] (⟨[], []⟩) (.agg [.os 8 r.length]) (⟨[], [(104, true, r)]⟩)
  | 0, _, _, h => by rw [impl_cloneOrdinal] at h; cases h
  | k + 1, _, _, h => by rw [impl_cloneOrdinal] at h; exact impl_cloneOrdinal_b_ct (impl_cloneOrdinal_ct' k) h
theorem impl_cloneOrdinal_ct {k : Nat} {a1 : Rw} {r : Rw} (h : impl_cloneOrdinal k a1 = some r) : Ct prog 159 [.agg [.d (D.sl a1)]] (⟨[], []⟩) (.agg [.os 8 r.length]) (⟨[], [(104, true, r)]⟩) := impl_cloneOrdinal_ct' k _ _ h

def impl_told (k : Nat) (a1 : Rw) : Option (Rw × Bool) :=
  ((impl_IsOrdinal k a1).bind fun y2 => (if y2 = true then ((impl_cloneOrdinal k a1).bind fun y5 => some (y5, true)) else some (([] : Rw), false)))
set_option maxHeartbeats 4000000 in
set_option maxRecDepth 100000 in
theorem impl_told_ct {k : Nat} {a1 : Rw} {r : Rw × Bool} (h : impl_told k a1 = some r) : Ct prog 79 [.agg [.d (D.sl a1)]] (⟨[], []⟩) (.tup [.agg [.os 8 r.1.length], .d (D.bool r.2)]) (⟨[], [(104, true, r.1)]⟩) := by
  rw [impl_told] at h
  refine Ct.of (c := _) mixed func79 ⟨rfl, rfl, rfl⟩ ?_ rfl
  conv => whnf
  obtain ⟨y2, e3, h⟩ := bind_ex h
  refine CallOk.of (impl_IsOrdinal_ct e3) ?_
  conv => whnf
  refine spl (fun g4 => ?_) (fun g4 => ?_)
  · replace h := iteT h g4
    conv => whnf
    refine CutK.go ?_
    conv => whnf
    refine CutK.go ?_
    conv => whnf
    obtain ⟨y5, e6, h⟩ := bind_ex h
    refine CallOk.of (impl_cloneOrdinal_ct e6) ?_
    conv => whnf
    refine CutK.go ?_
    conv => whnf
    cases h
    exact Done.of [some 576] [] rfl rfl ⟨⟨rfl, rfl⟩, ⟨rfl, ⟨rfl, rfl, rows_same⟩, trivial⟩, ⟨⟨⟨rfl, rfl⟩, trivial⟩, rfl, trivial⟩, trivial⟩
  · replace h := iteF h g4
    conv => whnf
    refine CutK.go ?_
    conv => whnf
    cases h
    exact Done.of [none] [] rfl rfl ⟨⟨rfl, rfl⟩, ⟨rfl, rfl, trivial⟩, ⟨⟨⟨rfl, rfl⟩, trivial⟩, rfl, trivial⟩, trivial⟩

def impl_MultiplyOrdinals (k : Nat) (a1 : Rw) (a2 : Rw) : Option (Rw × Bool) :=
  ((impl_both k a1 a2).bind fun y3 => (if y3 = true then ((impl_product k a1 a2).bind fun y6 => ((impl_told k y6).bind fun y8 => (if y8.2 = true then some (y8.1, true) else some (y8.1, false)))) else some (([] : Rw), false)))
set_option maxHeartbeats 4000000 in
set_option maxRecDepth 100000 in
theorem impl_MultiplyOrdinals_ct {k : Nat} {a1 : Rw} {a2 : Rw} {r : Rw × Bool} (h : impl_MultiplyOrdinals k a1 a2 = some r) : Ct prog 27 [.agg [.d (D.sl a1)], .agg [.d (D.sl a2)]] (⟨[], []⟩) (.tup [.agg [.os 8 r.1.length], .d (D.bool r.2)]) (⟨[], [(104, true, r.1)]⟩) := by
  rw [impl_MultiplyOrdinals] at h
  refine Ct.of (c := _) mixed func27 ⟨rfl, rfl, rfl⟩ ?_ rfl
  conv => whnf
  obtain ⟨y3, e4, h⟩ := bind_ex h
  refine CallOk.of (impl_both_ct e4) ?_
  conv => whnf
  refine spl (fun g5 => ?_) (fun g5 => ?_)
  · replace h := iteT h g5
    conv => whnf
    refine CutK.go ?_
    conv => whnf
    refine CutK.go ?_
    conv => whnf
    obtain ⟨y6, e7, h⟩ := bind_ex h
    refine CallOk.of (impl_product_ct e7) ?_
    conv => whnf
    refine Take.all (rfl) ?_
    conv => whnf
    obtain ⟨y8, e9, h⟩ := bind_ex h
    refine CallOk.of (impl_told_ct e9) ?_
    conv => whnf
    refine spl (fun g10 => ?_) (fun g10 => ?_)
    · replace h := iteT h g10
      conv => whnf
      refine CutK.go ?_
      conv => whnf
      cases h
      exact Done.of [some 896] [] rfl rfl ⟨⟨rfl, rfl⟩, ⟨rfl, ⟨rfl, rfl, rows_same⟩, trivial⟩, ⟨⟨⟨rfl, rfl⟩, trivial⟩, rfl, trivial⟩, trivial⟩
    · replace h := iteF h g10
      conv => whnf
      refine CutK.go ?_
      conv => whnf
      cases h
      exact Done.of [some 896] [] rfl rfl ⟨⟨rfl, rfl⟩, ⟨rfl, ⟨rfl, rfl, rows_same⟩, trivial⟩, ⟨⟨⟨rfl, rfl⟩, trivial⟩, rfl, trivial⟩, trivial⟩
  · replace h := iteF h g5
    conv => whnf
    refine CutK.go ?_
    conv => whnf
    cases h
    exact Done.of [none] [] rfl rfl ⟨⟨rfl, rfl⟩, ⟨rfl, rfl, trivial⟩, ⟨⟨⟨rfl, rfl⟩, trivial⟩, rfl, trivial⟩, trivial⟩

def impl_power  (a1 : Rw) (a2 : Int) : Option Rw :=
  (if a2 = (0 : Int) then some ([] : Rw) else some ([[D.sl a1, D.int .i64 a2]] : Rw))
set_option maxHeartbeats 4000000 in
set_option maxRecDepth 100000 in
theorem impl_power_ct  {a1 : Rw} {a2 : Int} {r : Rw} (h : impl_power a1 a2 = some r) : Ct prog 90 [.agg [.d (D.sl a1)], .d (D.int .i64 a2)] (⟨[], []⟩) (.agg [.os 8 r.length]) (⟨[], [(104, false, r)]⟩) := by
  rw [impl_power] at h
  refine Ct.of (c := _) mixed func90 ⟨rfl, rfl, rfl⟩ ?_ rfl
  conv => whnf
  refine splD (fun g3 => ?_) (fun g3 => ?_)
  · replace h := iteP h g3
    conv => whnf
    cases h
    exact Done.of [none] [] rfl rfl ⟨⟨rfl, rfl⟩, ⟨rfl, rfl, trivial⟩, ⟨⟨rfl, rfl⟩, trivial⟩, trivial⟩
  · replace h := iteN h g3
    conv => whnf
    cases h
    exact Done.of [some 704] [] rfl rfl ⟨⟨rfl, rfl⟩, ⟨rfl, ⟨rfl, rfl, rows_same⟩, trivial⟩, ⟨⟨(by first | rfl | exact List.length_append.symm | (simp; done) | omega), rfl⟩, trivial⟩, trivial⟩

def impl_finite  (a1 : Int) : Option Rw :=
  (if a1 = (0 : Int) then some ([] : Rw) else some ([[D.sl ([]), D.int .i64 a1]] : Rw))
set_option maxHeartbeats 4000000 in
set_option maxRecDepth 100000 in
theorem impl_finite_ct  {a1 : Int} {r : Rw} (h : impl_finite a1 = some r) : Ct prog 87 [.d (D.int .i64 a1)] (⟨[], []⟩) (.agg [.os 8 r.length]) (⟨[], [(104, true, r)]⟩) := by
  rw [impl_finite] at h
  refine Ct.of (c := _) mixed func87 ⟨rfl, rfl, rfl⟩ ?_ rfl
  conv => whnf
  refine splD (fun g2 => ?_) (fun g2 => ?_)
  · replace h := iteP h g2
    conv => whnf
    cases h
    exact Done.of [none] [] rfl rfl ⟨⟨rfl, rfl⟩, ⟨rfl, rfl, trivial⟩, ⟨⟨rfl, rfl⟩, trivial⟩, trivial⟩
  · replace h := iteN h g2
    conv => whnf
    cases h
    exact Done.of [some 512] [] rfl rfl ⟨⟨rfl, rfl⟩, ⟨rfl, ⟨rfl, rfl, rows_same⟩, trivial⟩, ⟨⟨(by first | rfl | exact List.length_append.symm | (simp; done) | omega), rfl⟩, trivial⟩, trivial⟩

def impl_finitePower_l0 (a1 : Int) (K0 : Int → Option Int) : Nat → Int → Int → Option Int
  | 0, _, _ => none
  | n + 1, v4, v5 => (if (0 : Int) < v4 then (if v5 ≤ (1000000 : Int) then (impl_finitePower_l0 a1 K0 n (IntKind.i64.wrap (v4 - 1)) (IntKind.i64.wrap (v5 * a1))) else (K0 v5)) else (K0 v5))
set_option maxRecDepth 100000 in
theorem impl_finitePower_l0_ct {a1 : Int} {K0 : Int → Option Int} {r : Int} : ∀ (n : Nat) (v4 : Int) (v5 : Int), impl_finitePower_l0 a1 K0 n v4 v5 = some r → LoopOk prog 0 (lp f169 0) (mk 18 [(0, .d (D.int .i64 a1)), (1, .d (D.int .i64 v4)), (5, .d (D.int .i64 v5))] []) (LoopEnd prog f169 0 18 (.d (D.int .i64 r)) (⟨[], []⟩) (fun i ts os => (i = 0 ∧ ∃ v8 : Int, K0 v8 = some r ∧ ts = [(5, .d (D.int .i64 v8))] ∧ os = [])))
  | 0, _, _, h => by
      rw [impl_finitePower_l0] at h; cases h
  | n + 1, v4, v5, h => by
      rw [impl_finitePower_l0] at h
      refine LoopOk.step ?_
      conv => whnf
      refine splD (fun g11 => ?_) (fun g11 => ?_)
      · replace h := iteP h g11
        conv => whnf
        refine splD (fun g12 => ?_) (fun g12 => ?_)
        · replace h := iteP h g12
          conv => whnf
          exact LoopOk.back (impl_finitePower_l0_ct  n _ _ h) [] [] ⟨⟨rfl, rfl⟩, ⟨rfl, trivial⟩, rfl, rfl, rfl, trivial⟩
        · replace h := iteN h g12
          conv => whnf
          exact ⟨_, _, [], [], ⟨rfl, _, h, rfl, rfl⟩, ⟨⟨rfl, rfl⟩, ⟨rfl, trivial⟩, rfl, trivial⟩⟩
      · replace h := iteN h g11
        conv => whnf
        exact ⟨_, _, [], [], ⟨rfl, _, h, rfl, rfl⟩, ⟨⟨rfl, rfl⟩, ⟨rfl, trivial⟩, rfl, trivial⟩⟩
def impl_finitePower (k : Nat) (a1 : Int) (a2 : Int) : Option Int :=
  (impl_finitePower_l0 a1 (fun (v8 : Int) => some v8) k a2 1)
set_option maxHeartbeats 4000000 in
set_option maxRecDepth 100000 in
theorem impl_finitePower_ct {k : Nat} {a1 : Int} {a2 : Int} {r : Int} (h : impl_finitePower k a1 a2 = some r) : Ct prog 169 [.d (D.int .i64 a1), .d (D.int .i64 a2)] (⟨[], []⟩) (.d (D.int .i64 r)) (⟨[], []⟩) := by
  rw [impl_finitePower] at h
  refine Ct.of (c := _) mixed func169 ⟨rfl, rfl, rfl⟩ ?_ rfl
  conv => whnf
  refine LoopOk.into (impl_finitePower_l0_ct  _ _ _ h) [] [] ⟨⟨rfl, rfl⟩, ⟨rfl, trivial⟩, rfl, rfl, rfl, trivial⟩ ?_ (fun _ hs => hs)
  rintro i ts os ⟨rfl, v8, h, rfl, rfl⟩
  conv => whnf
  refine CutK.go ?_
  conv => whnf
  cases h
  exact Done.of [] [] rfl rfl ⟨⟨rfl, rfl⟩, ⟨rfl, trivial⟩, rfl, trivial⟩

def impl_less_p2 (a1 : Rw) (a2 : Rw) : Option Rw :=
  (if 0 ≤ (a2.length : Int) ∧ (a2.length : Int) ≤ (a1.length : Int) ∧ (∀ cs ∈ a1, cs.length = 2) then some (a1.drop ((a2.length : Int) : Int).toNat) else none)
set_option maxHeartbeats 4000000 in
set_option maxRecDepth 100000 in
theorem impl_less_p2_ct {a1 : Rw} {a2 : Rw} {r : Rw} (h : impl_less_p2 a1 a2 = some r) : X prog 0 (tlF f168 2) (mk 63 [(2, .ptr 128 0), (3, .ptr 192 0), (4, .ptr 256 0)] [(128, .box 26 [.d (D.sl a1)]), (192, .box 26 [.d (D.sl a2)]), (256, .box 26 [.es])]) (finK prog f168 0 (.agg [.d (D.sl r)]) (⟨[], []⟩)) := by
  rw [impl_less_p2] at h
  conv => whnf
  obtain ⟨g37, h⟩ := req_ex h
  refine Req.of g37 ?_
  conv => whnf
  cases h
  exact Done.of [] [] rfl rfl ⟨⟨rfl, rfl⟩, ⟨rfl, trivial⟩, ⟨rfl, trivial⟩, trivial⟩
def impl_less_l0 (k : Nat) (a1 : Rw) (a2 : Rw) (K0 : Option Rw) : Rw → Nat → Option Rw
  | [], v54n => (K0)
  | cs :: rest, v54n => (cell_si cs fun x71 x72 => (row_si a1 (v54n : Int) fun x74 x75 => ((impl_cmp k x74 x71).bind fun y78 => (if y78 = (0 : Int) then (if x75 = x72 then (impl_less_l0 k a1 a2 K0 rest (v54n + 1)) else (if 0 ≤ (IntKind.i64.wrap ((v54n : Int) + 1)) ∧ (IntKind.i64.wrap ((v54n : Int) + 1)) ≤ (a1.length : Int) ∧ (∀ cs ∈ a1, cs.length = 2) then (if ([[D.sl x74, D.int .i64 (IntKind.i64.wrap (x75 - x72))]] : Rw).length + (a1.drop (IntKind.i64.wrap ((v54n : Int) + 1) : Int).toNat).length ≤ cap ∧ (∀ cs ∈ (a1.drop (IntKind.i64.wrap ((v54n : Int) + 1) : Int).toNat), cs.length = 2) then some (([[D.sl x74, D.int .i64 (IntKind.i64.wrap (x75 - x72))]]) ++ (a1.drop (IntKind.i64.wrap ((v54n : Int) + 1) : Int).toNat)) else none) else none)) else (if 0 ≤ (v54n : Int) ∧ (v54n : Int) ≤ (a1.length : Int) ∧ (∀ cs ∈ a1, cs.length = 2) then some (a1.drop ((v54n : Int) : Int).toNat) else none)))))
set_option maxRecDepth 100000 in
theorem impl_less_l0_ct {k : Nat} {a1 : Rw} {a2 : Rw} {K0 : Option Rw} {r : Rw} (hx : a2.length ≤ cap) : ∀ (rest : Rw) (v54n : Nat), a2.drop v54n = rest → impl_less_l0 k a1 a2 K0 rest v54n = some r → LoopOk prog 0 (lp f168 0) (mk 63 [(2, .ptr 128 0), (3, .ptr 192 0), (4, .ptr 256 0), (9, .d (D.sl a2)), (10, .d (D.int .i64 (a2.length : Int))), (11, .d (D.int .i64 (v54n : Int)))] [(128, .box 26 [.d (D.sl a1)]), (192, .box 26 [.d (D.sl a2)]), (256, .box 26 [.es])]) (LoopEnd prog f168 0 63 (.agg [.d (D.sl r)]) (⟨[], []⟩) (fun i ts os => (i = 0 ∧ K0 = some r ∧ ts = [(2, .ptr 128 0), (3, .ptr 192 0), (4, .ptr 256 0)] ∧ os = [(128, .box 26 [.d (D.sl a1)]), (192, .box 26 [.d (D.sl a2)]), (256, .box 26 [.es])])))
  | [], v54n, hd, h => by
      rw [impl_less_l0] at h
      have hn := drop_nil hd
      refine LoopOk.step ?_
      conv => whnf
      refine splD (fun g => absurd g hn) (fun _ => ?_)
      conv => whnf
      exact ⟨_, _, [some 128, some 192, some 256], [], ⟨rfl, h, rfl, rfl⟩, ⟨⟨rfl, rfl⟩, ⟨rfl, ⟨rfl, rfl, trivial⟩, ⟨rfl, rfl, trivial⟩, ⟨rfl, trivial, trivial⟩, trivial⟩, ⟨rfl, rfl⟩, ⟨rfl, rfl⟩, ⟨rfl, rfl⟩, trivial⟩⟩
  | cs :: rest, v54n, hd, h => by
      rw [impl_less_l0] at h
      obtain ⟨hrow, hd1, hlt⟩ := drop_cons hd
      refine LoopOk.step ?_
      conv => whnf
      refine splD (fun _ => ?_) (fun g => absurd hlt g)
      conv => whnf
      obtain ⟨x71, x72, e73, h⟩ := cell_si_ex h
      rw [e73] at hrow
      refine Req.of (Int.natCast_nonneg _) ?_
      refine Row.of _ hrow ?_
      conv => whnf
      obtain ⟨g77, x74, x75, e76, h⟩ := row_si_ex h
      refine Req.of g77 ?_
      refine Row.of _ e76 ?_
      conv => whnf
      obtain ⟨y78, e79, h⟩ := bind_ex h
      refine CallOk.of (impl_cmp_ct e79) ?_
      conv => whnf
      refine splN (fun g80 => ?_) (fun g80 => ?_)
      · replace h := iteN h g80
        conv => whnf
        refine CutK.norm [2, 3, 4, 5, 6, 7, 9, 10, 11, 21] [128, 192, 256, 384, 448] ?_
        conv => whnf
        obtain ⟨g81, h⟩ := req_ex h
        refine Req.of g81 ?_
        conv => whnf
        cases h
        exact Done.of [] [] rfl rfl ⟨⟨rfl, rfl⟩, ⟨rfl, trivial⟩, ⟨rfl, trivial⟩, trivial⟩
      · replace h := iteP h g80
        conv => whnf
        refine CutK.norm [2, 3, 4, 5, 6, 7, 9, 10, 11, 21] [128, 192, 256, 384, 448] ?_
        conv => whnf
        refine splN (fun g82 => ?_) (fun g82 => ?_)
        · replace h := iteN h g82
          conv => whnf
          obtain ⟨g83, h⟩ := req_ex h
          refine Req.of g83 ?_
          conv => whnf
          refine Take.all (by first | rfl | exact List.length_append.symm | (simp; done) | omega) ?_
          conv => whnf
          obtain ⟨g84, h⟩ := req_ex h
          refine Req.of (room (b := 32) (by decide) g84.1 g84.2) ?_
          conv => whnf
          cases h
          exact Done.of [] [3392] rfl rfl ⟨⟨rfl, rfl⟩, ⟨rfl, trivial⟩, ⟨⟨rfl, Nat.le_of_eq (by first | rfl | exact List.length_append.symm | (simp; done) | omega), eq_take (by first | rfl | exact List.length_append.symm | (simp; done) | omega)⟩, trivial⟩, trivial⟩
        · replace h := iteP h g82
          conv => whnf
          refine CutK.norm [2, 3, 4, 9, 10, 11] [128, 192, 256] ?_
          conv => whnf
          exact LoopOk.back (impl_less_l0_ct hx rest (v54n + 1)  hd1 h) [some 128, some 192, some 256] [] ⟨⟨rfl, rfl⟩, ⟨rfl, ⟨rfl, rfl, trivial⟩, ⟨rfl, rfl, trivial⟩, ⟨rfl, trivial, trivial⟩, trivial⟩, ⟨rfl, rfl⟩, ⟨rfl, rfl⟩, ⟨rfl, rfl⟩, rfl, rfl, i64eq (wrap_up hlt hx), trivial⟩
def impl_less (k : Nat) (a1 : Rw) (a2 : Rw) : Option Rw :=
  (if a2.length ≤ cap then (impl_less_l0 k a1 a2 (impl_less_p2 a1 a2) a2 0) else none)
set_option maxHeartbeats 4000000 in
set_option maxRecDepth 100000 in
theorem impl_less_ct {k : Nat} {a1 : Rw} {a2 : Rw} {r : Rw} (h : impl_less k a1 a2 = some r) : Ct prog 168 [.agg [.d (D.sl a1)], .agg [.d (D.sl a2)]] (⟨[], []⟩) (.agg [.d (D.sl r)]) (⟨[], []⟩) := by
  rw [impl_less] at h
  refine Ct.of (c := _) mixed func168 ⟨rfl, rfl, rfl⟩ ?_ rfl
  conv => whnf
  obtain ⟨g85, h⟩ := req_ex h
  refine LoopOk.into (impl_less_l0_ct  g85 _ _  rfl h) [some 128, some 192, some 256] [] ⟨⟨rfl, rfl⟩, ⟨rfl, ⟨rfl, rfl, trivial⟩, ⟨rfl, rfl, trivial⟩, ⟨rfl, trivial, trivial⟩, trivial⟩, ⟨rfl, rfl⟩, ⟨rfl, rfl⟩, ⟨rfl, rfl⟩, rfl, rfl, rfl, trivial⟩ ?_ (fun _ hs => hs)
  rintro i ts os ⟨rfl, h, rfl, rfl⟩
  conv => whnf
  exact CutK.piece (impl_less_p2_ct  h) [some 128, some 192, some 256] [] ⟨⟨rfl, rfl⟩, ⟨rfl, ⟨rfl, rfl, trivial⟩, ⟨rfl, rfl, trivial⟩, ⟨rfl, trivial, trivial⟩, trivial⟩, ⟨rfl, rfl⟩, ⟨rfl, rfl⟩, ⟨rfl, rfl⟩, trivial⟩

def impl_parted  (a1 : Rw) : Option (Rw × Int) :=
  (if (0 : Int) ≤ (IntKind.i64.wrap ((a1.length : Int) - 1)) then (row_si a1 (IntKind.i64.wrap ((a1.length : Int) - 1)) fun x3 x4 => ((impl_isZero x3).bind fun y7 => (if y7 = true then (if 0 ≤ (IntKind.i64.wrap ((a1.length : Int) - 1)) ∧ (IntKind.i64.wrap ((a1.length : Int) - 1)) ≤ (a1.length : Int) ∧ (∀ cs ∈ a1, cs.length = 2) then some (a1.take (IntKind.i64.wrap ((a1.length : Int) - 1) : Int).toNat, x4) else none) else some (a1, 0)))) else some (a1, 0))
set_option maxHeartbeats 4000000 in
set_option maxRecDepth 100000 in
theorem impl_parted_ct  {a1 : Rw} {r : Rw × Int} (h : impl_parted a1 = some r) : Ct prog 86 [.agg [.d (D.sl a1)]] (⟨[], []⟩) (.tup [.agg [.d (D.sl r.1)], .d (D.int .i64 r.2)]) (⟨[], []⟩) := by
  rw [impl_parted] at h
  refine Ct.of (c := _) mixed func86 ⟨rfl, rfl, rfl⟩ ?_ rfl
  conv => whnf
  refine splD (fun g2 => ?_) (fun g2 => ?_)
  · replace h := iteP h g2
    conv => whnf
    obtain ⟨g6, x3, x4, e5, h⟩ := row_si_ex h
    refine Req.of g6 ?_
    refine Row.of _ e5 ?_
    conv => whnf
    obtain ⟨y7, e8, h⟩ := bind_ex h
    refine CallOk.of (impl_isZero_ct e8) ?_
    conv => whnf
    refine spl (fun g9 => ?_) (fun g9 => ?_)
    · replace h := iteT h g9
      conv => whnf
      refine CutK.norm [1, 2, 4, 19] [64, 128] ?_
      conv => whnf
      obtain ⟨g10, h⟩ := req_ex h
      refine Req.of g10 ?_
      conv => whnf
      refine Req.of g6 ?_
      refine Row.of _ e5 ?_
      conv => whnf
      cases h
      exact Done.of [] [] rfl rfl ⟨⟨rfl, rfl⟩, ⟨rfl, trivial⟩, ⟨⟨rfl, trivial⟩, rfl, trivial⟩, trivial⟩
    · replace h := iteF h g9
      conv => whnf
      refine CutK.norm [1, 2, 4, 19] [64, 128] ?_
      conv => whnf
      refine CutK.norm [1, 2] [64, 128] ?_
      conv => whnf
      cases h
      exact Done.of [] [] rfl rfl ⟨⟨rfl, rfl⟩, ⟨rfl, trivial⟩, ⟨⟨rfl, trivial⟩, rfl, trivial⟩, trivial⟩
  · replace h := iteN h g2
    conv => whnf
    refine CutK.norm [1, 2, 4, 19] [64, 128] ?_
    conv => whnf
    refine CutK.norm [1, 2] [64, 128] ?_
    conv => whnf
    cases h
    exact Done.of [] [] rfl rfl ⟨⟨rfl, rfl⟩, ⟨rfl, trivial⟩, ⟨⟨rfl, trivial⟩, rfl, trivial⟩, trivial⟩

def impl_ofFinite_p6 (o48 : Rw) (v49 : Bool) : Option (Rw × Bool) :=
  (cond v49 (some (o48, true)) (some (o48, false)))
set_option maxHeartbeats 4000000 in
set_option maxRecDepth 100000 in
theorem impl_ofFinite_p6_ct {o48 : Rw} {v49 : Bool} {r : Rw × Bool} (h : impl_ofFinite_p6 o48 v49 = some r) : X prog 0 (tlF f89 6) (mk 46 [(4, .ptr 256 0), (5, .d (D.bool v49))] [(256, .box 26 [.os 1094000 o48.length]), (1094000, .arr 104 false o48)]) (finK prog f89 0 (.tup [.agg [.os 8 r.1.length], .d (D.bool r.2)]) (⟨[], [(104, false, r.1)]⟩)) := by
  rw [impl_ofFinite_p6] at h
  cases v49
  · replace h := condF h
    conv => whnf
    cases h
    exact Done.of [some 1094000] [] rfl rfl ⟨⟨rfl, rfl⟩, ⟨rfl, ⟨rfl, rfl, rows_same⟩, trivial⟩, ⟨⟨⟨rfl, rfl⟩, trivial⟩, rfl, trivial⟩, trivial⟩
  · replace h := condT h
    conv => whnf
    cases h
    exact Done.of [some 1094000] [] rfl rfl ⟨⟨rfl, rfl⟩, ⟨rfl, ⟨rfl, rfl, rows_same⟩, trivial⟩, ⟨⟨⟨rfl, rfl⟩, trivial⟩, rfl, trivial⟩, trivial⟩
def impl_ofFinite_p5 (o43 : Int) (o44 : Rw) : Option (Rw × Bool) :=
  ((impl_power o44 o43).bind fun y50 => (if o43 ≤ (1000000 : Int) then (impl_ofFinite_p6 y50 true) else (impl_ofFinite_p6 y50 false)))
set_option maxHeartbeats 4000000 in
set_option maxRecDepth 100000 in
theorem impl_ofFinite_p5_ct {o43 : Int} {o44 : Rw} {r : Rw × Bool} (h : impl_ofFinite_p5 o43 o44 = some r) : X prog 0 (tlF f89 5) (mk 46 [(4, .ptr 256 0), (8, .ptr 512 0), (11, .d (D.int .i64 o43))] [(256, .box 26 [.es]), (512, .box 26 [.os 1089000 o44.length]), (1089000, .arr 104 false o44)]) (finK prog f89 0 (.tup [.agg [.os 8 r.1.length], .d (D.bool r.2)]) (⟨[], [(104, false, r.1)]⟩)) := by
  rw [impl_ofFinite_p5] at h
  conv => whnf
  refine Take.all (rfl) ?_
  conv => whnf
  obtain ⟨y50, e51, h⟩ := bind_ex h
  refine CallOk.of (impl_power_ct e51) ?_
  conv => whnf
  refine splD (fun g52 => ?_) (fun g52 => ?_)
  · replace h := iteP h g52
    conv => whnf
    exact CutK.piece (impl_ofFinite_p6_ct  h) [some 256, some 2752] [] ⟨⟨rfl, rfl⟩, ⟨rfl, ⟨rfl, ⟨rfl, rfl⟩, trivial⟩, ⟨rfl, rfl, rows_same⟩, trivial⟩, ⟨rfl, rfl⟩, rfl, trivial⟩
  · replace h := iteN h g52
    conv => whnf
    exact CutK.piece (impl_ofFinite_p6_ct  h) [some 256, some 2752] [] ⟨⟨rfl, rfl⟩, ⟨rfl, ⟨rfl, ⟨rfl, rfl⟩, trivial⟩, ⟨rfl, rfl, rows_same⟩, trivial⟩, ⟨rfl, rfl⟩, rfl, trivial⟩
def impl_ofFinite_p4 (k : Nat) (a1 : Int) (o39 : Int) (o40 : Rw) : Option (Rw × Bool) :=
  ((impl_finitePower k a1 o39).bind fun y53 => (impl_ofFinite_p5 y53 o40))
set_option maxHeartbeats 4000000 in
set_option maxRecDepth 100000 in
theorem impl_ofFinite_p4_ct {k : Nat} {a1 : Int} {o39 : Int} {o40 : Rw} {r : Rw × Bool} (h : impl_ofFinite_p4 k a1 o39 o40 = some r) : X prog 0 (tlF f89 4) (mk 46 [(0, .d (D.int .i64 a1)), (4, .ptr 256 0), (7, .d (D.int .i64 o39)), (8, .ptr 512 0)] [(256, .box 26 [.es]), (512, .box 26 [.os 1084000 o40.length]), (1084000, .arr 104 false o40)]) (finK prog f89 0 (.tup [.agg [.os 8 r.1.length], .d (D.bool r.2)]) (⟨[], [(104, false, r.1)]⟩)) := by
  rw [impl_ofFinite_p4] at h
  conv => whnf
  obtain ⟨y53, e54, h⟩ := bind_ex h
  refine CallOk.of (impl_finitePower_ct e54) ?_
  conv => whnf
  exact CutK.piece (impl_ofFinite_p5_ct  h) [some 256, some 512, some 1084000] [] ⟨⟨rfl, rfl⟩, ⟨rfl, ⟨rfl, trivial, trivial⟩, ⟨rfl, ⟨rfl, rfl⟩, trivial⟩, ⟨rfl, rfl, rows_same⟩, trivial⟩, ⟨rfl, rfl⟩, ⟨rfl, rfl⟩, rfl, trivial⟩
def impl_ofFinite_l0 (k : Nat) (a1 : Int) (o5 : Int) (o6 : Rw) (K0 : Rw → Option (Rw × Bool)) : Rw → Rw → Option (Rw × Bool)
  | [], v65 => (K0 v65)
  | cs :: rest, v65 => (cell_si cs fun x87 x88 => ((impl_finite 1).bind fun y90 => ((impl_less k x87 y90).bind fun y92 => (if v65.length + 1 ≤ cap then (impl_ofFinite_l0 k a1 o5 o6 K0 rest (v65 ++ ([[D.sl y92, D.int .i64 x88]]))) else none))))
set_option maxRecDepth 100000 in
theorem impl_ofFinite_l0_ct {k : Nat} {a1 : Int} {o5 : Int} {o6 : Rw} {K0 : Rw → Option (Rw × Bool)} {r : Rw × Bool} (hx : o6.length ≤ cap) : ∀ (rest : Rw) (v64n : Nat) (v65 : Rw), o6.drop v64n = rest → impl_ofFinite_l0 k a1 o5 o6 K0 rest v65 = some r → LoopOk prog 0 (lp f89 0) (mk 46 [(0, .d (D.int .i64 a1)), (4, .ptr 256 0), (7, .d (D.int .i64 o5)), (8, .ptr 512 0), (19, .d (D.sl o6)), (20, .d (D.int .i64 (o6.length : Int))), (21, .d (D.int .i64 (v64n : Int)))] [(256, .box 26 [.es]), (512, .box 26 [.os 64000 v65.length]), (64000, .arr 104 false v65)]) (LoopEnd prog f89 0 46 (.tup [.agg [.os 8 r.1.length], .d (D.bool r.2)]) (⟨[], [(104, false, r.1)]⟩) (fun i ts os => (i = 0 ∧ ∃ v76 : Rw, K0 v76 = some r ∧ ts = [(0, .d (D.int .i64 a1)), (4, .ptr 256 0), (7, .d (D.int .i64 o5)), (8, .ptr 512 0)] ∧ os = [(256, .box 26 [.es]), (512, .box 26 [.os 67001 v76.length]), (67001, .arr 104 false v76)])))
  | [], v64n, v65, hd, h => by
      rw [impl_ofFinite_l0] at h
      have hn := drop_nil hd
      refine LoopOk.step ?_
      conv => whnf
      refine splD (fun g => absurd g hn) (fun _ => ?_)
      conv => whnf
      exact ⟨_, _, [some 256, some 512, some 64000], [], ⟨rfl, _, h, rfl, rfl⟩, ⟨⟨rfl, rfl⟩, ⟨rfl, ⟨rfl, trivial, trivial⟩, ⟨rfl, ⟨rfl, rfl⟩, trivial⟩, ⟨rfl, rfl, rows_same⟩, trivial⟩, rfl, ⟨rfl, rfl⟩, rfl, ⟨rfl, rfl⟩, trivial⟩⟩
  | cs :: rest, v64n, v65, hd, h => by
      rw [impl_ofFinite_l0] at h
      obtain ⟨hrow, hd1, hlt⟩ := drop_cons hd
      refine LoopOk.step ?_
      conv => whnf
      refine splD (fun _ => ?_) (fun g => absurd hlt g)
      conv => whnf
      obtain ⟨x87, x88, e89, h⟩ := cell_si_ex h
      rw [e89] at hrow
      refine Req.of (Int.natCast_nonneg _) ?_
      refine Row.of _ hrow ?_
      conv => whnf
      obtain ⟨y90, e91, h⟩ := bind_ex h
      refine CallOk.of (impl_finite_ct e91) ?_
      conv => whnf
      refine Take.all (rfl) ?_
      conv => whnf
      obtain ⟨y92, e93, h⟩ := bind_ex h
      refine CallOk.of (impl_less_ct e93) ?_
      conv => whnf
      refine Take.all (rfl) ?_
      conv => whnf
      refine Take.all (by first | rfl | exact List.length_append.symm | (simp; done) | omega) ?_
      conv => whnf
      obtain ⟨g94, h⟩ := req_ex h
      refine Req.of (room (b := 32) (by decide) g94 (wide1 rfl wide0)) ?_
      conv => whnf
      refine CutK.norm [0, 4, 7, 8, 19, 20, 21] [256, 512, 2240] ?_
      conv => whnf
      exact LoopOk.back (impl_ofFinite_l0_ct hx rest (v64n + 1) _ hd1 h) [some 256, some 512, some 2240] [] ⟨⟨rfl, rfl⟩, ⟨rfl, ⟨rfl, trivial, trivial⟩, ⟨rfl, ⟨(by first | rfl | exact List.length_append.symm | (simp; done) | omega), rfl⟩, trivial⟩, ⟨rfl, rfl, rows_same⟩, trivial⟩, rfl, ⟨rfl, rfl⟩, rfl, ⟨rfl, rfl⟩, rfl, rfl, i64eq (wrap_up hlt hx), trivial⟩
def impl_ofFinite_p2 (k : Nat) (a1 : Int) (o5 : Int) (o6 : Rw) : Option (Rw × Bool) :=
  (if o6.length ≤ cap then (impl_ofFinite_l0 k a1 o5 o6 (fun (v76 : Rw) => (impl_ofFinite_p4 k a1 o5 v76)) o6 ([] : Rw)) else none)
set_option maxHeartbeats 4000000 in
set_option maxRecDepth 100000 in
theorem impl_ofFinite_p2_ct {k : Nat} {a1 : Int} {o5 : Int} {o6 : Rw} {r : Rw × Bool} (h : impl_ofFinite_p2 k a1 o5 o6 = some r) : X prog 0 (tlF f89 2) (mk 46 [(0, .d (D.int .i64 a1)), (4, .ptr 256 0), (6, .ptr 384 0), (7, .d (D.int .i64 o5))] [(256, .box 26 [.es]), (384, .box 26 [.d (D.sl o6)])]) (finK prog f89 0 (.tup [.agg [.os 8 r.1.length], .d (D.bool r.2)]) (⟨[], [(104, false, r.1)]⟩)) := by
  rw [impl_ofFinite_p2] at h
  conv => whnf
  obtain ⟨g95, h⟩ := req_ex h
  refine LoopOk.into (impl_ofFinite_l0_ct  g95 _ _ _ rfl h) [some 256, some 512, none] [] ⟨⟨rfl, rfl⟩, ⟨rfl, ⟨rfl, trivial, trivial⟩, ⟨rfl, ⟨rfl, rfl⟩, trivial⟩, rfl, trivial⟩, rfl, ⟨rfl, rfl⟩, rfl, ⟨rfl, rfl⟩, rfl, rfl, rfl, trivial⟩ ?_ (fun _ hs => hs)
  rintro i ts os ⟨rfl, v76, h, rfl, rfl⟩
  conv => whnf
  exact CutK.piece (impl_ofFinite_p4_ct  h) [some 256, some 512, some 67001] [] ⟨⟨rfl, rfl⟩, ⟨rfl, ⟨rfl, trivial, trivial⟩, ⟨rfl, ⟨rfl, rfl⟩, trivial⟩, ⟨rfl, rfl, rows_same⟩, trivial⟩, rfl, ⟨rfl, rfl⟩, rfl, ⟨rfl, rfl⟩, trivial⟩
def impl_ofFinite (k : Nat) (a1 : Int) (a2 : Rw) : Option (Rw × Bool) :=
  ((impl_parted a2).bind fun y96 => (impl_ofFinite_p2 k a1 y96.2 y96.1))
set_option maxHeartbeats 4000000 in
set_option maxRecDepth 100000 in
theorem impl_ofFinite_ct {k : Nat} {a1 : Int} {a2 : Rw} {r : Rw × Bool} (h : impl_ofFinite k a1 a2 = some r) : Ct prog 89 [.d (D.int .i64 a1), .agg [.d (D.sl a2)]] (⟨[], []⟩) (.tup [.agg [.os 8 r.1.length], .d (D.bool r.2)]) (⟨[], [(104, false, r.1)]⟩) := by
  rw [impl_ofFinite] at h
  refine Ct.of (c := _) mixed func89 ⟨rfl, rfl, rfl⟩ ?_ rfl
  conv => whnf
  obtain ⟨y96, e97, h⟩ := bind_ex h
  refine CallOk.of (impl_parted_ct e97) ?_
  conv => whnf
  exact CutK.piece (impl_ofFinite_p2_ct  h) [some 256, some 384] [] ⟨⟨rfl, rfl⟩, ⟨rfl, ⟨rfl, trivial, trivial⟩, ⟨rfl, rfl, trivial⟩, trivial⟩, rfl, ⟨rfl, rfl⟩, ⟨rfl, rfl⟩, rfl, trivial⟩

def impl_PowerOfOrdinals_p7 (o84 : Rw) (v85 : Bool) : Option (Rw × Bool) :=
  (cond v85 (some (o84, true)) (some (o84, false)))
set_option maxHeartbeats 4000000 in
set_option maxRecDepth 100000 in
theorem impl_PowerOfOrdinals_p7_ct {o84 : Rw} {v85 : Bool} {r : Rw × Bool} (h : impl_PowerOfOrdinals_p7 o84 v85 = some r) : X prog 0 (tlF f21 7) (mk 83 [(4, .ptr 256 0), (5, .d (D.bool v85))] [(256, .box 26 [.os 1099000 o84.length]), (1099000, .arr 104 true o84)]) (finK prog f21 0 (.tup [.agg [.os 8 r.1.length], .d (D.bool r.2)]) (⟨[], [(104, true, r.1)]⟩)) := by
  rw [impl_PowerOfOrdinals_p7] at h
  cases v85
  · replace h := condF h
    conv => whnf
    cases h
    exact Done.of [some 1099000] [] rfl rfl ⟨⟨rfl, rfl⟩, ⟨rfl, ⟨rfl, rfl, rows_same⟩, trivial⟩, ⟨⟨⟨rfl, rfl⟩, trivial⟩, rfl, trivial⟩, trivial⟩
  · replace h := condT h
    conv => whnf
    cases h
    exact Done.of [some 1099000] [] rfl rfl ⟨⟨rfl, rfl⟩, ⟨rfl, ⟨rfl, rfl, rows_same⟩, trivial⟩, ⟨⟨⟨rfl, rfl⟩, trivial⟩, rfl, trivial⟩, trivial⟩
def impl_PowerOfOrdinals_p6 (k : Nat) (o80 : Rw) : Option (Rw × Bool) :=
  ((impl_told k o80).bind fun y86 => (if y86.2 = true then (impl_PowerOfOrdinals_p7 y86.1 true) else (impl_PowerOfOrdinals_p7 y86.1 false)))
set_option maxHeartbeats 4000000 in
set_option maxRecDepth 100000 in
theorem impl_PowerOfOrdinals_p6_ct {k : Nat} {o80 : Rw} {r : Rw × Bool} (h : impl_PowerOfOrdinals_p6 k o80 = some r) : X prog 0 (tlF f21 6) (mk 83 [(4, .ptr 256 0), (10, .ptr 640 0)] [(256, .box 26 [.es]), (640, .box 26 [.os 1094000 o80.length]), (1094000, .arr 104 false o80)]) (finK prog f21 0 (.tup [.agg [.os 8 r.1.length], .d (D.bool r.2)]) (⟨[], [(104, true, r.1)]⟩)) := by
  rw [impl_PowerOfOrdinals_p6] at h
  conv => whnf
  refine Take.all (rfl) ?_
  conv => whnf
  obtain ⟨y86, e87, h⟩ := bind_ex h
  refine CallOk.of (impl_told_ct e87) ?_
  conv => whnf
  refine spl (fun g88 => ?_) (fun g88 => ?_)
  · replace h := iteT h g88
    conv => whnf
    exact CutK.piece (impl_PowerOfOrdinals_p7_ct  h) [some 256, some 5120] [] ⟨⟨rfl, rfl⟩, ⟨rfl, ⟨rfl, ⟨rfl, rfl⟩, trivial⟩, ⟨rfl, rfl, rows_same⟩, trivial⟩, ⟨rfl, rfl⟩, rfl, trivial⟩
  · replace h := iteF h g88
    conv => whnf
    exact CutK.piece (impl_PowerOfOrdinals_p7_ct  h) [some 256, some 5120] [] ⟨⟨rfl, rfl⟩, ⟨rfl, ⟨rfl, ⟨rfl, rfl⟩, trivial⟩, ⟨rfl, rfl, rows_same⟩, trivial⟩, ⟨rfl, rfl⟩, rfl, trivial⟩
def impl_PowerOfOrdinals_l0 (k : Nat) (a1 : Rw) (o66 : Int) (K1 : Rw → Option (Rw × Bool)) : Nat → Int → Rw → Option (Rw × Bool)
  | 0, _, _ => none
  | n + 1, v92, v93 => (if v92 < o66 then ((impl_product k v93 a1).bind fun y102 => (impl_PowerOfOrdinals_l0 k a1 o66 K1 n (IntKind.i64.wrap (v92 + 1)) y102)) else (K1 v93))
set_option maxRecDepth 100000 in
theorem impl_PowerOfOrdinals_l0_ct {k : Nat} {a1 : Rw} {o66 : Int} {K1 : Rw → Option (Rw × Bool)} {r : Rw × Bool} : ∀ (n : Nat) (v92 : Int) (v93 : Rw), impl_PowerOfOrdinals_l0 k a1 o66 K1 n v92 v93 = some r → LoopOk prog 0 (lp f21 0) (mk 83 [(2, .ptr 128 0), (4, .ptr 256 0), (10, .ptr 640 0), (72, .d (D.int .i64 o66)), (73, .d (D.int .i64 v92))] [(128, .box 26 [.d (D.sl a1)]), (256, .box 26 [.es]), (640, .box 26 [.os 64000 v93.length]), (64000, .arr 104 false v93)]) (LoopEnd prog f21 0 83 (.tup [.agg [.os 8 r.1.length], .d (D.bool r.2)]) (⟨[], [(104, true, r.1)]⟩) (fun i ts os => (i = 1 ∧ ∃ v97 : Rw, K1 v97 = some r ∧ ts = [(4, .ptr 256 0), (10, .ptr 640 0)] ∧ os = [(256, .box 26 [.es]), (640, .box 26 [.os 67001 v97.length]), (67001, .arr 104 false v97)])))
  | 0, _, _, h => by
      rw [impl_PowerOfOrdinals_l0] at h; cases h
  | n + 1, v92, v93, h => by
      rw [impl_PowerOfOrdinals_l0] at h
      refine LoopOk.step ?_
      conv => whnf
      refine splD (fun g101 => ?_) (fun g101 => ?_)
      · replace h := iteP h g101
        conv => whnf
        refine Take.all (rfl) ?_
        conv => whnf
        obtain ⟨y102, e103, h⟩ := bind_ex h
        refine CallOk.of (impl_product_ct e103) ?_
        conv => whnf
        refine CutK.norm [2, 4, 10, 72, 73] [128, 256, 640, 4928] ?_
        conv => whnf
        exact LoopOk.back (impl_PowerOfOrdinals_l0_ct  n _ _ h) [some 128, some 256, some 640, some 4928] [] ⟨⟨rfl, rfl⟩, ⟨rfl, ⟨rfl, rfl, trivial⟩, ⟨rfl, trivial, trivial⟩, ⟨rfl, ⟨rfl, rfl⟩, trivial⟩, ⟨rfl, rfl, rows_same⟩, trivial⟩, ⟨rfl, rfl⟩, ⟨rfl, rfl⟩, ⟨rfl, rfl⟩, rfl, rfl, trivial⟩
      · replace h := iteN h g101
        conv => whnf
        exact ⟨_, _, [some 256, some 640, some 64000], [], ⟨rfl, _, h, rfl, rfl⟩, ⟨⟨rfl, rfl⟩, ⟨rfl, ⟨rfl, trivial, trivial⟩, ⟨rfl, ⟨rfl, rfl⟩, trivial⟩, ⟨rfl, rfl, rows_same⟩, trivial⟩, ⟨rfl, rfl⟩, ⟨rfl, rfl⟩, trivial⟩⟩
def impl_PowerOfOrdinals_p5 (k : Nat) (a1 : Rw) (o66 : Int) (o67 : Rw) : Option (Rw × Bool) :=
  (impl_PowerOfOrdinals_l0 k a1 o66 (fun (v97 : Rw) => (impl_PowerOfOrdinals_p6 k v97)) k 0 o67)
set_option maxHeartbeats 4000000 in
set_option maxRecDepth 100000 in
theorem impl_PowerOfOrdinals_p5_ct {k : Nat} {a1 : Rw} {o66 : Int} {o67 : Rw} {r : Rw × Bool} (h : impl_PowerOfOrdinals_p5 k a1 o66 o67 = some r) : X prog 0 (tlF f21 5) (mk 83 [(2, .ptr 128 0), (4, .ptr 256 0), (7, .d (D.int .i64 o66)), (10, .ptr 640 0)] [(128, .box 26 [.d (D.sl a1)]), (256, .box 26 [.es]), (640, .box 26 [.os 1089000 o67.length]), (1089000, .arr 104 false o67)]) (finK prog f21 0 (.tup [.agg [.os 8 r.1.length], .d (D.bool r.2)]) (⟨[], [(104, true, r.1)]⟩)) := by
  rw [impl_PowerOfOrdinals_p5] at h
  conv => whnf
  refine LoopOk.into (impl_PowerOfOrdinals_l0_ct  _ _ _ h) [some 128, some 256, some 640, some 1089000] [] ⟨⟨rfl, rfl⟩, ⟨rfl, ⟨rfl, rfl, trivial⟩, ⟨rfl, trivial, trivial⟩, ⟨rfl, ⟨rfl, rfl⟩, trivial⟩, ⟨rfl, rfl, rows_same⟩, trivial⟩, ⟨rfl, rfl⟩, ⟨rfl, rfl⟩, ⟨rfl, rfl⟩, rfl, rfl, trivial⟩ ?_ (fun _ hs => hs)
  rintro i ts os ⟨rfl, v97, h, rfl, rfl⟩
  conv => whnf
  exact CutK.piece (impl_PowerOfOrdinals_p6_ct  h) [some 256, some 640, some 67001] [] ⟨⟨rfl, rfl⟩, ⟨rfl, ⟨rfl, trivial, trivial⟩, ⟨rfl, ⟨rfl, rfl⟩, trivial⟩, ⟨rfl, rfl, rows_same⟩, trivial⟩, ⟨rfl, rfl⟩, ⟨rfl, rfl⟩, trivial⟩
def impl_PowerOfOrdinals_p4 (k : Nat) (a1 : Rw) (o42 : Int) (o43 : Rw) : Option (Rw × Bool) :=
  ((impl_degree a1).bind fun y104 => ((impl_product k y104 o43).bind fun y106 => ((impl_power y106 1).bind fun y108 => (impl_PowerOfOrdinals_p5 k a1 o42 y108))))
set_option maxHeartbeats 4000000 in
set_option maxRecDepth 100000 in
theorem impl_PowerOfOrdinals_p4_ct {k : Nat} {a1 : Rw} {o42 : Int} {o43 : Rw} {r : Rw × Bool} (h : impl_PowerOfOrdinals_p4 k a1 o42 o43 = some r) : X prog 0 (tlF f21 4) (mk 83 [(2, .ptr 128 0), (4, .ptr 256 0), (6, .ptr 384 0), (7, .d (D.int .i64 o42))] [(128, .box 26 [.d (D.sl a1)]), (256, .box 26 [.es]), (384, .box 26 [.d (D.sl o43)])]) (finK prog f21 0 (.tup [.agg [.os 8 r.1.length], .d (D.bool r.2)]) (⟨[], [(104, true, r.1)]⟩)) := by
  rw [impl_PowerOfOrdinals_p4] at h
  conv => whnf
  obtain ⟨y104, e105, h⟩ := bind_ex h
  refine CallOk.of (impl_degree_ct e105) ?_
  conv => whnf
  obtain ⟨y106, e107, h⟩ := bind_ex h
  refine CallOk.of (impl_product_ct e107) ?_
  conv => whnf
  refine Take.all (rfl) ?_
  conv => whnf
  obtain ⟨y108, e109, h⟩ := bind_ex h
  refine CallOk.of (impl_power_ct e109) ?_
  conv => whnf
  exact CutK.piece (impl_PowerOfOrdinals_p5_ct  h) [some 128, some 256, some 640, some 4544] [] ⟨⟨rfl, rfl⟩, ⟨rfl, ⟨rfl, rfl, trivial⟩, ⟨rfl, trivial, trivial⟩, ⟨rfl, ⟨rfl, rfl⟩, trivial⟩, ⟨rfl, rfl, rows_same⟩, trivial⟩, ⟨rfl, rfl⟩, ⟨rfl, rfl⟩, rfl, ⟨rfl, rfl⟩, trivial⟩
def impl_PowerOfOrdinals_p3 (k : Nat) (a1 : Rw) (a2 : Rw) (o8 : Int) (o9 : Rw) : Option (Rw × Bool) :=
  ((impl_isZero a2).bind fun y110 => (if y110 = true then ((impl_finite 1).bind fun y113 => some (y113, true)) else ((impl_isZero a1).bind fun y115 => (if y115 = true then some (([] : Rw), true) else ((impl_degree a1).bind fun y118 => ((impl_isZero y118).bind fun y120 => (if y120 = true then (row_si a1 0 fun x123 x124 => (if x124 = (1 : Int) then ((impl_finite 1).bind fun y128 => some (y128, true)) else ((impl_degree a1).bind fun y130 => ((impl_isZero y130).bind fun y132 => (if y132 = true then ((impl_ofFinite k x124 a2).bind fun y135 => (if y135.2 = true then ((impl_told k y135.1).bind fun y138 => (if y138.2 = true then some (y138.1, true) else some (y138.1, false))) else some (([] : Rw), false))) else (if (40 : Int) < o8 then some (([] : Rw), false) else (impl_PowerOfOrdinals_p4 k a1 o8 o9))))))) else ((impl_degree a1).bind fun y142 => ((impl_isZero y142).bind fun y144 => (if y144 = true then (row_si a1 0 fun x147 x148 => ((impl_ofFinite k x148 a2).bind fun y151 => (if y151.2 = true then ((impl_told k y151.1).bind fun y154 => (if y154.2 = true then some (y154.1, true) else some (y154.1, false))) else some (([] : Rw), false)))) else (if (40 : Int) < o8 then some (([] : Rw), false) else (impl_PowerOfOrdinals_p4 k a1 o8 o9))))))))))))
set_option maxHeartbeats 4000000 in
set_option maxRecDepth 100000 in
theorem impl_PowerOfOrdinals_p3_ct {k : Nat} {a1 : Rw} {a2 : Rw} {o8 : Int} {o9 : Rw} {r : Rw × Bool} (h : impl_PowerOfOrdinals_p3 k a1 a2 o8 o9 = some r) : X prog 0 (tlF f21 3) (mk 83 [(2, .ptr 128 0), (3, .ptr 192 0), (4, .ptr 256 0), (6, .ptr 384 0), (7, .d (D.int .i64 o8))] [(128, .box 26 [.d (D.sl a1)]), (192, .box 26 [.d (D.sl a2)]), (256, .box 26 [.es]), (384, .box 26 [.d (D.sl o9)])]) (finK prog f21 0 (.tup [.agg [.os 8 r.1.length], .d (D.bool r.2)]) (⟨[], [(104, true, r.1)]⟩)) := by
  rw [impl_PowerOfOrdinals_p3] at h
  conv => whnf
  obtain ⟨y110, e111, h⟩ := bind_ex h
  refine CallOk.of (impl_isZero_ct e111) ?_
  conv => whnf
  refine spl (fun g112 => ?_) (fun g112 => ?_)
  · replace h := iteT h g112
    conv => whnf
    refine CutK.norm [2, 3, 4, 6, 7, 21] [128, 192, 256, 384] ?_
    conv => whnf
    obtain ⟨y113, e114, h⟩ := bind_ex h
    refine CallOk.of (impl_finite_ct e114) ?_
    conv => whnf
    refine CutK.norm [4, 5] [256, 1536] ?_
    conv => whnf
    cases h
    exact Done.of [some 1536] [] rfl rfl ⟨⟨rfl, rfl⟩, ⟨rfl, ⟨rfl, rfl, rows_same⟩, trivial⟩, ⟨⟨⟨rfl, rfl⟩, trivial⟩, rfl, trivial⟩, trivial⟩
  · replace h := iteF h g112
    conv => whnf
    refine CutK.norm [2, 3, 4, 6, 7, 21] [128, 192, 256, 384] ?_
    conv => whnf
    obtain ⟨y115, e116, h⟩ := bind_ex h
    refine CallOk.of (impl_isZero_ct e116) ?_
    conv => whnf
    refine spl (fun g117 => ?_) (fun g117 => ?_)
    · replace h := iteT h g117
      conv => whnf
      refine CutK.norm [2, 3, 4, 6, 7, 25] [128, 192, 256, 384] ?_
      conv => whnf
      cases h
      exact Done.of [none] [] rfl rfl ⟨⟨rfl, rfl⟩, ⟨rfl, rfl, trivial⟩, ⟨⟨⟨rfl, rfl⟩, trivial⟩, rfl, trivial⟩, trivial⟩
    · replace h := iteF h g117
      conv => whnf
      refine CutK.norm [2, 3, 4, 6, 7, 25] [128, 192, 256, 384] ?_
      conv => whnf
      obtain ⟨y118, e119, h⟩ := bind_ex h
      refine CallOk.of (impl_degree_ct e119) ?_
      conv => whnf
      obtain ⟨y120, e121, h⟩ := bind_ex h
      refine CallOk.of (impl_isZero_ct e121) ?_
      conv => whnf
      refine spl (fun g122 => ?_) (fun g122 => ?_)
      · replace h := iteT h g122
        conv => whnf
        obtain ⟨g126, x123, x124, e125, h⟩ := row_si_ex h
        refine Req.of g126 ?_
        refine Row.of _ e125 ?_
        conv => whnf
        refine splD (fun g127 => ?_) (fun g127 => ?_)
        · replace h := iteP h g127
          conv => whnf
          refine CutK.norm [2, 3, 4, 6, 7, 29] [128, 192, 256, 384] ?_
          conv => whnf
          obtain ⟨y128, e129, h⟩ := bind_ex h
          refine CallOk.of (impl_finite_ct e129) ?_
          conv => whnf
          refine CutK.norm [4, 5] [256, 2624] ?_
          conv => whnf
          cases h
          exact Done.of [some 2624] [] rfl rfl ⟨⟨rfl, rfl⟩, ⟨rfl, ⟨rfl, rfl, rows_same⟩, trivial⟩, ⟨⟨⟨rfl, rfl⟩, trivial⟩, rfl, trivial⟩, trivial⟩
        · replace h := iteN h g127
          conv => whnf
          refine CutK.norm [2, 3, 4, 6, 7, 29] [128, 192, 256, 384] ?_
          conv => whnf
          obtain ⟨y130, e131, h⟩ := bind_ex h
          refine CallOk.of (impl_degree_ct e131) ?_
          conv => whnf
          obtain ⟨y132, e133, h⟩ := bind_ex h
          refine CallOk.of (impl_isZero_ct e133) ?_
          conv => whnf
          refine spl (fun g134 => ?_) (fun g134 => ?_)
          · replace h := iteT h g134
            conv => whnf
            refine CutK.norm [2, 3, 4, 6, 7, 42] [128, 192, 256, 384] ?_
            conv => whnf
            refine Req.of g126 ?_
            refine Row.of _ e125 ?_
            conv => whnf
            obtain ⟨y135, e136, h⟩ := bind_ex h
            refine CallOk.of (impl_ofFinite_ct e136) ?_
            conv => whnf
            refine spl (fun g137 => ?_) (fun g137 => ?_)
            · replace h := iteT h g137
              conv => whnf
              refine CutK.norm [4, 8, 9] [256, 512, 3392] ?_
              conv => whnf
              refine Take.all (rfl) ?_
              conv => whnf
              obtain ⟨y138, e139, h⟩ := bind_ex h
              refine CallOk.of (impl_told_ct e139) ?_
              conv => whnf
              refine spl (fun g140 => ?_) (fun g140 => ?_)
              · replace h := iteT h g140
                conv => whnf
                refine CutK.norm [4, 5] [256, 3840] ?_
                conv => whnf
                cases h
                exact Done.of [some 3840] [] rfl rfl ⟨⟨rfl, rfl⟩, ⟨rfl, ⟨rfl, rfl, rows_same⟩, trivial⟩, ⟨⟨⟨rfl, rfl⟩, trivial⟩, rfl, trivial⟩, trivial⟩
              · replace h := iteF h g140
                conv => whnf
                refine CutK.norm [4, 5] [256, 3840] ?_
                conv => whnf
                cases h
                exact Done.of [some 3840] [] rfl rfl ⟨⟨rfl, rfl⟩, ⟨rfl, ⟨rfl, rfl, rows_same⟩, trivial⟩, ⟨⟨⟨rfl, rfl⟩, trivial⟩, rfl, trivial⟩, trivial⟩
            · replace h := iteF h g137
              conv => whnf
              refine CutK.norm [4, 8, 9] [256, 512, 3392] ?_
              conv => whnf
              cases h
              exact Done.of [none] [] rfl rfl ⟨⟨rfl, rfl⟩, ⟨rfl, rfl, trivial⟩, ⟨⟨⟨rfl, rfl⟩, trivial⟩, rfl, trivial⟩, trivial⟩
          · replace h := iteF h g134
            conv => whnf
            refine CutK.norm [2, 3, 4, 6, 7, 42] [128, 192, 256, 384] ?_
            conv => whnf
            refine splD (fun g141 => ?_) (fun g141 => ?_)
            · replace h := iteP h g141
              conv => whnf
              cases h
              exact Done.of [none] [] rfl rfl ⟨⟨rfl, rfl⟩, ⟨rfl, rfl, trivial⟩, ⟨⟨⟨rfl, rfl⟩, trivial⟩, rfl, trivial⟩, trivial⟩
            · replace h := iteN h g141
              conv => whnf
              exact CutK.piece (impl_PowerOfOrdinals_p4_ct  h) [some 128, some 256, some 384] [] ⟨⟨rfl, rfl⟩, ⟨rfl, ⟨rfl, rfl, trivial⟩, ⟨rfl, trivial, trivial⟩, ⟨rfl, rfl, trivial⟩, trivial⟩, ⟨rfl, rfl⟩, ⟨rfl, rfl⟩, ⟨rfl, rfl⟩, rfl, trivial⟩
      · replace h := iteF h g122
        conv => whnf
        refine CutK.norm [2, 3, 4, 6, 7, 29] [128, 192, 256, 384] ?_
        conv => whnf
        obtain ⟨y142, e143, h⟩ := bind_ex h
        refine CallOk.of (impl_degree_ct e143) ?_
        conv => whnf
        obtain ⟨y144, e145, h⟩ := bind_ex h
        refine CallOk.of (impl_isZero_ct e145) ?_
        conv => whnf
        refine spl (fun g146 => ?_) (fun g146 => ?_)
        · replace h := iteT h g146
          conv => whnf
          refine CutK.norm [2, 3, 4, 6, 7, 42] [128, 192, 256, 384] ?_
          conv => whnf
          obtain ⟨g150, x147, x148, e149, h⟩ := row_si_ex h
          refine Req.of g150 ?_
          refine Row.of _ e149 ?_
          conv => whnf
          obtain ⟨y151, e152, h⟩ := bind_ex h
          refine CallOk.of (impl_ofFinite_ct e152) ?_
          conv => whnf
          refine spl (fun g153 => ?_) (fun g153 => ?_)
          · replace h := iteT h g153
            conv => whnf
            refine CutK.norm [4, 8, 9] [256, 512, 3392] ?_
            conv => whnf
            refine Take.all (rfl) ?_
            conv => whnf
            obtain ⟨y154, e155, h⟩ := bind_ex h
            refine CallOk.of (impl_told_ct e155) ?_
            conv => whnf
            refine spl (fun g156 => ?_) (fun g156 => ?_)
            · replace h := iteT h g156
              conv => whnf
              refine CutK.norm [4, 5] [256, 3840] ?_
              conv => whnf
              cases h
              exact Done.of [some 3840] [] rfl rfl ⟨⟨rfl, rfl⟩, ⟨rfl, ⟨rfl, rfl, rows_same⟩, trivial⟩, ⟨⟨⟨rfl, rfl⟩, trivial⟩, rfl, trivial⟩, trivial⟩
            · replace h := iteF h g156
              conv => whnf
              refine CutK.norm [4, 5] [256, 3840] ?_
              conv => whnf
              cases h
              exact Done.of [some 3840] [] rfl rfl ⟨⟨rfl, rfl⟩, ⟨rfl, ⟨rfl, rfl, rows_same⟩, trivial⟩, ⟨⟨⟨rfl, rfl⟩, trivial⟩, rfl, trivial⟩, trivial⟩
          · replace h := iteF h g153
            conv => whnf
            refine CutK.norm [4, 8, 9] [256, 512, 3392] ?_
            conv => whnf
            cases h
            exact Done.of [none] [] rfl rfl ⟨⟨rfl, rfl⟩, ⟨rfl, rfl, trivial⟩, ⟨⟨⟨rfl, rfl⟩, trivial⟩, rfl, trivial⟩, trivial⟩
        · replace h := iteF h g146
          conv => whnf
          refine CutK.norm [2, 3, 4, 6, 7, 42] [128, 192, 256, 384] ?_
          conv => whnf
          refine splD (fun g157 => ?_) (fun g157 => ?_)
          · replace h := iteP h g157
            conv => whnf
            cases h
            exact Done.of [none] [] rfl rfl ⟨⟨rfl, rfl⟩, ⟨rfl, rfl, trivial⟩, ⟨⟨⟨rfl, rfl⟩, trivial⟩, rfl, trivial⟩, trivial⟩
          · replace h := iteN h g157
            conv => whnf
            exact CutK.piece (impl_PowerOfOrdinals_p4_ct  h) [some 128, some 256, some 384] [] ⟨⟨rfl, rfl⟩, ⟨rfl, ⟨rfl, rfl, trivial⟩, ⟨rfl, trivial, trivial⟩, ⟨rfl, rfl, trivial⟩, trivial⟩, ⟨rfl, rfl⟩, ⟨rfl, rfl⟩, ⟨rfl, rfl⟩, rfl, trivial⟩
def impl_PowerOfOrdinals_p2 (k : Nat) (a1 : Rw) (a2 : Rw) : Option (Rw × Bool) :=
  ((impl_parted a2).bind fun y158 => (impl_PowerOfOrdinals_p3 k a1 a2 y158.2 y158.1))
set_option maxHeartbeats 4000000 in
set_option maxRecDepth 100000 in
theorem impl_PowerOfOrdinals_p2_ct {k : Nat} {a1 : Rw} {a2 : Rw} {r : Rw × Bool} (h : impl_PowerOfOrdinals_p2 k a1 a2 = some r) : X prog 0 (tlF f21 2) (mk 83 [(2, .ptr 128 0), (3, .ptr 192 0), (4, .ptr 256 0)] [(128, .box 26 [.d (D.sl a1)]), (192, .box 26 [.d (D.sl a2)]), (256, .box 26 [.es])]) (finK prog f21 0 (.tup [.agg [.os 8 r.1.length], .d (D.bool r.2)]) (⟨[], [(104, true, r.1)]⟩)) := by
  rw [impl_PowerOfOrdinals_p2] at h
  conv => whnf
  obtain ⟨y158, e159, h⟩ := bind_ex h
  refine CallOk.of (impl_parted_ct e159) ?_
  conv => whnf
  exact CutK.piece (impl_PowerOfOrdinals_p3_ct  h) [some 128, some 192, some 256, some 384] [] ⟨⟨rfl, rfl⟩, ⟨rfl, ⟨rfl, rfl, trivial⟩, ⟨rfl, rfl, trivial⟩, ⟨rfl, trivial, trivial⟩, ⟨rfl, rfl, trivial⟩, trivial⟩, ⟨rfl, rfl⟩, ⟨rfl, rfl⟩, ⟨rfl, rfl⟩, ⟨rfl, rfl⟩, rfl, trivial⟩
def impl_PowerOfOrdinals (k : Nat) (a1 : Rw) (a2 : Rw) : Option (Rw × Bool) :=
  ((impl_both k a1 a2).bind fun y160 => (if y160 = true then (impl_PowerOfOrdinals_p2 k a1 a2) else some (([] : Rw), false)))
set_option maxHeartbeats 4000000 in
set_option maxRecDepth 100000 in
theorem impl_PowerOfOrdinals_ct {k : Nat} {a1 : Rw} {a2 : Rw} {r : Rw × Bool} (h : impl_PowerOfOrdinals k a1 a2 = some r) : Ct prog 21 [.agg [.d (D.sl a1)], .agg [.d (D.sl a2)]] (⟨[], []⟩) (.tup [.agg [.os 8 r.1.length], .d (D.bool r.2)]) (⟨[], [(104, true, r.1)]⟩) := by
  rw [impl_PowerOfOrdinals] at h
  refine Ct.of (c := _) mixed func21 ⟨rfl, rfl, rfl⟩ ?_ rfl
  conv => whnf
  obtain ⟨y160, e161, h⟩ := bind_ex h
  refine CallOk.of (impl_both_ct e161) ?_
  conv => whnf
  refine spl (fun g162 => ?_) (fun g162 => ?_)
  · replace h := iteT h g162
    conv => whnf
    refine CutK.norm [2, 3, 4, 14] [128, 192, 256] ?_
    conv => whnf
    exact CutK.piece (impl_PowerOfOrdinals_p2_ct  h) [some 128, some 192, some 256] [] ⟨⟨rfl, rfl⟩, ⟨rfl, ⟨rfl, rfl, trivial⟩, ⟨rfl, rfl, trivial⟩, ⟨rfl, trivial, trivial⟩, trivial⟩, ⟨rfl, rfl⟩, ⟨rfl, rfl⟩, ⟨rfl, rfl⟩, trivial⟩
  · replace h := iteF h g162
    conv => whnf
    refine CutK.norm [2, 3, 4, 14] [128, 192, 256] ?_
    conv => whnf
    cases h
    exact Done.of [none] [] rfl rfl ⟨⟨rfl, rfl⟩, ⟨rfl, rfl, trivial⟩, ⟨⟨⟨rfl, rfl⟩, trivial⟩, rfl, trivial⟩, trivial⟩

def impl_AddOrdinals (k : Nat) (a1 : Rw) (a2 : Rw) : Option (Rw × Bool) :=
  ((impl_both k a1 a2).bind fun y3 => (if y3 = true then ((impl_plus k a1 a2).bind fun y6 => ((impl_told k y6).bind fun y8 => (if y8.2 = true then some (y8.1, true) else some (y8.1, false)))) else some (([] : Rw), false)))
set_option maxHeartbeats 4000000 in
set_option maxRecDepth 100000 in
theorem impl_AddOrdinals_ct {k : Nat} {a1 : Rw} {a2 : Rw} {r : Rw × Bool} (h : impl_AddOrdinals k a1 a2 = some r) : Ct prog 15 [.agg [.d (D.sl a1)], .agg [.d (D.sl a2)]] (⟨[], []⟩) (.tup [.agg [.os 8 r.1.length], .d (D.bool r.2)]) (⟨[], [(104, true, r.1)]⟩) := by
  rw [impl_AddOrdinals] at h
  refine Ct.of (c := _) mixed func15 ⟨rfl, rfl, rfl⟩ ?_ rfl
  conv => whnf
  obtain ⟨y3, e4, h⟩ := bind_ex h
  refine CallOk.of (impl_both_ct e4) ?_
  conv => whnf
  refine spl (fun g5 => ?_) (fun g5 => ?_)
  · replace h := iteT h g5
    conv => whnf
    refine CutK.go ?_
    conv => whnf
    refine CutK.go ?_
    conv => whnf
    obtain ⟨y6, e7, h⟩ := bind_ex h
    refine CallOk.of (impl_plus_ct e7) ?_
    conv => whnf
    obtain ⟨y8, e9, h⟩ := bind_ex h
    refine CallOk.of (impl_told_ct e9) ?_
    conv => whnf
    refine spl (fun g10 => ?_) (fun g10 => ?_)
    · replace h := iteT h g10
      conv => whnf
      refine CutK.go ?_
      conv => whnf
      cases h
      exact Done.of [some 896] [] rfl rfl ⟨⟨rfl, rfl⟩, ⟨rfl, ⟨rfl, rfl, rows_same⟩, trivial⟩, ⟨⟨⟨rfl, rfl⟩, trivial⟩, rfl, trivial⟩, trivial⟩
    · replace h := iteF h g10
      conv => whnf
      refine CutK.go ?_
      conv => whnf
      cases h
      exact Done.of [some 896] [] rfl rfl ⟨⟨rfl, rfl⟩, ⟨rfl, ⟨rfl, rfl, rows_same⟩, trivial⟩, ⟨⟨⟨rfl, rfl⟩, trivial⟩, rfl, trivial⟩, trivial⟩
  · replace h := iteF h g5
    conv => whnf
    refine CutK.go ?_
    conv => whnf
    cases h
    exact Done.of [none] [] rfl rfl ⟨⟨rfl, rfl⟩, ⟨rfl, rfl, trivial⟩, ⟨⟨⟨rfl, rfl⟩, trivial⟩, rfl, trivial⟩, trivial⟩

def spec_l1Cur_next  (a1 : Rw) (a2 : Int) (a3 : Int) : Option (Int × Rw × Int × Int) :=
  (if a2 < (a1.length : Int) then (row_iu8 a1 a2 fun x5 => (if (IntKind.i64.wrap (a2 + 1)) ≤ (a1.length : Int) then some (IntKind.i64.wrap x5, a1, IntKind.i64.wrap (a2 + 1), IntKind.u64.wrap ((IntKind.u64.wrap ((IntKind.u64.wrap (a3 * 6364136223846793005)) + (IntKind.u64.wrap (IntKind.i64.wrap x5)))) + 1442695040888963407)) else some (IntKind.i64.wrap (IntKind.u64.wrap (BitVec.ofInt (IntKind.u64).bits ((IntKind.u64.wrap ((IntKind.u64.wrap ((IntKind.u64.wrap (a3 * 6364136223846793005)) + (IntKind.u64.wrap (IntKind.i64.wrap x5)))) + 1442695040888963407)).fdiv (2 ^ (min (40 : Int).toNat (IntKind.u64).bits))) &&& BitVec.ofInt (IntKind.u64).bits 255).toNat), a1, IntKind.i64.wrap (a2 + 1), IntKind.u64.wrap ((IntKind.u64.wrap ((IntKind.u64.wrap (a3 * 6364136223846793005)) + (IntKind.u64.wrap (IntKind.i64.wrap x5)))) + 1442695040888963407)))) else (if (IntKind.i64.wrap (a2 + 1)) ≤ (a1.length : Int) then some (0, a1, IntKind.i64.wrap (a2 + 1), IntKind.u64.wrap ((IntKind.u64.wrap ((IntKind.u64.wrap (a3 * 6364136223846793005)) + (IntKind.u64.wrap 0))) + 1442695040888963407)) else some (IntKind.i64.wrap (IntKind.u64.wrap (BitVec.ofInt (IntKind.u64).bits ((IntKind.u64.wrap ((IntKind.u64.wrap ((IntKind.u64.wrap (a3 * 6364136223846793005)) + (IntKind.u64.wrap 0))) + 1442695040888963407)).fdiv (2 ^ (min (40 : Int).toNat (IntKind.u64).bits))) &&& BitVec.ofInt (IntKind.u64).bits 255).toNat), a1, IntKind.i64.wrap (a2 + 1), IntKind.u64.wrap ((IntKind.u64.wrap ((IntKind.u64.wrap (a3 * 6364136223846793005)) + (IntKind.u64.wrap 0))) + 1442695040888963407))))
set_option maxHeartbeats 4000000 in
set_option maxRecDepth 100000 in
theorem spec_l1Cur_next_ct  {a1 : Rw} {a2 : Int} {a3 : Int} {r : Int × Rw × Int × Int} (h : spec_l1Cur_next a1 a2 a3 = some r) : Ct prog 147 [.ptr 0 0] (⟨[(91, [.d (D.sl a1), .d (D.int .i64 a2), .d (D.int .u64 a3)])], []⟩) (.d (D.int .i64 r.1)) (⟨[(91, [.d (D.sl r.2.1), .d (D.int .i64 r.2.2.1), .d (D.int .u64 r.2.2.2)])], []⟩) := by
  rw [spec_l1Cur_next] at h
  refine Ct.of (c := _) mixed func147 ⟨rfl, rfl, rfl⟩ ?_ rfl
  conv => whnf
  refine splD (fun g4 => ?_) (fun g4 => ?_)
  · replace h := iteP h g4
    conv => whnf
    obtain ⟨g7, x5, e6, h⟩ := row_iu8_ex h
    refine Req.of g7 ?_
    refine Row.of _ e6 ?_
    conv => whnf
    refine splD (fun g8 => ?_) (fun g8 => ?_)
    · replace h := iteP h g8
      conv => whnf
      cases h
      exact Done.of [some 0] [] rfl rfl ⟨⟨rfl, rfl⟩, ⟨rfl, ⟨rfl, rfl, rfl, rfl, trivial⟩, trivial⟩, rfl, trivial⟩
    · replace h := iteN h g8
      conv => whnf
      cases h
      exact Done.of [some 0] [] rfl rfl ⟨⟨rfl, rfl⟩, ⟨rfl, ⟨rfl, rfl, rfl, rfl, trivial⟩, trivial⟩, rfl, trivial⟩
  · replace h := iteN h g4
    conv => whnf
    refine splD (fun g9 => ?_) (fun g9 => ?_)
    · replace h := iteP h g9
      conv => whnf
      cases h
      exact Done.of [some 0] [] rfl rfl ⟨⟨rfl, rfl⟩, ⟨rfl, ⟨rfl, rfl, rfl, rfl, trivial⟩, trivial⟩, rfl, trivial⟩
    · replace h := iteN h g9
      conv => whnf
      cases h
      exact Done.of [some 0] [] rfl rfl ⟨⟨rfl, rfl⟩, ⟨rfl, ⟨rfl, rfl, rfl, rfl, trivial⟩, trivial⟩, rfl, trivial⟩

def spec_l1Cur_pick  (a1 : Rw) (a2 : Int) (a3 : Int) (a4 : Int) : Option (Int × Rw × Int × Int) :=
  (if a4 ≤ (1 : Int) then some (0, a1, a2, a3) else ((spec_l1Cur_next a1 a2 a3).bind fun y6 => (if (200 : Int) < a4 then ((spec_l1Cur_next y6.2.1 y6.2.2.1 y6.2.2.2).bind fun y9 => (if a4 ≠ 0 then some ((IntKind.i64.wrap ((IntKind.i64.wrap (y6.1 * 256)) + y9.1)).tmod a4, y9.2.1, y9.2.2.1, y9.2.2.2) else none)) else (if a4 ≠ 0 then some (y6.1.tmod a4, y6.2.1, y6.2.2.1, y6.2.2.2) else none))))
set_option maxHeartbeats 4000000 in
set_option maxRecDepth 100000 in
theorem spec_l1Cur_pick_ct  {a1 : Rw} {a2 : Int} {a3 : Int} {a4 : Int} {r : Int × Rw × Int × Int} (h : spec_l1Cur_pick a1 a2 a3 a4 = some r) : Ct prog 65 [.ptr 0 0, .d (D.int .i64 a4)] (⟨[(91, [.d (D.sl a1), .d (D.int .i64 a2), .d (D.int .u64 a3)])], []⟩) (.d (D.int .i64 r.1)) (⟨[(91, [.d (D.sl r.2.1), .d (D.int .i64 r.2.2.1), .d (D.int .u64 r.2.2.2)])], []⟩) := by
  rw [spec_l1Cur_pick] at h
  refine Ct.of (c := _) mixed func65 ⟨rfl, rfl, rfl⟩ ?_ rfl
  conv => whnf
  refine splD (fun g5 => ?_) (fun g5 => ?_)
  · replace h := iteP h g5
    conv => whnf
    cases h
    exact Done.of [some 0] [] rfl rfl ⟨⟨rfl, rfl⟩, ⟨rfl, ⟨rfl, rfl, rfl, rfl, trivial⟩, trivial⟩, rfl, trivial⟩
  · replace h := iteN h g5
    conv => whnf
    obtain ⟨y6, e7, h⟩ := bind_ex h
    refine CallOk.of (spec_l1Cur_next_ct e7) ?_
    conv => whnf
    refine CutK.go ?_
    conv => whnf
    refine splD (fun g8 => ?_) (fun g8 => ?_)
    · replace h := iteP h g8
      conv => whnf
      obtain ⟨y9, e10, h⟩ := bind_ex h
      refine CallOk.of (spec_l1Cur_next_ct e10) ?_
      conv => whnf
      refine CutK.go ?_
      conv => whnf
      obtain ⟨g11, h⟩ := req_ex h
      refine Req.of g11 ?_
      conv => whnf
      cases h
      exact Done.of [some 0] [] rfl rfl ⟨⟨rfl, rfl⟩, ⟨rfl, ⟨rfl, rfl, rfl, rfl, trivial⟩, trivial⟩, rfl, trivial⟩
    · replace h := iteN h g8
      conv => whnf
      refine CutK.go ?_
      conv => whnf
      obtain ⟨g12, h⟩ := req_ex h
      refine Req.of g12 ?_
      conv => whnf
      cases h
      exact Done.of [some 0] [] rfl rfl ⟨⟨rfl, rfl⟩, ⟨rfl, ⟨rfl, rfl, rfl, rfl, trivial⟩, trivial⟩, rfl, trivial⟩

def spec_l1Cur_among  (a1 : Rw) (a2 : Int) (a3 : Int) (a4 : Rw) : Option (Int × Rw × Int × Int) :=
  ((spec_l1Cur_pick a1 a2 a3 (a4.length : Int)).bind fun y5 => (row_i a4 y5.1 fun x7 => some (x7, y5.2.1, y5.2.2.1, y5.2.2.2)))
set_option maxHeartbeats 4000000 in
set_option maxRecDepth 100000 in
theorem spec_l1Cur_among_ct  {a1 : Rw} {a2 : Int} {a3 : Int} {a4 : Rw} {r : Int × Rw × Int × Int} (h : spec_l1Cur_among a1 a2 a3 a4 = some r) : Ct prog 67 [.ptr 0 0, .d (D.sl a4)] (⟨[(91, [.d (D.sl a1), .d (D.int .i64 a2), .d (D.int .u64 a3)])], []⟩) (.d (D.int .i64 r.1)) (⟨[(91, [.d (D.sl r.2.1), .d (D.int .i64 r.2.2.1), .d (D.int .u64 r.2.2.2)])], []⟩) := by
  rw [spec_l1Cur_among] at h
  refine Ct.of (c := _) mixed func67 ⟨rfl, rfl, rfl⟩ ?_ rfl
  conv => whnf
  obtain ⟨y5, e6, h⟩ := bind_ex h
  refine CallOk.of (spec_l1Cur_pick_ct e6) ?_
  conv => whnf
  obtain ⟨g9, x7, e8, h⟩ := row_i_ex h
  refine Req.of g9 ?_
  refine Row.of _ e8 ?_
  conv => whnf
  refine CutK.go ?_
  conv => whnf
  cases h
  exact Done.of [some 0] [] rfl rfl ⟨⟨rfl, rfl⟩, ⟨rfl, ⟨rfl, rfl, rfl, rfl, trivial⟩, trivial⟩, rfl, trivial⟩

def spec_odTerm  (a1 : Rw) (a2 : Int) : Option Rw :=
  (if a2 = (0 : Int) then some ([] : Rw) else some ([[D.sl a1, D.int .i64 a2]] : Rw))
set_option maxHeartbeats 4000000 in
set_option maxRecDepth 100000 in
theorem spec_odTerm_ct  {a1 : Rw} {a2 : Int} {r : Rw} (h : spec_odTerm a1 a2 = some r) : Ct prog 149 [.agg [.d (D.sl a1)], .d (D.int .i64 a2)] (⟨[], []⟩) (.agg [.os 8 r.length]) (⟨[], [(104, false, r)]⟩) := by
  rw [spec_odTerm] at h
  refine Ct.of (c := _) mixed func149 ⟨rfl, rfl, rfl⟩ ?_ rfl
  conv => whnf
  refine splD (fun g3 => ?_) (fun g3 => ?_)
  · replace h := iteP h g3
    conv => whnf
    cases h
    exact Done.of [none] [] rfl rfl ⟨⟨rfl, rfl⟩, ⟨rfl, rfl, trivial⟩, ⟨⟨rfl, rfl⟩, trivial⟩, trivial⟩
  · replace h := iteN h g3
    conv => whnf
    cases h
    exact Done.of [some 704] [] rfl rfl ⟨⟨rfl, rfl⟩, ⟨rfl, ⟨rfl, rfl, rows_same⟩, trivial⟩, ⟨⟨(by first | rfl | exact List.length_append.symm | (simp; done) | omega), rfl⟩, trivial⟩, trivial⟩

def spec_odInt  (a1 : Int) : Option Rw :=
  ((spec_odTerm ([] : Rw) a1).bind fun y2 => some y2)
set_option maxHeartbeats 4000000 in
set_option maxRecDepth 100000 in
theorem spec_odInt_ct  {a1 : Int} {r : Rw} (h : spec_odInt a1 = some r) : Ct prog 148 [.d (D.int .i64 a1)] (⟨[], []⟩) (.agg [.os 8 r.length]) (⟨[], [(104, false, r)]⟩) := by
  rw [spec_odInt] at h
  refine Ct.of (c := _) mixed func148 ⟨rfl, rfl, rfl⟩ ?_ rfl
  conv => whnf
  obtain ⟨y2, e3, h⟩ := bind_ex h
  refine CallOk.of (spec_odTerm_ct e3) ?_
  conv => whnf
  refine CutK.go ?_
  conv => whnf
  cases h
  exact Done.of [some 320] [] rfl rfl ⟨⟨rfl, rfl⟩, ⟨rfl, ⟨rfl, rfl, rows_same⟩, trivial⟩, ⟨⟨rfl, rfl⟩, trivial⟩, trivial⟩

def spec_l1Cur_one  (a1 : Rw) (a2 : Int) (a3 : Int) (a4 : Int) : Option (Bool × Rw × Int × Int) :=
  ((spec_l1Cur_pick a1 a2 a3 a4).bind fun y5 => (if y5.1 = (0 : Int) then some (true, y5.2.1, y5.2.2.1, y5.2.2.2) else some (false, y5.2.1, y5.2.2.1, y5.2.2.2)))
set_option maxHeartbeats 4000000 in
set_option maxRecDepth 100000 in
theorem spec_l1Cur_one_ct  {a1 : Rw} {a2 : Int} {a3 : Int} {a4 : Int} {r : Bool × Rw × Int × Int} (h : spec_l1Cur_one a1 a2 a3 a4 = some r) : Ct prog 66 [.ptr 0 0, .d (D.int .i64 a4)] (⟨[(91, [.d (D.sl a1), .d (D.int .i64 a2), .d (D.int .u64 a3)])], []⟩) (.d (D.bool r.1)) (⟨[(91, [.d (D.sl r.2.1), .d (D.int .i64 r.2.2.1), .d (D.int .u64 r.2.2.2)])], []⟩) := by
  rw [spec_l1Cur_one] at h
  refine Ct.of (c := _) mixed func66 ⟨rfl, rfl, rfl⟩ ?_ rfl
  conv => whnf
  obtain ⟨y5, e6, h⟩ := bind_ex h
  refine CallOk.of (spec_l1Cur_pick_ct e6) ?_
  conv => whnf
  refine splD (fun g7 => ?_) (fun g7 => ?_)
  · replace h := iteP h g7
    conv => whnf
    refine CutK.go ?_
    conv => whnf
    cases h
    exact Done.of [some 0] [] rfl rfl ⟨⟨rfl, rfl⟩, ⟨rfl, ⟨rfl, rfl, rfl, rfl, trivial⟩, trivial⟩, rfl, trivial⟩
  · replace h := iteN h g7
    conv => whnf
    refine CutK.go ?_
    conv => whnf
    cases h
    exact Done.of [some 0] [] rfl rfl ⟨⟨rfl, rfl⟩, ⟨rfl, ⟨rfl, rfl, rfl, rfl, trivial⟩, trivial⟩, rfl, trivial⟩

def spec_l1Sign  (a1 : Int) : Option Int :=
  (if (0 : Int) < a1 then some 1 else (if a1 < (0 : Int) then some (-1) else some 0))
set_option maxHeartbeats 4000000 in
set_option maxRecDepth 100000 in
theorem spec_l1Sign_ct  {a1 : Int} {r : Int} (h : spec_l1Sign a1 = some r) : Ct prog 198 [.d (D.int .i64 a1)] (⟨[], []⟩) (.d (D.int .i64 r)) (⟨[], []⟩) := by
  rw [spec_l1Sign] at h
  refine Ct.of (c := _) mixed func198 ⟨rfl, rfl, rfl⟩ ?_ rfl
  conv => whnf
  refine splD (fun g2 => ?_) (fun g2 => ?_)
  · replace h := iteP h g2
    conv => whnf
    cases h
    exact Done.of [] [] rfl rfl ⟨⟨rfl, rfl⟩, ⟨rfl, trivial⟩, rfl, trivial⟩
  · replace h := iteN h g2
    conv => whnf
    refine splD (fun g3 => ?_) (fun g3 => ?_)
    · replace h := iteP h g3
      conv => whnf
      cases h
      exact Done.of [] [] rfl rfl ⟨⟨rfl, rfl⟩, ⟨rfl, trivial⟩, rfl, trivial⟩
    · replace h := iteN h g3
      conv => whnf
      cases h
      exact Done.of [] [] rfl rfl ⟨⟨rfl, rfl⟩, ⟨rfl, trivial⟩, rfl, trivial⟩

def spec_odCmp_p2 (a1 : Rw) (a2 : Rw) : Option Int :=
  (if (a1.length : Int) < (a2.length : Int) then some (-1) else some 0)
set_option maxHeartbeats 4000000 in
set_option maxRecDepth 100000 in
theorem spec_odCmp_p2_ct {a1 : Rw} {a2 : Rw} {r : Int} (h : spec_odCmp_p2 a1 a2 = some r) : X prog 0 (tlF f162 2) (mk 60 [(2, .ptr 128 0), (3, .ptr 192 0)] [(128, .box 26 [.d (D.sl a1)]), (192, .box 26 [.d (D.sl a2)])]) (finK prog f162 0 (.d (D.int .i64 r)) (⟨[], []⟩)) := by
  rw [spec_odCmp_p2] at h
  conv => whnf
  refine splD (fun g37 => ?_) (fun g37 => ?_)
  · replace h := iteP h g37
    conv => whnf
    cases h
    exact Done.of [] [] rfl rfl ⟨⟨rfl, rfl⟩, ⟨rfl, trivial⟩, rfl, trivial⟩
  · replace h := iteN h g37
    conv => whnf
    cases h
    exact Done.of [] [] rfl rfl ⟨⟨rfl, rfl⟩, ⟨rfl, trivial⟩, rfl, trivial⟩
def spec_odCmp_l0 (rec_spec_odCmp : Rw → Rw → Option Int) (a1 : Rw) (a2 : Rw) (K0 : Option Int) : Rw → Nat → Option Int
  | [], v54n => (K0)
  | cs :: rest, v54n => (cell_si cs fun x71 x72 => (if (v54n : Int) = (a2.length : Int) then some 1 else (row_si a2 (v54n : Int) fun x75 x76 => ((rec_spec_odCmp x71 x75).bind fun y79 => (if y79 = (0 : Int) then (if x72 = x76 then (spec_odCmp_l0 rec_spec_odCmp a1 a2 K0 rest (v54n + 1)) else ((spec_l1Sign (IntKind.i64.wrap (x72 - x76))).bind fun y83 => some y83)) else some y79)))))
set_option maxRecDepth 100000 in
theorem spec_odCmp_l0_ct {rec_spec_odCmp : Rw → Rw → Option Int} {a1 : Rw} {a2 : Rw} {K0 : Option Int} (hrec_spec_odCmp : ∀ (a1 : Rw) (a2 : Rw) (r : Int), rec_spec_odCmp a1 a2 = some r → Ct prog 162 [.agg [.d (D.sl a1)], .agg [.d (D.sl a2)]] (⟨[], []⟩) (.d (D.int .i64 r)) (⟨[], []⟩)) {r : Int} (hx : a1.length ≤ cap) : ∀ (rest : Rw) (v54n : Nat), a1.drop v54n = rest → spec_odCmp_l0 rec_spec_odCmp a1 a2 K0 rest v54n = some r → LoopOk prog 0 (lp f162 0) (mk 60 [(2, .ptr 128 0), (3, .ptr 192 0), (9, .d (D.sl a1)), (10, .d (D.int .i64 (a1.length : Int))), (11, .d (D.int .i64 (v54n : Int)))] [(128, .box 26 [.d (D.sl a1)]), (192, .box 26 [.d (D.sl a2)])]) (LoopEnd prog f162 0 60 (.d (D.int .i64 r)) (⟨[], []⟩) (fun i ts os => (i = 0 ∧ K0 = some r ∧ ts = [(2, .ptr 128 0), (3, .ptr 192 0)] ∧ os = [(128, .box 26 [.d (D.sl a1)]), (192, .box 26 [.d (D.sl a2)])])))
  | [], v54n, hd, h => by
      rw [spec_odCmp_l0] at h
      have hn := drop_nil hd
      refine LoopOk.step ?_
      conv => whnf
      refine splD (fun g => absurd g hn) (fun _ => ?_)
      conv => whnf
      exact ⟨_, _, [some 128, some 192], [], ⟨rfl, h, rfl, rfl⟩, ⟨⟨rfl, rfl⟩, ⟨rfl, ⟨rfl, rfl, trivial⟩, ⟨rfl, rfl, trivial⟩, trivial⟩, ⟨rfl, rfl⟩, ⟨rfl, rfl⟩, trivial⟩⟩
  | cs :: rest, v54n, hd, h => by
      rw [spec_odCmp_l0] at h
      obtain ⟨hrow, hd1, hlt⟩ := drop_cons hd
      refine LoopOk.step ?_
      conv => whnf
      refine splD (fun _ => ?_) (fun g => absurd hlt g)
      conv => whnf
      obtain ⟨x71, x72, e73, h⟩ := cell_si_ex h
      rw [e73] at hrow
      refine Req.of (Int.natCast_nonneg _) ?_
      refine Row.of _ hrow ?_
      conv => whnf
      refine splD (fun g74 => ?_) (fun g74 => ?_)
      · replace h := iteP h g74
        conv => whnf
        cases h
        exact Done.of [] [] rfl rfl ⟨⟨rfl, rfl⟩, ⟨rfl, trivial⟩, rfl, trivial⟩
      · replace h := iteN h g74
        conv => whnf
        obtain ⟨g78, x75, x76, e77, h⟩ := row_si_ex h
        refine Req.of g78 ?_
        refine Row.of _ e77 ?_
        conv => whnf
        obtain ⟨y79, e80, h⟩ := bind_ex h
        refine CallOk.of (hrec_spec_odCmp _ _ _ e80) ?_
        conv => whnf
        refine CutK.norm [2, 3, 5, 6, 7, 9, 10, 11] [128, 192, 384] ?_
        conv => whnf
        refine splN (fun g81 => ?_) (fun g81 => ?_)
        · replace h := iteN h g81
          conv => whnf
          cases h
          exact Done.of [] [] rfl rfl ⟨⟨rfl, rfl⟩, ⟨rfl, trivial⟩, rfl, trivial⟩
        · replace h := iteP h g81
          conv => whnf
          refine CutK.norm [2, 3, 5, 6, 9, 10, 11] [128, 192, 384] ?_
          conv => whnf
          refine Req.of g78 ?_
          refine Row.of _ e77 ?_
          conv => whnf
          refine splN (fun g82 => ?_) (fun g82 => ?_)
          · replace h := iteN h g82
            conv => whnf
            refine Req.of g78 ?_
            refine Row.of _ e77 ?_
            conv => whnf
            obtain ⟨y83, e84, h⟩ := bind_ex h
            refine CallOk.of (spec_l1Sign_ct e84) ?_
            conv => whnf
            refine CutK.norm [4] [] ?_
            conv => whnf
            cases h
            exact Done.of [] [] rfl rfl ⟨⟨rfl, rfl⟩, ⟨rfl, trivial⟩, rfl, trivial⟩
          · replace h := iteP h g82
            conv => whnf
            refine CutK.norm [2, 3, 9, 10, 11] [128, 192] ?_
            conv => whnf
            exact LoopOk.back (spec_odCmp_l0_ct hrec_spec_odCmp hx rest (v54n + 1)  hd1 h) [some 128, some 192] [] ⟨⟨rfl, rfl⟩, ⟨rfl, ⟨rfl, rfl, trivial⟩, ⟨rfl, rfl, trivial⟩, trivial⟩, ⟨rfl, rfl⟩, ⟨rfl, rfl⟩, rfl, rfl, i64eq (wrap_up hlt hx), trivial⟩
def spec_odCmp_b (rec_spec_odCmp : Rw → Rw → Option Int) (a1 : Rw) (a2 : Rw) : Option Int :=
  (if a1.length ≤ cap then (spec_odCmp_l0 rec_spec_odCmp a1 a2 (spec_odCmp_p2 a1 a2) a1 0) else none)
set_option maxHeartbeats 4000000 in
set_option maxRecDepth 100000 in
theorem spec_odCmp_b_ct {rec_spec_odCmp : Rw → Rw → Option Int} (hrec_spec_odCmp : ∀ (a1 : Rw) (a2 : Rw) (r : Int), rec_spec_odCmp a1 a2 = some r → Ct prog 162 [.agg [.d (D.sl a1)], .agg [.d (D.sl a2)]] (⟨[], []⟩) (.d (D.int .i64 r)) (⟨[], []⟩)) {a1 : Rw} {a2 : Rw} {r : Int} (h : spec_odCmp_b rec_spec_odCmp a1 a2 = some r) : Ct prog 162 [.agg [.d (D.sl a1)], .agg [.d (D.sl a2)]] (⟨[], []⟩) (.d (D.int .i64 r)) (⟨[], []⟩) := by
  rw [spec_odCmp_b] at h
  refine Ct.of (c := _) mixed func162 ⟨rfl, rfl, rfl⟩ ?_ rfl
  conv => whnf
  obtain ⟨g85, h⟩ := req_ex h
  refine LoopOk.into (spec_odCmp_l0_ct hrec_spec_odCmp g85 _ _  rfl h) [some 128, some 192] [] ⟨⟨rfl, rfl⟩, ⟨rfl, ⟨rfl, rfl, trivial⟩, ⟨rfl, rfl, trivial⟩, trivial⟩, ⟨rfl, rfl⟩, ⟨rfl, rfl⟩, rfl, rfl, rfl, trivial⟩ ?_ (fun _ hs => hs)
  rintro i ts os ⟨rfl, h, rfl, rfl⟩
  conv => whnf
  exact CutK.piece (spec_odCmp_p2_ct  h) [some 128, some 192] [] ⟨⟨rfl, rfl⟩, ⟨rfl, ⟨rfl, rfl, trivial⟩, ⟨rfl, rfl, trivial⟩, trivial⟩, ⟨rfl, rfl⟩, ⟨rfl, rfl⟩, trivial⟩
def spec_odCmp : Nat → Rw → Rw → Option Int
  | 0, _, _ => none
  | k + 1, a1, a2 => spec_odCmp_b (spec_odCmp k) a1 a2
theorem spec_odCmp_ct' : ∀ (k : Nat) (a1 : Rw) (a2 : Rw) (r : Int), spec_odCmp k a1 a2 = some r → Ct prog 162 [.agg [.d (D.sl a1)], .agg [.d (D.sl a2)]] (⟨[], []⟩) (.d (D.int .i64 r)) (⟨[], []⟩)
  | 0, _, _, _, h => by rw [spec_odCmp] at h; cases h
  | k + 1, _, _, _, h => by rw [spec_odCmp] at h; exact spec_odCmp_b_ct (spec_odCmp_ct' k) h
theorem spec_odCmp_ct {k : Nat} {a1 : Rw} {a2 : Rw} {r : Int} (h : spec_odCmp k a1 a2 = some r) : Ct prog 162 [.agg [.d (D.sl a1)], .agg [.d (D.sl a2)]] (⟨[], []⟩) (.d (D.int .i64 r)) (⟨[], []⟩) := spec_odCmp_ct' k _ _ _ h

def spec_odMeet_p4 (a2 : Rw) (a3 : Int) (o61 : Rw) (v62 : Bool) : Option Rw :=
  (cond v62 (some o61) (if o61.length + 1 ≤ cap then some (o61 ++ ([[D.sl a2, D.int .i64 a3]])) else none))
set_option maxHeartbeats 4000000 in
set_option maxRecDepth 100000 in
theorem spec_odMeet_p4_ct {a2 : Rw} {a3 : Int} {o61 : Rw} {v62 : Bool} {r : Rw} (h : spec_odMeet_p4 a2 a3 o61 v62 = some r) : X prog 0 (tlF f150 4) (mk 66 [(3, .ptr 192 0), (4, .ptr 256 0), (5, .ptr 320 0), (6, .d (D.bool v62))] [(192, .box 104 [.d (D.sl a2), .d (D.int .i64 a3)]), (256, .box 26 [.es]), (320, .box 26 [.os 1084000 o61.length]), (1084000, .arr 104 false o61)]) (finK prog f150 0 (.agg [.os 8 r.length]) (⟨[], [(104, false, r)]⟩)) := by
  rw [spec_odMeet_p4] at h
  cases v62
  · replace h := condF h
    conv => whnf
    refine Take.all (rfl) ?_
    conv => whnf
    refine Take.all (by first | rfl | exact List.length_append.symm | (simp; done) | omega) ?_
    conv => whnf
    obtain ⟨g64, h⟩ := req_ex h
    refine Req.of (room (b := 32) (by decide) g64 (wide1 rfl wide0)) ?_
    conv => whnf
    cases h
    exact Done.of [some 4032] [] rfl rfl ⟨⟨rfl, rfl⟩, ⟨rfl, ⟨rfl, rfl, rows_same⟩, trivial⟩, ⟨⟨(by first | rfl | exact List.length_append.symm | (simp; done) | omega), rfl⟩, trivial⟩, trivial⟩
  · replace h := condT h
    conv => whnf
    cases h
    exact Done.of [some 1084000] [] rfl rfl ⟨⟨rfl, rfl⟩, ⟨rfl, ⟨rfl, rfl, rows_same⟩, trivial⟩, ⟨⟨rfl, rfl⟩, trivial⟩, trivial⟩
def spec_odMeet_l0 (k : Nat) (a1 : Rw) (a2 : Rw) (a3 : Int) (K0 : Rw → Bool → Option Rw) : Rw → Bool → Rw → Option Rw
  | [], v74, v76 => (cond v74 (K0 v76 true) (K0 v76 false))
  | cs :: rest, v74, v76 => (cond v74 (cell_si cs fun x133 x134 => ((spec_odCmp k x133 a2).bind fun y136 => (if v76.length + 1 ≤ cap then (spec_odMeet_l0 k a1 a2 a3 K0 rest true (v76 ++ ([[D.sl x133, D.int .i64 x134]]))) else none))) (cell_si cs fun x122 x123 => ((spec_odCmp k x122 a2).bind fun y125 => (if y125 ≤ (0 : Int) then (if y125 = (0 : Int) then (if v76.length + 1 ≤ cap then (spec_odMeet_l0 k a1 a2 a3 K0 rest true (v76 ++ ([[D.sl a2, D.int .i64 (IntKind.i64.wrap (a3 + x123))]]))) else none) else (if v76.length + 1 ≤ cap then (if (v76 ++ ([[D.sl a2, D.int .i64 a3]])).length + 1 ≤ cap then (spec_odMeet_l0 k a1 a2 a3 K0 rest true ((v76 ++ ([[D.sl a2, D.int .i64 a3]])) ++ ([[D.sl x122, D.int .i64 x123]]))) else none) else none)) else (if v76.length + 1 ≤ cap then (spec_odMeet_l0 k a1 a2 a3 K0 rest false (v76 ++ ([[D.sl x122, D.int .i64 x123]]))) else none)))))
set_option maxRecDepth 100000 in
theorem spec_odMeet_l0_ct {k : Nat} {a1 : Rw} {a2 : Rw} {a3 : Int} {K0 : Rw → Bool → Option Rw} {r : Rw} (hx : a1.length ≤ cap) : ∀ (rest : Rw) (v75n : Nat) (v74 : Bool) (v76 : Rw), a1.drop v75n = rest → spec_odMeet_l0 k a1 a2 a3 K0 rest v74 v76 = some r → LoopOk prog 0 (lp f150 0) (mk 66 [(3, .ptr 192 0), (4, .ptr 256 0), (5, .ptr 320 0), (6, .d (D.bool v74)), (12, .d (D.sl a1)), (13, .d (D.int .i64 (a1.length : Int))), (14, .d (D.int .i64 (v75n : Int)))] [(192, .box 104 [.d (D.sl a2), .d (D.int .i64 a3)]), (256, .box 26 [.es]), (320, .box 26 [.os 64000 v76.length]), (64000, .arr 104 false v76)]) (LoopEnd prog f150 0 66 (.agg [.os 8 r.length]) (⟨[], [(104, false, r)]⟩) (fun i ts os => (i = 0 ∧ ∃ v91 : Rw, ∃ v100 : Bool, K0 v91 v100 = some r ∧ ts = [(3, .ptr 192 0), (4, .ptr 256 0), (5, .ptr 320 0), (6, .d (D.bool v100))] ∧ os = [(192, .box 104 [.d (D.sl a2), .d (D.int .i64 a3)]), (256, .box 26 [.es]), (320, .box 26 [.os 67001 v91.length]), (67001, .arr 104 false v91)])))
  | [], v75n, v74, v76, hd, h => by
      rw [spec_odMeet_l0] at h
      have hn := drop_nil hd
      cases v74
      · replace h := condF h
        refine LoopOk.step ?_
        conv => whnf
        refine splD (fun g => absurd g hn) (fun _ => ?_)
        conv => whnf
        exact ⟨_, _, [some 192, some 256, some 320, some 64000], [], ⟨rfl, _, _, h, rfl, rfl⟩, ⟨⟨rfl, rfl⟩, ⟨rfl, ⟨rfl, rfl, rfl, trivial⟩, ⟨rfl, trivial, trivial⟩, ⟨rfl, ⟨rfl, rfl⟩, trivial⟩, ⟨rfl, rfl, rows_same⟩, trivial⟩, ⟨rfl, rfl⟩, ⟨rfl, rfl⟩, ⟨rfl, rfl⟩, rfl, trivial⟩⟩
      · replace h := condT h
        refine LoopOk.step ?_
        conv => whnf
        refine splD (fun g => absurd g hn) (fun _ => ?_)
        conv => whnf
        exact ⟨_, _, [some 192, some 256, some 320, some 64000], [], ⟨rfl, _, _, h, rfl, rfl⟩, ⟨⟨rfl, rfl⟩, ⟨rfl, ⟨rfl, rfl, rfl, trivial⟩, ⟨rfl, trivial, trivial⟩, ⟨rfl, ⟨rfl, rfl⟩, trivial⟩, ⟨rfl, rfl, rows_same⟩, trivial⟩, ⟨rfl, rfl⟩, ⟨rfl, rfl⟩, ⟨rfl, rfl⟩, rfl, trivial⟩⟩
  | cs :: rest, v75n, v74, v76, hd, h => by
      rw [spec_odMeet_l0] at h
      obtain ⟨hrow, hd1, hlt⟩ := drop_cons hd
      cases v74
      · replace h := condF h
        refine LoopOk.step ?_
        conv => whnf
        refine splD (fun _ => ?_) (fun g => absurd hlt g)
        conv => whnf
        obtain ⟨x122, x123, e124, h⟩ := cell_si_ex h
        rw [e124] at hrow
        refine Req.of (Int.natCast_nonneg _) ?_
        refine Row.of _ hrow ?_
        conv => whnf
        obtain ⟨y125, e126, h⟩ := bind_ex h
        refine CallOk.of (spec_odCmp_ct e126) ?_
        conv => whnf
        refine CutK.norm [3, 4, 5, 6, 8, 9, 12, 13, 14] [192, 256, 320, 512, 64000] ?_
        conv => whnf
        refine splD (fun g127 => ?_) (fun g127 => ?_)
        · replace h := iteP h g127
          conv => whnf
          refine splD (fun g128 => ?_) (fun g128 => ?_)
          · replace h := iteP h g128
            conv => whnf
            refine Take.all (rfl) ?_
            conv => whnf
            refine Take.all (by first | rfl | exact List.length_append.symm | (simp; done) | omega) ?_
            conv => whnf
            obtain ⟨g129, h⟩ := req_ex h
            refine Req.of (room (b := 32) (by decide) g129 (wide1 rfl wide0)) ?_
            conv => whnf
            refine CutK.norm [3, 4, 5, 6, 12, 13, 14] [192, 256, 320, 2688] ?_
            conv => whnf
            exact LoopOk.back (spec_odMeet_l0_ct hx rest (v75n + 1) _ _ hd1 h) [some 192, some 256, some 320, some 2688] [] ⟨⟨rfl, rfl⟩, ⟨rfl, ⟨rfl, rfl, rfl, trivial⟩, ⟨rfl, trivial, trivial⟩, ⟨rfl, ⟨(by first | rfl | exact List.length_append.symm | (simp; done) | omega), rfl⟩, trivial⟩, ⟨rfl, rfl, rows_same⟩, trivial⟩, ⟨rfl, rfl⟩, ⟨rfl, rfl⟩, ⟨rfl, rfl⟩, rfl, rfl, rfl, i64eq (wrap_up hlt hx), trivial⟩
          · replace h := iteN h g128
            conv => whnf
            refine Take.all (rfl) ?_
            conv => whnf
            refine Take.all (by first | rfl | exact List.length_append.symm | (simp; done) | omega) ?_
            conv => whnf
            obtain ⟨g130, h⟩ := req_ex h
            refine Req.of (room (b := 32) (by decide) g130 (wide1 rfl wide0)) ?_
            conv => whnf
            refine CutK.norm [3, 4, 5, 6, 8, 12, 13, 14] [192, 256, 320, 512, 3072] ?_
            conv => whnf
            refine Take.all (by first | rfl | exact List.length_append.symm | (simp; done) | omega) ?_
            conv => whnf
            refine Take.all (by first | rfl | exact List.length_append.symm | (simp; done) | omega) ?_
            conv => whnf
            obtain ⟨g131, h⟩ := req_ex h
            refine Req.of (room (b := 32) (by decide) g131 (wide1 rfl wide0)) ?_
            conv => whnf
            refine CutK.norm [3, 4, 5, 6, 12, 13, 14] [192, 256, 320, 3456] ?_
            conv => whnf
            exact LoopOk.back (spec_odMeet_l0_ct hx rest (v75n + 1) _ _ hd1 h) [some 192, some 256, some 320, some 3456] [] ⟨⟨rfl, rfl⟩, ⟨rfl, ⟨rfl, rfl, rfl, trivial⟩, ⟨rfl, trivial, trivial⟩, ⟨rfl, ⟨(by first | rfl | exact List.length_append.symm | (simp; done) | omega), rfl⟩, trivial⟩, ⟨rfl, rfl, rows_same⟩, trivial⟩, ⟨rfl, rfl⟩, ⟨rfl, rfl⟩, ⟨rfl, rfl⟩, rfl, rfl, rfl, i64eq (wrap_up hlt hx), trivial⟩
        · replace h := iteN h g127
          conv => whnf
          refine CutK.norm [3, 4, 5, 6, 8, 12, 13, 14] [192, 256, 320, 512, 64000] ?_
          conv => whnf
          refine Take.all (rfl) ?_
          conv => whnf
          refine Take.all (by first | rfl | exact List.length_append.symm | (simp; done) | omega) ?_
          conv => whnf
          obtain ⟨g132, h⟩ := req_ex h
          refine Req.of (room (b := 32) (by decide) g132 (wide1 rfl wide0)) ?_
          conv => whnf
          refine CutK.norm [3, 4, 5, 6, 12, 13, 14] [192, 256, 320, 3456] ?_
          conv => whnf
          exact LoopOk.back (spec_odMeet_l0_ct hx rest (v75n + 1) _ _ hd1 h) [some 192, some 256, some 320, some 3456] [] ⟨⟨rfl, rfl⟩, ⟨rfl, ⟨rfl, rfl, rfl, trivial⟩, ⟨rfl, trivial, trivial⟩, ⟨rfl, ⟨(by first | rfl | exact List.length_append.symm | (simp; done) | omega), rfl⟩, trivial⟩, ⟨rfl, rfl, rows_same⟩, trivial⟩, ⟨rfl, rfl⟩, ⟨rfl, rfl⟩, ⟨rfl, rfl⟩, rfl, rfl, rfl, i64eq (wrap_up hlt hx), trivial⟩
      · replace h := condT h
        refine LoopOk.step ?_
        conv => whnf
        refine splD (fun _ => ?_) (fun g => absurd hlt g)
        conv => whnf
        obtain ⟨x133, x134, e135, h⟩ := cell_si_ex h
        rw [e135] at hrow
        refine Req.of (Int.natCast_nonneg _) ?_
        refine Row.of _ hrow ?_
        conv => whnf
        obtain ⟨y136, e137, h⟩ := bind_ex h
        refine CallOk.of (spec_odCmp_ct e137) ?_
        conv => whnf
        refine CutK.norm [3, 4, 5, 6, 8, 9, 12, 13, 14] [192, 256, 320, 512, 64000] ?_
        conv => whnf
        refine CutK.norm [3, 4, 5, 6, 8, 12, 13, 14] [192, 256, 320, 512, 64000] ?_
        conv => whnf
        refine Take.all (rfl) ?_
        conv => whnf
        refine Take.all (by first | rfl | exact List.length_append.symm | (simp; done) | omega) ?_
        conv => whnf
        obtain ⟨g138, h⟩ := req_ex h
        refine Req.of (room (b := 32) (by decide) g138 (wide1 rfl wide0)) ?_
        conv => whnf
        refine CutK.norm [3, 4, 5, 6, 12, 13, 14] [192, 256, 320, 3456] ?_
        conv => whnf
        exact LoopOk.back (spec_odMeet_l0_ct hx rest (v75n + 1) _ _ hd1 h) [some 192, some 256, some 320, some 3456] [] ⟨⟨rfl, rfl⟩, ⟨rfl, ⟨rfl, rfl, rfl, trivial⟩, ⟨rfl, trivial, trivial⟩, ⟨rfl, ⟨(by first | rfl | exact List.length_append.symm | (simp; done) | omega), rfl⟩, trivial⟩, ⟨rfl, rfl, rows_same⟩, trivial⟩, ⟨rfl, rfl⟩, ⟨rfl, rfl⟩, ⟨rfl, rfl⟩, rfl, rfl, rfl, i64eq (wrap_up hlt hx), trivial⟩
def spec_odMeet (k : Nat) (a1 : Rw) (a2 : Rw) (a3 : Int) : Option Rw :=
  (if a1.length ≤ cap then (spec_odMeet_l0 k a1 a2 a3 (fun (v91 : Rw) (v100 : Bool) => (cond v100 (spec_odMeet_p4 a2 a3 v91 true) (spec_odMeet_p4 a2 a3 v91 false))) a1 false ([] : Rw)) else none)
set_option maxHeartbeats 4000000 in
set_option maxRecDepth 100000 in
theorem spec_odMeet_ct {k : Nat} {a1 : Rw} {a2 : Rw} {a3 : Int} {r : Rw} (h : spec_odMeet k a1 a2 a3 = some r) : Ct prog 150 [.agg [.d (D.sl a1)], .agg [.d (D.sl a2), .d (D.int .i64 a3)]] (⟨[], []⟩) (.agg [.os 8 r.length]) (⟨[], [(104, false, r)]⟩) := by
  rw [spec_odMeet] at h
  refine Ct.of (c := _) mixed func150 ⟨rfl, rfl, rfl⟩ ?_ rfl
  conv => whnf
  obtain ⟨g139, h⟩ := req_ex h
  refine LoopOk.into (spec_odMeet_l0_ct  g139 _ _ _ _ rfl h) [some 192, some 256, some 320, none] [] ⟨⟨rfl, rfl⟩, ⟨rfl, ⟨rfl, rfl, rfl, trivial⟩, ⟨rfl, trivial, trivial⟩, ⟨rfl, ⟨rfl, rfl⟩, trivial⟩, rfl, trivial⟩, ⟨rfl, rfl⟩, ⟨rfl, rfl⟩, ⟨rfl, rfl⟩, rfl, rfl, rfl, rfl, trivial⟩ ?_ (fun _ hs => hs)
  rintro i ts os ⟨rfl, v91, v100, h, rfl, rfl⟩
  cases v100
  · replace h := condF h
    conv => whnf
    exact CutK.piece (spec_odMeet_p4_ct  h) [some 192, some 256, some 320, some 67001] [] ⟨⟨rfl, rfl⟩, ⟨rfl, ⟨rfl, rfl, rfl, trivial⟩, ⟨rfl, trivial, trivial⟩, ⟨rfl, ⟨rfl, rfl⟩, trivial⟩, ⟨rfl, rfl, rows_same⟩, trivial⟩, ⟨rfl, rfl⟩, ⟨rfl, rfl⟩, ⟨rfl, rfl⟩, rfl, trivial⟩
  · replace h := condT h
    conv => whnf
    exact CutK.piece (spec_odMeet_p4_ct  h) [some 192, some 256, some 320, some 67001] [] ⟨⟨rfl, rfl⟩, ⟨rfl, ⟨rfl, rfl, rfl, trivial⟩, ⟨rfl, trivial, trivial⟩, ⟨rfl, ⟨rfl, rfl⟩, trivial⟩, ⟨rfl, rfl, rows_same⟩, trivial⟩, ⟨rfl, rfl⟩, ⟨rfl, rfl⟩, ⟨rfl, rfl⟩, rfl, trivial⟩

def spec_l1Cur_ordinal_l0 (k : Nat) (rec_spec_l1Cur_ordinal : Rw → Int → Int → Int → Option (Rw × Rw × Int × Int)) (a4 : Int) (K0 : Rw → Int → Int → Rw → Option (Rw × Rw × Int × Int)) : Nat → Int → Rw → Int → Int → Rw → Option (Rw × Rw × Int × Int)
  | 0, _, _, _, _, _ => none
  | n + 1, v28, v29, v30, v31, v32 => (if (0 : Int) < v28 then ((spec_l1Cur_pick v29 v30 v31 3).bind fun y76 => ((spec_odInt y76.1).bind fun y78 => ((spec_l1Cur_pick y76.2.1 y76.2.2.1 y76.2.2.2 1000).bind fun y80 => ((spec_l1Cur_among y80.2.1 y80.2.2.1 y80.2.2.2 ([[D.int .i64 1], [D.int .i64 1], [D.int .i64 2], [D.int .i64 3], [D.int .i64 (IntKind.i64.wrap (1 + y80.1))]] : Rw)).bind fun y82 => ((spec_l1Cur_one y82.2.1 y82.2.2.1 y82.2.2.2 3).bind fun y84 => (if y84.1 = true then ((rec_spec_l1Cur_ordinal y84.2.1 y84.2.2.1 y84.2.2.2 (IntKind.i64.wrap (a4 - 1))).bind fun y87 => ((spec_odMeet k v32 y87.1 y82.1).bind fun y89 => (spec_l1Cur_ordinal_l0 k rec_spec_l1Cur_ordinal a4 K0 n (IntKind.i64.wrap (v28 - 1)) y87.2.1 y87.2.2.1 y87.2.2.2 y89))) else ((spec_odMeet k v32 y78 y82.1).bind fun y91 => (spec_l1Cur_ordinal_l0 k rec_spec_l1Cur_ordinal a4 K0 n (IntKind.i64.wrap (v28 - 1)) y84.2.1 y84.2.2.1 y84.2.2.2 y91)))))))) else (K0 v29 v30 v31 v32))
set_option maxRecDepth 100000 in
theorem spec_l1Cur_ordinal_l0_ct {k : Nat} {rec_spec_l1Cur_ordinal : Rw → Int → Int → Int → Option (Rw × Rw × Int × Int)} {a4 : Int} {K0 : Rw → Int → Int → Rw → Option (Rw × Rw × Int × Int)} (hrec_spec_l1Cur_ordinal : ∀ (a1 : Rw) (a2 : Int) (a3 : Int) (a4 : Int) (r : Rw × Rw × Int × Int), rec_spec_l1Cur_ordinal a1 a2 a3 a4 = some r → Ct prog 95 [.ptr 0 0, .d (D.int .i64 a4)] (⟨[(91, [.d (D.sl a1), .d (D.int .i64 a2), .d (D.int .u64 a3)])], []⟩) (.agg [.os 8 r.1.length]) (⟨[(91, [.d (D.sl r.2.1), .d (D.int .i64 r.2.2.1), .d (D.int .u64 r.2.2.2)])], [(104, false, r.1)]⟩)) {r : Rw × Rw × Int × Int} : ∀ (n : Nat) (v28 : Int) (v29 : Rw) (v30 : Int) (v31 : Int) (v32 : Rw), spec_l1Cur_ordinal_l0 k rec_spec_l1Cur_ordinal a4 K0 n v28 v29 v30 v31 v32 = some r → LoopOk prog 1 (lp f95 0) (mk 42 [(0, .ptr 0 0), (1, .d (D.int .i64 a4)), (4, .ptr 256 0), (5, .ptr 320 0), (6, .d (D.int .i64 v28))] [(0, .box 91 [.d (D.sl v29), .d (D.int .i64 v30), .d (D.int .u64 v31)]), (256, .box 26 [.es]), (320, .box 26 [.os 64000 v32.length]), (64000, .arr 104 false v32)]) (LoopEnd prog f95 1 42 (.agg [.os 8 r.1.length]) (⟨[(91, [.d (D.sl r.2.1), .d (D.int .i64 r.2.2.1), .d (D.int .u64 r.2.2.2)])], [(104, false, r.1)]⟩) (fun i ts os => (i = 0 ∧ ∃ v53 : Rw, ∃ v54 : Int, ∃ v55 : Int, ∃ v56 : Rw, K0 v53 v54 v55 v56 = some r ∧ ts = [(4, .ptr 256 0), (5, .ptr 320 0)] ∧ os = [(0, .box 91 [.d (D.sl v53), .d (D.int .i64 v54), .d (D.int .u64 v55)]), (256, .box 26 [.es]), (320, .box 26 [.os 67001 v56.length]), (67001, .arr 104 false v56)])))
  | 0, _, _, _, _, _, h => by
      rw [spec_l1Cur_ordinal_l0] at h; cases h
  | n + 1, v28, v29, v30, v31, v32, h => by
      rw [spec_l1Cur_ordinal_l0] at h
      refine LoopOk.step ?_
      conv => whnf
      refine splD (fun g75 => ?_) (fun g75 => ?_)
      · replace h := iteP h g75
        conv => whnf
        obtain ⟨y76, e77, h⟩ := bind_ex h
        refine CallOk.of (spec_l1Cur_pick_ct e77) ?_
        conv => whnf
        obtain ⟨y78, e79, h⟩ := bind_ex h
        refine CallOk.of (spec_odInt_ct e79) ?_
        conv => whnf
        obtain ⟨y80, e81, h⟩ := bind_ex h
        refine CallOk.of (spec_l1Cur_pick_ct e81) ?_
        conv => whnf
        refine Take.all (by first | rfl | exact List.length_append.symm | (simp; done) | omega) ?_
        conv => whnf
        obtain ⟨y82, e83, h⟩ := bind_ex h
        refine CallOk.of (spec_l1Cur_among_ct e83) ?_
        conv => whnf
        refine CutK.norm [0, 1, 4, 5, 6, 7] [0, 256, 320, 448, 1472, 64000] ?_
        conv => whnf
        obtain ⟨y84, e85, h⟩ := bind_ex h
        refine CallOk.of (spec_l1Cur_one_ct e85) ?_
        conv => whnf
        refine spl (fun g86 => ?_) (fun g86 => ?_)
        · replace h := iteT h g86
          conv => whnf
          refine CutK.norm [0, 1, 4, 5, 6, 7, 32] [0, 256, 320, 448, 1472, 64000] ?_
          conv => whnf
          obtain ⟨y87, e88, h⟩ := bind_ex h
          refine CallOk.of (hrec_spec_l1Cur_ordinal _ _ _ _ _ e88) ?_
          conv => whnf
          refine CutK.norm [0, 1, 4, 5, 6, 7] [0, 256, 320, 448, 2304, 64000] ?_
          conv => whnf
          refine Take.all (rfl) ?_
          conv => whnf
          refine Take.all (rfl) ?_
          conv => whnf
          obtain ⟨y89, e90, h⟩ := bind_ex h
          refine CallOk.of (spec_odMeet_ct e90) ?_
          conv => whnf
          refine CutK.norm [0, 1, 4, 5, 6] [0, 256, 320, 2560] ?_
          conv => whnf
          exact LoopOk.back (spec_l1Cur_ordinal_l0_ct hrec_spec_l1Cur_ordinal n _ _ _ _ _ h) [some 0, some 256, some 320, some 2560] [] ⟨⟨rfl, rfl⟩, ⟨rfl, ⟨rfl, rfl, rfl, rfl, trivial⟩, ⟨rfl, trivial, trivial⟩, ⟨rfl, ⟨rfl, rfl⟩, trivial⟩, ⟨rfl, rfl, rows_same⟩, trivial⟩, ⟨rfl, rfl⟩, rfl, ⟨rfl, rfl⟩, ⟨rfl, rfl⟩, rfl, trivial⟩
        · replace h := iteF h g86
          conv => whnf
          refine CutK.norm [0, 1, 4, 5, 6, 7, 32] [0, 256, 320, 448, 1472, 64000] ?_
          conv => whnf
          refine CutK.norm [0, 1, 4, 5, 6, 7] [0, 256, 320, 448, 1472, 64000] ?_
          conv => whnf
          refine Take.all (rfl) ?_
          conv => whnf
          refine Take.all (rfl) ?_
          conv => whnf
          obtain ⟨y91, e92, h⟩ := bind_ex h
          refine CallOk.of (spec_odMeet_ct e92) ?_
          conv => whnf
          refine CutK.norm [0, 1, 4, 5, 6] [0, 256, 320, 2560] ?_
          conv => whnf
          exact LoopOk.back (spec_l1Cur_ordinal_l0_ct hrec_spec_l1Cur_ordinal n _ _ _ _ _ h) [some 0, some 256, some 320, some 2560] [] ⟨⟨rfl, rfl⟩, ⟨rfl, ⟨rfl, rfl, rfl, rfl, trivial⟩, ⟨rfl, trivial, trivial⟩, ⟨rfl, ⟨rfl, rfl⟩, trivial⟩, ⟨rfl, rfl, rows_same⟩, trivial⟩, ⟨rfl, rfl⟩, rfl, ⟨rfl, rfl⟩, ⟨rfl, rfl⟩, rfl, trivial⟩
      · replace h := iteN h g75
        conv => whnf
        exact ⟨_, _, [some 0, some 256, some 320, some 64000], [], ⟨rfl, _, _, _, _, h, rfl, rfl⟩, ⟨⟨rfl, rfl⟩, ⟨rfl, ⟨rfl, rfl, rfl, rfl, trivial⟩, ⟨rfl, trivial, trivial⟩, ⟨rfl, ⟨rfl, rfl⟩, trivial⟩, ⟨rfl, rfl, rows_same⟩, trivial⟩, ⟨rfl, rfl⟩, ⟨rfl, rfl⟩, trivial⟩⟩
def spec_l1Cur_ordinal_b (k : Nat) (rec_spec_l1Cur_ordinal : Rw → Int → Int → Int → Option (Rw × Rw × Int × Int)) (a1 : Rw) (a2 : Int) (a3 : Int) (a4 : Int) : Option (Rw × Rw × Int × Int) :=
  (if a4 = (0 : Int) then ((spec_l1Cur_pick a1 a2 a3 4).bind fun y6 => ((spec_odInt y6.1).bind fun y8 => some (y8, y6.2.1, y6.2.2.1, y6.2.2.2))) else ((spec_l1Cur_among a1 a2 a3 ([[D.int .i64 0], [D.int .i64 1], [D.int .i64 1], [D.int .i64 2], [D.int .i64 2], [D.int .i64 3]] : Rw)).bind fun y10 => (spec_l1Cur_ordinal_l0 k rec_spec_l1Cur_ordinal a4 (fun (v53 : Rw) (v54 : Int) (v55 : Int) (v56 : Rw) => some (v56, v53, v54, v55)) k y10.1 y10.2.1 y10.2.2.1 y10.2.2.2 ([] : Rw))))
set_option maxHeartbeats 4000000 in
set_option maxRecDepth 100000 in
theorem spec_l1Cur_ordinal_b_ct {k : Nat} {rec_spec_l1Cur_ordinal : Rw → Int → Int → Int → Option (Rw × Rw × Int × Int)} (hrec_spec_l1Cur_ordinal : ∀ (a1 : Rw) (a2 : Int) (a3 : Int) (a4 : Int) (r : Rw × Rw × Int × Int), rec_spec_l1Cur_ordinal a1 a2 a3 a4 = some r → Ct prog 95 [.ptr 0 0, .d (D.int .i64 a4)] (⟨[(91, [.d (D.sl a1), .d (D.int .i64 a2), .d (D.int .u64 a3)])], []⟩) (.agg [.os 8 r.1.length]) (⟨[(91, [.d (D.sl r.2.1), .d (D.int .i64 r.2.2.1), .d (D.int .u64 r.2.2.2)])], [(104, false, r.1)]⟩)) {a1 : Rw} {a2 : Int} {a3 : Int} {a4 : Int} {r : Rw × Rw × Int × Int} (h : spec_l1Cur_ordinal_b k rec_spec_l1Cur_ordinal a1 a2 a3 a4 = some r) : Ct prog 95 [.ptr 0 0, .d (D.int .i64 a4)] (⟨[(91, [.d (D.sl a1), .d (D.int .i64 a2), .d (D.int .u64 a3)])], []⟩) (.agg [.os 8 r.1.length]) (⟨[(91, [.d (D.sl r.2.1), .d (D.int .i64 r.2.2.1), .d (D.int .u64 r.2.2.2)])], [(104, false, r.1)]⟩) := by
  rw [spec_l1Cur_ordinal_b] at h
  refine Ct.of (c := _) mixed func95 ⟨rfl, rfl, rfl⟩ ?_ rfl
  conv => whnf
  refine splD (fun g5 => ?_) (fun g5 => ?_)
  · replace h := iteP h g5
    conv => whnf
    obtain ⟨y6, e7, h⟩ := bind_ex h
    refine CallOk.of (spec_l1Cur_pick_ct e7) ?_
    conv => whnf
    obtain ⟨y8, e9, h⟩ := bind_ex h
    refine CallOk.of (spec_odInt_ct e9) ?_
    conv => whnf
    refine CutK.norm [4] [0, 256, 832] ?_
    conv => whnf
    cases h
    exact Done.of [some 0, some 832] [] rfl rfl ⟨⟨rfl, rfl⟩, ⟨rfl, ⟨rfl, rfl, rfl, rfl, trivial⟩, ⟨rfl, rfl, rows_same⟩, trivial⟩, ⟨⟨rfl, rfl⟩, trivial⟩, trivial⟩
  · replace h := iteN h g5
    conv => whnf
    refine CutK.norm [0, 1, 4, 5] [0, 256, 320] ?_
    conv => whnf
    refine Take.all (by first | rfl | exact List.length_append.symm | (simp; done) | omega) ?_
    conv => whnf
    obtain ⟨y10, e11, h⟩ := bind_ex h
    refine CallOk.of (spec_l1Cur_among_ct e11) ?_
    conv => whnf
    refine CutK.norm [0, 1, 4, 5, 6] [0, 256, 320] ?_
    conv => whnf
    refine LoopOk.into (spec_l1Cur_ordinal_l0_ct hrec_spec_l1Cur_ordinal _ _ _ _ _ _ h) [some 0, some 256, some 320, none] [] ⟨⟨rfl, rfl⟩, ⟨rfl, ⟨rfl, rfl, rfl, rfl, trivial⟩, ⟨rfl, trivial, trivial⟩, ⟨rfl, ⟨rfl, rfl⟩, trivial⟩, rfl, trivial⟩, ⟨rfl, rfl⟩, rfl, ⟨rfl, rfl⟩, ⟨rfl, rfl⟩, rfl, trivial⟩ ?_ (fun _ hs => hs)
    rintro i ts os ⟨rfl, v53, v54, v55, v56, h, rfl, rfl⟩
    conv => whnf
    refine CutK.norm [4, 5] [0, 256, 320, 67001] ?_
    conv => whnf
    cases h
    exact Done.of [some 0, some 67001] [] rfl rfl ⟨⟨rfl, rfl⟩, ⟨rfl, ⟨rfl, rfl, rfl, rfl, trivial⟩, ⟨rfl, rfl, rows_same⟩, trivial⟩, ⟨⟨rfl, rfl⟩, trivial⟩, trivial⟩
def spec_l1Cur_ordinal : Nat → Rw → Int → Int → Int → Option (Rw × Rw × Int × Int)
  | 0, _, _, _, _ => none
  | k + 1, a1, a2, a3, a4 => spec_l1Cur_ordinal_b k (spec_l1Cur_ordinal k) a1 a2 a3 a4
theorem spec_l1Cur_ordinal_ct' : ∀ (k : Nat) (a1 : Rw) (a2 : Int) (a3 : Int) (a4 : Int) (r : Rw × Rw × Int × Int), spec_l1Cur_ordinal k a1 a2 a3 a4 = some r → Ct prog 95 [.ptr 0 0, .d (D.int .i64 a4)] (⟨[(91, [.d (D.sl a1), .d (D.int .i64 a2), .d (D.int .u64 a3)])], []⟩) (.agg [.os 8 r.1.length]) (⟨[(91, [.d (D.sl r.2.1), .d (D.int .i64 r.2.2.1), .d (D.int .u64 r.2.2.2)])], [(104, false, r.1)]⟩)
  | 0, _, _, _, _, _, h => by rw [spec_l1Cur_ordinal] at h; cases h
  | k + 1, _, _, _, _, _, h => by rw [spec_l1Cur_ordinal] at h; exact spec_l1Cur_ordinal_b_ct (spec_l1Cur_ordinal_ct' k) h
theorem spec_l1Cur_ordinal_ct {k : Nat} {a1 : Rw} {a2 : Int} {a3 : Int} {a4 : Int} {r : Rw × Rw × Int × Int} (h : spec_l1Cur_ordinal k a1 a2 a3 a4 = some r) : Ct prog 95 [.ptr 0 0, .d (D.int .i64 a4)] (⟨[(91, [.d (D.sl a1), .d (D.int .i64 a2), .d (D.int .u64 a3)])], []⟩) (.agg [.os 8 r.1.length]) (⟨[(91, [.d (D.sl r.2.1), .d (D.int .i64 r.2.2.1), .d (D.int .u64 r.2.2.2)])], [(104, false, r.1)]⟩) := spec_l1Cur_ordinal_ct' k _ _ _ _ _ h

def spec_l1Cur_anyOrdinal_p4 (o25 : Rw) (o26 : Int) (o27 : Int) (o28 : Rw) : Option (Rw × Rw × Int × Int) :=
  some (o28, o25, o26, o27)
set_option maxHeartbeats 4000000 in
set_option maxRecDepth 100000 in
theorem spec_l1Cur_anyOrdinal_p4_ct {o25 : Rw} {o26 : Int} {o27 : Int} {o28 : Rw} {r : Rw × Rw × Int × Int} (h : spec_l1Cur_anyOrdinal_p4 o25 o26 o27 o28 = some r) : X prog 1 (tlF f69 4) (mk 59 [(2, .ptr 128 0), (3, .ptr 192 0)] [(0, .box 91 [.d (D.sl o25), .d (D.int .i64 o26), .d (D.int .u64 o27)]), (128, .box 26 [.es]), (192, .box 26 [.os 1084000 o28.length]), (1084000, .arr 104 false o28)]) (finK prog f69 1 (.agg [.os 8 r.1.length]) (⟨[(91, [.d (D.sl r.2.1), .d (D.int .i64 r.2.2.1), .d (D.int .u64 r.2.2.2)])], [(104, false, r.1)]⟩)) := by
  rw [spec_l1Cur_anyOrdinal_p4] at h
  conv => whnf
  cases h
  exact Done.of [some 0, some 1084000] [] rfl rfl ⟨⟨rfl, rfl⟩, ⟨rfl, ⟨rfl, rfl, rfl, rfl, trivial⟩, ⟨rfl, rfl, rows_same⟩, trivial⟩, ⟨⟨rfl, rfl⟩, trivial⟩, trivial⟩
def spec_l1Cur_anyOrdinal_l0 (y79 : Int × Rw × Int × Int) (K3 : Rw → Option (Rw × Rw × Int × Int)) : Nat → Int → Rw → Option (Rw × Rw × Int × Int)
  | 0, _, _ => none
  | n + 1, v84, v85 => (if (0 : Int) < v84 then ((spec_odTerm v85 1).bind fun y94 => (spec_l1Cur_anyOrdinal_l0 y79 K3 n (IntKind.i64.wrap (v84 - 1)) y94)) else (K3 v85))
set_option maxRecDepth 100000 in
theorem spec_l1Cur_anyOrdinal_l0_ct {y79 : Int × Rw × Int × Int} {K3 : Rw → Option (Rw × Rw × Int × Int)} {r : Rw × Rw × Int × Int} : ∀ (n : Nat) (v84 : Int) (v85 : Rw), spec_l1Cur_anyOrdinal_l0 y79 K3 n v84 v85 = some r → LoopOk prog 1 (lp f69 0) (mk 59 [(2, .ptr 128 0), (3, .ptr 192 0), (4, .d (D.int .i64 v84))] [(0, .box 91 [.d (D.sl y79.2.1), .d (D.int .i64 y79.2.2.1), .d (D.int .u64 y79.2.2.2)]), (128, .box 26 [.es]), (192, .box 26 [.os 64000 v85.length]), (64000, .arr 104 false v85)]) (LoopEnd prog f69 1 59 (.agg [.os 8 r.1.length]) (⟨[(91, [.d (D.sl r.2.1), .d (D.int .i64 r.2.2.1), .d (D.int .u64 r.2.2.2)])], [(104, false, r.1)]⟩) (fun i ts os => (i = 3 ∧ ∃ v89 : Rw, K3 v89 = some r ∧ ts = [(2, .ptr 128 0), (3, .ptr 192 0)] ∧ os = [(0, .box 91 [.d (D.sl y79.2.1), .d (D.int .i64 y79.2.2.1), .d (D.int .u64 y79.2.2.2)]), (128, .box 26 [.es]), (192, .box 26 [.os 67001 v89.length]), (67001, .arr 104 false v89)])))
  | 0, _, _, h => by
      rw [spec_l1Cur_anyOrdinal_l0] at h; cases h
  | n + 1, v84, v85, h => by
      rw [spec_l1Cur_anyOrdinal_l0] at h
      refine LoopOk.step ?_
      conv => whnf
      refine splD (fun g93 => ?_) (fun g93 => ?_)
      · replace h := iteP h g93
        conv => whnf
        refine Take.all (rfl) ?_
        conv => whnf
        obtain ⟨y94, e95, h⟩ := bind_ex h
        refine CallOk.of (spec_odTerm_ct e95) ?_
        conv => whnf
        refine CutK.norm [2, 3, 4] [0, 128, 192, 3648] ?_
        conv => whnf
        exact LoopOk.back (spec_l1Cur_anyOrdinal_l0_ct  n _ _ h) [some 0, some 128, some 192, some 3648] [] ⟨⟨rfl, rfl⟩, ⟨rfl, ⟨rfl, rfl, rfl, rfl, trivial⟩, ⟨rfl, trivial, trivial⟩, ⟨rfl, ⟨rfl, rfl⟩, trivial⟩, ⟨rfl, rfl, rows_same⟩, trivial⟩, ⟨rfl, rfl⟩, ⟨rfl, rfl⟩, rfl, trivial⟩
      · replace h := iteN h g93
        conv => whnf
        exact ⟨_, _, [some 0, some 128, some 192, some 64000], [], ⟨rfl, _, h, rfl, rfl⟩, ⟨⟨rfl, rfl⟩, ⟨rfl, ⟨rfl, rfl, rfl, rfl, trivial⟩, ⟨rfl, trivial, trivial⟩, ⟨rfl, ⟨rfl, rfl⟩, trivial⟩, ⟨rfl, rfl, rows_same⟩, trivial⟩, ⟨rfl, rfl⟩, ⟨rfl, rfl⟩, trivial⟩⟩
def spec_l1Cur_anyOrdinal_l1 (k : Nat) (y96 : Int × Rw × Int × Int) (K1 : Rw → Option (Rw × Rw × Int × Int)) : Nat → Int → Rw → Option (Rw × Rw × Int × Int)
  | 0, _, _ => none
  | n + 1, v103, v104 => (if (0 : Int) < v103 then ((spec_odInt v103).bind fun y117 => ((spec_odMeet k v104 y117 1000000).bind fun y119 => (spec_l1Cur_anyOrdinal_l1 k y96 K1 n (IntKind.i64.wrap (v103 - 1)) y119))) else (K1 v104))
set_option maxRecDepth 100000 in
theorem spec_l1Cur_anyOrdinal_l1_ct {k : Nat} {y96 : Int × Rw × Int × Int} {K1 : Rw → Option (Rw × Rw × Int × Int)} {r : Rw × Rw × Int × Int} : ∀ (n : Nat) (v103 : Int) (v104 : Rw), spec_l1Cur_anyOrdinal_l1 k y96 K1 n v103 v104 = some r → LoopOk prog 1 (lp f69 1) (mk 59 [(2, .ptr 128 0), (3, .ptr 192 0), (5, .d (D.int .i64 v103))] [(0, .box 91 [.d (D.sl y96.2.1), .d (D.int .i64 y96.2.2.1), .d (D.int .u64 y96.2.2.2)]), (128, .box 26 [.es]), (192, .box 26 [.os 70400 v104.length]), (70400, .arr 104 false v104)]) (LoopEnd prog f69 1 59 (.agg [.os 8 r.1.length]) (⟨[(91, [.d (D.sl r.2.1), .d (D.int .i64 r.2.2.1), .d (D.int .u64 r.2.2.2)])], [(104, false, r.1)]⟩) (fun i ts os => (i = 1 ∧ ∃ v110 : Rw, K1 v110 = some r ∧ ts = [(2, .ptr 128 0), (3, .ptr 192 0)] ∧ os = [(0, .box 91 [.d (D.sl y96.2.1), .d (D.int .i64 y96.2.2.1), .d (D.int .u64 y96.2.2.2)]), (128, .box 26 [.es]), (192, .box 26 [.os 73401 v110.length]), (73401, .arr 104 false v110)])))
  | 0, _, _, h => by
      rw [spec_l1Cur_anyOrdinal_l1] at h; cases h
  | n + 1, v103, v104, h => by
      rw [spec_l1Cur_anyOrdinal_l1] at h
      refine LoopOk.step ?_
      conv => whnf
      refine splD (fun g116 => ?_) (fun g116 => ?_)
      · replace h := iteP h g116
        conv => whnf
        obtain ⟨y117, e118, h⟩ := bind_ex h
        refine CallOk.of (spec_odInt_ct e118) ?_
        conv => whnf
        refine Take.all (rfl) ?_
        conv => whnf
        refine Take.all (rfl) ?_
        conv => whnf
        obtain ⟨y119, e120, h⟩ := bind_ex h
        refine CallOk.of (spec_odMeet_ct e120) ?_
        conv => whnf
        refine CutK.norm [2, 3, 5] [0, 128, 192, 1728] ?_
        conv => whnf
        exact LoopOk.back (spec_l1Cur_anyOrdinal_l1_ct  n _ _ h) [some 0, some 128, some 192, some 1728] [] ⟨⟨rfl, rfl⟩, ⟨rfl, ⟨rfl, rfl, rfl, rfl, trivial⟩, ⟨rfl, trivial, trivial⟩, ⟨rfl, ⟨rfl, rfl⟩, trivial⟩, ⟨rfl, rfl, rows_same⟩, trivial⟩, ⟨rfl, rfl⟩, ⟨rfl, rfl⟩, rfl, trivial⟩
      · replace h := iteN h g116
        conv => whnf
        exact ⟨_, _, [some 0, some 128, some 192, some 70400], [], ⟨rfl, _, h, rfl, rfl⟩, ⟨⟨rfl, rfl⟩, ⟨rfl, ⟨rfl, rfl, rfl, rfl, trivial⟩, ⟨rfl, trivial, trivial⟩, ⟨rfl, ⟨rfl, rfl⟩, trivial⟩, ⟨rfl, rfl, rows_same⟩, trivial⟩, ⟨rfl, rfl⟩, ⟨rfl, rfl⟩, trivial⟩⟩
def spec_l1Cur_anyOrdinal_p3 (k : Nat) (o15 : Rw) (o16 : Int) (o17 : Int) (o18 : Rw) : Option (Rw × Rw × Int × Int) :=
  ((spec_l1Cur_pick o15 o16 o17 4).bind fun y68 => (if y68.1 = (0 : Int) then ((spec_odInt 7).bind fun y71 => (if o18.length + 1 ≤ cap then (spec_l1Cur_anyOrdinal_p4 y68.2.1 y68.2.2.1 y68.2.2.2 (o18 ++ ([[D.sl y71, D.int .i64 1]]))) else none)) else (if y68.1 = (1 : Int) then ((spec_l1Cur_among y68.2.1 y68.2.2.1 y68.2.2.2 ([[D.int .i64 0], [D.int .i64 (-1)], [D.int .i64 1000001], [D.int .i64 1000000]] : Rw)).bind fun y75 => (if o18.length + 1 ≤ cap then (spec_l1Cur_anyOrdinal_p4 y75.2.1 y75.2.2.1 y75.2.2.2 (o18 ++ ([[D.sl ([]), D.int .i64 y75.1]]))) else none)) else (if y68.1 = (2 : Int) then ((spec_l1Cur_pick y68.2.1 y68.2.2.1 y68.2.2.2 9).bind fun y79 => (spec_l1Cur_anyOrdinal_l0 y79 (fun (v89 : Rw) => (spec_l1Cur_anyOrdinal_p4 y79.2.1 y79.2.2.1 y79.2.2.2 v89)) k y79.1 o18)) else ((spec_l1Cur_pick y68.2.1 y68.2.2.1 y68.2.2.2 40).bind fun y96 => (spec_l1Cur_anyOrdinal_l1 k y96 (fun (v110 : Rw) => (spec_l1Cur_anyOrdinal_p4 y96.2.1 y96.2.2.1 y96.2.2.2 v110)) k y96.1 o18))))))
set_option maxHeartbeats 4000000 in
set_option maxRecDepth 100000 in
theorem spec_l1Cur_anyOrdinal_p3_ct {k : Nat} {o15 : Rw} {o16 : Int} {o17 : Int} {o18 : Rw} {r : Rw × Rw × Int × Int} (h : spec_l1Cur_anyOrdinal_p3 k o15 o16 o17 o18 = some r) : X prog 1 (tlF f69 3) (mk 59 [(0, .ptr 0 0), (2, .ptr 128 0), (3, .ptr 192 0)] [(0, .box 91 [.d (D.sl o15), .d (D.int .i64 o16), .d (D.int .u64 o17)]), (128, .box 26 [.es]), (192, .box 26 [.os 1079000 o18.length]), (1079000, .arr 104 false o18)]) (finK prog f69 1 (.agg [.os 8 r.1.length]) (⟨[(91, [.d (D.sl r.2.1), .d (D.int .i64 r.2.2.1), .d (D.int .u64 r.2.2.2)])], [(104, false, r.1)]⟩)) := by
  rw [spec_l1Cur_anyOrdinal_p3] at h
  conv => whnf
  obtain ⟨y68, e69, h⟩ := bind_ex h
  refine CallOk.of (spec_l1Cur_pick_ct e69) ?_
  conv => whnf
  refine CutK.norm [0, 2, 3, 16] [0, 128, 192, 1079000] ?_
  conv => whnf
  refine splD (fun g70 => ?_) (fun g70 => ?_)
  · replace h := iteP h g70
    conv => whnf
    obtain ⟨y71, e72, h⟩ := bind_ex h
    refine CallOk.of (spec_odInt_ct e72) ?_
    conv => whnf
    refine Take.all (rfl) ?_
    conv => whnf
    refine Take.all (rfl) ?_
    conv => whnf
    refine Take.all (by first | rfl | exact List.length_append.symm | (simp; done) | omega) ?_
    conv => whnf
    obtain ⟨g73, h⟩ := req_ex h
    refine Req.of (room (b := 32) (by decide) g73 (wide1 rfl wide0)) ?_
    conv => whnf
    exact CutK.piece (spec_l1Cur_anyOrdinal_p4_ct  h) [some 0, some 128, some 192, some 2240] [] ⟨⟨rfl, rfl⟩, ⟨rfl, ⟨rfl, rfl, rfl, rfl, trivial⟩, ⟨rfl, trivial, trivial⟩, ⟨rfl, ⟨(by first | rfl | exact List.length_append.symm | (simp; done) | omega), rfl⟩, trivial⟩, ⟨rfl, rfl, rows_same⟩, trivial⟩, ⟨rfl, rfl⟩, ⟨rfl, rfl⟩, trivial⟩
  · replace h := iteN h g70
    conv => whnf
    refine splD (fun g74 => ?_) (fun g74 => ?_)
    · replace h := iteP h g74
      conv => whnf
      refine Take.all (by first | rfl | exact List.length_append.symm | (simp; done) | omega) ?_
      conv => whnf
      obtain ⟨y75, e76, h⟩ := bind_ex h
      refine CallOk.of (spec_l1Cur_among_ct e76) ?_
      conv => whnf
      refine Take.all (rfl) ?_
      conv => whnf
      refine Take.all (by first | rfl | exact List.length_append.symm | (simp; done) | omega) ?_
      conv => whnf
      obtain ⟨g77, h⟩ := req_ex h
      refine Req.of (room (b := 32) (by decide) g77 (wide1 rfl wide0)) ?_
      conv => whnf
      exact CutK.piece (spec_l1Cur_anyOrdinal_p4_ct  h) [some 0, some 128, some 192, some 2944] [] ⟨⟨rfl, rfl⟩, ⟨rfl, ⟨rfl, rfl, rfl, rfl, trivial⟩, ⟨rfl, trivial, trivial⟩, ⟨rfl, ⟨(by first | rfl | exact List.length_append.symm | (simp; done) | omega), rfl⟩, trivial⟩, ⟨rfl, rfl, rows_same⟩, trivial⟩, ⟨rfl, rfl⟩, ⟨rfl, rfl⟩, trivial⟩
    · replace h := iteN h g74
      conv => whnf
      refine splD (fun g78 => ?_) (fun g78 => ?_)
      · replace h := iteP h g78
        conv => whnf
        obtain ⟨y79, e80, h⟩ := bind_ex h
        refine CallOk.of (spec_l1Cur_pick_ct e80) ?_
        conv => whnf
        refine CutK.norm [2, 3, 4] [0, 128, 192, 1079000] ?_
        conv => whnf
        refine LoopOk.into (spec_l1Cur_anyOrdinal_l0_ct  _ _ _ h) [some 0, some 128, some 192, some 1079000] [] ⟨⟨rfl, rfl⟩, ⟨rfl, ⟨rfl, rfl, rfl, rfl, trivial⟩, ⟨rfl, trivial, trivial⟩, ⟨rfl, ⟨rfl, rfl⟩, trivial⟩, ⟨rfl, rfl, rows_same⟩, trivial⟩, ⟨rfl, rfl⟩, ⟨rfl, rfl⟩, rfl, trivial⟩ ?_ (fun _ hs => hs)
        rintro i ts os ⟨rfl, v89, h, rfl, rfl⟩
        conv => whnf
        exact CutK.piece (spec_l1Cur_anyOrdinal_p4_ct  h) [some 0, some 128, some 192, some 67001] [] ⟨⟨rfl, rfl⟩, ⟨rfl, ⟨rfl, rfl, rfl, rfl, trivial⟩, ⟨rfl, trivial, trivial⟩, ⟨rfl, ⟨rfl, rfl⟩, trivial⟩, ⟨rfl, rfl, rows_same⟩, trivial⟩, ⟨rfl, rfl⟩, ⟨rfl, rfl⟩, trivial⟩
      · replace h := iteN h g78
        conv => whnf
        obtain ⟨y96, e97, h⟩ := bind_ex h
        refine CallOk.of (spec_l1Cur_pick_ct e97) ?_
        conv => whnf
        refine CutK.norm [2, 3, 5] [0, 128, 192, 1079000] ?_
        conv => whnf
        refine LoopOk.into (spec_l1Cur_anyOrdinal_l1_ct  _ _ _ h) [some 0, some 128, some 192, some 1079000] [] ⟨⟨rfl, rfl⟩, ⟨rfl, ⟨rfl, rfl, rfl, rfl, trivial⟩, ⟨rfl, trivial, trivial⟩, ⟨rfl, ⟨rfl, rfl⟩, trivial⟩, ⟨rfl, rfl, rows_same⟩, trivial⟩, ⟨rfl, rfl⟩, ⟨rfl, rfl⟩, rfl, trivial⟩ ?_ (fun _ hs => hs)
        rintro i ts os ⟨rfl, v110, h, rfl, rfl⟩
        conv => whnf
        exact CutK.piece (spec_l1Cur_anyOrdinal_p4_ct  h) [some 0, some 128, some 192, some 73401] [] ⟨⟨rfl, rfl⟩, ⟨rfl, ⟨rfl, rfl, rfl, rfl, trivial⟩, ⟨rfl, trivial, trivial⟩, ⟨rfl, ⟨rfl, rfl⟩, trivial⟩, ⟨rfl, rfl, rows_same⟩, trivial⟩, ⟨rfl, rfl⟩, ⟨rfl, rfl⟩, trivial⟩
def spec_l1Cur_anyOrdinal_p2 (k : Nat) (o8 : Rw) (o9 : Int) (o10 : Int) (o11 : Rw) : Option (Rw × Rw × Int × Int) :=
  ((spec_l1Cur_one o8 o9 o10 20).bind fun y121 => (if y121.1 = true then (spec_l1Cur_anyOrdinal_p3 k y121.2.1 y121.2.2.1 y121.2.2.2 o11) else some (o11, y121.2.1, y121.2.2.1, y121.2.2.2)))
set_option maxHeartbeats 4000000 in
set_option maxRecDepth 100000 in
theorem spec_l1Cur_anyOrdinal_p2_ct {k : Nat} {o8 : Rw} {o9 : Int} {o10 : Int} {o11 : Rw} {r : Rw × Rw × Int × Int} (h : spec_l1Cur_anyOrdinal_p2 k o8 o9 o10 o11 = some r) : X prog 1 (tlF f69 2) (mk 59 [(0, .ptr 0 0), (2, .ptr 128 0), (3, .ptr 192 0)] [(0, .box 91 [.d (D.sl o8), .d (D.int .i64 o9), .d (D.int .u64 o10)]), (128, .box 26 [.es]), (192, .box 26 [.os 1074000 o11.length]), (1074000, .arr 104 false o11)]) (finK prog f69 1 (.agg [.os 8 r.1.length]) (⟨[(91, [.d (D.sl r.2.1), .d (D.int .i64 r.2.2.1), .d (D.int .u64 r.2.2.2)])], [(104, false, r.1)]⟩)) := by
  rw [spec_l1Cur_anyOrdinal_p2] at h
  conv => whnf
  obtain ⟨y121, e122, h⟩ := bind_ex h
  refine CallOk.of (spec_l1Cur_one_ct e122) ?_
  conv => whnf
  refine spl (fun g123 => ?_) (fun g123 => ?_)
  · replace h := iteT h g123
    conv => whnf
    refine CutK.norm [0, 2, 3, 13] [0, 128, 192, 1074000] ?_
    conv => whnf
    exact CutK.piece (spec_l1Cur_anyOrdinal_p3_ct  h) [some 0, some 128, some 192, some 1074000] [] ⟨⟨rfl, rfl⟩, ⟨rfl, ⟨rfl, rfl, rfl, rfl, trivial⟩, ⟨rfl, trivial, trivial⟩, ⟨rfl, ⟨rfl, rfl⟩, trivial⟩, ⟨rfl, rfl, rows_same⟩, trivial⟩, ⟨rfl, rfl⟩, ⟨rfl, rfl⟩, ⟨rfl, rfl⟩, trivial⟩
  · replace h := iteF h g123
    conv => whnf
    refine CutK.norm [0, 2, 3, 13] [0, 128, 192, 1074000] ?_
    conv => whnf
    cases h
    exact Done.of [some 0, some 1074000] [] rfl rfl ⟨⟨rfl, rfl⟩, ⟨rfl, ⟨rfl, rfl, rfl, rfl, trivial⟩, ⟨rfl, rfl, rows_same⟩, trivial⟩, ⟨⟨rfl, rfl⟩, trivial⟩, trivial⟩
def spec_l1Cur_anyOrdinal (k : Nat) (a1 : Rw) (a2 : Int) (a3 : Int) : Option (Rw × Rw × Int × Int) :=
  ((spec_l1Cur_among a1 a2 a3 ([[D.int .i64 0], [D.int .i64 1], [D.int .i64 2], [D.int .i64 3]] : Rw)).bind fun y124 => ((spec_l1Cur_ordinal k y124.2.1 y124.2.2.1 y124.2.2.2 y124.1).bind fun y126 => (spec_l1Cur_anyOrdinal_p2 k y126.2.1 y126.2.2.1 y126.2.2.2 y126.1)))
set_option maxHeartbeats 4000000 in
set_option maxRecDepth 100000 in
theorem spec_l1Cur_anyOrdinal_ct {k : Nat} {a1 : Rw} {a2 : Int} {a3 : Int} {r : Rw × Rw × Int × Int} (h : spec_l1Cur_anyOrdinal k a1 a2 a3 = some r) : Ct prog 69 [.ptr 0 0] (⟨[(91, [.d (D.sl a1), .d (D.int .i64 a2), .d (D.int .u64 a3)])], []⟩) (.agg [.os 8 r.1.length]) (⟨[(91, [.d (D.sl r.2.1), .d (D.int .i64 r.2.2.1), .d (D.int .u64 r.2.2.2)])], [(104, false, r.1)]⟩) := by
  rw [spec_l1Cur_anyOrdinal] at h
  refine Ct.of (c := _) mixed func69 ⟨rfl, rfl, rfl⟩ ?_ rfl
  conv => whnf
  refine Take.all (by first | rfl | exact List.length_append.symm | (simp; done) | omega) ?_
  conv => whnf
  obtain ⟨y124, e125, h⟩ := bind_ex h
  refine CallOk.of (spec_l1Cur_among_ct e125) ?_
  conv => whnf
  obtain ⟨y126, e127, h⟩ := bind_ex h
  refine CallOk.of (spec_l1Cur_ordinal_ct e127) ?_
  conv => whnf
  exact CutK.piece (spec_l1Cur_anyOrdinal_p2_ct  h) [some 0, some 128, some 192, some 640] [] ⟨⟨rfl, rfl⟩, ⟨rfl, ⟨rfl, rfl, rfl, rfl, trivial⟩, ⟨rfl, trivial, trivial⟩, ⟨rfl, ⟨rfl, rfl⟩, trivial⟩, ⟨rfl, rfl, rows_same⟩, trivial⟩, ⟨rfl, rfl⟩, ⟨rfl, rfl⟩, ⟨rfl, rfl⟩, trivial⟩

def spec_DrawPowerOfOrdinals (k : Nat) (a1 : Rw) : Option (Rw × Rw) :=
  ((spec_l1Cur_among a1 0 0 ([[D.int .i64 0], [D.int .i64 1], [D.int .i64 1], [D.int .i64 2]] : Rw)).bind fun y2 => ((spec_l1Cur_ordinal k y2.2.1 y2.2.2.1 y2.2.2.2 y2.1).bind fun y4 => ((spec_l1Cur_one y4.2.1 y4.2.2.1 y4.2.2.2 10).bind fun y6 => (if y6.1 = true then ((spec_l1Cur_anyOrdinal k y6.2.1 y6.2.2.1 y6.2.2.2).bind fun y9 => ((spec_l1Cur_anyOrdinal k y9.2.1 y9.2.2.1 y9.2.2.2).bind fun y11 => some (y9.1, y11.1))) else ((spec_l1Cur_among y6.2.1 y6.2.2.1 y6.2.2.2 ([[D.int .i64 0], [D.int .i64 0], [D.int .i64 1], [D.int .i64 2]] : Rw)).bind fun y13 => ((spec_l1Cur_ordinal k y13.2.1 y13.2.2.1 y13.2.2.2 y13.1).bind fun y15 => some (y4.1, y15.1)))))))
set_option maxHeartbeats 4000000 in
set_option maxRecDepth 100000 in
theorem spec_DrawPowerOfOrdinals_ct {k : Nat} {a1 : Rw} {r : Rw × Rw} (h : spec_DrawPowerOfOrdinals k a1 = some r) : Ct prog 25 [.d (D.sl a1)] (⟨[], []⟩) (.tup [.agg [.os 8 r.1.length], .agg [.os 9 r.2.length]]) (⟨[], [(104, false, r.1), (104, false, r.2)]⟩) := by
  rw [spec_DrawPowerOfOrdinals] at h
  refine Ct.of (c := _) mixed func25 ⟨rfl, rfl, rfl⟩ ?_ rfl
  conv => whnf
  refine Take.all (by first | rfl | exact List.length_append.symm | (simp; done) | omega) ?_
  conv => whnf
  obtain ⟨y2, e3, h⟩ := bind_ex h
  refine CallOk.of (spec_l1Cur_among_ct e3) ?_
  conv => whnf
  obtain ⟨y4, e5, h⟩ := bind_ex h
  refine CallOk.of (spec_l1Cur_ordinal_ct e5) ?_
  conv => whnf
  refine CutK.go ?_
  conv => whnf
  obtain ⟨y6, e7, h⟩ := bind_ex h
  refine CallOk.of (spec_l1Cur_one_ct e7) ?_
  conv => whnf
  refine spl (fun g8 => ?_) (fun g8 => ?_)
  · replace h := iteT h g8
    conv => whnf
    refine CutK.go ?_
    conv => whnf
    obtain ⟨y9, e10, h⟩ := bind_ex h
    refine CallOk.of (spec_l1Cur_anyOrdinal_ct e10) ?_
    conv => whnf
    obtain ⟨y11, e12, h⟩ := bind_ex h
    refine CallOk.of (spec_l1Cur_anyOrdinal_ct e12) ?_
    conv => whnf
    refine CutK.go ?_
    conv => whnf
    cases h
    exact Done.of [some 1088, some 1216] [] rfl rfl ⟨⟨rfl, rfl⟩, ⟨rfl, ⟨rfl, rfl, rows_same⟩, ⟨rfl, rfl, rows_same⟩, trivial⟩, ⟨⟨⟨rfl, rfl⟩, trivial⟩, ⟨⟨rfl, rfl⟩, trivial⟩, trivial⟩, trivial⟩
  · replace h := iteF h g8
    conv => whnf
    refine CutK.go ?_
    conv => whnf
    refine CutK.go ?_
    conv => whnf
    refine Take.all (by first | rfl | exact List.length_append.symm | (simp; done) | omega) ?_
    conv => whnf
    obtain ⟨y13, e14, h⟩ := bind_ex h
    refine CallOk.of (spec_l1Cur_among_ct e14) ?_
    conv => whnf
    obtain ⟨y15, e16, h⟩ := bind_ex h
    refine CallOk.of (spec_l1Cur_ordinal_ct e16) ?_
    conv => whnf
    refine CutK.go ?_
    conv => whnf
    cases h
    exact Done.of [some 832, some 1600] [] rfl rfl ⟨⟨rfl, rfl⟩, ⟨rfl, ⟨rfl, rfl, rows_same⟩, ⟨rfl, rfl, rows_same⟩, trivial⟩, ⟨⟨⟨rfl, rfl⟩, trivial⟩, ⟨⟨rfl, rfl⟩, trivial⟩, trivial⟩, trivial⟩

def spec_odLeft_l0 (rec_spec_odLeft : Rw → Int → Int → Option Int) (a1 : Rw) (a2 : Int) (K0 : Int → Option Int) : Rw → Int → Option Int
  | [], v13 => (K0 v13)
  | cs :: rest, v13 => (cell_si cs fun x34 x35 => (if v13 < (0 : Int) then some (-1) else (if a2 = (0 : Int) then some (-1) else ((rec_spec_odLeft x34 (IntKind.i64.wrap (a2 - 1)) (IntKind.i64.wrap (v13 - 1))).bind fun y39 => (spec_odLeft_l0 rec_spec_odLeft a1 a2 K0 rest y39)))))
set_option maxRecDepth 100000 in
theorem spec_odLeft_l0_ct {rec_spec_odLeft : Rw → Int → Int → Option Int} {a1 : Rw} {a2 : Int} {K0 : Int → Option Int} (hrec_spec_odLeft : ∀ (a1 : Rw) (a2 : Int) (a3 : Int) (r : Int), rec_spec_odLeft a1 a2 a3 = some r → Ct prog 155 [.agg [.d (D.sl a1)], .d (D.int .i64 a2), .d (D.int .i64 a3)] (⟨[], []⟩) (.d (D.int .i64 r)) (⟨[], []⟩)) {r : Int} (hx : a1.length ≤ cap) : ∀ (rest : Rw) (v14n : Nat) (v13 : Int), a1.drop v14n = rest → spec_odLeft_l0 rec_spec_odLeft a1 a2 K0 rest v13 = some r → LoopOk prog 0 (lp f155 0) (mk 33 [(1, .d (D.int .i64 a2)), (2, .d (D.int .i64 v13)), (12, .d (D.sl a1)), (13, .d (D.int .i64 (a1.length : Int))), (14, .d (D.int .i64 (v14n : Int)))] []) (LoopEnd prog f155 0 33 (.d (D.int .i64 r)) (⟨[], []⟩) (fun i ts os => (i = 0 ∧ ∃ v24 : Int, K0 v24 = some r ∧ ts = [(2, .d (D.int .i64 v24))] ∧ os = [])))
  | [], v14n, v13, hd, h => by
      rw [spec_odLeft_l0] at h
      have hn := drop_nil hd
      refine LoopOk.step ?_
      conv => whnf
      refine splD (fun g => absurd g hn) (fun _ => ?_)
      conv => whnf
      exact ⟨_, _, [], [], ⟨rfl, _, h, rfl, rfl⟩, ⟨⟨rfl, rfl⟩, ⟨rfl, trivial⟩, rfl, trivial⟩⟩
  | cs :: rest, v14n, v13, hd, h => by
      rw [spec_odLeft_l0] at h
      obtain ⟨hrow, hd1, hlt⟩ := drop_cons hd
      refine LoopOk.step ?_
      conv => whnf
      refine splD (fun _ => ?_) (fun g => absurd hlt g)
      conv => whnf
      obtain ⟨x34, x35, e36, h⟩ := cell_si_ex h
      rw [e36] at hrow
      refine Req.of (Int.natCast_nonneg _) ?_
      refine Row.of _ hrow ?_
      conv => whnf
      refine splD (fun g37 => ?_) (fun g37 => ?_)
      · replace h := iteP h g37
        conv => whnf
        cases h
        exact Done.of [] [] rfl rfl ⟨⟨rfl, rfl⟩, ⟨rfl, trivial⟩, rfl, trivial⟩
      · replace h := iteN h g37
        conv => whnf
        refine splD (fun g38 => ?_) (fun g38 => ?_)
        · replace h := iteP h g38
          conv => whnf
          cases h
          exact Done.of [] [] rfl rfl ⟨⟨rfl, rfl⟩, ⟨rfl, trivial⟩, rfl, trivial⟩
        · replace h := iteN h g38
          conv => whnf
          obtain ⟨y39, e40, h⟩ := bind_ex h
          refine CallOk.of (hrec_spec_odLeft _ _ _ _ e40) ?_
          conv => whnf
          refine CutK.norm [1, 2, 12, 13, 14] [] ?_
          conv => whnf
          exact LoopOk.back (spec_odLeft_l0_ct hrec_spec_odLeft hx rest (v14n + 1) _ hd1 h) [] [] ⟨⟨rfl, rfl⟩, ⟨rfl, trivial⟩, rfl, rfl, rfl, rfl, i64eq (wrap_up hlt hx), trivial⟩
def spec_odLeft_b (rec_spec_odLeft : Rw → Int → Int → Option Int) (a1 : Rw) (a2 : Int) (a3 : Int) : Option Int :=
  (if a1.length ≤ cap then (spec_odLeft_l0 rec_spec_odLeft a1 a2 (fun (v24 : Int) => some v24) a1 (IntKind.i64.wrap (a3 - 1))) else none)
set_option maxHeartbeats 4000000 in
set_option maxRecDepth 100000 in
theorem spec_odLeft_b_ct {rec_spec_odLeft : Rw → Int → Int → Option Int} (hrec_spec_odLeft : ∀ (a1 : Rw) (a2 : Int) (a3 : Int) (r : Int), rec_spec_odLeft a1 a2 a3 = some r → Ct prog 155 [.agg [.d (D.sl a1)], .d (D.int .i64 a2), .d (D.int .i64 a3)] (⟨[], []⟩) (.d (D.int .i64 r)) (⟨[], []⟩)) {a1 : Rw} {a2 : Int} {a3 : Int} {r : Int} (h : spec_odLeft_b rec_spec_odLeft a1 a2 a3 = some r) : Ct prog 155 [.agg [.d (D.sl a1)], .d (D.int .i64 a2), .d (D.int .i64 a3)] (⟨[], []⟩) (.d (D.int .i64 r)) (⟨[], []⟩) := by
  rw [spec_odLeft_b] at h
  refine Ct.of (c := _) mixed func155 ⟨rfl, rfl, rfl⟩ ?_ rfl
  conv => whnf
  obtain ⟨g41, h⟩ := req_ex h
  refine LoopOk.into (spec_odLeft_l0_ct hrec_spec_odLeft g41 _ _ _ rfl h) [] [] ⟨⟨rfl, rfl⟩, ⟨rfl, trivial⟩, rfl, rfl, rfl, rfl, rfl, trivial⟩ ?_ (fun _ hs => hs)
  rintro i ts os ⟨rfl, v24, h, rfl, rfl⟩
  conv => whnf
  refine CutK.norm [2] [] ?_
  conv => whnf
  cases h
  exact Done.of [] [] rfl rfl ⟨⟨rfl, rfl⟩, ⟨rfl, trivial⟩, rfl, trivial⟩
def spec_odLeft : Nat → Rw → Int → Int → Option Int
  | 0, _, _, _ => none
  | k + 1, a1, a2, a3 => spec_odLeft_b (spec_odLeft k) a1 a2 a3
theorem spec_odLeft_ct' : ∀ (k : Nat) (a1 : Rw) (a2 : Int) (a3 : Int) (r : Int), spec_odLeft k a1 a2 a3 = some r → Ct prog 155 [.agg [.d (D.sl a1)], .d (D.int .i64 a2), .d (D.int .i64 a3)] (⟨[], []⟩) (.d (D.int .i64 r)) (⟨[], []⟩)
  | 0, _, _, _, _, h => by rw [spec_odLeft] at h; cases h
  | k + 1, _, _, _, _, h => by rw [spec_odLeft] at h; exact spec_odLeft_b_ct (spec_odLeft_ct' k) h
theorem spec_odLeft_ct {k : Nat} {a1 : Rw} {a2 : Int} {a3 : Int} {r : Int} (h : spec_odLeft k a1 a2 a3 = some r) : Ct prog 155 [.agg [.d (D.sl a1)], .d (D.int .i64 a2), .d (D.int .i64 a3)] (⟨[], []⟩) (.d (D.int .i64 r)) (⟨[], []⟩) := spec_odLeft_ct' k _ _ _ _ h

def spec_l1In  (a1 : Int) (a2 : Int) (a3 : Int) : Option Bool :=
  (if a2 ≤ a1 then (if a1 ≤ a3 then some true else some false) else some false)
set_option maxHeartbeats 4000000 in
set_option maxRecDepth 100000 in
theorem spec_l1In_ct  {a1 : Int} {a2 : Int} {a3 : Int} {r : Bool} (h : spec_l1In a1 a2 a3 = some r) : Ct prog 75 [.d (D.int .i64 a1), .d (D.int .i64 a2), .d (D.int .i64 a3)] (⟨[], []⟩) (.d (D.bool r)) (⟨[], []⟩) := by
  rw [spec_l1In] at h
  refine Ct.of (c := _) mixed func75 ⟨rfl, rfl, rfl⟩ ?_ rfl
  conv => whnf
  refine splD (fun g4 => ?_) (fun g4 => ?_)
  · replace h := iteP h g4
    conv => whnf
    refine splD (fun g5 => ?_) (fun g5 => ?_)
    · replace h := iteP h g5
      conv => whnf
      cases h
      exact Done.of [] [] rfl rfl ⟨⟨rfl, rfl⟩, ⟨rfl, trivial⟩, rfl, trivial⟩
    · replace h := iteN h g5
      conv => whnf
      cases h
      exact Done.of [] [] rfl rfl ⟨⟨rfl, rfl⟩, ⟨rfl, trivial⟩, rfl, trivial⟩
  · replace h := iteN h g4
    conv => whnf
    cases h
    exact Done.of [] [] rfl rfl ⟨⟨rfl, rfl⟩, ⟨rfl, trivial⟩, rfl, trivial⟩

def spec_odForm_p3  : Option Bool :=
  some true
set_option maxHeartbeats 4000000 in
set_option maxRecDepth 100000 in
theorem spec_odForm_p3_ct  {r : Bool} (h : spec_odForm_p3 = some r) : X prog 0 (tlF f156 3) (mk 47 [] []) (finK prog f156 0 (.d (D.bool r)) (⟨[], []⟩)) := by
  rw [spec_odForm_p3] at h
  conv => whnf
  cases h
  exact Done.of [] [] rfl rfl ⟨⟨rfl, rfl⟩, ⟨rfl, trivial⟩, rfl, trivial⟩
def spec_odForm_l0 (k : Nat) (rec_spec_odForm : Rw → Int → Option Bool) (a1 : Rw) (a2 : Int) (K0 : Option Bool) : Rw → Nat → Option Bool
  | [], v47n => (K0)
  | cs :: rest, v47n => (cell_si cs fun x67 x68 => ((spec_l1In x68 1 1000000).bind fun y70 => (if y70 = true then ((rec_spec_odForm x67 (IntKind.i64.wrap (a2 - 1))).bind fun y73 => (if y73 = true then (if (0 : Int) < (v47n : Int) then (row_si a1 (IntKind.i64.wrap ((v47n : Int) - 1)) fun x77 x78 => ((spec_odCmp k x77 x67).bind fun y81 => (if y81 ≤ (0 : Int) then some false else (spec_odForm_l0 k rec_spec_odForm a1 a2 K0 rest (v47n + 1))))) else (spec_odForm_l0 k rec_spec_odForm a1 a2 K0 rest (v47n + 1))) else some false)) else some false)))
set_option maxRecDepth 100000 in
theorem spec_odForm_l0_ct {k : Nat} {rec_spec_odForm : Rw → Int → Option Bool} {a1 : Rw} {a2 : Int} {K0 : Option Bool} (hrec_spec_odForm : ∀ (a1 : Rw) (a2 : Int) (r : Bool), rec_spec_odForm a1 a2 = some r → Ct prog 156 [.agg [.d (D.sl a1)], .d (D.int .i64 a2)] (⟨[], []⟩) (.d (D.bool r)) (⟨[], []⟩)) {r : Bool} (hx : a1.length ≤ cap) : ∀ (rest : Rw) (v47n : Nat), a1.drop v47n = rest → spec_odForm_l0 k rec_spec_odForm a1 a2 K0 rest v47n = some r → LoopOk prog 0 (lp f156 0) (mk 47 [(1, .d (D.int .i64 a2)), (2, .ptr 128 0), (10, .d (D.sl a1)), (11, .d (D.int .i64 (a1.length : Int))), (12, .d (D.int .i64 (v47n : Int)))] [(128, .box 26 [.d (D.sl a1)])]) (LoopEnd prog f156 0 47 (.d (D.bool r)) (⟨[], []⟩) (fun i ts os => (i = 0 ∧ K0 = some r ∧ ts = [] ∧ os = [])))
  | [], v47n, hd, h => by
      rw [spec_odForm_l0] at h
      have hn := drop_nil hd
      refine LoopOk.step ?_
      conv => whnf
      refine splD (fun g => absurd g hn) (fun _ => ?_)
      conv => whnf
      exact ⟨_, _, [], [], ⟨rfl, h, rfl, rfl⟩, ⟨⟨rfl, rfl⟩, ⟨rfl, trivial⟩, trivial⟩⟩
  | cs :: rest, v47n, hd, h => by
      rw [spec_odForm_l0] at h
      obtain ⟨hrow, hd1, hlt⟩ := drop_cons hd
      refine LoopOk.step ?_
      conv => whnf
      refine splD (fun _ => ?_) (fun g => absurd hlt g)
      conv => whnf
      obtain ⟨x67, x68, e69, h⟩ := cell_si_ex h
      rw [e69] at hrow
      refine Req.of (Int.natCast_nonneg _) ?_
      refine Row.of _ hrow ?_
      conv => whnf
      obtain ⟨y70, e71, h⟩ := bind_ex h
      refine CallOk.of (spec_l1In_ct e71) ?_
      conv => whnf
      refine spl (fun g72 => ?_) (fun g72 => ?_)
      · replace h := iteT h g72
        conv => whnf
        obtain ⟨y73, e74, h⟩ := bind_ex h
        refine CallOk.of (hrec_spec_odForm _ _ _ e74) ?_
        conv => whnf
        refine spl (fun g75 => ?_) (fun g75 => ?_)
        · replace h := iteT h g75
          conv => whnf
          refine splD (fun g76 => ?_) (fun g76 => ?_)
          · replace h := iteP h g76
            conv => whnf
            obtain ⟨g80, x77, x78, e79, h⟩ := row_si_ex h
            refine Req.of g80 ?_
            refine Row.of _ e79 ?_
            conv => whnf
            obtain ⟨y81, e82, h⟩ := bind_ex h
            refine CallOk.of (spec_odCmp_ct e82) ?_
            conv => whnf
            refine splD (fun g83 => ?_) (fun g83 => ?_)
            · replace h := iteP h g83
              conv => whnf
              refine CutK.norm [1, 2, 10, 11, 12, 45] [128] ?_
              conv => whnf
              cases h
              exact Done.of [] [] rfl rfl ⟨⟨rfl, rfl⟩, ⟨rfl, trivial⟩, rfl, trivial⟩
            · replace h := iteN h g83
              conv => whnf
              refine CutK.norm [1, 2, 10, 11, 12, 45] [128] ?_
              conv => whnf
              refine CutK.norm [1, 2, 10, 11, 12] [128] ?_
              conv => whnf
              exact LoopOk.back (spec_odForm_l0_ct hrec_spec_odForm hx rest (v47n + 1)  hd1 h) [some 128] [] ⟨⟨rfl, rfl⟩, ⟨rfl, ⟨rfl, rfl, trivial⟩, trivial⟩, rfl, ⟨rfl, rfl⟩, rfl, rfl, i64eq (wrap_up hlt hx), trivial⟩
          · replace h := iteN h g76
            conv => whnf
            refine CutK.norm [1, 2, 10, 11, 12, 45] [128] ?_
            conv => whnf
            refine CutK.norm [1, 2, 10, 11, 12] [128] ?_
            conv => whnf
            exact LoopOk.back (spec_odForm_l0_ct hrec_spec_odForm hx rest (v47n + 1)  hd1 h) [some 128] [] ⟨⟨rfl, rfl⟩, ⟨rfl, ⟨rfl, rfl, trivial⟩, trivial⟩, rfl, ⟨rfl, rfl⟩, rfl, rfl, i64eq (wrap_up hlt hx), trivial⟩
        · replace h := iteF h g75
          conv => whnf
          refine CutK.norm [1, 2, 10, 11, 12, 45] [128] ?_
          conv => whnf
          cases h
          exact Done.of [] [] rfl rfl ⟨⟨rfl, rfl⟩, ⟨rfl, trivial⟩, rfl, trivial⟩
      · replace h := iteF h g72
        conv => whnf
        refine CutK.norm [1, 2, 10, 11, 12, 45] [128] ?_
        conv => whnf
        cases h
        exact Done.of [] [] rfl rfl ⟨⟨rfl, rfl⟩, ⟨rfl, trivial⟩, rfl, trivial⟩
def spec_odForm_b (k : Nat) (rec_spec_odForm : Rw → Int → Option Bool) (a1 : Rw) (a2 : Int) : Option Bool :=
  (if a2 < (0 : Int) then some false else (if a1.length ≤ cap then (spec_odForm_l0 k rec_spec_odForm a1 a2 (spec_odForm_p3) a1 0) else none))
set_option maxHeartbeats 4000000 in
set_option maxRecDepth 100000 in
theorem spec_odForm_b_ct {k : Nat} {rec_spec_odForm : Rw → Int → Option Bool} (hrec_spec_odForm : ∀ (a1 : Rw) (a2 : Int) (r : Bool), rec_spec_odForm a1 a2 = some r → Ct prog 156 [.agg [.d (D.sl a1)], .d (D.int .i64 a2)] (⟨[], []⟩) (.d (D.bool r)) (⟨[], []⟩)) {a1 : Rw} {a2 : Int} {r : Bool} (h : spec_odForm_b k rec_spec_odForm a1 a2 = some r) : Ct prog 156 [.agg [.d (D.sl a1)], .d (D.int .i64 a2)] (⟨[], []⟩) (.d (D.bool r)) (⟨[], []⟩) := by
  rw [spec_odForm_b] at h
  refine Ct.of (c := _) mixed func156 ⟨rfl, rfl, rfl⟩ ?_ rfl
  conv => whnf
  refine splD (fun g35 => ?_) (fun g35 => ?_)
  · replace h := iteP h g35
    conv => whnf
    cases h
    exact Done.of [] [] rfl rfl ⟨⟨rfl, rfl⟩, ⟨rfl, trivial⟩, rfl, trivial⟩
  · replace h := iteN h g35
    conv => whnf
    obtain ⟨g84, h⟩ := req_ex h
    refine LoopOk.into (spec_odForm_l0_ct hrec_spec_odForm g84 _ _  rfl h) [some 128] [] ⟨⟨rfl, rfl⟩, ⟨rfl, ⟨rfl, rfl, trivial⟩, trivial⟩, rfl, ⟨rfl, rfl⟩, rfl, rfl, rfl, trivial⟩ ?_ (fun _ hs => hs)
    rintro i ts os ⟨rfl, h, rfl, rfl⟩
    conv => whnf
    exact CutK.piece (spec_odForm_p3_ct  h) [] [] ⟨⟨rfl, rfl⟩, ⟨rfl, trivial⟩, trivial⟩
def spec_odForm : Nat → Rw → Int → Option Bool
  | 0, _, _ => none
  | k + 1, a1, a2 => spec_odForm_b k (spec_odForm k) a1 a2
theorem spec_odForm_ct' : ∀ (k : Nat) (a1 : Rw) (a2 : Int) (r : Bool), spec_odForm k a1 a2 = some r → Ct prog 156 [.agg [.d (D.sl a1)], .d (D.int .i64 a2)] (⟨[], []⟩) (.d (D.bool r)) (⟨[], []⟩)
  | 0, _, _, _, h => by rw [spec_odForm] at h; cases h
  | k + 1, _, _, _, h => by rw [spec_odForm] at h; exact spec_odForm_b_ct (spec_odForm_ct' k) h
theorem spec_odForm_ct {k : Nat} {a1 : Rw} {a2 : Int} {r : Bool} (h : spec_odForm k a1 a2 = some r) : Ct prog 156 [.agg [.d (D.sl a1)], .d (D.int .i64 a2)] (⟨[], []⟩) (.d (D.bool r)) (⟨[], []⟩) := spec_odForm_ct' k _ _ _ h

def spec_odGood (k : Nat) (a1 : Rw) : Option Bool :=
  ((spec_odLeft k a1 6 60).bind fun y2 => (if (0 : Int) ≤ y2 then ((spec_odForm k a1 6).bind fun y5 => (if y5 = true then some true else some false)) else some false))
set_option maxHeartbeats 4000000 in
set_option maxRecDepth 100000 in
theorem spec_odGood_ct {k : Nat} {a1 : Rw} {r : Bool} (h : spec_odGood k a1 = some r) : Ct prog 74 [.agg [.d (D.sl a1)]] (⟨[], []⟩) (.d (D.bool r)) (⟨[], []⟩) := by
  rw [spec_odGood] at h
  refine Ct.of (c := _) mixed func74 ⟨rfl, rfl, rfl⟩ ?_ rfl
  conv => whnf
  obtain ⟨y2, e3, h⟩ := bind_ex h
  refine CallOk.of (spec_odLeft_ct e3) ?_
  conv => whnf
  refine splD (fun g4 => ?_) (fun g4 => ?_)
  · replace h := iteP h g4
    conv => whnf
    obtain ⟨y5, e6, h⟩ := bind_ex h
    refine CallOk.of (spec_odForm_ct e6) ?_
    conv => whnf
    refine spl (fun g7 => ?_) (fun g7 => ?_)
    · replace h := iteT h g7
      conv => whnf
      refine CutK.go ?_
      conv => whnf
      cases h
      exact Done.of [] [] rfl rfl ⟨⟨rfl, rfl⟩, ⟨rfl, trivial⟩, rfl, trivial⟩
    · replace h := iteF h g7
      conv => whnf
      refine CutK.go ?_
      conv => whnf
      cases h
      exact Done.of [] [] rfl rfl ⟨⟨rfl, rfl⟩, ⟨rfl, trivial⟩, rfl, trivial⟩
  · replace h := iteN h g4
    conv => whnf
    refine CutK.go ?_
    conv => whnf
    cases h
    exact Done.of [] [] rfl rfl ⟨⟨rfl, rfl⟩, ⟨rfl, trivial⟩, rfl, trivial⟩

def spec_odPlus_p3 (o151 : Rw) : Option Rw :=
  some o151
set_option maxHeartbeats 4000000 in
set_option maxRecDepth 100000 in
theorem spec_odPlus_p3_ct {o151 : Rw} {r : Rw} (h : spec_odPlus_p3 o151 = some r) : X prog 0 (tlF f209 3) (mk 85 [(4, .ptr 256 0), (5, .ptr 320 0)] [(256, .box 26 [.es]), (320, .box 26 [.os 1079000 o151.length]), (1079000, .arr 104 false o151)]) (finK prog f209 0 (.agg [.os 8 r.length]) (⟨[], [(104, false, r)]⟩)) := by
  rw [spec_odPlus_p3] at h
  conv => whnf
  cases h
  exact Done.of [some 1079000] [] rfl rfl ⟨⟨rfl, rfl⟩, ⟨rfl, ⟨rfl, rfl, rows_same⟩, trivial⟩, ⟨⟨rfl, rfl⟩, trivial⟩, trivial⟩
def spec_odPlus_l1 (k : Nat) (a2 : Rw) (v199n : Nat) (x300 : Rw) (x301 : Int) (K2 : Rw → Option Rw) : Nat → Rw → Option Rw
  | 0, _ => none
  | n + 1, v313 => (if (0 : Int) < (v313.length : Int) then (if 0 ≤ (IntKind.i64.wrap ((v313.length : Int) - 1)) ∧ (IntKind.i64.wrap ((v313.length : Int) - 1)) < (v313.length : Int) then (row_si v313 (IntKind.i64.wrap ((v313.length : Int) - 1)) fun x337 x338 => ((spec_odCmp k x337 x300).bind fun y341 => (if y341 < (0 : Int) then (if 0 ≤ (IntKind.i64.wrap ((v313.length : Int) - 1)) ∧ (IntKind.i64.wrap ((v313.length : Int) - 1)) ≤ (v313.length : Int) then (if (IntKind.i64.wrap ((v313.length : Int) - 1) : Int).toNat ≤ v313.length then (spec_odPlus_l1 k a2 v199n x300 x301 K2 n (v313.take ((IntKind.i64.wrap ((v313.length : Int) - 1) : Int).toNat))) else none) else none) else (K2 v313)))) else none) else (K2 v313))
set_option maxRecDepth 100000 in
theorem spec_odPlus_l1_ct {k : Nat} {a2 : Rw} {v199n : Nat} {x300 : Rw} {x301 : Int} {K2 : Rw → Option Rw} {r : Rw} : ∀ (n : Nat) (v313 : Rw), spec_odPlus_l1 k a2 v199n x300 x301 K2 n v313 = some r → LoopOk prog 0 (lp f209 1) (mk 85 [(4, .ptr 256 0), (5, .ptr 320 0), (7, .ptr 448 0), (15, .d (D.sl a2)), (16, .d (D.int .i64 (a2.length : Int))), (17, .d (D.int .i64 (v199n : Int)))] [(256, .box 26 [.es]), (320, .box 26 [.os 76800 v313.length]), (448, .box 104 [.d (D.sl x300), .d (D.int .i64 x301)]), (76800, .arr 104 false v313)]) (LoopEnd prog f209 0 85 (.agg [.os 8 r.length]) (⟨[], [(104, false, r)]⟩) (fun i ts os => (i = 2 ∧ ∃ v324 : Rw, K2 v324 = some r ∧ ts = [(4, .ptr 256 0), (5, .ptr 320 0), (7, .ptr 448 0), (15, .d (D.sl a2)), (16, .d (D.int .i64 (a2.length : Int))), (17, .d (D.int .i64 (v199n : Int)))] ∧ os = [(256, .box 26 [.es]), (320, .box 26 [.os 79801 v324.length]), (448, .box 104 [.d (D.sl x300), .d (D.int .i64 x301)]), (79801, .arr 104 false v324)])))
  | 0, _, h => by
      rw [spec_odPlus_l1] at h; cases h
  | n + 1, v313, h => by
      rw [spec_odPlus_l1] at h
      refine LoopOk.step ?_
      conv => whnf
      refine splD (fun g335 => ?_) (fun g335 => ?_)
      · replace h := iteP h g335
        conv => whnf
        obtain ⟨g336, h⟩ := req_ex h
        refine Req.of g336 ?_
        conv => whnf
        obtain ⟨g340, x337, x338, e339, h⟩ := row_si_ex h
        refine Row.of _ e339 ?_
        conv => whnf
        obtain ⟨y341, e342, h⟩ := bind_ex h
        refine CallOk.of (spec_odCmp_ct e342) ?_
        conv => whnf
        refine splD (fun g343 => ?_) (fun g343 => ?_)
        · replace h := iteP h g343
          conv => whnf
          refine CutK.norm [4, 5, 7, 15, 16, 17, 39] [256, 320, 448, 76800] ?_
          conv => whnf
          refine CutK.norm [4, 5, 7, 15, 16, 17] [256, 320, 448, 76800] ?_
          conv => whnf
          obtain ⟨g344, h⟩ := req_ex h
          refine Req.of (⟨rfl, g344⟩) ?_
          conv => whnf
          obtain ⟨g345, h⟩ := req_ex h
          exact LoopOk.back (spec_odPlus_l1_ct  n _ h) [some 256, some 320, some 448, some 76800] [] ⟨⟨rfl, rfl⟩, ⟨rfl, ⟨rfl, trivial, trivial⟩, ⟨rfl, ⟨take_len g345, rfl⟩, trivial⟩, ⟨rfl, rfl, rfl, trivial⟩, ⟨rfl, rfl, _, rfl⟩, trivial⟩, ⟨rfl, rfl⟩, ⟨rfl, rfl⟩, ⟨rfl, rfl⟩, rfl, rfl, rfl, trivial⟩
        · replace h := iteN h g343
          conv => whnf
          refine CutK.norm [4, 5, 7, 15, 16, 17, 39] [256, 320, 448, 76800] ?_
          conv => whnf
          exact ⟨_, _, [some 256, some 320, some 448, some 76800], [], ⟨rfl, _, h, rfl, rfl⟩, ⟨⟨rfl, rfl⟩, ⟨rfl, ⟨rfl, trivial, trivial⟩, ⟨rfl, ⟨rfl, rfl⟩, trivial⟩, ⟨rfl, rfl, rfl, trivial⟩, ⟨rfl, rfl, rows_same⟩, trivial⟩, ⟨rfl, rfl⟩, ⟨rfl, rfl⟩, ⟨rfl, rfl⟩, rfl, rfl, rfl, trivial⟩⟩
      · replace h := iteN h g335
        conv => whnf
        refine CutK.norm [4, 5, 7, 15, 16, 17, 39] [256, 320, 448, 76800] ?_
        conv => whnf
        exact ⟨_, _, [some 256, some 320, some 448, some 76800], [], ⟨rfl, _, h, rfl, rfl⟩, ⟨⟨rfl, rfl⟩, ⟨rfl, ⟨rfl, trivial, trivial⟩, ⟨rfl, ⟨rfl, rfl⟩, trivial⟩, ⟨rfl, rfl, rfl, trivial⟩, ⟨rfl, rfl, rows_same⟩, trivial⟩, ⟨rfl, rfl⟩, ⟨rfl, rfl⟩, ⟨rfl, rfl⟩, rfl, rfl, rfl, trivial⟩⟩
def spec_odPlus_l0 (k : Nat) (a2 : Rw) (K0 : Rw → Option Rw) : Rw → Nat → Rw → Option Rw
  | [], v199n, v200 => (K0 v200)
  | cs :: rest, v199n, v200 => (cell_si cs fun x300 x301 => (spec_odPlus_l1 k a2 v199n x300 x301 (fun (v324 : Rw) => (if (0 : Int) ≤ (IntKind.i64.wrap ((v324.length : Int) - 1)) then (if 0 ≤ (IntKind.i64.wrap ((v324.length : Int) - 1)) ∧ (IntKind.i64.wrap ((v324.length : Int) - 1)) < (v324.length : Int) then (row_si v324 (IntKind.i64.wrap ((v324.length : Int) - 1)) fun x348 x349 => ((spec_odCmp k x348 x300).bind fun y352 => (if y352 = (0 : Int) then (spec_odPlus_l0 k a2 K0 rest (v199n + 1) (v324.set ((IntKind.i64.wrap ((v324.length : Int) - 1) : Int).toNat) [D.sl x348, D.int .i64 (IntKind.i64.wrap (x349 + x301))])) else (if v324.length + 1 ≤ cap then (spec_odPlus_l0 k a2 K0 rest (v199n + 1) (v324 ++ ([[D.sl x300, D.int .i64 x301]]))) else none)))) else none) else (if v324.length + 1 ≤ cap then (spec_odPlus_l0 k a2 K0 rest (v199n + 1) (v324 ++ ([[D.sl x300, D.int .i64 x301]]))) else none))) k v200))
set_option maxRecDepth 100000 in
theorem spec_odPlus_l0_ct {k : Nat} {a2 : Rw} {K0 : Rw → Option Rw} {r : Rw} (hx : a2.length ≤ cap) : ∀ (rest : Rw) (v199n : Nat) (v200 : Rw), a2.drop v199n = rest → spec_odPlus_l0 k a2 K0 rest v199n v200 = some r → LoopOk prog 0 (lp f209 0) (mk 85 [(4, .ptr 256 0), (5, .ptr 320 0), (15, .d (D.sl a2)), (16, .d (D.int .i64 (a2.length : Int))), (17, .d (D.int .i64 (v199n : Int)))] [(256, .box 26 [.es]), (320, .box 26 [.os 64000 v200.length]), (64000, .arr 104 false v200)]) (LoopEnd prog f209 0 85 (.agg [.os 8 r.length]) (⟨[], [(104, false, r)]⟩) (fun i ts os => (i = 0 ∧ ∃ v251 : Rw, K0 v251 = some r ∧ ts = [(4, .ptr 256 0), (5, .ptr 320 0)] ∧ os = [(256, .box 26 [.es]), (320, .box 26 [.os 67001 v251.length]), (67001, .arr 104 false v251)])))
  | [], v199n, v200, hd, h => by
      rw [spec_odPlus_l0] at h
      have hn := drop_nil hd
      refine LoopOk.step ?_
      conv => whnf
      refine splD (fun g => absurd g hn) (fun _ => ?_)
      conv => whnf
      exact ⟨_, _, [some 256, some 320, some 64000], [], ⟨rfl, _, h, rfl, rfl⟩, ⟨⟨rfl, rfl⟩, ⟨rfl, ⟨rfl, trivial, trivial⟩, ⟨rfl, ⟨rfl, rfl⟩, trivial⟩, ⟨rfl, rfl, rows_same⟩, trivial⟩, ⟨rfl, rfl⟩, ⟨rfl, rfl⟩, trivial⟩⟩
  | cs :: rest, v199n, v200, hd, h => by
      rw [spec_odPlus_l0] at h
      obtain ⟨hrow, hd1, hlt⟩ := drop_cons hd
      refine LoopOk.step ?_
      conv => whnf
      refine splD (fun _ => ?_) (fun g => absurd hlt g)
      conv => whnf
      obtain ⟨x300, x301, e302, h⟩ := cell_si_ex h
      rw [e302] at hrow
      refine Req.of (Int.natCast_nonneg _) ?_
      refine Row.of _ hrow ?_
      conv => whnf
      refine LoopOk.into (spec_odPlus_l1_ct  _ _ h) [some 256, some 320, some 448, some 64000] [] ⟨⟨rfl, rfl⟩, ⟨rfl, ⟨rfl, trivial, trivial⟩, ⟨rfl, ⟨rfl, rfl⟩, trivial⟩, ⟨rfl, rfl, rfl, trivial⟩, ⟨rfl, rfl, rows_same⟩, trivial⟩, ⟨rfl, rfl⟩, ⟨rfl, rfl⟩, ⟨rfl, rfl⟩, rfl, rfl, rfl, trivial⟩ ?_ (fun _ hs => hs)
      rintro i ts os ⟨rfl, v324, h, rfl, rfl⟩
      conv => whnf
      refine CutK.norm [4, 5, 7, 15, 16, 17] [256, 320, 448, 79801] ?_
      conv => whnf
      refine splD (fun g346 => ?_) (fun g346 => ?_)
      · replace h := iteP h g346
        conv => whnf
        obtain ⟨g347, h⟩ := req_ex h
        refine Req.of g347 ?_
        conv => whnf
        obtain ⟨g351, x348, x349, e350, h⟩ := row_si_ex h
        refine Row.of _ e350 ?_
        conv => whnf
        obtain ⟨y352, e353, h⟩ := bind_ex h
        refine CallOk.of (spec_odCmp_ct e353) ?_
        conv => whnf
        refine splD (fun g354 => ?_) (fun g354 => ?_)
        · replace h := iteP h g354
          conv => whnf
          refine CutK.norm [4, 5, 7, 8, 15, 16, 17, 65] [256, 320, 448, 79801] ?_
          conv => whnf
          refine Req.of g347 ?_
          conv => whnf
          refine Row.of _ e350 ?_
          conv => whnf
          refine Req.of g347 ?_
          conv => whnf
          refine Row.of _ e350 ?_
          conv => whnf
          refine CutK.norm [4, 5, 15, 16, 17] [256, 320, 79801] ?_
          conv => whnf
          exact LoopOk.back (spec_odPlus_l0_ct hx rest (v199n + 1) _ hd1 h) [some 256, some 320, some 79801] [] ⟨⟨rfl, rfl⟩, ⟨rfl, ⟨rfl, trivial, trivial⟩, ⟨rfl, ⟨(by first | rfl | exact List.length_append.symm | (simp; done) | omega), rfl⟩, trivial⟩, ⟨rfl, rfl, rows_same⟩, trivial⟩, ⟨rfl, rfl⟩, ⟨rfl, rfl⟩, rfl, rfl, i64eq (wrap_up hlt hx), trivial⟩
        · replace h := iteN h g354
          conv => whnf
          refine CutK.norm [4, 5, 7, 8, 15, 16, 17, 65] [256, 320, 448, 79801] ?_
          conv => whnf
          refine Take.all (rfl) ?_
          conv => whnf
          refine Take.all (by first | rfl | exact List.length_append.symm | (simp; done) | omega) ?_
          conv => whnf
          obtain ⟨g355, h⟩ := req_ex h
          refine Req.of (room (b := 32) (by decide) g355 (wide1 rfl wide0)) ?_
          conv => whnf
          refine CutK.norm [4, 5, 15, 16, 17] [256, 320, 5184] ?_
          conv => whnf
          exact LoopOk.back (spec_odPlus_l0_ct hx rest (v199n + 1) _ hd1 h) [some 256, some 320, some 5184] [] ⟨⟨rfl, rfl⟩, ⟨rfl, ⟨rfl, trivial, trivial⟩, ⟨rfl, ⟨(by first | rfl | exact List.length_append.symm | (simp; done) | omega), rfl⟩, trivial⟩, ⟨rfl, rfl, rows_same⟩, trivial⟩, ⟨rfl, rfl⟩, ⟨rfl, rfl⟩, rfl, rfl, i64eq (wrap_up hlt hx), trivial⟩
      · replace h := iteN h g346
        conv => whnf
        refine CutK.norm [4, 5, 7, 8, 15, 16, 17, 65] [256, 320, 448, 79801] ?_
        conv => whnf
        refine Take.all (rfl) ?_
        conv => whnf
        refine Take.all (by first | rfl | exact List.length_append.symm | (simp; done) | omega) ?_
        conv => whnf
        obtain ⟨g356, h⟩ := req_ex h
        refine Req.of (room (b := 32) (by decide) g356 (wide1 rfl wide0)) ?_
        conv => whnf
        refine CutK.norm [4, 5, 15, 16, 17] [256, 320, 5184] ?_
        conv => whnf
        exact LoopOk.back (spec_odPlus_l0_ct hx rest (v199n + 1) _ hd1 h) [some 256, some 320, some 5184] [] ⟨⟨rfl, rfl⟩, ⟨rfl, ⟨rfl, trivial, trivial⟩, ⟨rfl, ⟨(by first | rfl | exact List.length_append.symm | (simp; done) | omega), rfl⟩, trivial⟩, ⟨rfl, rfl, rows_same⟩, trivial⟩, ⟨rfl, rfl⟩, ⟨rfl, rfl⟩, rfl, rfl, i64eq (wrap_up hlt hx), trivial⟩
def spec_odPlus (k : Nat) (a1 : Rw) (a2 : Rw) : Option Rw :=
  (if a1.length ≤ cap ∧ (∀ cs ∈ a1, cs.length = 2) then (if a2.length ≤ cap then (spec_odPlus_l0 k a2 (fun (v251 : Rw) => (spec_odPlus_p3 v251)) a2 0 ([] ++ a1 : Rw)) else none) else none)
set_option maxHeartbeats 4000000 in
set_option maxRecDepth 100000 in
theorem spec_odPlus_ct {k : Nat} {a1 : Rw} {a2 : Rw} {r : Rw} (h : spec_odPlus k a1 a2 = some r) : Ct prog 209 [.agg [.d (D.sl a1)], .agg [.d (D.sl a2)]] (⟨[], []⟩) (.agg [.os 8 r.length]) (⟨[], [(104, false, r)]⟩) := by
  rw [spec_odPlus] at h
  refine Ct.of (c := _) mixed func209 ⟨rfl, rfl, rfl⟩ ?_ rfl
  conv => whnf
  refine Take.all (by first | rfl | exact List.length_append.symm | (simp; done) | omega) ?_
  conv => whnf
  obtain ⟨g152, h⟩ := req_ex h
  refine Req.of (room0 (b := 32) (by decide) g152.1 g152.2) ?_
  conv => whnf
  obtain ⟨g357, h⟩ := req_ex h
  refine LoopOk.into (spec_odPlus_l0_ct  g357 _ _ _ rfl h) [some 256, some 320, some 768] [] ⟨⟨rfl, rfl⟩, ⟨rfl, ⟨rfl, trivial, trivial⟩, ⟨rfl, ⟨(by first | rfl | exact List.length_append.symm | (simp; done) | omega), rfl⟩, trivial⟩, ⟨rfl, rfl, rows_same⟩, trivial⟩, ⟨rfl, rfl⟩, ⟨rfl, rfl⟩, rfl, rfl, rfl, trivial⟩ ?_ (fun _ hs => hs)
  rintro i ts os ⟨rfl, v251, h, rfl, rfl⟩
  conv => whnf
  exact CutK.piece (spec_odPlus_p3_ct  h) [some 256, some 320, some 67001] [] ⟨⟨rfl, rfl⟩, ⟨rfl, ⟨rfl, trivial, trivial⟩, ⟨rfl, ⟨rfl, rfl⟩, trivial⟩, ⟨rfl, rfl, rows_same⟩, trivial⟩, ⟨rfl, rfl⟩, ⟨rfl, rfl⟩, trivial⟩

def spec_odZero  (a1 : Rw) : Option Bool :=
  (if (a1.length : Int) = (0 : Int) then some true else some false)
set_option maxHeartbeats 4000000 in
set_option maxRecDepth 100000 in
theorem spec_odZero_ct  {a1 : Rw} {r : Bool} (h : spec_odZero a1 = some r) : Ct prog 76 [.agg [.d (D.sl a1)]] (⟨[], []⟩) (.d (D.bool r)) (⟨[], []⟩) := by
  rw [spec_odZero] at h
  refine Ct.of (c := _) mixed func76 ⟨rfl, rfl, rfl⟩ ?_ rfl
  conv => whnf
  refine splD (fun g2 => ?_) (fun g2 => ?_)
  · replace h := iteP h g2
    conv => whnf
    cases h
    exact Done.of [] [] rfl rfl ⟨⟨rfl, rfl⟩, ⟨rfl, trivial⟩, rfl, trivial⟩
  · replace h := iteN h g2
    conv => whnf
    cases h
    exact Done.of [] [] rfl rfl ⟨⟨rfl, rfl⟩, ⟨rfl, trivial⟩, rfl, trivial⟩

def spec_odTimes_p4 (o69 : Rw) : Option Rw :=
  some o69
set_option maxHeartbeats 4000000 in
set_option maxRecDepth 100000 in
theorem spec_odTimes_p4_ct {o69 : Rw} {r : Rw} (h : spec_odTimes_p4 o69 = some r) : X prog 0 (tlF f165 4) (mk 59 [(4, .ptr 256 0), (5, .ptr 320 0)] [(256, .box 26 [.es]), (320, .box 26 [.os 1084000 o69.length]), (1084000, .arr 104 false o69)]) (finK prog f165 0 (.agg [.os 8 r.length]) (⟨[], [(104, false, r)]⟩)) := by
  rw [spec_odTimes_p4] at h
  conv => whnf
  cases h
  exact Done.of [some 1084000] [] rfl rfl ⟨⟨rfl, rfl⟩, ⟨rfl, ⟨rfl, rfl, rows_same⟩, trivial⟩, ⟨⟨rfl, rfl⟩, trivial⟩, trivial⟩
def spec_odTimes_l0 (k : Nat) (a1 : Rw) (a2 : Rw) (K0 : Rw → Option Rw) : Rw → Rw → Option Rw
  | [], v89 => (K0 v89)
  | cs :: rest, v89 => (cell_si cs fun x133 x134 => (row_si a1 0 fun x136 x137 => ((spec_odPlus k x136 x133).bind fun y140 => ((spec_odZero x133).bind fun y142 => (if y142 = true then (if 0 ≤ (1 : Int) ∧ (1 : Int) ≤ (a1.length : Int) ∧ (∀ cs ∈ a1, cs.length = 2) then (if ([[D.sl y140, D.int .i64 (IntKind.i64.wrap (x137 * x134))]] : Rw).length + (a1.drop (1 : Int).toNat).length ≤ cap ∧ (∀ cs ∈ (a1.drop (1 : Int).toNat), cs.length = 2) then ((spec_odPlus k v89 (([[D.sl y140, D.int .i64 (IntKind.i64.wrap (x137 * x134))]]) ++ (a1.drop (1 : Int).toNat))).bind fun y147 => (spec_odTimes_l0 k a1 a2 K0 rest y147)) else none) else none) else ((spec_odPlus k v89 ([[D.sl y140, D.int .i64 x134]] : Rw)).bind fun y149 => (spec_odTimes_l0 k a1 a2 K0 rest y149)))))))
set_option maxRecDepth 100000 in
theorem spec_odTimes_l0_ct {k : Nat} {a1 : Rw} {a2 : Rw} {K0 : Rw → Option Rw} {r : Rw} (hx : a2.length ≤ cap) : ∀ (rest : Rw) (v88n : Nat) (v89 : Rw), a2.drop v88n = rest → spec_odTimes_l0 k a1 a2 K0 rest v89 = some r → LoopOk prog 0 (lp f165 0) (mk 59 [(2, .ptr 128 0), (4, .ptr 256 0), (5, .ptr 320 0), (14, .d (D.sl a2)), (15, .d (D.int .i64 (a2.length : Int))), (16, .d (D.int .i64 (v88n : Int)))] [(128, .box 26 [.d (D.sl a1)]), (256, .box 26 [.es]), (320, .box 26 [.os 64000 v89.length]), (64000, .arr 104 false v89)]) (LoopEnd prog f165 0 59 (.agg [.os 8 r.length]) (⟨[], [(104, false, r)]⟩) (fun i ts os => (i = 0 ∧ ∃ v112 : Rw, K0 v112 = some r ∧ ts = [(4, .ptr 256 0), (5, .ptr 320 0)] ∧ os = [(256, .box 26 [.es]), (320, .box 26 [.os 67001 v112.length]), (67001, .arr 104 false v112)])))
  | [], v88n, v89, hd, h => by
      rw [spec_odTimes_l0] at h
      have hn := drop_nil hd
      refine LoopOk.step ?_
      conv => whnf
      refine splD (fun g => absurd g hn) (fun _ => ?_)
      conv => whnf
      exact ⟨_, _, [some 256, some 320, some 64000], [], ⟨rfl, _, h, rfl, rfl⟩, ⟨⟨rfl, rfl⟩, ⟨rfl, ⟨rfl, trivial, trivial⟩, ⟨rfl, ⟨rfl, rfl⟩, trivial⟩, ⟨rfl, rfl, rows_same⟩, trivial⟩, ⟨rfl, rfl⟩, ⟨rfl, rfl⟩, trivial⟩⟩
  | cs :: rest, v88n, v89, hd, h => by
      rw [spec_odTimes_l0] at h
      obtain ⟨hrow, hd1, hlt⟩ := drop_cons hd
      refine LoopOk.step ?_
      conv => whnf
      refine splD (fun _ => ?_) (fun g => absurd hlt g)
      conv => whnf
      obtain ⟨x133, x134, e135, h⟩ := cell_si_ex h
      rw [e135] at hrow
      refine Req.of (Int.natCast_nonneg _) ?_
      refine Row.of _ hrow ?_
      conv => whnf
      obtain ⟨g139, x136, x137, e138, h⟩ := row_si_ex h
      refine Req.of g139 ?_
      refine Row.of _ e138 ?_
      conv => whnf
      obtain ⟨y140, e141, h⟩ := bind_ex h
      refine CallOk.of (spec_odPlus_ct e141) ?_
      conv => whnf
      refine CutK.norm [2, 4, 5, 7, 8, 14, 15, 16] [128, 256, 320, 448, 512, 1728, 64000] ?_
      conv => whnf
      obtain ⟨y142, e143, h⟩ := bind_ex h
      refine CallOk.of (spec_odZero_ct e143) ?_
      conv => whnf
      refine spl (fun g144 => ?_) (fun g144 => ?_)
      · replace h := iteT h g144
        conv => whnf
        refine CutK.norm [2, 4, 5, 7, 8, 14, 15, 16, 33] [128, 256, 320, 448, 512, 1728, 64000] ?_
        conv => whnf
        refine Req.of g139 ?_
        refine Row.of _ e138 ?_
        conv => whnf
        refine Take.all (rfl) ?_
        conv => whnf
        obtain ⟨g145, h⟩ := req_ex h
        refine Req.of g145 ?_
        conv => whnf
        refine Take.all (by first | rfl | exact List.length_append.symm | (simp; done) | omega) ?_
        conv => whnf
        obtain ⟨g146, h⟩ := req_ex h
        refine Req.of (room (b := 32) (by decide) g146.1 g146.2) ?_
        conv => whnf
        refine Take.all (rfl) ?_
        conv => whnf
        refine Take.all (by first | rfl | exact List.length_append.symm | (simp; done) | omega) ?_
        conv => whnf
        obtain ⟨y147, e148, h⟩ := bind_ex h
        refine CallOk.of (spec_odPlus_ct e148) ?_
        conv => whnf
        refine CutK.norm [2, 4, 5, 14, 15, 16] [128, 256, 320, 3264] ?_
        conv => whnf
        exact LoopOk.back (spec_odTimes_l0_ct hx rest (v88n + 1) _ hd1 h) [some 128, some 256, some 320, some 3264] [] ⟨⟨rfl, rfl⟩, ⟨rfl, ⟨rfl, rfl, trivial⟩, ⟨rfl, trivial, trivial⟩, ⟨rfl, ⟨rfl, rfl⟩, trivial⟩, ⟨rfl, rfl, rows_same⟩, trivial⟩, ⟨rfl, rfl⟩, ⟨rfl, rfl⟩, ⟨rfl, rfl⟩, rfl, rfl, i64eq (wrap_up hlt hx), trivial⟩
      · replace h := iteF h g144
        conv => whnf
        refine CutK.norm [2, 4, 5, 7, 8, 14, 15, 16, 33] [128, 256, 320, 448, 512, 1728, 64000] ?_
        conv => whnf
        refine Take.all (rfl) ?_
        conv => whnf
        refine Take.all (rfl) ?_
        conv => whnf
        refine Take.all (by first | rfl | exact List.length_append.symm | (simp; done) | omega) ?_
        conv => whnf
        obtain ⟨y149, e150, h⟩ := bind_ex h
        refine CallOk.of (spec_odPlus_ct e150) ?_
        conv => whnf
        refine CutK.norm [2, 4, 5, 14, 15, 16] [128, 256, 320, 3584] ?_
        conv => whnf
        exact LoopOk.back (spec_odTimes_l0_ct hx rest (v88n + 1) _ hd1 h) [some 128, some 256, some 320, some 3584] [] ⟨⟨rfl, rfl⟩, ⟨rfl, ⟨rfl, rfl, trivial⟩, ⟨rfl, trivial, trivial⟩, ⟨rfl, ⟨rfl, rfl⟩, trivial⟩, ⟨rfl, rfl, rows_same⟩, trivial⟩, ⟨rfl, rfl⟩, ⟨rfl, rfl⟩, ⟨rfl, rfl⟩, rfl, rfl, i64eq (wrap_up hlt hx), trivial⟩
def spec_odTimes_p3 (k : Nat) (a1 : Rw) (a2 : Rw) : Option Rw :=
  (if a2.length ≤ cap then (spec_odTimes_l0 k a1 a2 (fun (v112 : Rw) => (spec_odTimes_p4 v112)) a2 ([] : Rw)) else none)
set_option maxHeartbeats 4000000 in
set_option maxRecDepth 100000 in
theorem spec_odTimes_p3_ct {k : Nat} {a1 : Rw} {a2 : Rw} {r : Rw} (h : spec_odTimes_p3 k a1 a2 = some r) : X prog 0 (tlF f165 3) (mk 59 [(2, .ptr 128 0), (3, .ptr 192 0), (4, .ptr 256 0), (5, .ptr 320 0)] [(128, .box 26 [.d (D.sl a1)]), (192, .box 26 [.d (D.sl a2)]), (256, .box 26 [.es]), (320, .box 26 [.es])]) (finK prog f165 0 (.agg [.os 8 r.length]) (⟨[], [(104, false, r)]⟩)) := by
  rw [spec_odTimes_p3] at h
  conv => whnf
  obtain ⟨g151, h⟩ := req_ex h
  refine LoopOk.into (spec_odTimes_l0_ct  g151 _ _ _ rfl h) [some 128, some 256, some 320, none] [] ⟨⟨rfl, rfl⟩, ⟨rfl, ⟨rfl, rfl, trivial⟩, ⟨rfl, trivial, trivial⟩, ⟨rfl, ⟨rfl, rfl⟩, trivial⟩, rfl, trivial⟩, ⟨rfl, rfl⟩, ⟨rfl, rfl⟩, ⟨rfl, rfl⟩, rfl, rfl, rfl, trivial⟩ ?_ (fun _ hs => hs)
  rintro i ts os ⟨rfl, v112, h, rfl, rfl⟩
  conv => whnf
  exact CutK.piece (spec_odTimes_p4_ct  h) [some 256, some 320, some 67001] [] ⟨⟨rfl, rfl⟩, ⟨rfl, ⟨rfl, trivial, trivial⟩, ⟨rfl, ⟨rfl, rfl⟩, trivial⟩, ⟨rfl, rfl, rows_same⟩, trivial⟩, ⟨rfl, rfl⟩, ⟨rfl, rfl⟩, trivial⟩
def spec_odTimes (k : Nat) (a1 : Rw) (a2 : Rw) : Option Rw :=
  ((spec_odZero a1).bind fun y152 => (if y152 = true then some ([] : Rw) else (spec_odTimes_p3 k a1 a2)))
set_option maxHeartbeats 4000000 in
set_option maxRecDepth 100000 in
theorem spec_odTimes_ct {k : Nat} {a1 : Rw} {a2 : Rw} {r : Rw} (h : spec_odTimes k a1 a2 = some r) : Ct prog 165 [.agg [.d (D.sl a1)], .agg [.d (D.sl a2)]] (⟨[], []⟩) (.agg [.os 8 r.length]) (⟨[], [(104, false, r)]⟩) := by
  rw [spec_odTimes] at h
  refine Ct.of (c := _) mixed func165 ⟨rfl, rfl, rfl⟩ ?_ rfl
  conv => whnf
  obtain ⟨y152, e153, h⟩ := bind_ex h
  refine CallOk.of (spec_odZero_ct e153) ?_
  conv => whnf
  refine spl (fun g154 => ?_) (fun g154 => ?_)
  · replace h := iteT h g154
    conv => whnf
    refine CutK.norm [2, 3, 4, 5, 11] [128, 192, 256, 320] ?_
    conv => whnf
    cases h
    exact Done.of [none] [] rfl rfl ⟨⟨rfl, rfl⟩, ⟨rfl, rfl, trivial⟩, ⟨⟨rfl, rfl⟩, trivial⟩, trivial⟩
  · replace h := iteF h g154
    conv => whnf
    refine CutK.norm [2, 3, 4, 5, 11] [128, 192, 256, 320] ?_
    conv => whnf
    exact CutK.piece (spec_odTimes_p3_ct  h) [some 128, some 192, some 256, some 320] [] ⟨⟨rfl, rfl⟩, ⟨rfl, ⟨rfl, rfl, trivial⟩, ⟨rfl, rfl, trivial⟩, ⟨rfl, trivial, trivial⟩, ⟨rfl, trivial, trivial⟩, trivial⟩, ⟨rfl, rfl⟩, ⟨rfl, rfl⟩, ⟨rfl, rfl⟩, ⟨rfl, rfl⟩, trivial⟩

def spec_odLess_p2  : Option Rw :=
  some ([] : Rw)
set_option maxHeartbeats 4000000 in
set_option maxRecDepth 100000 in
theorem spec_odLess_p2_ct  {r : Rw} (h : spec_odLess_p2 = some r) : X prog 0 (tlF f208 2) (mk 67 [(4, .ptr 256 0)] [(256, .box 26 [.es])]) (finK prog f208 0 (.agg [.d (D.sl r)]) (⟨[], []⟩)) := by
  rw [spec_odLess_p2] at h
  conv => whnf
  cases h
  exact Done.of [] [] rfl rfl ⟨⟨rfl, rfl⟩, ⟨rfl, trivial⟩, ⟨rfl, trivial⟩, trivial⟩
def spec_odLess_l0 (k : Nat) (a1 : Rw) (a2 : Rw) (K0 : Option Rw) : Rw → Nat → Option Rw
  | [], v58n => (K0)
  | cs :: rest, v58n => (cell_si cs fun x77 x78 => (if (v58n : Int) = (a2.length : Int) then (if 0 ≤ (v58n : Int) ∧ (v58n : Int) ≤ (a1.length : Int) ∧ (∀ cs ∈ a1, cs.length = 2) then some (a1.drop ((v58n : Int) : Int).toNat) else none) else (row_si a2 (v58n : Int) fun x82 x83 => ((spec_odCmp k x77 x82).bind fun y86 => (if y86 = (0 : Int) then (if x78 = x83 then (spec_odLess_l0 k a1 a2 K0 rest (v58n + 1)) else (if 0 ≤ (IntKind.i64.wrap ((v58n : Int) + 1)) ∧ (IntKind.i64.wrap ((v58n : Int) + 1)) ≤ (a1.length : Int) ∧ (∀ cs ∈ a1, cs.length = 2) then (if ([[D.sl x77, D.int .i64 (IntKind.i64.wrap (x78 - x83))]] : Rw).length + (a1.drop (IntKind.i64.wrap ((v58n : Int) + 1) : Int).toNat).length ≤ cap ∧ (∀ cs ∈ (a1.drop (IntKind.i64.wrap ((v58n : Int) + 1) : Int).toNat), cs.length = 2) then some (([[D.sl x77, D.int .i64 (IntKind.i64.wrap (x78 - x83))]]) ++ (a1.drop (IntKind.i64.wrap ((v58n : Int) + 1) : Int).toNat)) else none) else none)) else (if 0 ≤ (v58n : Int) ∧ (v58n : Int) ≤ (a1.length : Int) ∧ (∀ cs ∈ a1, cs.length = 2) then some (a1.drop ((v58n : Int) : Int).toNat) else none))))))
set_option maxRecDepth 100000 in
theorem spec_odLess_l0_ct {k : Nat} {a1 : Rw} {a2 : Rw} {K0 : Option Rw} {r : Rw} (hx : a1.length ≤ cap) : ∀ (rest : Rw) (v58n : Nat), a1.drop v58n = rest → spec_odLess_l0 k a1 a2 K0 rest v58n = some r → LoopOk prog 0 (lp f208 0) (mk 67 [(2, .ptr 128 0), (3, .ptr 192 0), (4, .ptr 256 0), (10, .d (D.sl a1)), (11, .d (D.int .i64 (a1.length : Int))), (12, .d (D.int .i64 (v58n : Int)))] [(128, .box 26 [.d (D.sl a1)]), (192, .box 26 [.d (D.sl a2)]), (256, .box 26 [.es])]) (LoopEnd prog f208 0 67 (.agg [.d (D.sl r)]) (⟨[], []⟩) (fun i ts os => (i = 0 ∧ K0 = some r ∧ ts = [(4, .ptr 256 0)] ∧ os = [(256, .box 26 [.es])])))
  | [], v58n, hd, h => by
      rw [spec_odLess_l0] at h
      have hn := drop_nil hd
      refine LoopOk.step ?_
      conv => whnf
      refine splD (fun g => absurd g hn) (fun _ => ?_)
      conv => whnf
      exact ⟨_, _, [some 256], [], ⟨rfl, h, rfl, rfl⟩, ⟨⟨rfl, rfl⟩, ⟨rfl, ⟨rfl, trivial, trivial⟩, trivial⟩, ⟨rfl, rfl⟩, trivial⟩⟩
  | cs :: rest, v58n, hd, h => by
      rw [spec_odLess_l0] at h
      obtain ⟨hrow, hd1, hlt⟩ := drop_cons hd
      refine LoopOk.step ?_
      conv => whnf
      refine splD (fun _ => ?_) (fun g => absurd hlt g)
      conv => whnf
      obtain ⟨x77, x78, e79, h⟩ := cell_si_ex h
      rw [e79] at hrow
      refine Req.of (Int.natCast_nonneg _) ?_
      refine Row.of _ hrow ?_
      conv => whnf
      refine splD (fun g80 => ?_) (fun g80 => ?_)
      · replace h := iteP h g80
        conv => whnf
        obtain ⟨g81, h⟩ := req_ex h
        refine Req.of g81 ?_
        conv => whnf
        cases h
        exact Done.of [] [] rfl rfl ⟨⟨rfl, rfl⟩, ⟨rfl, trivial⟩, ⟨rfl, trivial⟩, trivial⟩
      · replace h := iteN h g80
        conv => whnf
        obtain ⟨g85, x82, x83, e84, h⟩ := row_si_ex h
        refine Req.of g85 ?_
        refine Row.of _ e84 ?_
        conv => whnf
        obtain ⟨y86, e87, h⟩ := bind_ex h
        refine CallOk.of (spec_odCmp_ct e87) ?_
        conv => whnf
        refine splN (fun g88 => ?_) (fun g88 => ?_)
        · replace h := iteN h g88
          conv => whnf
          refine CutK.norm [2, 3, 4, 5, 6, 7, 10, 11, 12, 37] [128, 192, 256, 384, 448] ?_
          conv => whnf
          obtain ⟨g89, h⟩ := req_ex h
          refine Req.of g89 ?_
          conv => whnf
          cases h
          exact Done.of [] [] rfl rfl ⟨⟨rfl, rfl⟩, ⟨rfl, trivial⟩, ⟨rfl, trivial⟩, trivial⟩
        · replace h := iteP h g88
          conv => whnf
          refine CutK.norm [2, 3, 4, 5, 6, 7, 10, 11, 12, 37] [128, 192, 256, 384, 448] ?_
          conv => whnf
          refine CutK.norm [2, 3, 4, 5, 6, 7, 10, 11, 12] [128, 192, 256, 384, 448] ?_
          conv => whnf
          refine splN (fun g90 => ?_) (fun g90 => ?_)
          · replace h := iteN h g90
            conv => whnf
            obtain ⟨g91, h⟩ := req_ex h
            refine Req.of g91 ?_
            conv => whnf
            refine Take.all (by first | rfl | exact List.length_append.symm | (simp; done) | omega) ?_
            conv => whnf
            obtain ⟨g92, h⟩ := req_ex h
            refine Req.of (room (b := 32) (by decide) g92.1 g92.2) ?_
            conv => whnf
            cases h
            exact Done.of [] [4032] rfl rfl ⟨⟨rfl, rfl⟩, ⟨rfl, trivial⟩, ⟨⟨rfl, Nat.le_of_eq (by first | rfl | exact List.length_append.symm | (simp; done) | omega), eq_take (by first | rfl | exact List.length_append.symm | (simp; done) | omega)⟩, trivial⟩, trivial⟩
          · replace h := iteP h g90
            conv => whnf
            refine CutK.norm [2, 3, 4, 10, 11, 12] [128, 192, 256] ?_
            conv => whnf
            exact LoopOk.back (spec_odLess_l0_ct hx rest (v58n + 1)  hd1 h) [some 128, some 192, some 256] [] ⟨⟨rfl, rfl⟩, ⟨rfl, ⟨rfl, rfl, trivial⟩, ⟨rfl, rfl, trivial⟩, ⟨rfl, trivial, trivial⟩, trivial⟩, ⟨rfl, rfl⟩, ⟨rfl, rfl⟩, ⟨rfl, rfl⟩, rfl, rfl, i64eq (wrap_up hlt hx), trivial⟩
def spec_odLess (k : Nat) (a1 : Rw) (a2 : Rw) : Option Rw :=
  (if a1.length ≤ cap then (spec_odLess_l0 k a1 a2 (spec_odLess_p2) a1 0) else none)
set_option maxHeartbeats 4000000 in
set_option maxRecDepth 100000 in
theorem spec_odLess_ct {k : Nat} {a1 : Rw} {a2 : Rw} {r : Rw} (h : spec_odLess k a1 a2 = some r) : Ct prog 208 [.agg [.d (D.sl a1)], .agg [.d (D.sl a2)]] (⟨[], []⟩) (.agg [.d (D.sl r)]) (⟨[], []⟩) := by
  rw [spec_odLess] at h
  refine Ct.of (c := _) mixed func208 ⟨rfl, rfl, rfl⟩ ?_ rfl
  conv => whnf
  obtain ⟨g93, h⟩ := req_ex h
  refine LoopOk.into (spec_odLess_l0_ct  g93 _ _  rfl h) [some 128, some 192, some 256] [] ⟨⟨rfl, rfl⟩, ⟨rfl, ⟨rfl, rfl, trivial⟩, ⟨rfl, rfl, trivial⟩, ⟨rfl, trivial, trivial⟩, trivial⟩, ⟨rfl, rfl⟩, ⟨rfl, rfl⟩, ⟨rfl, rfl⟩, rfl, rfl, rfl, trivial⟩ ?_ (fun _ hs => hs)
  rintro i ts os ⟨rfl, h, rfl, rfl⟩
  conv => whnf
  exact CutK.piece (spec_odLess_p2_ct  h) [some 256] [] ⟨⟨rfl, rfl⟩, ⟨rfl, ⟨rfl, trivial, trivial⟩, trivial⟩, ⟨rfl, rfl⟩, trivial⟩
end
end Go.Proofs.Try
