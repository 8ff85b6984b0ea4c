/- Printed by program (axgen): pure functions, and that the Go functions compute them. -/
import Derived.Test.YtmhcdljkmngkpaaProg
import Derived.Test.YtmhcdljkmngkpaaAxC
import Derived.KernelRfl
import Derived.Test.YtmhcdljkmngkpaaHyd
set_option linter.unusedVariables false
set_option linter.unusedSimpArgs false
namespace Go.Proofs.Try
open Go Go.AX
theorem mixed : prog.follows .mixedOrders = true := by kernel_rfl
def cell_i {α : Type} (cs : List D) (K : Int → Option α) : Option α := match cs with | [.int .i64 a0] => K a0 | _ => none
def row_i {α : Type} (es : Rw) (i : Int) (K : Int → Option α) : Option α := if 0 ≤ i then (match es[i.toNat]? with | some cs => cell_i cs K | none => none) else none
theorem cell_i_ex {α : Type} {cs : List D} {K : Int → Option α} {r : α} (h : cell_i cs K = some r) : ∃ a0, cs = [.int .i64 a0] ∧ K a0 = some r := by
  unfold cell_i at h
  split at h
  · exact ⟨_, rfl, h⟩
  · cases h
theorem row_i_ex {α : Type} {es : Rw} {i : Int} {K : Int → Option α} {r : α} (h : row_i es i K = some r) : 0 ≤ i ∧ ∃ a0, es[i.toNat]? = some [.int .i64 a0] ∧ K a0 = some r := by
  unfold row_i at h
  obtain ⟨g, h⟩ := req_ex h
  split at h
  · rename_i cs e
    obtain ⟨a0, rfl, h⟩ := cell_i_ex h
    exact ⟨g, a0, e, h⟩
  · cases h
def cell_is {α : Type} (cs : List D) (K : Int → Rw → Option α) : Option α := match cs with | [.int .i64 a0, .sl a1] => K a0 a1 | _ => none
def row_is {α : Type} (es : Rw) (i : Int) (K : Int → Rw → Option α) : Option α := if 0 ≤ i then (match es[i.toNat]? with | some cs => cell_is cs K | none => none) else none
theorem cell_is_ex {α : Type} {cs : List D} {K : Int → Rw → Option α} {r : α} (h : cell_is cs K = some r) : ∃ a0 a1, cs = [.int .i64 a0, .sl a1] ∧ K a0 a1 = some r := by
  unfold cell_is at h
  split at h
  · exact ⟨_, _, rfl, h⟩
  · cases h
theorem row_is_ex {α : Type} {es : Rw} {i : Int} {K : Int → Rw → Option α} {r : α} (h : row_is es i K = some r) : 0 ≤ i ∧ ∃ a0 a1, es[i.toNat]? = some [.int .i64 a0, .sl a1] ∧ K a0 a1 = some r := by
  unfold row_is at h
  obtain ⟨g, h⟩ := req_ex h
  split at h
  · rename_i cs e
    obtain ⟨a0, a1, rfl, h⟩ := cell_is_ex h
    exact ⟨g, a0, a1, e, h⟩
  · cases h
def cell_iu8 {α : Type} (cs : List D) (K : Int → Option α) : Option α := match cs with | [.int .u8 a0] => K a0 | _ => none
def row_iu8 {α : Type} (es : Rw) (i : Int) (K : Int → Option α) : Option α := if 0 ≤ i then (match es[i.toNat]? with | some cs => cell_iu8 cs K | none => none) else none
theorem cell_iu8_ex {α : Type} {cs : List D} {K : Int → Option α} {r : α} (h : cell_iu8 cs K = some r) : ∃ a0, cs = [.int .u8 a0] ∧ K a0 = some r := by
  unfold cell_iu8 at h
  split at h
  · exact ⟨_, rfl, h⟩
  · cases h
theorem row_iu8_ex {α : Type} {es : Rw} {i : Int} {K : Int → Option α} {r : α} (h : row_iu8 es i K = some r) : 0 ≤ i ∧ ∃ a0, es[i.toNat]? = some [.int .u8 a0] ∧ K a0 = some r := by
  unfold row_iu8 at h
  obtain ⟨g, h⟩ := req_ex h
  split at h
  · rename_i cs e
    obtain ⟨a0, rfl, h⟩ := cell_iu8_ex h
    exact ⟨g, a0, e, h⟩
  · cases h
def cell_p {α : Type} (cs : List D) (K : Cs → Option α) : Option α := match cs with | [.pt a0] => K a0 | _ => none
def row_p {α : Type} (es : Rw) (i : Int) (K : Cs → Option α) : Option α := if 0 ≤ i then (match es[i.toNat]? with | some cs => cell_p cs K | none => none) else none
theorem cell_p_ex {α : Type} {cs : List D} {K : Cs → Option α} {r : α} (h : cell_p cs K = some r) : ∃ a0, cs = [.pt a0] ∧ K a0 = some r := by
  unfold cell_p at h
  split at h
  · exact ⟨_, rfl, h⟩
  · cases h
theorem row_p_ex {α : Type} {es : Rw} {i : Int} {K : Cs → Option α} {r : α} (h : row_p es i K = some r) : 0 ≤ i ∧ ∃ a0, es[i.toNat]? = some [.pt a0] ∧ K a0 = some r := by
  unfold row_p at h
  obtain ⟨g, h⟩ := req_ex h
  split at h
  · rename_i cs e
    obtain ⟨a0, rfl, h⟩ := cell_p_ex h
    exact ⟨g, a0, e, h⟩
  · cases h
def cell_si {α : Type} (cs : List D) (K : Rw → Int → Option α) : Option α := match cs with | [.sl a0, .int .i64 a1] => K a0 a1 | _ => none
def row_si {α : Type} (es : Rw) (i : Int) (K : Rw → Int → Option α) : Option α := if 0 ≤ i then (match es[i.toNat]? with | some cs => cell_si cs K | none => none) else none
theorem cell_si_ex {α : Type} {cs : List D} {K : Rw → Int → Option α} {r : α} (h : cell_si cs K = some r) : ∃ a0 a1, cs = [.sl a0, .int .i64 a1] ∧ K a0 a1 = some r := by
  unfold cell_si at h
  split at h
  · exact ⟨_, _, rfl, h⟩
  · cases h
theorem row_si_ex {α : Type} {es : Rw} {i : Int} {K : Rw → Int → Option α} {r : α} (h : row_si es i K = some r) : 0 ≤ i ∧ ∃ a0 a1, es[i.toNat]? = some [.sl a0, .int .i64 a1] ∧ K a0 a1 = some r := by
  unfold row_si at h
  obtain ⟨g, h⟩ := req_ex h
  split at h
  · rename_i cs e
    obtain ⟨a0, a1, rfl, h⟩ := cell_si_ex h
    exact ⟨g, a0, a1, e, h⟩
  · cases h
noncomputable section
def laws_qSame_l0 (a1 : Rw) (a2 : Rw) (K0 : Option Bool) : Rw → Nat → Option Bool
  | [], v12n => (K0)
  | cs :: rest, v12n => (cell_i cs fun x21 => (row_i a2 (v12n : Int) fun x23 => (if x21 = x23 then (laws_qSame_l0 a1 a2 K0 rest (v12n + 1)) else some false)))
set_option maxHeartbeats 4000000 in
set_option maxRecDepth 100000 in
theorem laws_qSame_l0_ct {a1 : Rw} {a2 : Rw} {K0 : Option Bool} {r : Bool} (hx : a1.length ≤ cap) : ∀ (rest : Rw) (v12n : Nat), a1.drop v12n = rest → laws_qSame_l0 a1 a2 K0 rest v12n = some r → LoopOk prog 0 (lp f22 0) (mk 26 [(0, .d (D.sl a1)), (1, .d (D.sl a2)), (12, .d (D.int .i64 (a1.length : Int))), (13, .d (D.int .i64 (v12n : Int)))] []) (LoopEnd prog f22 0 26 (.d (D.bool r)) (⟨[], []⟩) (fun i ts os => (i = 0 ∧ K0 = some r ∧ ts = [] ∧ os = [])))
  | [], v12n, hd, h => by
      rw [laws_qSame_l0] at h
      have hn := drop_nil hd
      refine LoopOk.step ?_
      conv => whnf
      refine splD (fun g => absurd g hn) (fun _ => ?_)
      conv => whnf
      exact ⟨_, _, [], [], ⟨rfl, h, rfl, rfl⟩, ⟨⟨rfl, rfl⟩, ⟨rfl, trivial⟩, trivial⟩⟩
  | cs :: rest, v12n, hd, h => by
      rw [laws_qSame_l0] at h
      obtain ⟨hrow, hd1, hlt⟩ := drop_cons hd
      refine LoopOk.step ?_
      conv => whnf
      refine splD (fun _ => ?_) (fun g => absurd hlt g)
      conv => whnf
      obtain ⟨x21, e22, h⟩ := cell_i_ex h
      rw [e22] at hrow
      refine Req.of (Int.natCast_nonneg _) ?_
      refine Row.of _ hrow ?_
      conv => whnf
      obtain ⟨g25, x23, e24, h⟩ := row_i_ex h
      refine Req.of g25 ?_
      refine Row.of _ e24 ?_
      conv => whnf
      refine splN (fun g26 => ?_) (fun g26 => ?_)
      · replace h := iteN h g26
        conv => whnf
        cases h
        exact Done.of [] [] rfl rfl ⟨⟨rfl, rfl⟩, ⟨rfl, trivial⟩, rfl, trivial⟩
      · replace h := iteP h g26
        conv => whnf
        exact LoopOk.back (laws_qSame_l0_ct hx rest (v12n + 1)  hd1 h) [] [] ⟨⟨rfl, rfl⟩, ⟨rfl, trivial⟩, rfl, rfl, rfl, i64eq (wrap_up hlt hx), trivial⟩
def laws_qSame  (a1 : Rw) (a2 : Rw) : Option Bool :=
  (if (a1.length : Int) = (a2.length : Int) then (if a1.length ≤ cap then (laws_qSame_l0 a1 a2 (some true) a1 0) else none) else some false)
set_option maxHeartbeats 4000000 in
set_option maxRecDepth 100000 in
theorem laws_qSame_ct  {a1 : Rw} {a2 : Rw} {r : Bool} (h : laws_qSame a1 a2 = some r) : Ct prog 22 [.d (D.sl a1), .d (D.sl a2)] (⟨[], []⟩) (.d (D.bool r)) (⟨[], []⟩) := by
  rw [laws_qSame] at h
  refine Ct.of (c := _) mixed func22 ⟨rfl, rfl, rfl⟩ ?_ rfl
  conv => whnf
  refine splN (fun g3 => ?_) (fun g3 => ?_)
  · replace h := iteN h g3
    conv => whnf
    cases h
    exact Done.of [] [] rfl rfl ⟨⟨rfl, rfl⟩, ⟨rfl, trivial⟩, rfl, trivial⟩
  · replace h := iteP h g3
    conv => whnf
    obtain ⟨g27, h⟩ := req_ex h
    refine LoopOk.into (laws_qSame_l0_ct  g27 _ _  rfl h) [] [] ⟨⟨rfl, rfl⟩, ⟨rfl, trivial⟩, rfl, rfl, rfl, rfl, trivial⟩ ?_ (fun _ hs => hs)
    rintro i ts os ⟨rfl, h, rfl, rfl⟩
    conv => whnf
    refine CutK.go ?_
    conv => whnf
    cases h
    exact Done.of [] [] rfl rfl ⟨⟨rfl, rfl⟩, ⟨rfl, trivial⟩, rfl, trivial⟩

def laws_qSameOrdinal_p3  : Option Bool :=
  some true
set_option maxHeartbeats 4000000 in
set_option maxRecDepth 100000 in
theorem laws_qSameOrdinal_p3_ct  {r : Bool} (h : laws_qSameOrdinal_p3 = some r) : X prog 0 (tlF f34 3) (mk 49 [] []) (finK prog f34 0 (.d (D.bool r)) (⟨[], []⟩)) := by
  rw [laws_qSameOrdinal_p3] at h
  conv => whnf
  cases h
  exact Done.of [] [] rfl rfl ⟨⟨rfl, rfl⟩, ⟨rfl, trivial⟩, rfl, trivial⟩
def laws_qSameOrdinal_l0 (rec_laws_qSameOrdinal : Rw → Rw → Option Bool) (a1 : Rw) (a2 : Rw) (K0 : Option Bool) : Rw → Nat → Option Bool
  | [], v45n => (K0)
  | cs :: rest, v45n => (cell_si cs fun x59 x60 => (row_si a2 (v45n : Int) fun x62 x63 => (if x60 = x63 then ((rec_laws_qSameOrdinal x59 x62).bind fun y67 => (if y67 = true then (laws_qSameOrdinal_l0 rec_laws_qSameOrdinal a1 a2 K0 rest (v45n + 1)) else some false)) else some false)))
set_option maxHeartbeats 4000000 in
set_option maxRecDepth 100000 in
theorem laws_qSameOrdinal_l0_ct {rec_laws_qSameOrdinal : Rw → Rw → Option Bool} {a1 : Rw} {a2 : Rw} {K0 : Option Bool} (hrec_laws_qSameOrdinal : ∀ (a1 : Rw) (a2 : Rw) (r : Bool), rec_laws_qSameOrdinal a1 a2 = some r → Ct prog 34 [.agg [.d (D.sl a1)], .agg [.d (D.sl a2)]] (⟨[], []⟩) (.d (D.bool r)) (⟨[], []⟩)) {r : Bool} (hx : a1.length ≤ cap) : ∀ (rest : Rw) (v45n : Nat), a1.drop v45n = rest → laws_qSameOrdinal_l0 rec_laws_qSameOrdinal a1 a2 K0 rest v45n = some r → LoopOk prog 0 (lp f34 0) (mk 49 [(2, .ptr 128 0), (3, .ptr 192 0), (15, .d (D.int .i64 (a1.length : Int))), (16, .d (D.int .i64 (v45n : Int)))] [(128, .box 28 [.d (D.sl a1)]), (192, .box 28 [.d (D.sl a2)])]) (LoopEnd prog f34 0 49 (.d (D.bool r)) (⟨[], []⟩) (fun i ts os => (i = 0 ∧ K0 = some r ∧ ts = [] ∧ os = [])))
  | [], v45n, hd, h => by
      rw [laws_qSameOrdinal_l0] at h
      have hn := drop_nil hd
      refine LoopOk.step ?_
      conv => whnf
      refine splD (fun g => absurd g hn) (fun _ => ?_)
      conv => whnf
      exact ⟨_, _, [], [], ⟨rfl, h, rfl, rfl⟩, ⟨⟨rfl, rfl⟩, ⟨rfl, trivial⟩, trivial⟩⟩
  | cs :: rest, v45n, hd, h => by
      rw [laws_qSameOrdinal_l0] at h
      obtain ⟨hrow, hd1, hlt⟩ := drop_cons hd
      refine LoopOk.step ?_
      conv => whnf
      refine splD (fun _ => ?_) (fun g => absurd hlt g)
      conv => whnf
      obtain ⟨x59, x60, e61, h⟩ := cell_si_ex h
      rw [e61] at hrow
      refine Req.of (Int.natCast_nonneg _) ?_
      refine Row.of _ hrow ?_
      conv => whnf
      obtain ⟨g65, x62, x63, e64, h⟩ := row_si_ex h
      refine Req.of g65 ?_
      refine Row.of _ e64 ?_
      conv => whnf
      refine splN (fun g66 => ?_) (fun g66 => ?_)
      · replace h := iteN h g66
        conv => whnf
        refine CutK.norm [2, 3, 15, 16, 47] [128, 192] ?_
        conv => whnf
        cases h
        exact Done.of [] [] rfl rfl ⟨⟨rfl, rfl⟩, ⟨rfl, trivial⟩, rfl, trivial⟩
      · replace h := iteP h g66
        conv => whnf
        refine Req.of (Int.natCast_nonneg _) ?_
        refine Row.of _ hrow ?_
        conv => whnf
        refine Req.of g65 ?_
        refine Row.of _ e64 ?_
        conv => whnf
        refine Pick.no ?_
        conv => whnf
        obtain ⟨y67, e68, h⟩ := bind_ex h
        refine CallOk.of (hrec_laws_qSameOrdinal _ _ _ e68) ?_
        conv => whnf
        refine spl (fun g69 => ?_) (fun g69 => ?_)
        · replace h := iteT h g69
          conv => whnf
          refine CutK.norm [2, 3, 15, 16, 47] [128, 192] ?_
          conv => whnf
          refine CutK.norm [2, 3, 15, 16] [128, 192] ?_
          conv => whnf
          exact LoopOk.back (laws_qSameOrdinal_l0_ct hrec_laws_qSameOrdinal hx rest (v45n + 1)  hd1 h) [some 128, some 192] [] ⟨⟨rfl, rfl⟩, ⟨rfl, ⟨rfl, rfl, trivial⟩, ⟨rfl, rfl, trivial⟩, trivial⟩, ⟨rfl, rfl⟩, ⟨rfl, rfl⟩, rfl, i64eq (wrap_up hlt hx), trivial⟩
        · replace h := iteF h g69
          conv => whnf
          refine CutK.norm [2, 3, 15, 16, 47] [128, 192] ?_
          conv => whnf
          cases h
          exact Done.of [] [] rfl rfl ⟨⟨rfl, rfl⟩, ⟨rfl, trivial⟩, rfl, trivial⟩
def laws_qSameOrdinal_b (rec_laws_qSameOrdinal : Rw → Rw → Option Bool) (a1 : Rw) (a2 : Rw) : Option Bool :=
  (if (a1.length : Int) = (a2.length : Int) then (if a1.length ≤ cap then (laws_qSameOrdinal_l0 rec_laws_qSameOrdinal a1 a2 (laws_qSameOrdinal_p3) a1 0) else none) else some false)
set_option maxHeartbeats 4000000 in
set_option maxRecDepth 100000 in
theorem laws_qSameOrdinal_b_ct {rec_laws_qSameOrdinal : Rw → Rw → Option Bool} (hrec_laws_qSameOrdinal : ∀ (a1 : Rw) (a2 : Rw) (r : Bool), rec_laws_qSameOrdinal a1 a2 = some r → Ct prog 34 [.agg [.d (D.sl a1)], .agg [.d (D.sl a2)]] (⟨[], []⟩) (.d (D.bool r)) (⟨[], []⟩)) {a1 : Rw} {a2 : Rw} {r : Bool} (h : laws_qSameOrdinal_b rec_laws_qSameOrdinal a1 a2 = some r) : Ct prog 34 [.agg [.d (D.sl a1)], .agg [.d (D.sl a2)]] (⟨[], []⟩) (.d (D.bool r)) (⟨[], []⟩) := by
  rw [laws_qSameOrdinal_b] at h
  refine Ct.of (c := _) mixed func34 ⟨rfl, rfl, rfl⟩ ?_ rfl
  conv => whnf
  refine splN (fun g31 => ?_) (fun g31 => ?_)
  · replace h := iteN h g31
    conv => whnf
    cases h
    exact Done.of [] [] rfl rfl ⟨⟨rfl, rfl⟩, ⟨rfl, trivial⟩, rfl, trivial⟩
  · replace h := iteP h g31
    conv => whnf
    obtain ⟨g70, h⟩ := req_ex h
    refine LoopOk.into (laws_qSameOrdinal_l0_ct hrec_laws_qSameOrdinal g70 _ _  rfl h) [some 128, some 192] [] ⟨⟨rfl, rfl⟩, ⟨rfl, ⟨rfl, rfl, trivial⟩, ⟨rfl, rfl, trivial⟩, trivial⟩, ⟨rfl, rfl⟩, ⟨rfl, rfl⟩, rfl, rfl, trivial⟩ ?_ (fun _ hs => hs)
    rintro i ts os ⟨rfl, h, rfl, rfl⟩
    conv => whnf
    exact CutK.piece (laws_qSameOrdinal_p3_ct  h) [] [] ⟨⟨rfl, rfl⟩, ⟨rfl, trivial⟩, trivial⟩
def laws_qSameOrdinal : Nat → Rw → Rw → Option Bool
  | 0, _, _ => none
  | k + 1, a1, a2 => laws_qSameOrdinal_b (laws_qSameOrdinal k) a1 a2
theorem laws_qSameOrdinal_ct' : ∀ (k : Nat) (a1 : Rw) (a2 : Rw) (r : Bool), laws_qSameOrdinal k a1 a2 = some r → Ct prog 34 [.agg [.d (D.sl a1)], .agg [.d (D.sl a2)]] (⟨[], []⟩) (.d (D.bool r)) (⟨[], []⟩)
  | 0, _, _, _, h => by rw [laws_qSameOrdinal] at h; cases h
  | k + 1, _, _, _, h => by rw [laws_qSameOrdinal] at h; exact laws_qSameOrdinal_b_ct (laws_qSameOrdinal_ct' k) h
theorem laws_qSameOrdinal_ct {k : Nat} {a1 : Rw} {a2 : Rw} {r : Bool} (h : laws_qSameOrdinal k a1 a2 = some r) : Ct prog 34 [.agg [.d (D.sl a1)], .agg [.d (D.sl a2)]] (⟨[], []⟩) (.d (D.bool r)) (⟨[], []⟩) := laws_qSameOrdinal_ct' k _ _ _ h

def impl_in  (a1 : Int) (a2 : Int) (a3 : Int) : Option Bool :=
  (if a2 ≤ a1 then (if a1 ≤ a3 then some true else some false) else some false)
set_option maxHeartbeats 4000000 in
set_option maxRecDepth 100000 in
theorem impl_in_ct  {a1 : Int} {a2 : Int} {a3 : Int} {r : Bool} (h : impl_in a1 a2 a3 = some r) : Ct prog 59 [.d (D.int .i64 a1), .d (D.int .i64 a2), .d (D.int .i64 a3)] (⟨[], []⟩) (.d (D.bool r)) (⟨[], []⟩) := by
  rw [impl_in] at h
  refine Ct.of (c := _) mixed func59 ⟨rfl, rfl, rfl⟩ ?_ rfl
  conv => whnf
  refine splD (fun g4 => ?_) (fun g4 => ?_)
  · replace h := iteP h g4
    conv => whnf
    refine splD (fun g5 => ?_) (fun g5 => ?_)
    · replace h := iteP h g5
      conv => whnf
      cases h
      exact Done.of [] [] rfl rfl ⟨⟨rfl, rfl⟩, ⟨rfl, trivial⟩, rfl, trivial⟩
    · replace h := iteN h g5
      conv => whnf
      cases h
      exact Done.of [] [] rfl rfl ⟨⟨rfl, rfl⟩, ⟨rfl, trivial⟩, rfl, trivial⟩
  · replace h := iteN h g4
    conv => whnf
    cases h
    exact Done.of [] [] rfl rfl ⟨⟨rfl, rfl⟩, ⟨rfl, trivial⟩, rfl, trivial⟩

def slices_Index_l0 (a1 : Rw) (a2 : Int) (K0 : Option Int) : Rw → Nat → Option Int
  | [], v8n => (K0)
  | cs :: rest, v8n => (cell_i cs fun x14 => (if a2 = x14 then some (v8n : Int) else (slices_Index_l0 a1 a2 K0 rest (v8n + 1))))
set_option maxHeartbeats 4000000 in
set_option maxRecDepth 100000 in
theorem slices_Index_l0_ct {a1 : Rw} {a2 : Int} {K0 : Option Int} {r : Int} (hx : a1.length ≤ cap) : ∀ (rest : Rw) (v8n : Nat), a1.drop v8n = rest → slices_Index_l0 a1 a2 K0 rest v8n = some r → LoopOk prog 0 (lp f66 0) (mk 19 [(0, .d (D.sl a1)), (1, .d (D.int .i64 a2)), (7, .d (D.int .i64 (a1.length : Int))), (8, .d (D.int .i64 (v8n : Int)))] []) (LoopEnd prog f66 0 19 (.d (D.int .i64 r)) (⟨[], []⟩) (fun i ts os => (i = 0 ∧ K0 = some r ∧ ts = [] ∧ os = [])))
  | [], v8n, hd, h => by
      rw [slices_Index_l0] at h
      have hn := drop_nil hd
      refine LoopOk.step ?_
      conv => whnf
      refine splD (fun g => absurd g hn) (fun _ => ?_)
      conv => whnf
      exact ⟨_, _, [], [], ⟨rfl, h, rfl, rfl⟩, ⟨⟨rfl, rfl⟩, ⟨rfl, trivial⟩, trivial⟩⟩
  | cs :: rest, v8n, hd, h => by
      rw [slices_Index_l0] at h
      obtain ⟨hrow, hd1, hlt⟩ := drop_cons hd
      refine LoopOk.step ?_
      conv => whnf
      refine splD (fun _ => ?_) (fun g => absurd hlt g)
      conv => whnf
      obtain ⟨x14, e15, h⟩ := cell_i_ex h
      rw [e15] at hrow
      refine Req.of (Int.natCast_nonneg _) ?_
      refine Row.of _ hrow ?_
      conv => whnf
      refine splD (fun g16 => ?_) (fun g16 => ?_)
      · replace h := iteP h g16
        conv => whnf
        cases h
        exact Done.of [] [] rfl rfl ⟨⟨rfl, rfl⟩, ⟨rfl, trivial⟩, rfl, trivial⟩
      · replace h := iteN h g16
        conv => whnf
        exact LoopOk.back (slices_Index_l0_ct hx rest (v8n + 1)  hd1 h) [] [] ⟨⟨rfl, rfl⟩, ⟨rfl, trivial⟩, rfl, rfl, rfl, i64eq (wrap_up hlt hx), trivial⟩
def slices_Index  (a1 : Rw) (a2 : Int) : Option Int :=
  (if a1.length ≤ cap then (slices_Index_l0 a1 a2 (some (-1)) a1 0) else none)
set_option maxHeartbeats 4000000 in
set_option maxRecDepth 100000 in
theorem slices_Index_ct  {a1 : Rw} {a2 : Int} {r : Int} (h : slices_Index a1 a2 = some r) : Ct prog 66 [.d (D.sl a1), .d (D.int .i64 a2)] (⟨[], []⟩) (.d (D.int .i64 r)) (⟨[], []⟩) := by
  rw [slices_Index] at h
  refine Ct.of (c := _) mixed func66 ⟨rfl, rfl, rfl⟩ ?_ rfl
  conv => whnf
  obtain ⟨g17, h⟩ := req_ex h
  refine LoopOk.into (slices_Index_l0_ct  g17 _ _  rfl h) [] [] ⟨⟨rfl, rfl⟩, ⟨rfl, trivial⟩, rfl, rfl, rfl, rfl, trivial⟩ ?_ (fun _ hs => hs)
  rintro i ts os ⟨rfl, h, rfl, rfl⟩
  conv => whnf
  refine CutK.go ?_
  conv => whnf
  cases h
  exact Done.of [] [] rfl rfl ⟨⟨rfl, rfl⟩, ⟨rfl, trivial⟩, rfl, trivial⟩

def impl_IsHydra_l0 (a1 : Rw) (K0 : Option Bool) : Nat → Rw → Int → Option Bool
  | 0, _, _ => none
  | n + 1, v19, v20 => (if v20 < (a1.length : Int) then (row_i a1 v20 fun x32 => ((slices_Index v19 x32).bind fun y35 => (if y35 < (0 : Int) then some false else (if 0 ≤ (IntKind.i64.wrap (y35 + 1)) ∧ (IntKind.i64.wrap (y35 + 1)) ≤ (v19.length : Int) then (if (IntKind.i64.wrap (y35 + 1) : Int).toNat ≤ v19.length then (if (v19.take ((IntKind.i64.wrap (y35 + 1) : Int).toNat)).length + 1 ≤ cap then (impl_IsHydra_l0 a1 K0 n ((v19.take ((IntKind.i64.wrap (y35 + 1) : Int).toNat)) ++ ([[D.int .i64 v20]])) (IntKind.i64.wrap (v20 + 1))) else none) else none) else none)))) else (K0))
set_option maxHeartbeats 4000000 in
set_option maxRecDepth 100000 in
theorem impl_IsHydra_l0_ct {a1 : Rw} {K0 : Option Bool} {r : Bool} : ∀ (n : Nat) (v19 : Rw) (v20 : Int), impl_IsHydra_l0 a1 K0 n v19 v20 = some r → LoopOk prog 0 (lp f25 0) (mk 42 [(1, .ptr 64 0), (3, .os 64000 v19.length), (4, .d (D.int .i64 v20))] [(64, .box 31 [.d (D.sl a1)]), (64000, .arr 3 true v19)]) (LoopEnd prog f25 0 42 (.d (D.bool r)) (⟨[], []⟩) (fun i ts os => (i = 0 ∧ K0 = some r ∧ ts = [] ∧ os = [])))
  | 0, _, _, h => by
      rw [impl_IsHydra_l0] at h; cases h
  | n + 1, v19, v20, h => by
      rw [impl_IsHydra_l0] at h
      refine LoopOk.step ?_
      conv => whnf
      refine splD (fun g31 => ?_) (fun g31 => ?_)
      · replace h := iteP h g31
        conv => whnf
        obtain ⟨g34, x32, e33, h⟩ := row_i_ex h
        refine Req.of g34 ?_
        refine Row.of _ e33 ?_
        conv => whnf
        refine Choice.old ?_
        conv => whnf
        refine Pick.no ?_
        conv => whnf
        refine Take.all (rfl) ?_
        conv => whnf
        obtain ⟨y35, e36, h⟩ := bind_ex h
        refine CallOk.of (slices_Index_ct e36) ?_
        conv => whnf
        refine CutK.norm [1, 3, 4, 5] [64, 64000] ?_
        conv => whnf
        refine splD (fun g37 => ?_) (fun g37 => ?_)
        · replace h := iteP h g37
          conv => whnf
          cases h
          exact Done.of [] [] rfl rfl ⟨⟨rfl, rfl⟩, ⟨rfl, trivial⟩, rfl, trivial⟩
        · replace h := iteN h g37
          conv => whnf
          obtain ⟨g38, h⟩ := req_ex h
          refine Req.of (⟨rfl, g38⟩) ?_
          conv => whnf
          obtain ⟨g39, h⟩ := req_ex h
          refine Take.of _ g39 rfl ?_
          conv => whnf
          refine Take.all (by first | rfl | exact List.length_append.symm | (simp; done) | omega | (dsimp only; omega)) ?_
          conv => whnf
          obtain ⟨g40, h⟩ := req_ex h
          refine Req.of (room (b := 8) (by decide) g40 (wide1 rfl wide0)) ?_
          conv => whnf
          refine CutK.norm [1, 3, 4] [64, 2624] ?_
          conv => whnf
          exact LoopOk.back (impl_IsHydra_l0_ct  n _ _ h) [some 64, some 2624] [] ⟨⟨rfl, rfl⟩, ⟨rfl, ⟨rfl, rfl, trivial⟩, ⟨rfl, rfl, rows_same⟩, trivial⟩, ⟨rfl, rfl⟩, ⟨(by first | rfl | exact List.length_append.symm | (simp; done) | omega | (dsimp only; omega)), rfl⟩, rfl, trivial⟩
      · replace h := iteN h g31
        conv => whnf
        exact ⟨_, _, [], [], ⟨rfl, h, rfl, rfl⟩, ⟨⟨rfl, rfl⟩, ⟨rfl, trivial⟩, trivial⟩⟩
def impl_IsHydra (k : Nat) (a1 : Rw) : Option Bool :=
  ((impl_in (a1.length : Int) 1 40).bind fun y2 => (if y2 = true then (row_i a1 0 fun x5 => (if x5 = ((-1) : Int) then (impl_IsHydra_l0 a1 (some true) k ([[D.int .i64 0]] : Rw) 1) else some false)) else some false))
set_option maxHeartbeats 4000000 in
set_option maxRecDepth 100000 in
theorem impl_IsHydra_ct {k : Nat} {a1 : Rw} {r : Bool} (h : impl_IsHydra k a1 = some r) : Ct prog 25 [.agg [.d (D.sl a1)]] (⟨[], []⟩) (.d (D.bool r)) (⟨[], []⟩) := by
  rw [impl_IsHydra] at h
  refine Ct.of (c := _) mixed func25 ⟨rfl, rfl, rfl⟩ ?_ rfl
  conv => whnf
  refine Pick.no ?_
  conv => whnf
  obtain ⟨y2, e3, h⟩ := bind_ex h
  refine CallOk.of (impl_in_ct e3) ?_
  conv => whnf
  refine spl (fun g4 => ?_) (fun g4 => ?_)
  · replace h := iteT h g4
    conv => whnf
    obtain ⟨g7, x5, e6, h⟩ := row_i_ex h
    refine Req.of g7 ?_
    refine Row.of _ e6 ?_
    conv => whnf
    refine splN (fun g8 => ?_) (fun g8 => ?_)
    · replace h := iteN h g8
      conv => whnf
      refine CutK.norm [1, 17] [64] ?_
      conv => whnf
      cases h
      exact Done.of [] [] rfl rfl ⟨⟨rfl, rfl⟩, ⟨rfl, trivial⟩, rfl, trivial⟩
    · replace h := iteP h g8
      conv => whnf
      refine CutK.norm [1, 17] [64] ?_
      conv => whnf
      refine CutK.norm [1] [64] ?_
      conv => whnf
      refine LoopOk.into (impl_IsHydra_l0_ct  _ _ _ h) [some 64, some 1152] [] ⟨⟨rfl, rfl⟩, ⟨rfl, ⟨rfl, rfl, trivial⟩, ⟨rfl, rfl, rows_same⟩, trivial⟩, ⟨rfl, rfl⟩, ⟨(by first | rfl | exact List.length_append.symm | (simp; done) | omega | (dsimp only; omega)), rfl⟩, rfl, trivial⟩ ?_ (fun _ hs => hs)
      rintro i ts os ⟨rfl, h, rfl, rfl⟩
      conv => whnf
      refine CutK.norm [] [] ?_
      conv => whnf
      cases h
      exact Done.of [] [] rfl rfl ⟨⟨rfl, rfl⟩, ⟨rfl, trivial⟩, rfl, trivial⟩
  · replace h := iteF h g4
    conv => whnf
    refine CutK.norm [1, 17] [64] ?_
    conv => whnf
    cases h
    exact Done.of [] [] rfl rfl ⟨⟨rfl, rfl⟩, ⟨rfl, trivial⟩, rfl, trivial⟩



def impl_power  (a1 : Rw) (a2 : Int) : Option Rw :=
  (if a2 = (0 : Int) then some ([] : Rw) else some ([[D.sl a1, D.int .i64 a2]] : Rw))
set_option maxHeartbeats 4000000 in
set_option maxRecDepth 100000 in
theorem impl_power_ct  {a1 : Rw} {a2 : Int} {r : Rw} (h : impl_power a1 a2 = some r) : Ct prog 87 [.agg [.d (D.sl a1)], .d (D.int .i64 a2)] (⟨[], []⟩) (.agg [.os 8 r.length]) (⟨[], [(96, false, r)]⟩) := by
  rw [impl_power] at h
  refine Ct.of (c := _) mixed func87 ⟨rfl, rfl, rfl⟩ ?_ rfl
  conv => whnf
  refine splD (fun g3 => ?_) (fun g3 => ?_)
  · replace h := iteP h g3
    conv => whnf
    cases h
    exact Done.of [none] [] rfl rfl ⟨⟨rfl, rfl⟩, ⟨rfl, rfl, trivial⟩, ⟨⟨rfl, rfl⟩, trivial⟩, trivial⟩
  · replace h := iteN h g3
    conv => whnf
    cases h
    exact Done.of [some 704] [] rfl rfl ⟨⟨rfl, rfl⟩, ⟨rfl, ⟨rfl, rfl, rows_same⟩, trivial⟩, ⟨⟨(by first | rfl | exact List.length_append.symm | (simp; done) | omega | (dsimp only; omega)), rfl⟩, trivial⟩, trivial⟩

def impl_compare  (a1 : Int) (a2 : Int) : Option Int :=
  (if a1 < a2 then some (-1) else (if a2 < a1 then some 1 else some 0))
set_option maxHeartbeats 4000000 in
set_option maxRecDepth 100000 in
theorem impl_compare_ct  {a1 : Int} {a2 : Int} {r : Int} (h : impl_compare a1 a2 = some r) : Ct prog 106 [.d (D.int .i64 a1), .d (D.int .i64 a2)] (⟨[], []⟩) (.d (D.int .i64 r)) (⟨[], []⟩) := by
  rw [impl_compare] at h
  refine Ct.of (c := _) mixed func106 ⟨rfl, rfl, rfl⟩ ?_ rfl
  conv => whnf
  refine splD (fun g3 => ?_) (fun g3 => ?_)
  · replace h := iteP h g3
    conv => whnf
    cases h
    exact Done.of [] [] rfl rfl ⟨⟨rfl, rfl⟩, ⟨rfl, trivial⟩, rfl, trivial⟩
  · replace h := iteN h g3
    conv => whnf
    refine splD (fun g4 => ?_) (fun g4 => ?_)
    · replace h := iteP h g4
      conv => whnf
      cases h
      exact Done.of [] [] rfl rfl ⟨⟨rfl, rfl⟩, ⟨rfl, trivial⟩, rfl, trivial⟩
    · replace h := iteN h g4
      conv => whnf
      cases h
      exact Done.of [] [] rfl rfl ⟨⟨rfl, rfl⟩, ⟨rfl, trivial⟩, rfl, trivial⟩

def impl_cmpTerms (rec_impl_cmp : Rw → Rw → Option Int) (a1 : Rw) (a2 : Int) (a3 : Rw) (a4 : Int) : Option Int :=
  ((rec_impl_cmp a1 a3).bind fun y5 => (if y5 = (0 : Int) then ((impl_compare a2 a4).bind fun y8 => some y8) else some y5))
set_option maxHeartbeats 4000000 in
set_option maxRecDepth 100000 in
theorem impl_cmpTerms_ct {rec_impl_cmp : Rw → Rw → Option Int} (hrec_impl_cmp : ∀ (a1 : Rw) (a2 : Rw) (r : Int), rec_impl_cmp a1 a2 = some r → Ct prog 68 [.agg [.d (D.sl a1)], .agg [.d (D.sl a2)]] (⟨[], []⟩) (.d (D.int .i64 r)) (⟨[], []⟩)) {a1 : Rw} {a2 : Int} {a3 : Rw} {a4 : Int} {r : Int} (h : impl_cmpTerms rec_impl_cmp a1 a2 a3 a4 = some r) : Ct prog 94 [.agg [.d (D.sl a1), .d (D.int .i64 a2)], .agg [.d (D.sl a3), .d (D.int .i64 a4)]] (⟨[], []⟩) (.d (D.int .i64 r)) (⟨[], []⟩) := by
  rw [impl_cmpTerms] at h
  refine Ct.of (c := _) mixed func94 ⟨rfl, rfl, rfl⟩ ?_ rfl
  conv => whnf
  refine Pick.no ?_
  conv => whnf
  obtain ⟨y5, e6, h⟩ := bind_ex h
  refine CallOk.of (hrec_impl_cmp _ _ _ e6) ?_
  conv => whnf
  refine CutK.go ?_
  conv => whnf
  refine splN (fun g7 => ?_) (fun g7 => ?_)
  · replace h := iteN h g7
    conv => whnf
    cases h
    exact Done.of [] [] rfl rfl ⟨⟨rfl, rfl⟩, ⟨rfl, trivial⟩, rfl, trivial⟩
  · replace h := iteP h g7
    conv => whnf
    refine CutK.go ?_
    conv => whnf
    refine Pick.no ?_
    conv => whnf
    obtain ⟨y8, e9, h⟩ := bind_ex h
    refine CallOk.of (impl_compare_ct e9) ?_
    conv => whnf
    refine CutK.go ?_
    conv => whnf
    cases h
    exact Done.of [] [] rfl rfl ⟨⟨rfl, rfl⟩, ⟨rfl, trivial⟩, rfl, trivial⟩

def slices_CompareFunc__cmpTerms_l0 (rec_impl_cmp : Rw → Rw → Option Int) (a1 : Rw) (a2 : Rw) (K0 : Option Int) : Rw → Nat → Option Int
  | [], v16n => (K0)
  | cs :: rest, v16n => (cell_si cs fun x30 x31 => (if (a2.length : Int) ≤ (v16n : Int) then some 1 else (row_si a2 (v16n : Int) fun x34 x35 => ((impl_cmpTerms rec_impl_cmp x30 x31 x34 x35).bind fun y38 => (if y38 = (0 : Int) then (slices_CompareFunc__cmpTerms_l0 rec_impl_cmp a1 a2 K0 rest (v16n + 1)) else some y38)))))
set_option maxHeartbeats 4000000 in
set_option maxRecDepth 100000 in
theorem slices_CompareFunc__cmpTerms_l0_ct {rec_impl_cmp : Rw → Rw → Option Int} {a1 : Rw} {a2 : Rw} {K0 : Option Int} (hrec_impl_cmp : ∀ (a1 : Rw) (a2 : Rw) (r : Int), rec_impl_cmp a1 a2 = some r → Ct prog 68 [.agg [.d (D.sl a1)], .agg [.d (D.sl a2)]] (⟨[], []⟩) (.d (D.int .i64 r)) (⟨[], []⟩)) {r : Int} (hx : a1.length ≤ cap) : ∀ (rest : Rw) (v16n : Nat), a1.drop v16n = rest → slices_CompareFunc__cmpTerms_l0 rec_impl_cmp a1 a2 K0 rest v16n = some r → LoopOk prog 0 (lp f93 0) (mk 39 [(0, .d (D.sl a1)), (1, .d (D.sl a2)), (2, .fn 94 []), (11, .d (D.sl a1)), (12, .d (D.int .i64 (a1.length : Int))), (13, .d (D.int .i64 (v16n : Int)))] []) (LoopEnd prog f93 0 39 (.d (D.int .i64 r)) (⟨[], []⟩) (fun i ts os => (i = 0 ∧ K0 = some r ∧ ts = [(0, .d (D.sl a1)), (1, .d (D.sl a2))] ∧ os = [])))
  | [], v16n, hd, h => by
      rw [slices_CompareFunc__cmpTerms_l0] at h
      have hn := drop_nil hd
      refine LoopOk.step ?_
      conv => whnf
      refine splD (fun g => absurd g hn) (fun _ => ?_)
      conv => whnf
      exact ⟨_, _, [], [], ⟨rfl, h, rfl, rfl⟩, ⟨⟨rfl, rfl⟩, ⟨rfl, trivial⟩, rfl, rfl, trivial⟩⟩
  | cs :: rest, v16n, hd, h => by
      rw [slices_CompareFunc__cmpTerms_l0] at h
      obtain ⟨hrow, hd1, hlt⟩ := drop_cons hd
      refine LoopOk.step ?_
      conv => whnf
      refine splD (fun _ => ?_) (fun g => absurd hlt g)
      conv => whnf
      obtain ⟨x30, x31, e32, h⟩ := cell_si_ex h
      rw [e32] at hrow
      refine Req.of (Int.natCast_nonneg _) ?_
      refine Row.of _ hrow ?_
      conv => whnf
      refine splD (fun g33 => ?_) (fun g33 => ?_)
      · replace h := iteP h g33
        conv => whnf
        cases h
        exact Done.of [] [] rfl rfl ⟨⟨rfl, rfl⟩, ⟨rfl, trivial⟩, rfl, trivial⟩
      · replace h := iteN h g33
        conv => whnf
        obtain ⟨g37, x34, x35, e36, h⟩ := row_si_ex h
        refine Req.of g37 ?_
        refine Row.of _ e36 ?_
        conv => whnf
        refine Pick.no ?_
        conv => whnf
        obtain ⟨y38, e39, h⟩ := bind_ex h
        refine CallOk.of (impl_cmpTerms_ct hrec_impl_cmp e39) ?_
        conv => whnf
        refine CutK.norm [0, 1, 2, 10, 11, 12, 13] [] ?_
        conv => whnf
        refine splN (fun g40 => ?_) (fun g40 => ?_)
        · replace h := iteN h g40
          conv => whnf
          cases h
          exact Done.of [] [] rfl rfl ⟨⟨rfl, rfl⟩, ⟨rfl, trivial⟩, rfl, trivial⟩
        · replace h := iteP h g40
          conv => whnf
          refine CutK.norm [0, 1, 2, 11, 12, 13] [] ?_
          conv => whnf
          exact LoopOk.back (slices_CompareFunc__cmpTerms_l0_ct hrec_impl_cmp hx rest (v16n + 1)  hd1 h) [] [] ⟨⟨rfl, rfl⟩, ⟨rfl, trivial⟩, rfl, rfl, ⟨rfl, trivial⟩, rfl, rfl, i64eq (wrap_up hlt hx), trivial⟩
def slices_CompareFunc__cmpTerms (rec_impl_cmp : Rw → Rw → Option Int) (a1 : Rw) (a2 : Rw) : Option Int :=
  (if a1.length ≤ cap then (slices_CompareFunc__cmpTerms_l0 rec_impl_cmp a1 a2 (if (a1.length : Int) < (a2.length : Int) then some (-1) else some 0) a1 0) else none)
set_option maxHeartbeats 4000000 in
set_option maxRecDepth 100000 in
theorem slices_CompareFunc__cmpTerms_ct {rec_impl_cmp : Rw → Rw → Option Int} (hrec_impl_cmp : ∀ (a1 : Rw) (a2 : Rw) (r : Int), rec_impl_cmp a1 a2 = some r → Ct prog 68 [.agg [.d (D.sl a1)], .agg [.d (D.sl a2)]] (⟨[], []⟩) (.d (D.int .i64 r)) (⟨[], []⟩)) {a1 : Rw} {a2 : Rw} {r : Int} (h : slices_CompareFunc__cmpTerms rec_impl_cmp a1 a2 = some r) : Ct prog 93 [.d (D.sl a1), .d (D.sl a2), .fn 94 []] (⟨[], []⟩) (.d (D.int .i64 r)) (⟨[], []⟩) := by
  rw [slices_CompareFunc__cmpTerms] at h
  refine Ct.of (c := _) mixed func93 ⟨rfl, rfl, rfl⟩ ?_ rfl
  conv => whnf
  obtain ⟨g41, h⟩ := req_ex h
  refine LoopOk.into (slices_CompareFunc__cmpTerms_l0_ct hrec_impl_cmp g41 _ _  rfl h) [] [] ⟨⟨rfl, rfl⟩, ⟨rfl, trivial⟩, rfl, rfl, ⟨rfl, trivial⟩, rfl, rfl, rfl, trivial⟩ ?_ (fun _ hs => hs)
  rintro i ts os ⟨rfl, h, rfl, rfl⟩
  conv => whnf
  refine CutK.norm [0, 1] [] ?_
  conv => whnf
  refine splD (fun g42 => ?_) (fun g42 => ?_)
  · replace h := iteP h g42
    conv => whnf
    cases h
    exact Done.of [] [] rfl rfl ⟨⟨rfl, rfl⟩, ⟨rfl, trivial⟩, rfl, trivial⟩
  · replace h := iteN h g42
    conv => whnf
    cases h
    exact Done.of [] [] rfl rfl ⟨⟨rfl, rfl⟩, ⟨rfl, trivial⟩, rfl, trivial⟩

def impl_cmp_b (rec_impl_cmp : Rw → Rw → Option Int) (a1 : Rw) (a2 : Rw) : Option Int :=
  ((slices_CompareFunc__cmpTerms rec_impl_cmp a1 a2).bind fun y3 => some y3)
set_option maxHeartbeats 4000000 in
set_option maxRecDepth 100000 in
theorem impl_cmp_b_ct {rec_impl_cmp : Rw → Rw → Option Int} (hrec_impl_cmp : ∀ (a1 : Rw) (a2 : Rw) (r : Int), rec_impl_cmp a1 a2 = some r → Ct prog 68 [.agg [.d (D.sl a1)], .agg [.d (D.sl a2)]] (⟨[], []⟩) (.d (D.int .i64 r)) (⟨[], []⟩)) {a1 : Rw} {a2 : Rw} {r : Int} (h : impl_cmp_b rec_impl_cmp a1 a2 = some r) : Ct prog 68 [.agg [.d (D.sl a1)], .agg [.d (D.sl a2)]] (⟨[], []⟩) (.d (D.int .i64 r)) (⟨[], []⟩) := by
  rw [impl_cmp_b] at h
  refine Ct.of (c := _) mixed func68 ⟨rfl, rfl, rfl⟩ ?_ rfl
  conv => whnf
  refine Pick.no ?_
  conv => whnf
  obtain ⟨y3, e4, h⟩ := bind_ex h
  refine CallOk.of (slices_CompareFunc__cmpTerms_ct hrec_impl_cmp e4) ?_
  conv => whnf
  refine CutK.go ?_
  conv => whnf
  cases h
  exact Done.of [] [] rfl rfl ⟨⟨rfl, rfl⟩, ⟨rfl, trivial⟩, rfl, trivial⟩
def impl_cmp : Nat → Rw → Rw → Option Int
  | 0, _, _ => none
  | k + 1, a1, a2 => impl_cmp_b (impl_cmp k) a1 a2
theorem impl_cmp_ct' : ∀ (k : Nat) (a1 : Rw) (a2 : Rw) (r : Int), impl_cmp k a1 a2 = some r → Ct prog 68 [.agg [.d (D.sl a1)], .agg [.d (D.sl a2)]] (⟨[], []⟩) (.d (D.int .i64 r)) (⟨[], []⟩)
  | 0, _, _, _, h => by rw [impl_cmp] at h; cases h
  | k + 1, _, _, _, h => by rw [impl_cmp] at h; exact impl_cmp_b_ct (impl_cmp_ct' k) h
theorem impl_cmp_ct {k : Nat} {a1 : Rw} {a2 : Rw} {r : Int} (h : impl_cmp k a1 a2 = some r) : Ct prog 68 [.agg [.d (D.sl a1)], .agg [.d (D.sl a2)]] (⟨[], []⟩) (.d (D.int .i64 r)) (⟨[], []⟩) := impl_cmp_ct' k _ _ _ h

def impl_naturalSum_p4 (o163 : Rw) : Option Rw :=
  some o163
set_option maxHeartbeats 4000000 in
set_option maxRecDepth 100000 in
theorem impl_naturalSum_p4_ct {o163 : Rw} {r : Rw} (h : impl_naturalSum_p4 o163 = some r) : X prog 0 (tlF f86 4) (mk 85 [(4, .ptr 256 0), (5, .ptr 320 0)] [(256, .box 28 [.es]), (320, .box 28 [.os 1084000 o163.length]), (1084000, .arr 96 false o163)]) (finK prog f86 0 (.agg [.os 8 r.length]) (⟨[], [(96, false, r)]⟩)) := by
  rw [impl_naturalSum_p4] at h
  conv => whnf
  cases h
  exact Done.of [some 1084000] [] rfl rfl ⟨⟨rfl, rfl⟩, ⟨rfl, ⟨rfl, rfl, rows_same⟩, trivial⟩, ⟨⟨rfl, rfl⟩, trivial⟩, trivial⟩
def impl_naturalSum_l0 (k : Nat) (a1 : Rw) (a2 : Rw) (K0 : Rw → Option Rw) : Nat → Int → Rw → Int → Option Rw
  | 0, _, _, _ => none
  | n + 1, v170, v171, v185 => (if v170 < (a1.length : Int) then (if v185 = (a2.length : Int) then (row_si a1 v170 fun x326 x327 => (if v171.length + 1 ≤ cap then (impl_naturalSum_l0 k a1 a2 K0 n (IntKind.i64.wrap (v170 + 1)) (v171 ++ ([[D.sl x326, D.int .i64 x327]])) v185) else none)) else (if v170 = (a1.length : Int) then (row_si a2 v185 fun x332 x333 => (if v171.length + 1 ≤ cap then (impl_naturalSum_l0 k a1 a2 K0 n v170 (v171 ++ ([[D.sl x332, D.int .i64 (IntKind.i64.wrap (0 + x333))]])) (IntKind.i64.wrap (v185 + 1))) else none)) else (row_si a1 v170 fun x337 x338 => (row_si a2 v185 fun x341 x342 => ((impl_cmp k x337 x341).bind fun y345 => (if (0 : Int) ≤ y345 then (if y345 ≤ (0 : Int) then (if v171.length + 1 ≤ cap then (impl_naturalSum_l0 k a1 a2 K0 n (IntKind.i64.wrap (v170 + 1)) (v171 ++ ([[D.sl x341, D.int .i64 (IntKind.i64.wrap (x338 + x342))]])) (IntKind.i64.wrap (v185 + 1))) else none) else (if v171.length + 1 ≤ cap then (impl_naturalSum_l0 k a1 a2 K0 n (IntKind.i64.wrap (v170 + 1)) (v171 ++ ([[D.sl x337, D.int .i64 x338]])) v185) else none)) else (if y345 ≤ (0 : Int) then (if v171.length + 1 ≤ cap then (impl_naturalSum_l0 k a1 a2 K0 n v170 (v171 ++ ([[D.sl x341, D.int .i64 (IntKind.i64.wrap (0 + x342))]])) (IntKind.i64.wrap (v185 + 1))) else none) else none))))))) else (if v185 < (a2.length : Int) then (if v185 = (a2.length : Int) then (row_si a1 v170 fun x355 x356 => (if v171.length + 1 ≤ cap then (impl_naturalSum_l0 k a1 a2 K0 n (IntKind.i64.wrap (v170 + 1)) (v171 ++ ([[D.sl x355, D.int .i64 x356]])) v185) else none)) else (if v170 = (a1.length : Int) then (row_si a2 v185 fun x361 x362 => (if v171.length + 1 ≤ cap then (impl_naturalSum_l0 k a1 a2 K0 n v170 (v171 ++ ([[D.sl x361, D.int .i64 (IntKind.i64.wrap (0 + x362))]])) (IntKind.i64.wrap (v185 + 1))) else none)) else (row_si a1 v170 fun x366 x367 => (row_si a2 v185 fun x370 x371 => ((impl_cmp k x366 x370).bind fun y374 => (if (0 : Int) ≤ y374 then (if y374 ≤ (0 : Int) then (if v171.length + 1 ≤ cap then (impl_naturalSum_l0 k a1 a2 K0 n (IntKind.i64.wrap (v170 + 1)) (v171 ++ ([[D.sl x370, D.int .i64 (IntKind.i64.wrap (x367 + x371))]])) (IntKind.i64.wrap (v185 + 1))) else none) else (if v171.length + 1 ≤ cap then (impl_naturalSum_l0 k a1 a2 K0 n (IntKind.i64.wrap (v170 + 1)) (v171 ++ ([[D.sl x366, D.int .i64 x367]])) v185) else none)) else (if y374 ≤ (0 : Int) then (if v171.length + 1 ≤ cap then (impl_naturalSum_l0 k a1 a2 K0 n v170 (v171 ++ ([[D.sl x370, D.int .i64 (IntKind.i64.wrap (0 + x371))]])) (IntKind.i64.wrap (v185 + 1))) else none) else none))))))) else (K0 v171)))
set_option maxHeartbeats 4000000 in
set_option maxRecDepth 100000 in
theorem impl_naturalSum_l0_ct {k : Nat} {a1 : Rw} {a2 : Rw} {K0 : Rw → Option Rw} {r : Rw} : ∀ (n : Nat) (v170 : Int) (v171 : Rw) (v185 : Int), impl_naturalSum_l0 k a1 a2 K0 n v170 v171 v185 = some r → LoopOk prog 0 (lp f86 0) (mk 85 [(2, .ptr 128 0), (3, .ptr 192 0), (4, .ptr 256 0), (5, .ptr 320 0), (6, .d (D.int .i64 v170)), (7, .d (D.int .i64 v185))] [(128, .box 28 [.d (D.sl a1)]), (192, .box 28 [.d (D.sl a2)]), (256, .box 28 [.es]), (320, .box 28 [.os 64000 v171.length]), (64000, .arr 96 false v171)]) (LoopEnd prog f86 0 85 (.agg [.os 8 r.length]) (⟨[], [(96, false, r)]⟩) (fun i ts os => (i = 0 ∧ ∃ v265 : Rw, K0 v265 = some r ∧ ts = [(4, .ptr 256 0), (5, .ptr 320 0)] ∧ os = [(256, .box 28 [.es]), (320, .box 28 [.os 67001 v265.length]), (67001, .arr 96 false v265)])))
  | 0, _, _, _, h => by
      rw [impl_naturalSum_l0] at h; cases h
  | n + 1, v170, v171, v185, h => by
      rw [impl_naturalSum_l0] at h
      refine LoopOk.step ?_
      conv => whnf
      refine splD (fun g324 => ?_) (fun g324 => ?_)
      · replace h := iteP h g324
        conv => whnf
        refine splD (fun g325 => ?_) (fun g325 => ?_)
        · replace h := iteP h g325
          conv => whnf
          refine CutK.norm [2, 3, 4, 5, 6, 7, 8] [128, 192, 256, 320, 64000] ?_
          conv => whnf
          refine splD (fun _ => ?_) (fun g => absurd (by decide) g)
          conv => whnf
          obtain ⟨g329, x326, x327, e328, h⟩ := row_si_ex h
          refine Req.of g329 ?_
          refine Row.of _ e328 ?_
          conv => whnf
          refine splD (fun g => absurd g (by decide)) (fun _ => ?_)
          conv => whnf
          refine Take.all (rfl) ?_
          conv => whnf
          refine Take.all (by first | rfl | exact List.length_append.symm | (simp; done) | omega | (dsimp only; omega)) ?_
          conv => whnf
          obtain ⟨g330, h⟩ := req_ex h
          refine Req.of (room (b := 32) (by decide) g330 (wide1 rfl wide0)) ?_
          conv => whnf
          exact LoopOk.back (impl_naturalSum_l0_ct  n _ _ _ h) [some 128, some 192, some 256, some 320, some 5248] [] ⟨⟨rfl, rfl⟩, ⟨rfl, ⟨rfl, rfl, trivial⟩, ⟨rfl, rfl, trivial⟩, ⟨rfl, trivial, trivial⟩, ⟨rfl, ⟨(by first | rfl | exact List.length_append.symm | (simp; done) | omega | (dsimp only; omega)), rfl⟩, trivial⟩, ⟨rfl, rfl, rows_same⟩, trivial⟩, ⟨rfl, rfl⟩, ⟨rfl, rfl⟩, ⟨rfl, rfl⟩, ⟨rfl, rfl⟩, rfl, rfl, trivial⟩
        · replace h := iteN h g325
          conv => whnf
          refine splD (fun g331 => ?_) (fun g331 => ?_)
          · replace h := iteP h g331
            conv => whnf
            refine CutK.norm [2, 3, 4, 5, 6, 7, 8] [128, 192, 256, 320, 64000] ?_
            conv => whnf
            refine splD (fun g => absurd g (by decide)) (fun _ => ?_)
            conv => whnf
            refine splD (fun _ => ?_) (fun g => absurd (by decide) g)
            conv => whnf
            obtain ⟨g335, x332, x333, e334, h⟩ := row_si_ex h
            refine Req.of g335 ?_
            refine Row.of _ e334 ?_
            conv => whnf
            refine Req.of g335 ?_
            refine Row.of _ e334 ?_
            conv => whnf
            refine Take.all (rfl) ?_
            conv => whnf
            refine Take.all (by first | rfl | exact List.length_append.symm | (simp; done) | omega | (dsimp only; omega)) ?_
            conv => whnf
            obtain ⟨g336, h⟩ := req_ex h
            refine Req.of (room (b := 32) (by decide) g336 (wide1 rfl wide0)) ?_
            conv => whnf
            exact LoopOk.back (impl_naturalSum_l0_ct  n _ _ _ h) [some 128, some 192, some 256, some 320, some 5248] [] ⟨⟨rfl, rfl⟩, ⟨rfl, ⟨rfl, rfl, trivial⟩, ⟨rfl, rfl, trivial⟩, ⟨rfl, trivial, trivial⟩, ⟨rfl, ⟨(by first | rfl | exact List.length_append.symm | (simp; done) | omega | (dsimp only; omega)), rfl⟩, trivial⟩, ⟨rfl, rfl, rows_same⟩, trivial⟩, ⟨rfl, rfl⟩, ⟨rfl, rfl⟩, ⟨rfl, rfl⟩, ⟨rfl, rfl⟩, rfl, rfl, trivial⟩
          · replace h := iteN h g331
            conv => whnf
            obtain ⟨g340, x337, x338, e339, h⟩ := row_si_ex h
            refine Req.of g340 ?_
            refine Row.of _ e339 ?_
            conv => whnf
            obtain ⟨g344, x341, x342, e343, h⟩ := row_si_ex h
            refine Req.of g344 ?_
            refine Row.of _ e343 ?_
            conv => whnf
            refine Pick.no ?_
            conv => whnf
            obtain ⟨y345, e346, h⟩ := bind_ex h
            refine CallOk.of (impl_cmp_ct e346) ?_
            conv => whnf
            refine CutK.norm [2, 3, 4, 5, 6, 7, 8] [128, 192, 256, 320, 64000] ?_
            conv => whnf
            refine splD (fun g347 => ?_) (fun g347 => ?_)
            · replace h := iteP h g347
              conv => whnf
              refine Req.of g340 ?_
              refine Row.of _ e339 ?_
              conv => whnf
              refine splD (fun g348 => ?_) (fun g348 => ?_)
              · replace h := iteP h g348
                conv => whnf
                refine Req.of g344 ?_
                refine Row.of _ e343 ?_
                conv => whnf
                refine Req.of g344 ?_
                refine Row.of _ e343 ?_
                conv => whnf
                refine Take.all (rfl) ?_
                conv => whnf
                refine Take.all (by first | rfl | exact List.length_append.symm | (simp; done) | omega | (dsimp only; omega)) ?_
                conv => whnf
                obtain ⟨g349, h⟩ := req_ex h
                refine Req.of (room (b := 32) (by decide) g349 (wide1 rfl wide0)) ?_
                conv => whnf
                exact LoopOk.back (impl_naturalSum_l0_ct  n _ _ _ h) [some 128, some 192, some 256, some 320, some 5248] [] ⟨⟨rfl, rfl⟩, ⟨rfl, ⟨rfl, rfl, trivial⟩, ⟨rfl, rfl, trivial⟩, ⟨rfl, trivial, trivial⟩, ⟨rfl, ⟨(by first | rfl | exact List.length_append.symm | (simp; done) | omega | (dsimp only; omega)), rfl⟩, trivial⟩, ⟨rfl, rfl, rows_same⟩, trivial⟩, ⟨rfl, rfl⟩, ⟨rfl, rfl⟩, ⟨rfl, rfl⟩, ⟨rfl, rfl⟩, rfl, rfl, trivial⟩
              · replace h := iteN h g348
                conv => whnf
                refine Take.all (rfl) ?_
                conv => whnf
                refine Take.all (by first | rfl | exact List.length_append.symm | (simp; done) | omega | (dsimp only; omega)) ?_
                conv => whnf
                obtain ⟨g350, h⟩ := req_ex h
                refine Req.of (room (b := 32) (by decide) g350 (wide1 rfl wide0)) ?_
                conv => whnf
                exact LoopOk.back (impl_naturalSum_l0_ct  n _ _ _ h) [some 128, some 192, some 256, some 320, some 5248] [] ⟨⟨rfl, rfl⟩, ⟨rfl, ⟨rfl, rfl, trivial⟩, ⟨rfl, rfl, trivial⟩, ⟨rfl, trivial, trivial⟩, ⟨rfl, ⟨(by first | rfl | exact List.length_append.symm | (simp; done) | omega | (dsimp only; omega)), rfl⟩, trivial⟩, ⟨rfl, rfl, rows_same⟩, trivial⟩, ⟨rfl, rfl⟩, ⟨rfl, rfl⟩, ⟨rfl, rfl⟩, ⟨rfl, rfl⟩, rfl, rfl, trivial⟩
            · replace h := iteN h g347
              conv => whnf
              refine splD (fun g351 => ?_) (fun g351 => ?_)
              · replace h := iteP h g351
                conv => whnf
                refine Req.of g344 ?_
                refine Row.of _ e343 ?_
                conv => whnf
                refine Req.of g344 ?_
                refine Row.of _ e343 ?_
                conv => whnf
                refine Take.all (rfl) ?_
                conv => whnf
                refine Take.all (by first | rfl | exact List.length_append.symm | (simp; done) | omega | (dsimp only; omega)) ?_
                conv => whnf
                obtain ⟨g352, h⟩ := req_ex h
                refine Req.of (room (b := 32) (by decide) g352 (wide1 rfl wide0)) ?_
                conv => whnf
                exact LoopOk.back (impl_naturalSum_l0_ct  n _ _ _ h) [some 128, some 192, some 256, some 320, some 5248] [] ⟨⟨rfl, rfl⟩, ⟨rfl, ⟨rfl, rfl, trivial⟩, ⟨rfl, rfl, trivial⟩, ⟨rfl, trivial, trivial⟩, ⟨rfl, ⟨(by first | rfl | exact List.length_append.symm | (simp; done) | omega | (dsimp only; omega)), rfl⟩, trivial⟩, ⟨rfl, rfl, rows_same⟩, trivial⟩, ⟨rfl, rfl⟩, ⟨rfl, rfl⟩, ⟨rfl, rfl⟩, ⟨rfl, rfl⟩, rfl, rfl, trivial⟩
              · replace h := iteN h g351
                exfalso; omega
      · replace h := iteN h g324
        conv => whnf
        refine splD (fun g353 => ?_) (fun g353 => ?_)
        · replace h := iteP h g353
          conv => whnf
          refine splD (fun g354 => ?_) (fun g354 => ?_)
          · replace h := iteP h g354
            conv => whnf
            refine CutK.norm [2, 3, 4, 5, 6, 7, 8] [128, 192, 256, 320, 64000] ?_
            conv => whnf
            refine splD (fun _ => ?_) (fun g => absurd (by decide) g)
            conv => whnf
            obtain ⟨g358, x355, x356, e357, h⟩ := row_si_ex h
            refine Req.of g358 ?_
            refine Row.of _ e357 ?_
            conv => whnf
            refine splD (fun g => absurd g (by decide)) (fun _ => ?_)
            conv => whnf
            refine Take.all (rfl) ?_
            conv => whnf
            refine Take.all (by first | rfl | exact List.length_append.symm | (simp; done) | omega | (dsimp only; omega)) ?_
            conv => whnf
            obtain ⟨g359, h⟩ := req_ex h
            refine Req.of (room (b := 32) (by decide) g359 (wide1 rfl wide0)) ?_
            conv => whnf
            exact LoopOk.back (impl_naturalSum_l0_ct  n _ _ _ h) [some 128, some 192, some 256, some 320, some 5248] [] ⟨⟨rfl, rfl⟩, ⟨rfl, ⟨rfl, rfl, trivial⟩, ⟨rfl, rfl, trivial⟩, ⟨rfl, trivial, trivial⟩, ⟨rfl, ⟨(by first | rfl | exact List.length_append.symm | (simp; done) | omega | (dsimp only; omega)), rfl⟩, trivial⟩, ⟨rfl, rfl, rows_same⟩, trivial⟩, ⟨rfl, rfl⟩, ⟨rfl, rfl⟩, ⟨rfl, rfl⟩, ⟨rfl, rfl⟩, rfl, rfl, trivial⟩
          · replace h := iteN h g354
            conv => whnf
            refine splD (fun g360 => ?_) (fun g360 => ?_)
            · replace h := iteP h g360
              conv => whnf
              refine CutK.norm [2, 3, 4, 5, 6, 7, 8] [128, 192, 256, 320, 64000] ?_
              conv => whnf
              refine splD (fun g => absurd g (by decide)) (fun _ => ?_)
              conv => whnf
              refine splD (fun _ => ?_) (fun g => absurd (by decide) g)
              conv => whnf
              obtain ⟨g364, x361, x362, e363, h⟩ := row_si_ex h
              refine Req.of g364 ?_
              refine Row.of _ e363 ?_
              conv => whnf
              refine Req.of g364 ?_
              refine Row.of _ e363 ?_
              conv => whnf
              refine Take.all (rfl) ?_
              conv => whnf
              refine Take.all (by first | rfl | exact List.length_append.symm | (simp; done) | omega | (dsimp only; omega)) ?_
              conv => whnf
              obtain ⟨g365, h⟩ := req_ex h
              refine Req.of (room (b := 32) (by decide) g365 (wide1 rfl wide0)) ?_
              conv => whnf
              exact LoopOk.back (impl_naturalSum_l0_ct  n _ _ _ h) [some 128, some 192, some 256, some 320, some 5248] [] ⟨⟨rfl, rfl⟩, ⟨rfl, ⟨rfl, rfl, trivial⟩, ⟨rfl, rfl, trivial⟩, ⟨rfl, trivial, trivial⟩, ⟨rfl, ⟨(by first | rfl | exact List.length_append.symm | (simp; done) | omega | (dsimp only; omega)), rfl⟩, trivial⟩, ⟨rfl, rfl, rows_same⟩, trivial⟩, ⟨rfl, rfl⟩, ⟨rfl, rfl⟩, ⟨rfl, rfl⟩, ⟨rfl, rfl⟩, rfl, rfl, trivial⟩
            · replace h := iteN h g360
              conv => whnf
              obtain ⟨g369, x366, x367, e368, h⟩ := row_si_ex h
              refine Req.of g369 ?_
              refine Row.of _ e368 ?_
              conv => whnf
              obtain ⟨g373, x370, x371, e372, h⟩ := row_si_ex h
              refine Req.of g373 ?_
              refine Row.of _ e372 ?_
              conv => whnf
              refine Pick.no ?_
              conv => whnf
              obtain ⟨y374, e375, h⟩ := bind_ex h
              refine CallOk.of (impl_cmp_ct e375) ?_
              conv => whnf
              refine CutK.norm [2, 3, 4, 5, 6, 7, 8] [128, 192, 256, 320, 64000] ?_
              conv => whnf
              refine splD (fun g376 => ?_) (fun g376 => ?_)
              · replace h := iteP h g376
                conv => whnf
                refine Req.of g369 ?_
                refine Row.of _ e368 ?_
                conv => whnf
                refine splD (fun g377 => ?_) (fun g377 => ?_)
                · replace h := iteP h g377
                  conv => whnf
                  refine Req.of g373 ?_
                  refine Row.of _ e372 ?_
                  conv => whnf
                  refine Req.of g373 ?_
                  refine Row.of _ e372 ?_
                  conv => whnf
                  refine Take.all (rfl) ?_
                  conv => whnf
                  refine Take.all (by first | rfl | exact List.length_append.symm | (simp; done) | omega | (dsimp only; omega)) ?_
                  conv => whnf
                  obtain ⟨g378, h⟩ := req_ex h
                  refine Req.of (room (b := 32) (by decide) g378 (wide1 rfl wide0)) ?_
                  conv => whnf
                  exact LoopOk.back (impl_naturalSum_l0_ct  n _ _ _ h) [some 128, some 192, some 256, some 320, some 5248] [] ⟨⟨rfl, rfl⟩, ⟨rfl, ⟨rfl, rfl, trivial⟩, ⟨rfl, rfl, trivial⟩, ⟨rfl, trivial, trivial⟩, ⟨rfl, ⟨(by first | rfl | exact List.length_append.symm | (simp; done) | omega | (dsimp only; omega)), rfl⟩, trivial⟩, ⟨rfl, rfl, rows_same⟩, trivial⟩, ⟨rfl, rfl⟩, ⟨rfl, rfl⟩, ⟨rfl, rfl⟩, ⟨rfl, rfl⟩, rfl, rfl, trivial⟩
                · replace h := iteN h g377
                  conv => whnf
                  refine Take.all (rfl) ?_
                  conv => whnf
                  refine Take.all (by first | rfl | exact List.length_append.symm | (simp; done) | omega | (dsimp only; omega)) ?_
                  conv => whnf
                  obtain ⟨g379, h⟩ := req_ex h
                  refine Req.of (room (b := 32) (by decide) g379 (wide1 rfl wide0)) ?_
                  conv => whnf
                  exact LoopOk.back (impl_naturalSum_l0_ct  n _ _ _ h) [some 128, some 192, some 256, some 320, some 5248] [] ⟨⟨rfl, rfl⟩, ⟨rfl, ⟨rfl, rfl, trivial⟩, ⟨rfl, rfl, trivial⟩, ⟨rfl, trivial, trivial⟩, ⟨rfl, ⟨(by first | rfl | exact List.length_append.symm | (simp; done) | omega | (dsimp only; omega)), rfl⟩, trivial⟩, ⟨rfl, rfl, rows_same⟩, trivial⟩, ⟨rfl, rfl⟩, ⟨rfl, rfl⟩, ⟨rfl, rfl⟩, ⟨rfl, rfl⟩, rfl, rfl, trivial⟩
              · replace h := iteN h g376
                conv => whnf
                refine splD (fun g380 => ?_) (fun g380 => ?_)
                · replace h := iteP h g380
                  conv => whnf
                  refine Req.of g373 ?_
                  refine Row.of _ e372 ?_
                  conv => whnf
                  refine Req.of g373 ?_
                  refine Row.of _ e372 ?_
                  conv => whnf
                  refine Take.all (rfl) ?_
                  conv => whnf
                  refine Take.all (by first | rfl | exact List.length_append.symm | (simp; done) | omega | (dsimp only; omega)) ?_
                  conv => whnf
                  obtain ⟨g381, h⟩ := req_ex h
                  refine Req.of (room (b := 32) (by decide) g381 (wide1 rfl wide0)) ?_
                  conv => whnf
                  exact LoopOk.back (impl_naturalSum_l0_ct  n _ _ _ h) [some 128, some 192, some 256, some 320, some 5248] [] ⟨⟨rfl, rfl⟩, ⟨rfl, ⟨rfl, rfl, trivial⟩, ⟨rfl, rfl, trivial⟩, ⟨rfl, trivial, trivial⟩, ⟨rfl, ⟨(by first | rfl | exact List.length_append.symm | (simp; done) | omega | (dsimp only; omega)), rfl⟩, trivial⟩, ⟨rfl, rfl, rows_same⟩, trivial⟩, ⟨rfl, rfl⟩, ⟨rfl, rfl⟩, ⟨rfl, rfl⟩, ⟨rfl, rfl⟩, rfl, rfl, trivial⟩
                · replace h := iteN h g380
                  exfalso; omega
        · replace h := iteN h g353
          conv => whnf
          exact ⟨_, _, [some 256, some 320, some 64000], [], ⟨rfl, _, h, rfl, rfl⟩, ⟨⟨rfl, rfl⟩, ⟨rfl, ⟨rfl, trivial, trivial⟩, ⟨rfl, ⟨rfl, rfl⟩, trivial⟩, ⟨rfl, rfl, rows_same⟩, trivial⟩, ⟨rfl, rfl⟩, ⟨rfl, rfl⟩, trivial⟩⟩
def impl_naturalSum (k : Nat) (a1 : Rw) (a2 : Rw) : Option Rw :=
  (impl_naturalSum_l0 k a1 a2 (fun (v265 : Rw) => (impl_naturalSum_p4 v265)) k 0 ([] : Rw) 0)
set_option maxHeartbeats 4000000 in
set_option maxRecDepth 100000 in
theorem impl_naturalSum_ct {k : Nat} {a1 : Rw} {a2 : Rw} {r : Rw} (h : impl_naturalSum k a1 a2 = some r) : Ct prog 86 [.agg [.d (D.sl a1)], .agg [.d (D.sl a2)]] (⟨[], []⟩) (.agg [.os 8 r.length]) (⟨[], [(96, false, r)]⟩) := by
  rw [impl_naturalSum] at h
  refine Ct.of (c := _) mixed func86 ⟨rfl, rfl, rfl⟩ ?_ rfl
  conv => whnf
  refine LoopOk.into (impl_naturalSum_l0_ct  _ _ _ _ h) [some 128, some 192, some 256, some 320, none] [] ⟨⟨rfl, rfl⟩, ⟨rfl, ⟨rfl, rfl, trivial⟩, ⟨rfl, rfl, trivial⟩, ⟨rfl, trivial, trivial⟩, ⟨rfl, ⟨rfl, rfl⟩, trivial⟩, rfl, trivial⟩, ⟨rfl, rfl⟩, ⟨rfl, rfl⟩, ⟨rfl, rfl⟩, ⟨rfl, rfl⟩, rfl, rfl, trivial⟩ ?_ (fun _ hs => hs)
  rintro i ts os ⟨rfl, v265, h, rfl, rfl⟩
  conv => whnf
  exact CutK.piece (impl_naturalSum_p4_ct  h) [some 256, some 320, some 67001] [] ⟨⟨rfl, rfl⟩, ⟨rfl, ⟨rfl, trivial, trivial⟩, ⟨rfl, ⟨rfl, rfl⟩, trivial⟩, ⟨rfl, rfl, rows_same⟩, trivial⟩, ⟨rfl, rfl⟩, ⟨rfl, rfl⟩, trivial⟩

def impl_tree_ordinal_l0 (k : Nat) (rec_impl_tree_ordinal : Cs → Option Rw) (x3 : Rw) (K0 : Rw → Option Rw) : Rw → Rw → Option Rw
  | [], v16 => (K0 v16)
  | cs :: rest, v16 => (cell_p cs fun x38 => ((rec_impl_tree_ordinal x38).bind fun y40 => ((impl_power y40 1).bind fun y42 => ((impl_naturalSum k v16 y42).bind fun y44 => (impl_tree_ordinal_l0 k rec_impl_tree_ordinal x3 K0 rest y44)))))
set_option maxHeartbeats 4000000 in
set_option maxRecDepth 100000 in
theorem impl_tree_ordinal_l0_ct {k : Nat} {rec_impl_tree_ordinal : Cs → Option Rw} {x3 : Rw} {K0 : Rw → Option Rw} (hrec_impl_tree_ordinal : ∀ (a1 : Cs) (r : Rw), rec_impl_tree_ordinal a1 = some r → Ct prog 47 [.d (D.pt a1)] (⟨[], []⟩) (.agg [.os 8 r.length]) (⟨[], [(96, false, r)]⟩)) {r : Rw} (hx : x3.length ≤ cap) : ∀ (rest : Rw) (v15n : Nat) (v16 : Rw), x3.drop v15n = rest → impl_tree_ordinal_l0 k rec_impl_tree_ordinal x3 K0 rest v16 = some r → LoopOk prog 0 (lp f47 0) (mk 23 [(2, .ptr 128 0), (3, .ptr 192 0), (10, .d (D.sl x3)), (11, .d (D.int .i64 (x3.length : Int))), (12, .d (D.int .i64 (v15n : Int)))] [(128, .box 28 [.es]), (192, .box 28 [.os 64000 v16.length]), (64000, .arr 96 false v16)]) (LoopEnd prog f47 0 23 (.agg [.os 8 r.length]) (⟨[], [(96, false, r)]⟩) (fun i ts os => (i = 0 ∧ ∃ v27 : Rw, K0 v27 = some r ∧ ts = [(2, .ptr 128 0), (3, .ptr 192 0)] ∧ os = [(128, .box 28 [.es]), (192, .box 28 [.os 67001 v27.length]), (67001, .arr 96 false v27)])))
  | [], v15n, v16, hd, h => by
      rw [impl_tree_ordinal_l0] at h
      have hn := drop_nil hd
      refine LoopOk.step ?_
      conv => whnf
      refine splD (fun g => absurd g hn) (fun _ => ?_)
      conv => whnf
      exact ⟨_, _, [some 128, some 192, some 64000], [], ⟨rfl, _, h, rfl, rfl⟩, ⟨⟨rfl, rfl⟩, ⟨rfl, ⟨rfl, trivial, trivial⟩, ⟨rfl, ⟨rfl, rfl⟩, trivial⟩, ⟨rfl, rfl, rows_same⟩, trivial⟩, ⟨rfl, rfl⟩, ⟨rfl, rfl⟩, trivial⟩⟩
  | cs :: rest, v15n, v16, hd, h => by
      rw [impl_tree_ordinal_l0] at h
      obtain ⟨hrow, hd1, hlt⟩ := drop_cons hd
      refine LoopOk.step ?_
      conv => whnf
      refine splD (fun _ => ?_) (fun g => absurd hlt g)
      conv => whnf
      obtain ⟨x38, e39, h⟩ := cell_p_ex h
      rw [e39] at hrow
      refine Req.of (Int.natCast_nonneg _) ?_
      refine Row.of _ hrow ?_
      conv => whnf
      refine Pick.no ?_
      conv => whnf
      obtain ⟨y40, e41, h⟩ := bind_ex h
      refine CallOk.of (hrec_impl_tree_ordinal _ _ e41) ?_
      conv => whnf
      refine Pick.no ?_
      conv => whnf
      refine Take.all (rfl) ?_
      conv => whnf
      obtain ⟨y42, e43, h⟩ := bind_ex h
      refine CallOk.of (impl_power_ct e43) ?_
      conv => whnf
      refine Pick.no ?_
      conv => whnf
      refine Take.all (rfl) ?_
      conv => whnf
      refine Take.all (rfl) ?_
      conv => whnf
      obtain ⟨y44, e45, h⟩ := bind_ex h
      refine CallOk.of (impl_naturalSum_ct e45) ?_
      conv => whnf
      refine CutK.go ?_
      conv => whnf
      exact LoopOk.back (impl_tree_ordinal_l0_ct hrec_impl_tree_ordinal hx rest (v15n + 1) _ hd1 h) [some 128, some 192, some 1280] [] ⟨⟨rfl, rfl⟩, ⟨rfl, ⟨rfl, trivial, trivial⟩, ⟨rfl, ⟨rfl, rfl⟩, trivial⟩, ⟨rfl, rfl, rows_same⟩, trivial⟩, ⟨rfl, rfl⟩, ⟨rfl, rfl⟩, rfl, rfl, i64eq (wrap_up hlt hx), trivial⟩
def impl_tree_ordinal_b (k : Nat) (rec_impl_tree_ordinal : Cs → Option Rw) (a1 : Cs) : Option Rw :=
  (cell_is a1 fun x2 x3 => (if x3.length ≤ cap then (impl_tree_ordinal_l0 k rec_impl_tree_ordinal x3 (fun (v27 : Rw) => some v27) x3 ([] : Rw)) else none))
set_option maxHeartbeats 4000000 in
set_option maxRecDepth 100000 in
theorem impl_tree_ordinal_b_ct {k : Nat} {rec_impl_tree_ordinal : Cs → Option Rw} (hrec_impl_tree_ordinal : ∀ (a1 : Cs) (r : Rw), rec_impl_tree_ordinal a1 = some r → Ct prog 47 [.d (D.pt a1)] (⟨[], []⟩) (.agg [.os 8 r.length]) (⟨[], [(96, false, r)]⟩)) {a1 : Cs} {r : Rw} (h : impl_tree_ordinal_b k rec_impl_tree_ordinal a1 = some r) : Ct prog 47 [.d (D.pt a1)] (⟨[], []⟩) (.agg [.os 8 r.length]) (⟨[], [(96, false, r)]⟩) := by
  rw [impl_tree_ordinal_b] at h
  refine Ct.of (c := _) mixed func47 ⟨rfl, rfl, rfl⟩ ?_ rfl
  conv => whnf
  obtain ⟨x2, x3, e4, h⟩ := cell_is_ex h
  refine PtrOf.of _ e4 ?_
  conv => whnf
  obtain ⟨g46, h⟩ := req_ex h
  refine LoopOk.into (impl_tree_ordinal_l0_ct hrec_impl_tree_ordinal g46 _ _ _ rfl h) [some 128, some 192, none] [] ⟨⟨rfl, rfl⟩, ⟨rfl, ⟨rfl, trivial, trivial⟩, ⟨rfl, ⟨rfl, rfl⟩, trivial⟩, rfl, trivial⟩, ⟨rfl, rfl⟩, ⟨rfl, rfl⟩, rfl, rfl, rfl, trivial⟩ ?_ (fun _ hs => hs)
  rintro i ts os ⟨rfl, v27, h, rfl, rfl⟩
  conv => whnf
  refine CutK.go ?_
  conv => whnf
  cases h
  exact Done.of [some 67001] [] rfl rfl ⟨⟨rfl, rfl⟩, ⟨rfl, ⟨rfl, rfl, rows_same⟩, trivial⟩, ⟨⟨rfl, rfl⟩, trivial⟩, trivial⟩
def impl_tree_ordinal : Nat → Cs → Option Rw
  | 0, _ => none
  | k + 1, a1 => impl_tree_ordinal_b k (impl_tree_ordinal k) a1
theorem impl_tree_ordinal_ct' : ∀ (k : Nat) (a1 : Cs) (r : Rw), impl_tree_ordinal k a1 = some r → Ct prog 47 [.d (D.pt a1)] (⟨[], []⟩) (.agg [.os 8 r.length]) (⟨[], [(96, false, r)]⟩)
  | 0, _, _, h => by rw [impl_tree_ordinal] at h; cases h
  | k + 1, _, _, h => by rw [impl_tree_ordinal] at h; exact impl_tree_ordinal_b_ct (impl_tree_ordinal_ct' k) h
theorem impl_tree_ordinal_ct {k : Nat} {a1 : Cs} {r : Rw} (h : impl_tree_ordinal k a1 = some r) : Ct prog 47 [.d (D.pt a1)] (⟨[], []⟩) (.agg [.os 8 r.length]) (⟨[], [(96, false, r)]⟩) := impl_tree_ordinal_ct' k _ _ h

def impl_ordinalAt_2_p3 (o62 : Int) : Option (Bool × Int) :=
  some (true, o62)
set_option maxHeartbeats 4000000 in
set_option maxRecDepth 100000 in
theorem impl_ordinalAt_2_p3_ct {o62 : Int} {r : Bool × Int} (h : impl_ordinalAt_2_p3 o62 = some r) : X prog 1 (tlF f97 3) (mk 83 [] [(0, .box 3 [.d (D.int .i64 o62)])]) (finK prog f97 1 (.d (D.bool r.1)) (⟨[(3, [.d (D.int .i64 r.2)])], []⟩)) := by
  rw [impl_ordinalAt_2_p3] at h
  conv => whnf
  cases h
  exact Done.of [some 0] [] rfl rfl ⟨⟨rfl, rfl⟩, ⟨rfl, ⟨rfl, rfl, trivial⟩, trivial⟩, rfl, trivial⟩
def impl_ordinalAt_2_l0 (k : Nat) (rec_impl_ordinalAt_2 : Rw → Int → Int → Int → Option (Bool × Int)) (a1 : Rw) (a2 : Int) (a3 : Int) (K0 : Int → Option (Bool × Int)) : Rw → Nat → Int → Option (Bool × Int)
  | [], v77n, v78 => (K0 v78)
  | cs :: rest, v77n, v78 => (cell_si cs fun x120 x121 => (if (60 : Int) < (IntKind.i64.wrap (v78 + 1)) then some (false, IntKind.i64.wrap (v78 + 1)) else ((impl_in x121 1 1000000).bind fun y124 => (if y124 = true then ((rec_impl_ordinalAt_2 x120 x121 (IntKind.i64.wrap (a3 + 1)) (IntKind.i64.wrap (v78 + 1))).bind fun y127 => (if y127.1 = true then (if (0 : Int) < (v77n : Int) then (row_si a1 (IntKind.i64.wrap ((v77n : Int) - 1)) fun x131 x132 => ((impl_cmp k x131 x120).bind fun y135 => (if y135 ≤ (0 : Int) then some (false, y127.2) else (impl_ordinalAt_2_l0 k rec_impl_ordinalAt_2 a1 a2 a3 K0 rest (v77n + 1) y127.2)))) else (impl_ordinalAt_2_l0 k rec_impl_ordinalAt_2 a1 a2 a3 K0 rest (v77n + 1) y127.2)) else some (false, y127.2))) else some (false, IntKind.i64.wrap (v78 + 1))))))
set_option maxHeartbeats 4000000 in
set_option maxRecDepth 100000 in
theorem impl_ordinalAt_2_l0_ct {k : Nat} {rec_impl_ordinalAt_2 : Rw → Int → Int → Int → Option (Bool × Int)} {a1 : Rw} {a2 : Int} {a3 : Int} {K0 : Int → Option (Bool × Int)} (hrec_impl_ordinalAt_2 : ∀ (a1 : Rw) (a2 : Int) (a3 : Int) (a4 : Int) (r : Bool × Int), rec_impl_ordinalAt_2 a1 a2 a3 a4 = some r → Ct prog 97 [.dp [D.sl a1, D.int .i64 a2], .d (D.int .i64 a3), .ptr 0 0] (⟨[(3, [.d (D.int .i64 a4)])], []⟩) (.d (D.bool r.1)) (⟨[(3, [.d (D.int .i64 r.2)])], []⟩)) {r : Bool × Int} (hx : a1.length ≤ cap) : ∀ (rest : Rw) (v77n : Nat) (v78 : Int), a1.drop v77n = rest → impl_ordinalAt_2_l0 k rec_impl_ordinalAt_2 a1 a2 a3 K0 rest v77n v78 = some r → LoopOk prog 1 (lp f97 0) (mk 83 [(0, .dp [D.sl a1, D.int .i64 a2]), (1, .d (D.int .i64 a3)), (2, .ptr 0 0), (26, .d (D.int .i64 (a1.length : Int))), (27, .d (D.int .i64 (v77n : Int)))] [(0, .box 3 [.d (D.int .i64 v78)])]) (LoopEnd prog f97 1 83 (.d (D.bool r.1)) (⟨[(3, [.d (D.int .i64 r.2)])], []⟩) (fun i ts os => (i = 0 ∧ ∃ v99 : Int, K0 v99 = some r ∧ ts = [] ∧ os = [(0, .box 3 [.d (D.int .i64 v99)])])))
  | [], v77n, v78, hd, h => by
      rw [impl_ordinalAt_2_l0] at h
      have hn := drop_nil hd
      refine LoopOk.step ?_
      conv => whnf
      refine splD (fun g => absurd g hn) (fun _ => ?_)
      conv => whnf
      exact ⟨_, _, [some 0], [], ⟨rfl, _, h, rfl, rfl⟩, ⟨⟨rfl, rfl⟩, ⟨rfl, ⟨rfl, rfl, trivial⟩, trivial⟩, trivial⟩⟩
  | cs :: rest, v77n, v78, hd, h => by
      rw [impl_ordinalAt_2_l0] at h
      obtain ⟨hrow, hd1, hlt⟩ := drop_cons hd
      refine LoopOk.step ?_
      conv => whnf
      refine splD (fun _ => ?_) (fun g => absurd hlt g)
      conv => whnf
      obtain ⟨x120, x121, e122, h⟩ := cell_si_ex h
      rw [e122] at hrow
      refine Req.of (Int.natCast_nonneg _) ?_
      refine Row.of _ hrow ?_
      conv => whnf
      refine splD (fun g123 => ?_) (fun g123 => ?_)
      · replace h := iteP h g123
        conv => whnf
        refine CutK.norm [0, 1, 2, 7, 8, 26, 27, 62] [0] ?_
        conv => whnf
        cases h
        exact Done.of [some 0] [] rfl rfl ⟨⟨rfl, rfl⟩, ⟨rfl, ⟨rfl, rfl, trivial⟩, trivial⟩, rfl, trivial⟩
      · replace h := iteN h g123
        conv => whnf
        refine Pick.no ?_
        conv => whnf
        obtain ⟨y124, e125, h⟩ := bind_ex h
        refine CallOk.of (impl_in_ct e125) ?_
        conv => whnf
        refine spl (fun g126 => ?_) (fun g126 => ?_)
        · replace h := iteT h g126
          conv => whnf
          refine Pick.no ?_
          conv => whnf
          obtain ⟨y127, e128, h⟩ := bind_ex h
          refine CallOk.of (hrec_impl_ordinalAt_2 _ _ _ _ _ e128) ?_
          conv => whnf
          refine spl (fun g129 => ?_) (fun g129 => ?_)
          · replace h := iteT h g129
            conv => whnf
            refine CutK.norm [0, 1, 2, 7, 8, 26, 27, 62] [0] ?_
            conv => whnf
            refine CutK.norm [0, 1, 2, 7, 8, 26, 27] [0] ?_
            conv => whnf
            refine splD (fun g130 => ?_) (fun g130 => ?_)
            · replace h := iteP h g130
              conv => whnf
              obtain ⟨g134, x131, x132, e133, h⟩ := row_si_ex h
              refine Req.of g134 ?_
              refine Row.of _ e133 ?_
              conv => whnf
              refine Pick.no ?_
              conv => whnf
              obtain ⟨y135, e136, h⟩ := bind_ex h
              refine CallOk.of (impl_cmp_ct e136) ?_
              conv => whnf
              refine splD (fun g137 => ?_) (fun g137 => ?_)
              · replace h := iteP h g137
                conv => whnf
                refine CutK.norm [0, 1, 2, 26, 27, 81] [0] ?_
                conv => whnf
                cases h
                exact Done.of [some 0] [] rfl rfl ⟨⟨rfl, rfl⟩, ⟨rfl, ⟨rfl, rfl, trivial⟩, trivial⟩, rfl, trivial⟩
              · replace h := iteN h g137
                conv => whnf
                refine CutK.norm [0, 1, 2, 26, 27, 81] [0] ?_
                conv => whnf
                refine CutK.norm [0, 1, 2, 26, 27] [0] ?_
                conv => whnf
                exact LoopOk.back (impl_ordinalAt_2_l0_ct hrec_impl_ordinalAt_2 hx rest (v77n + 1) _ hd1 h) [some 0] [] ⟨⟨rfl, rfl⟩, ⟨rfl, ⟨rfl, rfl, trivial⟩, trivial⟩, rfl, rfl, ⟨rfl, rfl⟩, rfl, i64eq (wrap_up hlt hx), trivial⟩
            · replace h := iteN h g130
              conv => whnf
              refine CutK.norm [0, 1, 2, 26, 27, 81] [0] ?_
              conv => whnf
              refine CutK.norm [0, 1, 2, 26, 27] [0] ?_
              conv => whnf
              exact LoopOk.back (impl_ordinalAt_2_l0_ct hrec_impl_ordinalAt_2 hx rest (v77n + 1) _ hd1 h) [some 0] [] ⟨⟨rfl, rfl⟩, ⟨rfl, ⟨rfl, rfl, trivial⟩, trivial⟩, rfl, rfl, ⟨rfl, rfl⟩, rfl, i64eq (wrap_up hlt hx), trivial⟩
          · replace h := iteF h g129
            conv => whnf
            refine CutK.norm [0, 1, 2, 7, 8, 26, 27, 62] [0] ?_
            conv => whnf
            cases h
            exact Done.of [some 0] [] rfl rfl ⟨⟨rfl, rfl⟩, ⟨rfl, ⟨rfl, rfl, trivial⟩, trivial⟩, rfl, trivial⟩
        · replace h := iteF h g126
          conv => whnf
          refine CutK.norm [0, 1, 2, 7, 8, 26, 27, 62] [0] ?_
          conv => whnf
          cases h
          exact Done.of [some 0] [] rfl rfl ⟨⟨rfl, rfl⟩, ⟨rfl, ⟨rfl, rfl, trivial⟩, trivial⟩, rfl, trivial⟩
def impl_ordinalAt_2_b (k : Nat) (rec_impl_ordinalAt_2 : Rw → Int → Int → Int → Option (Bool × Int)) (a1 : Rw) (a2 : Int) (a3 : Int) (a4 : Int) : Option (Bool × Int) :=
  (if (60 : Int) < (IntKind.i64.wrap (a4 + 1)) then some (false, IntKind.i64.wrap (a4 + 1)) else (if (6 : Int) < a3 then some (false, IntKind.i64.wrap (a4 + 1)) else (if a1.length ≤ cap then (impl_ordinalAt_2_l0 k rec_impl_ordinalAt_2 a1 a2 a3 (fun (v99 : Int) => (impl_ordinalAt_2_p3 v99)) a1 0 (IntKind.i64.wrap (a4 + 1))) else none)))
set_option maxHeartbeats 4000000 in
set_option maxRecDepth 100000 in
theorem impl_ordinalAt_2_b_ct {k : Nat} {rec_impl_ordinalAt_2 : Rw → Int → Int → Int → Option (Bool × Int)} (hrec_impl_ordinalAt_2 : ∀ (a1 : Rw) (a2 : Int) (a3 : Int) (a4 : Int) (r : Bool × Int), rec_impl_ordinalAt_2 a1 a2 a3 a4 = some r → Ct prog 97 [.dp [D.sl a1, D.int .i64 a2], .d (D.int .i64 a3), .ptr 0 0] (⟨[(3, [.d (D.int .i64 a4)])], []⟩) (.d (D.bool r.1)) (⟨[(3, [.d (D.int .i64 r.2)])], []⟩)) {a1 : Rw} {a2 : Int} {a3 : Int} {a4 : Int} {r : Bool × Int} (h : impl_ordinalAt_2_b k rec_impl_ordinalAt_2 a1 a2 a3 a4 = some r) : Ct prog 97 [.dp [D.sl a1, D.int .i64 a2], .d (D.int .i64 a3), .ptr 0 0] (⟨[(3, [.d (D.int .i64 a4)])], []⟩) (.d (D.bool r.1)) (⟨[(3, [.d (D.int .i64 r.2)])], []⟩) := by
  rw [impl_ordinalAt_2_b] at h
  refine Ct.of (c := _) mixed func97 ⟨rfl, rfl, rfl⟩ ?_ rfl
  conv => whnf
  refine splD (fun g63 => ?_) (fun g63 => ?_)
  · replace h := iteP h g63
    conv => whnf
    cases h
    exact Done.of [some 0] [] rfl rfl ⟨⟨rfl, rfl⟩, ⟨rfl, ⟨rfl, rfl, trivial⟩, trivial⟩, rfl, trivial⟩
  · replace h := iteN h g63
    conv => whnf
    refine splD (fun g64 => ?_) (fun g64 => ?_)
    · replace h := iteP h g64
      conv => whnf
      cases h
      exact Done.of [some 0] [] rfl rfl ⟨⟨rfl, rfl⟩, ⟨rfl, ⟨rfl, rfl, trivial⟩, trivial⟩, rfl, trivial⟩
    · replace h := iteN h g64
      conv => whnf
      obtain ⟨g138, h⟩ := req_ex h
      refine LoopOk.into (impl_ordinalAt_2_l0_ct hrec_impl_ordinalAt_2 g138 _ _ _ rfl h) [some 0] [] ⟨⟨rfl, rfl⟩, ⟨rfl, ⟨rfl, rfl, trivial⟩, trivial⟩, rfl, rfl, ⟨rfl, rfl⟩, rfl, rfl, trivial⟩ ?_ (fun _ hs => hs)
      rintro i ts os ⟨rfl, v99, h, rfl, rfl⟩
      conv => whnf
      exact CutK.piece (impl_ordinalAt_2_p3_ct  h) [some 0] [] ⟨⟨rfl, rfl⟩, ⟨rfl, ⟨rfl, rfl, trivial⟩, trivial⟩, trivial⟩
def impl_ordinalAt_2 : Nat → Rw → Int → Int → Int → Option (Bool × Int)
  | 0, _, _, _, _ => none
  | k + 1, a1, a2, a3, a4 => impl_ordinalAt_2_b k (impl_ordinalAt_2 k) a1 a2 a3 a4
theorem impl_ordinalAt_2_ct' : ∀ (k : Nat) (a1 : Rw) (a2 : Int) (a3 : Int) (a4 : Int) (r : Bool × Int), impl_ordinalAt_2 k a1 a2 a3 a4 = some r → Ct prog 97 [.dp [D.sl a1, D.int .i64 a2], .d (D.int .i64 a3), .ptr 0 0] (⟨[(3, [.d (D.int .i64 a4)])], []⟩) (.d (D.bool r.1)) (⟨[(3, [.d (D.int .i64 r.2)])], []⟩)
  | 0, _, _, _, _, _, h => by rw [impl_ordinalAt_2] at h; cases h
  | k + 1, _, _, _, _, _, h => by rw [impl_ordinalAt_2] at h; exact impl_ordinalAt_2_b_ct (impl_ordinalAt_2_ct' k) h
theorem impl_ordinalAt_2_ct {k : Nat} {a1 : Rw} {a2 : Int} {a3 : Int} {a4 : Int} {r : Bool × Int} (h : impl_ordinalAt_2 k a1 a2 a3 a4 = some r) : Ct prog 97 [.dp [D.sl a1, D.int .i64 a2], .d (D.int .i64 a3), .ptr 0 0] (⟨[(3, [.d (D.int .i64 a4)])], []⟩) (.d (D.bool r.1)) (⟨[(3, [.d (D.int .i64 r.2)])], []⟩) := impl_ordinalAt_2_ct' k _ _ _ _ _ h

def impl_ordinalAt_p3 (a1 : Rw) (o61 : Int) : Option (Bool × Rw × Int) :=
  some (true, a1, o61)
set_option maxHeartbeats 4000000 in
set_option maxRecDepth 100000 in
theorem impl_ordinalAt_p3_ct {a1 : Rw} {o61 : Int} {r : Bool × Rw × Int} (h : impl_ordinalAt_p3 a1 o61 = some r) : X prog 2 (tlF f97 3) (mk 83 [] [(0, .box 28 [.d (D.sl a1)]), (64, .box 3 [.d (D.int .i64 o61)])]) (finK prog f97 2 (.d (D.bool r.1)) (⟨[(28, [.d (D.sl r.2.1)]), (3, [.d (D.int .i64 r.2.2)])], []⟩)) := by
  rw [impl_ordinalAt_p3] at h
  conv => whnf
  cases h
  exact Done.of [some 0, some 64] [] rfl rfl ⟨⟨rfl, rfl⟩, ⟨rfl, ⟨rfl, rfl, trivial⟩, ⟨rfl, rfl, trivial⟩, trivial⟩, rfl, trivial⟩
def impl_ordinalAt_l0 (k : Nat) (a1 : Rw) (a2 : Int) (K0 : Int → Option (Bool × Rw × Int)) : Rw → Nat → Int → Option (Bool × Rw × Int)
  | [], v76n, v77 => (K0 v77)
  | cs :: rest, v76n, v77 => (cell_si cs fun x119 x120 => (if (60 : Int) < (IntKind.i64.wrap (v77 + 1)) then some (false, a1, IntKind.i64.wrap (v77 + 1)) else ((impl_in x120 1 1000000).bind fun y123 => (if y123 = true then ((impl_ordinalAt_2 k x119 x120 (IntKind.i64.wrap (a2 + 1)) (IntKind.i64.wrap (v77 + 1))).bind fun y126 => (if y126.1 = true then (if (0 : Int) < (v76n : Int) then (row_si a1 (IntKind.i64.wrap ((v76n : Int) - 1)) fun x130 x131 => ((impl_cmp k x130 x119).bind fun y134 => (if y134 ≤ (0 : Int) then some (false, a1, y126.2) else (impl_ordinalAt_l0 k a1 a2 K0 rest (v76n + 1) y126.2)))) else (impl_ordinalAt_l0 k a1 a2 K0 rest (v76n + 1) y126.2)) else some (false, a1, y126.2))) else some (false, a1, IntKind.i64.wrap (v77 + 1))))))
set_option maxHeartbeats 4000000 in
set_option maxRecDepth 100000 in
theorem impl_ordinalAt_l0_ct {k : Nat} {a1 : Rw} {a2 : Int} {K0 : Int → Option (Bool × Rw × Int)} {r : Bool × Rw × Int} (hx : a1.length ≤ cap) : ∀ (rest : Rw) (v76n : Nat) (v77 : Int), a1.drop v76n = rest → impl_ordinalAt_l0 k a1 a2 K0 rest v76n v77 = some r → LoopOk prog 2 (lp f97 0) (mk 83 [(0, .ptr 0 0), (1, .d (D.int .i64 a2)), (2, .ptr 64 0), (26, .d (D.int .i64 (a1.length : Int))), (27, .d (D.int .i64 (v76n : Int)))] [(0, .box 28 [.d (D.sl a1)]), (64, .box 3 [.d (D.int .i64 v77)])]) (LoopEnd prog f97 2 83 (.d (D.bool r.1)) (⟨[(28, [.d (D.sl r.2.1)]), (3, [.d (D.int .i64 r.2.2)])], []⟩) (fun i ts os => (i = 0 ∧ ∃ v98 : Int, K0 v98 = some r ∧ ts = [] ∧ os = [(0, .box 28 [.d (D.sl a1)]), (64, .box 3 [.d (D.int .i64 v98)])])))
  | [], v76n, v77, hd, h => by
      rw [impl_ordinalAt_l0] at h
      have hn := drop_nil hd
      refine LoopOk.step ?_
      conv => whnf
      refine splD (fun g => absurd g hn) (fun _ => ?_)
      conv => whnf
      exact ⟨_, _, [some 0, some 64], [], ⟨rfl, _, h, rfl, rfl⟩, ⟨⟨rfl, rfl⟩, ⟨rfl, ⟨rfl, rfl, trivial⟩, ⟨rfl, rfl, trivial⟩, trivial⟩, trivial⟩⟩
  | cs :: rest, v76n, v77, hd, h => by
      rw [impl_ordinalAt_l0] at h
      obtain ⟨hrow, hd1, hlt⟩ := drop_cons hd
      refine LoopOk.step ?_
      conv => whnf
      refine splD (fun _ => ?_) (fun g => absurd hlt g)
      conv => whnf
      obtain ⟨x119, x120, e121, h⟩ := cell_si_ex h
      rw [e121] at hrow
      refine Req.of (Int.natCast_nonneg _) ?_
      refine Row.of _ hrow ?_
      conv => whnf
      refine splD (fun g122 => ?_) (fun g122 => ?_)
      · replace h := iteP h g122
        conv => whnf
        refine CutK.norm [0, 1, 2, 7, 8, 26, 27, 62] [0, 64] ?_
        conv => whnf
        cases h
        exact Done.of [some 0, some 64] [] rfl rfl ⟨⟨rfl, rfl⟩, ⟨rfl, ⟨rfl, rfl, trivial⟩, ⟨rfl, rfl, trivial⟩, trivial⟩, rfl, trivial⟩
      · replace h := iteN h g122
        conv => whnf
        refine Pick.no ?_
        conv => whnf
        obtain ⟨y123, e124, h⟩ := bind_ex h
        refine CallOk.of (impl_in_ct e124) ?_
        conv => whnf
        refine spl (fun g125 => ?_) (fun g125 => ?_)
        · replace h := iteT h g125
          conv => whnf
          refine Pick.no ?_
          conv => whnf
          obtain ⟨y126, e127, h⟩ := bind_ex h
          refine CallOk.of (impl_ordinalAt_2_ct e127) ?_
          conv => whnf
          refine spl (fun g128 => ?_) (fun g128 => ?_)
          · replace h := iteT h g128
            conv => whnf
            refine CutK.norm [0, 1, 2, 7, 8, 26, 27, 62] [0, 64] ?_
            conv => whnf
            refine CutK.norm [0, 1, 2, 7, 8, 26, 27] [0, 64] ?_
            conv => whnf
            refine splD (fun g129 => ?_) (fun g129 => ?_)
            · replace h := iteP h g129
              conv => whnf
              obtain ⟨g133, x130, x131, e132, h⟩ := row_si_ex h
              refine Req.of g133 ?_
              refine Row.of _ e132 ?_
              conv => whnf
              refine Pick.no ?_
              conv => whnf
              obtain ⟨y134, e135, h⟩ := bind_ex h
              refine CallOk.of (impl_cmp_ct e135) ?_
              conv => whnf
              refine splD (fun g136 => ?_) (fun g136 => ?_)
              · replace h := iteP h g136
                conv => whnf
                refine CutK.norm [0, 1, 2, 26, 27, 81] [0, 64] ?_
                conv => whnf
                cases h
                exact Done.of [some 0, some 64] [] rfl rfl ⟨⟨rfl, rfl⟩, ⟨rfl, ⟨rfl, rfl, trivial⟩, ⟨rfl, rfl, trivial⟩, trivial⟩, rfl, trivial⟩
              · replace h := iteN h g136
                conv => whnf
                refine CutK.norm [0, 1, 2, 26, 27, 81] [0, 64] ?_
                conv => whnf
                refine CutK.norm [0, 1, 2, 26, 27] [0, 64] ?_
                conv => whnf
                exact LoopOk.back (impl_ordinalAt_l0_ct hx rest (v76n + 1) _ hd1 h) [some 0, some 64] [] ⟨⟨rfl, rfl⟩, ⟨rfl, ⟨rfl, rfl, trivial⟩, ⟨rfl, rfl, trivial⟩, trivial⟩, ⟨rfl, rfl⟩, rfl, ⟨rfl, rfl⟩, rfl, i64eq (wrap_up hlt hx), trivial⟩
            · replace h := iteN h g129
              conv => whnf
              refine CutK.norm [0, 1, 2, 26, 27, 81] [0, 64] ?_
              conv => whnf
              refine CutK.norm [0, 1, 2, 26, 27] [0, 64] ?_
              conv => whnf
              exact LoopOk.back (impl_ordinalAt_l0_ct hx rest (v76n + 1) _ hd1 h) [some 0, some 64] [] ⟨⟨rfl, rfl⟩, ⟨rfl, ⟨rfl, rfl, trivial⟩, ⟨rfl, rfl, trivial⟩, trivial⟩, ⟨rfl, rfl⟩, rfl, ⟨rfl, rfl⟩, rfl, i64eq (wrap_up hlt hx), trivial⟩
          · replace h := iteF h g128
            conv => whnf
            refine CutK.norm [0, 1, 2, 7, 8, 26, 27, 62] [0, 64] ?_
            conv => whnf
            cases h
            exact Done.of [some 0, some 64] [] rfl rfl ⟨⟨rfl, rfl⟩, ⟨rfl, ⟨rfl, rfl, trivial⟩, ⟨rfl, rfl, trivial⟩, trivial⟩, rfl, trivial⟩
        · replace h := iteF h g125
          conv => whnf
          refine CutK.norm [0, 1, 2, 7, 8, 26, 27, 62] [0, 64] ?_
          conv => whnf
          cases h
          exact Done.of [some 0, some 64] [] rfl rfl ⟨⟨rfl, rfl⟩, ⟨rfl, ⟨rfl, rfl, trivial⟩, ⟨rfl, rfl, trivial⟩, trivial⟩, rfl, trivial⟩
def impl_ordinalAt (k : Nat) (a1 : Rw) (a2 : Int) (a3 : Int) : Option (Bool × Rw × Int) :=
  (if (60 : Int) < (IntKind.i64.wrap (a3 + 1)) then some (false, a1, IntKind.i64.wrap (a3 + 1)) else (if (6 : Int) < a2 then some (false, a1, IntKind.i64.wrap (a3 + 1)) else (if a1.length ≤ cap then (impl_ordinalAt_l0 k a1 a2 (fun (v98 : Int) => (impl_ordinalAt_p3 a1 v98)) a1 0 (IntKind.i64.wrap (a3 + 1))) else none)))
set_option maxHeartbeats 4000000 in
set_option maxRecDepth 100000 in
theorem impl_ordinalAt_ct {k : Nat} {a1 : Rw} {a2 : Int} {a3 : Int} {r : Bool × Rw × Int} (h : impl_ordinalAt k a1 a2 a3 = some r) : Ct prog 97 [.ptr 0 0, .d (D.int .i64 a2), .ptr 64 0] (⟨[(28, [.d (D.sl a1)]), (3, [.d (D.int .i64 a3)])], []⟩) (.d (D.bool r.1)) (⟨[(28, [.d (D.sl r.2.1)]), (3, [.d (D.int .i64 r.2.2)])], []⟩) := by
  rw [impl_ordinalAt] at h
  refine Ct.of (c := _) mixed func97 ⟨rfl, rfl, rfl⟩ ?_ rfl
  conv => whnf
  refine splD (fun g62 => ?_) (fun g62 => ?_)
  · replace h := iteP h g62
    conv => whnf
    cases h
    exact Done.of [some 0, some 64] [] rfl rfl ⟨⟨rfl, rfl⟩, ⟨rfl, ⟨rfl, rfl, trivial⟩, ⟨rfl, rfl, trivial⟩, trivial⟩, rfl, trivial⟩
  · replace h := iteN h g62
    conv => whnf
    refine splD (fun g63 => ?_) (fun g63 => ?_)
    · replace h := iteP h g63
      conv => whnf
      cases h
      exact Done.of [some 0, some 64] [] rfl rfl ⟨⟨rfl, rfl⟩, ⟨rfl, ⟨rfl, rfl, trivial⟩, ⟨rfl, rfl, trivial⟩, trivial⟩, rfl, trivial⟩
    · replace h := iteN h g63
      conv => whnf
      obtain ⟨g137, h⟩ := req_ex h
      refine LoopOk.into (impl_ordinalAt_l0_ct  g137 _ _ _ rfl h) [some 0, some 64] [] ⟨⟨rfl, rfl⟩, ⟨rfl, ⟨rfl, rfl, trivial⟩, ⟨rfl, rfl, trivial⟩, trivial⟩, ⟨rfl, rfl⟩, rfl, ⟨rfl, rfl⟩, rfl, rfl, trivial⟩ ?_ (fun _ hs => hs)
      rintro i ts os ⟨rfl, v98, h, rfl, rfl⟩
      conv => whnf
      exact CutK.piece (impl_ordinalAt_p3_ct  h) [some 0, some 64] [] ⟨⟨rfl, rfl⟩, ⟨rfl, ⟨rfl, rfl, trivial⟩, ⟨rfl, rfl, trivial⟩, trivial⟩, trivial⟩

def impl_IsOrdinal (k : Nat) (a1 : Rw) : Option Bool :=
  ((impl_ordinalAt k a1 0 0).bind fun y2 => (if y2.1 = true then some true else some false))
set_option maxHeartbeats 4000000 in
set_option maxRecDepth 100000 in
theorem impl_IsOrdinal_ct {k : Nat} {a1 : Rw} {r : Bool} (h : impl_IsOrdinal k a1 = some r) : Ct prog 76 [.agg [.d (D.sl a1)]] (⟨[], []⟩) (.d (D.bool r)) (⟨[], []⟩) := by
  rw [impl_IsOrdinal] at h
  refine Ct.of (c := _) mixed func76 ⟨rfl, rfl, rfl⟩ ?_ rfl
  conv => whnf
  refine Pick.no ?_
  conv => whnf
  obtain ⟨y2, e3, h⟩ := bind_ex h
  refine CallOk.of (impl_ordinalAt_ct e3) ?_
  conv => whnf
  refine spl (fun g4 => ?_) (fun g4 => ?_)
  · replace h := iteT h g4
    conv => whnf
    refine CutK.go ?_
    conv => whnf
    cases h
    exact Done.of [] [] rfl rfl ⟨⟨rfl, rfl⟩, ⟨rfl, trivial⟩, rfl, trivial⟩
  · replace h := iteF h g4
    conv => whnf
    refine CutK.go ?_
    conv => whnf
    cases h
    exact Done.of [] [] rfl rfl ⟨⟨rfl, rfl⟩, ⟨rfl, trivial⟩, rfl, trivial⟩

def impl_cloneOrdinal_l0 (rec_impl_cloneOrdinal : Rw → Option Rw) (a1 : Rw) (K0 : Rw → Option Rw) : Rw → Rw → Option Rw
  | [], v10 => (K0 v10)
  | cs :: rest, v10 => (cell_si cs fun x28 x29 => ((rec_impl_cloneOrdinal x28).bind fun y31 => (if v10.length + 1 ≤ cap then (impl_cloneOrdinal_l0 rec_impl_cloneOrdinal a1 K0 rest (v10 ++ ([[D.sl y31, D.int .i64 x29]]))) else none)))
set_option maxHeartbeats 4000000 in
set_option maxRecDepth 100000 in
theorem impl_cloneOrdinal_l0_ct {rec_impl_cloneOrdinal : Rw → Option Rw} {a1 : Rw} {K0 : Rw → Option Rw} (hrec_impl_cloneOrdinal : ∀ (a1 : Rw) (r : Rw), rec_impl_cloneOrdinal a1 = some r → Ct prog 85 [.agg [.d (D.sl a1)]] (⟨[], []⟩) (.agg [.os 8 r.length]) (⟨[], [(96, true, r)]⟩)) {r : Rw} (hx : a1.length ≤ cap) : ∀ (rest : Rw) (v9n : Nat) (v10 : Rw), a1.drop v9n = rest → impl_cloneOrdinal_l0 rec_impl_cloneOrdinal a1 K0 rest v10 = some r → LoopOk prog 0 (lp f85 0) (mk 27 [(2, .ptr 128 0), (3, .ptr 192 0), (8, .d (D.sl a1)), (9, .d (D.int .i64 (a1.length : Int))), (10, .d (D.int .i64 (v9n : Int)))] [(128, .box 28 [.es]), (192, .box 28 [.os 64000 v10.length]), (64000, .arr 96 true v10)]) (LoopEnd prog f85 0 27 (.agg [.os 8 r.length]) (⟨[], [(96, true, r)]⟩) (fun i ts os => (i = 0 ∧ ∃ v19 : Rw, K0 v19 = some r ∧ ts = [(2, .ptr 128 0), (3, .ptr 192 0)] ∧ os = [(128, .box 28 [.es]), (192, .box 28 [.os 67001 v19.length]), (67001, .arr 96 true v19)])))
  | [], v9n, v10, hd, h => by
      rw [impl_cloneOrdinal_l0] at h
      have hn := drop_nil hd
      refine LoopOk.step ?_
      conv => whnf
      refine splD (fun g => absurd g hn) (fun _ => ?_)
      conv => whnf
      exact ⟨_, _, [some 128, some 192, some 64000], [], ⟨rfl, _, h, rfl, rfl⟩, ⟨⟨rfl, rfl⟩, ⟨rfl, ⟨rfl, trivial, trivial⟩, ⟨rfl, ⟨rfl, rfl⟩, trivial⟩, ⟨rfl, rfl, rows_same⟩, trivial⟩, ⟨rfl, rfl⟩, ⟨rfl, rfl⟩, trivial⟩⟩
  | cs :: rest, v9n, v10, hd, h => by
      rw [impl_cloneOrdinal_l0] at h
      obtain ⟨hrow, hd1, hlt⟩ := drop_cons hd
      refine LoopOk.step ?_
      conv => whnf
      refine splD (fun _ => ?_) (fun g => absurd hlt g)
      conv => whnf
      obtain ⟨x28, x29, e30, h⟩ := cell_si_ex h
      rw [e30] at hrow
      refine Req.of (Int.natCast_nonneg _) ?_
      refine Row.of _ hrow ?_
      conv => whnf
      refine Pick.no ?_
      conv => whnf
      obtain ⟨y31, e32, h⟩ := bind_ex h
      refine CallOk.of (hrec_impl_cloneOrdinal _ _ e32) ?_
      conv => whnf
      refine Take.all (rfl) ?_
      conv => whnf
      refine Take.all (rfl) ?_
      conv => whnf
      refine Take.all (by first | rfl | exact List.length_append.symm | (simp; done) | omega | (dsimp only; omega)) ?_
      conv => whnf
      obtain ⟨g33, h⟩ := req_ex h
      refine Req.of (room (b := 32) (by decide) g33 (wide1 rfl wide0)) ?_
      conv => whnf
      refine CutK.go ?_
      conv => whnf
      exact LoopOk.back (impl_cloneOrdinal_l0_ct hrec_impl_cloneOrdinal hx rest (v9n + 1) _ hd1 h) [some 128, some 192, some 1472] [] ⟨⟨rfl, rfl⟩, ⟨rfl, ⟨rfl, trivial, trivial⟩, ⟨rfl, ⟨(by first | rfl | exact List.length_append.symm | (simp; done) | omega | (dsimp only; omega)), rfl⟩, trivial⟩, ⟨rfl, rfl, rows_same⟩, trivial⟩, ⟨rfl, rfl⟩, ⟨rfl, rfl⟩, rfl, rfl, i64eq (wrap_up hlt hx), trivial⟩
def impl_cloneOrdinal_b (rec_impl_cloneOrdinal : Rw → Option Rw) (a1 : Rw) : Option Rw :=
  (if a1.length ≤ cap then (impl_cloneOrdinal_l0 rec_impl_cloneOrdinal a1 (fun (v19 : Rw) => some v19) a1 ([] : Rw)) else none)
set_option maxHeartbeats 4000000 in
set_option maxRecDepth 100000 in
theorem impl_cloneOrdinal_b_ct {rec_impl_cloneOrdinal : Rw → Option Rw} (hrec_impl_cloneOrdinal : ∀ (a1 : Rw) (r : Rw), rec_impl_cloneOrdinal a1 = some r → Ct prog 85 [.agg [.d (D.sl a1)]] (⟨[], []⟩) (.agg [.os 8 r.length]) (⟨[], [(96, true, r)]⟩)) {a1 : Rw} {r : Rw} (h : impl_cloneOrdinal_b rec_impl_cloneOrdinal a1 = some r) : Ct prog 85 [.agg [.d (D.sl a1)]] (⟨[], []⟩) (.agg [.os 8 r.length]) (⟨[], [(96, true, r)]⟩) := by
  rw [impl_cloneOrdinal_b] at h
  refine Ct.of (c := _) mixed func85 ⟨rfl, rfl, rfl⟩ ?_ rfl
  conv => whnf
  obtain ⟨g34, h⟩ := req_ex h
  refine LoopOk.into (impl_cloneOrdinal_l0_ct hrec_impl_cloneOrdinal g34 _ _ _ rfl h) [some 128, some 192, none] [] ⟨⟨rfl, rfl⟩, ⟨rfl, ⟨rfl, trivial, trivial⟩, ⟨rfl, ⟨rfl, rfl⟩, trivial⟩, rfl, trivial⟩, ⟨rfl, rfl⟩, ⟨rfl, rfl⟩, rfl, rfl, rfl, trivial⟩ ?_ (fun _ hs => hs)
  rintro i ts os ⟨rfl, v19, h, rfl, rfl⟩
  conv => whnf
  refine CutK.go ?_
  conv => whnf
  cases h
  exact Done.of [some 67001] [] rfl rfl ⟨⟨rfl, rfl⟩, ⟨rfl, ⟨rfl, rfl, rows_same⟩, trivial⟩, ⟨⟨rfl, rfl⟩, trivial⟩, trivial⟩
def impl_cloneOrdinal : Nat → Rw → Option Rw
  | 0, _ => none
  | k + 1, a1 => impl_cloneOrdinal_b (impl_cloneOrdinal k) a1
theorem impl_cloneOrdinal_ct' : ∀ (k : Nat) (a1 : Rw) (r : Rw), impl_cloneOrdinal k a1 = some r → Ct prog 85 [.agg [.d (D.sl a1)]] (⟨[], []⟩) (.agg [.os 8 r.length]) (⟨[], [(96, true, r)]⟩)
  | 0, _, _, h => by rw [impl_cloneOrdinal] at h; cases h
  | k + 1, _, _, h => by rw [impl_cloneOrdinal] at h; exact impl_cloneOrdinal_b_ct (impl_cloneOrdinal_ct' k) h
theorem impl_cloneOrdinal_ct {k : Nat} {a1 : Rw} {r : Rw} (h : impl_cloneOrdinal k a1 = some r) : Ct prog 85 [.agg [.d (D.sl a1)]] (⟨[], []⟩) (.agg [.os 8 r.length]) (⟨[], [(96, true, r)]⟩) := impl_cloneOrdinal_ct' k _ _ h

def impl_told (k : Nat) (a1 : Rw) : Option (Rw × Bool) :=
  ((impl_IsOrdinal k a1).bind fun y2 => (if y2 = true then ((impl_cloneOrdinal k a1).bind fun y5 => some (y5, true)) else some (([] : Rw), false)))
set_option maxHeartbeats 4000000 in
set_option maxRecDepth 100000 in
theorem impl_told_ct {k : Nat} {a1 : Rw} {r : Rw × Bool} (h : impl_told k a1 = some r) : Ct prog 45 [.agg [.d (D.sl a1)]] (⟨[], []⟩) (.tup [.agg [.os 8 r.1.length], .d (D.bool r.2)]) (⟨[], [(96, true, r.1)]⟩) := by
  rw [impl_told] at h
  refine Ct.of (c := _) mixed func45 ⟨rfl, rfl, rfl⟩ ?_ rfl
  conv => whnf
  refine Pick.no ?_
  conv => whnf
  obtain ⟨y2, e3, h⟩ := bind_ex h
  refine CallOk.of (impl_IsOrdinal_ct e3) ?_
  conv => whnf
  refine spl (fun g4 => ?_) (fun g4 => ?_)
  · replace h := iteT h g4
    conv => whnf
    refine CutK.go ?_
    conv => whnf
    refine CutK.go ?_
    conv => whnf
    refine Pick.no ?_
    conv => whnf
    obtain ⟨y5, e6, h⟩ := bind_ex h
    refine CallOk.of (impl_cloneOrdinal_ct e6) ?_
    conv => whnf
    refine CutK.go ?_
    conv => whnf
    cases h
    exact Done.of [some 576] [] rfl rfl ⟨⟨rfl, rfl⟩, ⟨rfl, ⟨rfl, rfl, rows_same⟩, trivial⟩, ⟨⟨⟨rfl, rfl⟩, trivial⟩, rfl, trivial⟩, trivial⟩
  · replace h := iteF h g4
    conv => whnf
    refine CutK.go ?_
    conv => whnf
    cases h
    exact Done.of [none] [] rfl rfl ⟨⟨rfl, rfl⟩, ⟨rfl, rfl, trivial⟩, ⟨⟨⟨rfl, rfl⟩, trivial⟩, rfl, trivial⟩, trivial⟩

def impl_HydraOrdinal (k : Nat) (a1 : Rw) : Option (Rw × Bool) :=
  ((impl_IsHydra k a1).bind fun y2 => (if y2 = true then ((lib_treeOf a1).bind fun y5 => (row_p y5 0 fun x7 => ((impl_tree_ordinal k x7).bind fun y10 => ((impl_told k y10).bind fun y12 => (if y12.2 = true then some (y12.1, true) else some (y12.1, false)))))) else some (([] : Rw), false)))
set_option maxHeartbeats 4000000 in
set_option maxRecDepth 100000 in
theorem impl_HydraOrdinal_ct {k : Nat} {a1 : Rw} {r : Rw × Bool} (h : impl_HydraOrdinal k a1 = some r) : Ct prog 12 [.agg [.d (D.sl a1)]] (⟨[], []⟩) (.tup [.agg [.os 8 r.1.length], .d (D.bool r.2)]) (⟨[], [(96, true, r.1)]⟩) := by
  rw [impl_HydraOrdinal] at h
  refine Ct.of (c := _) mixed func12 ⟨rfl, rfl, rfl⟩ ?_ rfl
  conv => whnf
  refine Pick.no ?_
  conv => whnf
  obtain ⟨y2, e3, h⟩ := bind_ex h
  refine CallOk.of (impl_IsHydra_ct e3) ?_
  conv => whnf
  refine spl (fun g4 => ?_) (fun g4 => ?_)
  · replace h := iteT h g4
    conv => whnf
    refine CutK.go ?_
    conv => whnf
    refine CutK.go ?_
    conv => whnf
    refine Pick.no ?_
    conv => whnf
    obtain ⟨y5, e6, h⟩ := bind_ex h
    refine CallOk.of (lib_treeOf_ct e6) ?_
    conv => whnf
    obtain ⟨g9, x7, e8, h⟩ := row_p_ex h
    refine Req.of g9 ?_
    refine Row.of _ e8 ?_
    conv => whnf
    refine Pick.no ?_
    conv => whnf
    obtain ⟨y10, e11, h⟩ := bind_ex h
    refine CallOk.of (impl_tree_ordinal_ct e11) ?_
    conv => whnf
    refine Pick.no ?_
    conv => whnf
    refine Take.all (rfl) ?_
    conv => whnf
    obtain ⟨y12, e13, h⟩ := bind_ex h
    refine CallOk.of (impl_told_ct e13) ?_
    conv => whnf
    refine spl (fun g14 => ?_) (fun g14 => ?_)
    · replace h := iteT h g14
      conv => whnf
      refine CutK.go ?_
      conv => whnf
      cases h
      exact Done.of [some 832] [] rfl rfl ⟨⟨rfl, rfl⟩, ⟨rfl, ⟨rfl, rfl, rows_same⟩, trivial⟩, ⟨⟨⟨rfl, rfl⟩, trivial⟩, rfl, trivial⟩, trivial⟩
    · replace h := iteF h g14
      conv => whnf
      refine CutK.go ?_
      conv => whnf
      cases h
      exact Done.of [some 832] [] rfl rfl ⟨⟨rfl, rfl⟩, ⟨rfl, ⟨rfl, rfl, rows_same⟩, trivial⟩, ⟨⟨⟨rfl, rfl⟩, trivial⟩, rfl, trivial⟩, trivial⟩
  · replace h := iteF h g4
    conv => whnf
    refine CutK.go ?_
    conv => whnf
    cases h
    exact Done.of [none] [] rfl rfl ⟨⟨rfl, rfl⟩, ⟨rfl, rfl, trivial⟩, ⟨⟨⟨rfl, rfl⟩, trivial⟩, rfl, trivial⟩, trivial⟩



def impl_HydraText (k : Nat) (a1 : Rw) : Option (ByteArray × Bool) :=
  ((impl_IsHydra k a1).bind fun y2 => (if y2 = true then ((lib_treeOf a1).bind fun y5 => (row_p y5 0 fun x7 => ((lib_text x7).bind fun y10 => some (y10, true)))) else some ((ByteArray.mk #[]), false)))
set_option maxHeartbeats 4000000 in
set_option maxRecDepth 100000 in
theorem impl_HydraText_ct {k : Nat} {a1 : Rw} {r : ByteArray × Bool} (h : impl_HydraText k a1 = some r) : Ct prog 37 [.agg [.d (D.sl a1)]] (⟨[], []⟩) (.tup [.d (D.str r.1), .d (D.bool r.2)]) (⟨[], []⟩) := by
  rw [impl_HydraText] at h
  refine Ct.of (c := _) mixed func37 ⟨rfl, rfl, rfl⟩ ?_ rfl
  conv => whnf
  refine Pick.no ?_
  conv => whnf
  obtain ⟨y2, e3, h⟩ := bind_ex h
  refine CallOk.of (impl_IsHydra_ct e3) ?_
  conv => whnf
  refine spl (fun g4 => ?_) (fun g4 => ?_)
  · replace h := iteT h g4
    conv => whnf
    refine CutK.go ?_
    conv => whnf
    refine CutK.go ?_
    conv => whnf
    refine Pick.no ?_
    conv => whnf
    obtain ⟨y5, e6, h⟩ := bind_ex h
    refine CallOk.of (lib_treeOf_ct e6) ?_
    conv => whnf
    obtain ⟨g9, x7, e8, h⟩ := row_p_ex h
    refine Req.of g9 ?_
    refine Row.of _ e8 ?_
    conv => whnf
    refine Pick.no ?_
    conv => whnf
    obtain ⟨y10, e11, h⟩ := bind_ex h
    refine CallOk.of (lib_text_ct e11) ?_
    conv => whnf
    refine CutK.go ?_
    conv => whnf
    cases h
    exact Done.of [] [] rfl rfl ⟨⟨rfl, rfl⟩, ⟨rfl, trivial⟩, ⟨rfl, rfl, trivial⟩, trivial⟩
  · replace h := iteF h g4
    conv => whnf
    refine CutK.go ?_
    conv => whnf
    cases h
    exact Done.of [] [] rfl rfl ⟨⟨rfl, rfl⟩, ⟨rfl, trivial⟩, ⟨rfl, rfl, trivial⟩, trivial⟩

def impl_ParseHydra_p4 (o76 : Rw) : Option (Rw × Bool) :=
  some (o76, true)
set_option maxHeartbeats 4000000 in
set_option maxRecDepth 100000 in
theorem impl_ParseHydra_p4_ct {o76 : Rw} {r : Rw × Bool} (h : impl_ParseHydra_p4 o76 = some r) : X prog 0 (tlF f38 4) (mk 85 [(2, .ptr 128 0), (4, .ptr 256 0)] [(128, .box 31 [.es]), (256, .box 31 [.os 1084000 o76.length]), (1084000, .arr 3 true o76)]) (finK prog f38 0 (.tup [.agg [.os 8 r.1.length], .d (D.bool r.2)]) (⟨[], [(3, true, r.1)]⟩)) := by
  rw [impl_ParseHydra_p4] at h
  conv => whnf
  cases h
  exact Done.of [some 1084000] [] rfl rfl ⟨⟨rfl, rfl⟩, ⟨rfl, ⟨rfl, rfl, rows_same⟩, trivial⟩, ⟨⟨⟨rfl, rfl⟩, trivial⟩, rfl, trivial⟩, trivial⟩
def impl_ParseHydra_p3 (k : Nat) (a1 : ByteArray) (o71 : Rw) : Option (Rw × Bool) :=
  ((impl_HydraText k o71).bind fun y77 => (if y77.2 = true then (if (!(y77.1.toList == a1.toList)) = true then some (([] : Rw), false) else (impl_ParseHydra_p4 o71)) else some (([] : Rw), false)))
set_option maxHeartbeats 4000000 in
set_option maxRecDepth 100000 in
theorem impl_ParseHydra_p3_ct {k : Nat} {a1 : ByteArray} {o71 : Rw} {r : Rw × Bool} (h : impl_ParseHydra_p3 k a1 o71 = some r) : X prog 0 (tlF f38 3) (mk 85 [(0, .d (D.str a1)), (2, .ptr 128 0), (4, .ptr 256 0)] [(128, .box 31 [.es]), (256, .box 31 [.os 1079000 o71.length]), (1079000, .arr 3 true o71)]) (finK prog f38 0 (.tup [.agg [.os 8 r.1.length], .d (D.bool r.2)]) (⟨[], [(3, true, r.1)]⟩)) := by
  rw [impl_ParseHydra_p3] at h
  conv => whnf
  refine Pick.no ?_
  conv => whnf
  refine Take.all (rfl) ?_
  conv => whnf
  obtain ⟨y77, e78, h⟩ := bind_ex h
  refine CallOk.of (impl_HydraText_ct e78) ?_
  conv => whnf
  refine spl (fun g79 => ?_) (fun g79 => ?_)
  · replace h := iteT h g79
    conv => whnf
    refine CutK.norm [0, 2, 4, 7, 8] [128, 256, 1079000] ?_
    conv => whnf
    refine spl (fun g80 => ?_) (fun g80 => ?_)
    · replace h := iteT h g80
      conv => whnf
      cases h
      exact Done.of [none] [] rfl rfl ⟨⟨rfl, rfl⟩, ⟨rfl, rfl, trivial⟩, ⟨⟨⟨rfl, rfl⟩, trivial⟩, rfl, trivial⟩, trivial⟩
    · replace h := iteF h g80
      conv => whnf
      exact CutK.piece (impl_ParseHydra_p4_ct  h) [some 128, some 256, some 1079000] [] ⟨⟨rfl, rfl⟩, ⟨rfl, ⟨rfl, trivial, trivial⟩, ⟨rfl, ⟨rfl, rfl⟩, trivial⟩, ⟨rfl, rfl, rows_same⟩, trivial⟩, ⟨rfl, rfl⟩, ⟨rfl, rfl⟩, trivial⟩
  · replace h := iteF h g79
    conv => whnf
    refine CutK.norm [0, 2, 4, 7, 8] [128, 256, 1079000] ?_
    conv => whnf
    cases h
    exact Done.of [none] [] rfl rfl ⟨⟨rfl, rfl⟩, ⟨rfl, rfl, trivial⟩, ⟨⟨⟨rfl, rfl⟩, trivial⟩, rfl, trivial⟩, trivial⟩
def impl_ParseHydra_l0 (a1 : ByteArray) (K0 : Rw → Option (Rw × Bool)) : Nat → Rw → Int → Rw → Option (Rw × Bool)
  | 0, _, _, _ => none
  | n + 1, v91, v92, v93 => (if v92 < (a1.size : Int) then (byteD a1 v92 fun b151 => (if (b151.toNat : Int) = (40 : Int) then (if (1 : Int) < (v91.length : Int) then (if (v93.length : Int) < (40 : Int) then (if 0 ≤ (IntKind.i64.wrap ((v91.length : Int) - 1)) ∧ (IntKind.i64.wrap ((v91.length : Int) - 1)) < (v91.length : Int) then (row_i v91 (IntKind.i64.wrap ((v91.length : Int) - 1)) fun x158 => (if v93.length + 1 ≤ cap then (if v91.length + 1 ≤ cap then (impl_ParseHydra_l0 a1 K0 n (v91 ++ ([[D.int .i64 (IntKind.i64.wrap ((v93.length + ([[D.int .i64 x158]] : Rw).length : Int) - 1))]])) (IntKind.i64.wrap (v92 + 1)) (v93 ++ ([[D.int .i64 x158]]))) else none) else none)) else none) else (if (b151.toNat : Int) = (41 : Int) then none else some (([] : Rw), false))) else (if v92 = (0 : Int) then (if (v93.length : Int) < (40 : Int) then (if 0 ≤ (IntKind.i64.wrap ((v91.length : Int) - 1)) ∧ (IntKind.i64.wrap ((v91.length : Int) - 1)) < (v91.length : Int) then (row_i v91 (IntKind.i64.wrap ((v91.length : Int) - 1)) fun x167 => (if v93.length + 1 ≤ cap then (if v91.length + 1 ≤ cap then (impl_ParseHydra_l0 a1 K0 n (v91 ++ ([[D.int .i64 (IntKind.i64.wrap ((v93.length + ([[D.int .i64 x167]] : Rw).length : Int) - 1))]])) (IntKind.i64.wrap (v92 + 1)) (v93 ++ ([[D.int .i64 x167]]))) else none) else none)) else none) else (if (b151.toNat : Int) = (41 : Int) then none else some (([] : Rw), false))) else (if (b151.toNat : Int) = (41 : Int) then none else some (([] : Rw), false)))) else (if (b151.toNat : Int) = (41 : Int) then (if (1 : Int) < (v91.length : Int) then (if 0 ≤ (IntKind.i64.wrap ((v91.length : Int) - 1)) ∧ (IntKind.i64.wrap ((v91.length : Int) - 1)) ≤ (v91.length : Int) then (if (IntKind.i64.wrap ((v91.length : Int) - 1) : Int).toNat ≤ v91.length then (impl_ParseHydra_l0 a1 K0 n (v91.take ((IntKind.i64.wrap ((v91.length : Int) - 1) : Int).toNat)) (IntKind.i64.wrap (v92 + 1)) v93) else none) else none) else some (([] : Rw), false)) else some (([] : Rw), false)))) else (K0 v93))
set_option maxHeartbeats 4000000 in
set_option maxRecDepth 100000 in
theorem impl_ParseHydra_l0_ct {a1 : ByteArray} {K0 : Rw → Option (Rw × Bool)} {r : Rw × Bool} : ∀ (n : Nat) (v91 : Rw) (v92 : Int) (v93 : Rw), impl_ParseHydra_l0 a1 K0 n v91 v92 v93 = some r → LoopOk prog 0 (lp f38 0) (mk 85 [(0, .d (D.str a1)), (2, .ptr 128 0), (4, .ptr 256 0), (5, .os 64000 v91.length), (12, .d (D.int .i64 (a1.size : Int))), (13, .d (D.int .i64 v92))] [(128, .box 31 [.es]), (256, .box 31 [.os 64001 v93.length]), (64000, .arr 3 true v91), (64001, .arr 3 true v93)]) (LoopEnd prog f38 0 85 (.tup [.agg [.os 8 r.1.length], .d (D.bool r.2)]) (⟨[], [(3, true, r.1)]⟩) (fun i ts os => (i = 0 ∧ ∃ v122 : Rw, K0 v122 = some r ∧ ts = [(0, .d (D.str a1)), (2, .ptr 128 0), (4, .ptr 256 0)] ∧ os = [(128, .box 31 [.es]), (256, .box 31 [.os 67002 v122.length]), (67002, .arr 3 true v122)])))
  | 0, _, _, _, h => by
      rw [impl_ParseHydra_l0] at h; cases h
  | n + 1, v91, v92, v93, h => by
      rw [impl_ParseHydra_l0] at h
      refine LoopOk.step ?_
      conv => whnf
      refine splD (fun g150 => ?_) (fun g150 => ?_)
      · replace h := iteP h g150
        conv => whnf
        obtain ⟨g152, b151, e153, h⟩ := byteD_ex h
        refine Req.of g152 ?_
        refine Byte.of _ e153 ?_
        conv => whnf
        refine splD (fun g154 => ?_) (fun g154 => ?_)
        · replace h := iteP h g154
          conv => whnf
          refine splD (fun g155 => ?_) (fun g155 => ?_)
          · replace h := iteP h g155
            conv => whnf
            refine splD (fun g156 => ?_) (fun g156 => ?_)
            · replace h := iteP h g156
              conv => whnf
              obtain ⟨g157, h⟩ := req_ex h
              refine Req.of g157 ?_
              conv => whnf
              obtain ⟨g160, x158, e159, h⟩ := row_i_ex h
              refine Row.of _ e159 ?_
              conv => whnf
              refine Take.all (rfl) ?_
              conv => whnf
              refine Take.all (by first | rfl | exact List.length_append.symm | (simp; done) | omega | (dsimp only; omega)) ?_
              conv => whnf
              obtain ⟨g161, h⟩ := req_ex h
              refine Req.of (room (b := 8) (by decide) g161 (wide1 rfl wide0)) ?_
              conv => whnf
              refine Take.all (rfl) ?_
              conv => whnf
              refine Take.all (by first | rfl | exact List.length_append.symm | (simp; done) | omega | (dsimp only; omega)) ?_
              conv => whnf
              obtain ⟨g162, h⟩ := req_ex h
              refine Req.of (room (b := 8) (by decide) g162 (wide1 rfl wide0)) ?_
              conv => whnf
              exact LoopOk.back (impl_ParseHydra_l0_ct  n _ _ _ h) [some 128, some 256, some 3456, some 2944] [] ⟨⟨rfl, rfl⟩, ⟨rfl, ⟨rfl, trivial, trivial⟩, ⟨rfl, ⟨(by first | rfl | exact List.length_append.symm | (simp; done) | omega | (dsimp only; omega)), rfl⟩, trivial⟩, ⟨rfl, rfl, rows_same⟩, ⟨rfl, rfl, rows_same⟩, trivial⟩, rfl, ⟨rfl, rfl⟩, ⟨rfl, rfl⟩, ⟨(by first | rfl | exact List.length_append.symm | (simp; done) | omega | (dsimp only; omega)), rfl⟩, rfl, rfl, trivial⟩
            · replace h := iteN h g156
              conv => whnf
              refine Req.of g152 ?_
              refine Byte.of _ e153 ?_
              conv => whnf
              refine splD (fun g163 => ?_) (fun g163 => ?_)
              · replace h := iteP h g163
                exfalso; omega
              · replace h := iteN h g163
                conv => whnf
                cases h
                exact Done.of [none] [] rfl rfl ⟨⟨rfl, rfl⟩, ⟨rfl, rfl, trivial⟩, ⟨⟨⟨rfl, rfl⟩, trivial⟩, rfl, trivial⟩, trivial⟩
          · replace h := iteN h g155
            conv => whnf
            refine splD (fun g164 => ?_) (fun g164 => ?_)
            · replace h := iteP h g164
              conv => whnf
              refine splD (fun g165 => ?_) (fun g165 => ?_)
              · replace h := iteP h g165
                conv => whnf
                obtain ⟨g166, h⟩ := req_ex h
                refine Req.of g166 ?_
                conv => whnf
                obtain ⟨g169, x167, e168, h⟩ := row_i_ex h
                refine Row.of _ e168 ?_
                conv => whnf
                refine Take.all (rfl) ?_
                conv => whnf
                refine Take.all (by first | rfl | exact List.length_append.symm | (simp; done) | omega | (dsimp only; omega)) ?_
                conv => whnf
                obtain ⟨g170, h⟩ := req_ex h
                refine Req.of (room (b := 8) (by decide) g170 (wide1 rfl wide0)) ?_
                conv => whnf
                refine Take.all (rfl) ?_
                conv => whnf
                refine Take.all (by first | rfl | exact List.length_append.symm | (simp; done) | omega | (dsimp only; omega)) ?_
                conv => whnf
                obtain ⟨g171, h⟩ := req_ex h
                refine Req.of (room (b := 8) (by decide) g171 (wide1 rfl wide0)) ?_
                conv => whnf
                exact LoopOk.back (impl_ParseHydra_l0_ct  n _ _ _ h) [some 128, some 256, some 3456, some 2944] [] ⟨⟨rfl, rfl⟩, ⟨rfl, ⟨rfl, trivial, trivial⟩, ⟨rfl, ⟨(by first | rfl | exact List.length_append.symm | (simp; done) | omega | (dsimp only; omega)), rfl⟩, trivial⟩, ⟨rfl, rfl, rows_same⟩, ⟨rfl, rfl, rows_same⟩, trivial⟩, rfl, ⟨rfl, rfl⟩, ⟨rfl, rfl⟩, ⟨(by first | rfl | exact List.length_append.symm | (simp; done) | omega | (dsimp only; omega)), rfl⟩, rfl, rfl, trivial⟩
              · replace h := iteN h g165
                conv => whnf
                refine Req.of g152 ?_
                refine Byte.of _ e153 ?_
                conv => whnf
                refine splD (fun g172 => ?_) (fun g172 => ?_)
                · replace h := iteP h g172
                  exfalso; omega
                · replace h := iteN h g172
                  conv => whnf
                  cases h
                  exact Done.of [none] [] rfl rfl ⟨⟨rfl, rfl⟩, ⟨rfl, rfl, trivial⟩, ⟨⟨⟨rfl, rfl⟩, trivial⟩, rfl, trivial⟩, trivial⟩
            · replace h := iteN h g164
              conv => whnf
              refine Req.of g152 ?_
              refine Byte.of _ e153 ?_
              conv => whnf
              refine splD (fun g173 => ?_) (fun g173 => ?_)
              · replace h := iteP h g173
                exfalso; omega
              · replace h := iteN h g173
                conv => whnf
                cases h
                exact Done.of [none] [] rfl rfl ⟨⟨rfl, rfl⟩, ⟨rfl, rfl, trivial⟩, ⟨⟨⟨rfl, rfl⟩, trivial⟩, rfl, trivial⟩, trivial⟩
        · replace h := iteN h g154
          conv => whnf
          refine Req.of g152 ?_
          refine Byte.of _ e153 ?_
          conv => whnf
          refine splD (fun g174 => ?_) (fun g174 => ?_)
          · replace h := iteP h g174
            conv => whnf
            refine splD (fun g175 => ?_) (fun g175 => ?_)
            · replace h := iteP h g175
              conv => whnf
              obtain ⟨g176, h⟩ := req_ex h
              refine Req.of (⟨rfl, g176⟩) ?_
              conv => whnf
              obtain ⟨g177, h⟩ := req_ex h
              exact LoopOk.back (impl_ParseHydra_l0_ct  n _ _ _ h) [some 128, some 256, some 64000, some 64001] [] ⟨⟨rfl, rfl⟩, ⟨rfl, ⟨rfl, trivial, trivial⟩, ⟨rfl, ⟨rfl, rfl⟩, trivial⟩, ⟨rfl, rfl, _, rfl⟩, ⟨rfl, rfl, rows_same⟩, trivial⟩, rfl, ⟨rfl, rfl⟩, ⟨rfl, rfl⟩, ⟨take_len g177, rfl⟩, rfl, rfl, trivial⟩
            · replace h := iteN h g175
              conv => whnf
              cases h
              exact Done.of [none] [] rfl rfl ⟨⟨rfl, rfl⟩, ⟨rfl, rfl, trivial⟩, ⟨⟨⟨rfl, rfl⟩, trivial⟩, rfl, trivial⟩, trivial⟩
          · replace h := iteN h g174
            conv => whnf
            cases h
            exact Done.of [none] [] rfl rfl ⟨⟨rfl, rfl⟩, ⟨rfl, rfl, trivial⟩, ⟨⟨⟨rfl, rfl⟩, trivial⟩, rfl, trivial⟩, trivial⟩
      · replace h := iteN h g150
        conv => whnf
        exact ⟨_, _, [some 128, some 256, some 64001], [], ⟨rfl, _, h, rfl, rfl⟩, ⟨⟨rfl, rfl⟩, ⟨rfl, ⟨rfl, trivial, trivial⟩, ⟨rfl, ⟨rfl, rfl⟩, trivial⟩, ⟨rfl, rfl, rows_same⟩, trivial⟩, rfl, ⟨rfl, rfl⟩, ⟨rfl, rfl⟩, trivial⟩⟩
def impl_ParseHydra (k : Nat) (a1 : ByteArray) : Option (Rw × Bool) :=
  (impl_ParseHydra_l0 a1 (fun (v122 : Rw) => (impl_ParseHydra_p3 k a1 v122)) k ([[D.int .i64 (-1)]] : Rw) 0 ([] : Rw))
set_option maxHeartbeats 4000000 in
set_option maxRecDepth 100000 in
theorem impl_ParseHydra_ct {k : Nat} {a1 : ByteArray} {r : Rw × Bool} (h : impl_ParseHydra k a1 = some r) : Ct prog 38 [.d (D.str a1)] (⟨[], []⟩) (.tup [.agg [.os 8 r.1.length], .d (D.bool r.2)]) (⟨[], [(3, true, r.1)]⟩) := by
  rw [impl_ParseHydra] at h
  refine Ct.of (c := _) mixed func38 ⟨rfl, rfl, rfl⟩ ?_ rfl
  conv => whnf
  refine LoopOk.into (impl_ParseHydra_l0_ct  _ _ _ _ h) [some 128, some 256, some 640, none] [] ⟨⟨rfl, rfl⟩, ⟨rfl, ⟨rfl, trivial, trivial⟩, ⟨rfl, ⟨rfl, rfl⟩, trivial⟩, ⟨rfl, rfl, rows_same⟩, rfl, trivial⟩, rfl, ⟨rfl, rfl⟩, ⟨rfl, rfl⟩, ⟨(by first | rfl | exact List.length_append.symm | (simp; done) | omega | (dsimp only; omega)), rfl⟩, rfl, rfl, trivial⟩ ?_ (fun _ hs => hs)
  rintro i ts os ⟨rfl, v122, h, rfl, rfl⟩
  conv => whnf
  exact CutK.piece (impl_ParseHydra_p3_ct  h) [some 128, some 256, some 67002] [] ⟨⟨rfl, rfl⟩, ⟨rfl, ⟨rfl, trivial, trivial⟩, ⟨rfl, ⟨rfl, rfl⟩, trivial⟩, ⟨rfl, rfl, rows_same⟩, trivial⟩, rfl, ⟨rfl, rfl⟩, ⟨rfl, rfl⟩, trivial⟩

def impl_SameHydra (k : Nat) (a1 : Rw) (a2 : Rw) : Option (Bool × Bool) :=
  ((impl_IsHydra k a1).bind fun y3 => (if y3 = true then ((impl_IsHydra k a2).bind fun y6 => (if y6 = true then ((lib_treeOf a1).bind fun y9 => (row_p y9 0 fun x11 => ((impl_tree_ordinal k x11).bind fun y14 => ((lib_treeOf a2).bind fun y16 => (row_p y16 0 fun x18 => ((impl_tree_ordinal k x18).bind fun y21 => ((impl_cmp k y14 y21).bind fun y23 => (if y23 = (0 : Int) then some (true, true) else some (false, true))))))))) else some (false, false))) else some (false, false)))
set_option maxHeartbeats 4000000 in
set_option maxRecDepth 100000 in
theorem impl_SameHydra_ct {k : Nat} {a1 : Rw} {a2 : Rw} {r : Bool × Bool} (h : impl_SameHydra k a1 a2 = some r) : Ct prog 36 [.agg [.d (D.sl a1)], .agg [.d (D.sl a2)]] (⟨[], []⟩) (.tup [.d (D.bool r.1), .d (D.bool r.2)]) (⟨[], []⟩) := by
  rw [impl_SameHydra] at h
  refine Ct.of (c := _) mixed func36 ⟨rfl, rfl, rfl⟩ ?_ rfl
  conv => whnf
  refine Pick.no ?_
  conv => whnf
  obtain ⟨y3, e4, h⟩ := bind_ex h
  refine CallOk.of (impl_IsHydra_ct e4) ?_
  conv => whnf
  refine spl (fun g5 => ?_) (fun g5 => ?_)
  · replace h := iteT h g5
    conv => whnf
    refine Pick.no ?_
    conv => whnf
    obtain ⟨y6, e7, h⟩ := bind_ex h
    refine CallOk.of (impl_IsHydra_ct e7) ?_
    conv => whnf
    refine spl (fun g8 => ?_) (fun g8 => ?_)
    · replace h := iteT h g8
      conv => whnf
      refine CutK.go ?_
      conv => whnf
      refine CutK.go ?_
      conv => whnf
      refine Pick.no ?_
      conv => whnf
      obtain ⟨y9, e10, h⟩ := bind_ex h
      refine CallOk.of (lib_treeOf_ct e10) ?_
      conv => whnf
      obtain ⟨g13, x11, e12, h⟩ := row_p_ex h
      refine Req.of g13 ?_
      refine Row.of _ e12 ?_
      conv => whnf
      refine Pick.no ?_
      conv => whnf
      obtain ⟨y14, e15, h⟩ := bind_ex h
      refine CallOk.of (impl_tree_ordinal_ct e15) ?_
      conv => whnf
      refine Pick.no ?_
      conv => whnf
      obtain ⟨y16, e17, h⟩ := bind_ex h
      refine CallOk.of (lib_treeOf_ct e17) ?_
      conv => whnf
      obtain ⟨g20, x18, e19, h⟩ := row_p_ex h
      refine Req.of g20 ?_
      refine Row.of _ e19 ?_
      conv => whnf
      refine Pick.no ?_
      conv => whnf
      obtain ⟨y21, e22, h⟩ := bind_ex h
      refine CallOk.of (impl_tree_ordinal_ct e22) ?_
      conv => whnf
      refine Pick.no ?_
      conv => whnf
      refine Take.all (rfl) ?_
      conv => whnf
      refine Take.all (rfl) ?_
      conv => whnf
      obtain ⟨y23, e24, h⟩ := bind_ex h
      refine CallOk.of (impl_cmp_ct e24) ?_
      conv => whnf
      refine splD (fun g25 => ?_) (fun g25 => ?_)
      · replace h := iteP h g25
        conv => whnf
        refine CutK.go ?_
        conv => whnf
        cases h
        exact Done.of [] [] rfl rfl ⟨⟨rfl, rfl⟩, ⟨rfl, trivial⟩, ⟨rfl, rfl, trivial⟩, trivial⟩
      · replace h := iteN h g25
        conv => whnf
        refine CutK.go ?_
        conv => whnf
        cases h
        exact Done.of [] [] rfl rfl ⟨⟨rfl, rfl⟩, ⟨rfl, trivial⟩, ⟨rfl, rfl, trivial⟩, trivial⟩
    · replace h := iteF h g8
      conv => whnf
      refine CutK.go ?_
      conv => whnf
      cases h
      exact Done.of [] [] rfl rfl ⟨⟨rfl, rfl⟩, ⟨rfl, trivial⟩, ⟨rfl, rfl, trivial⟩, trivial⟩
  · replace h := iteF h g5
    conv => whnf
    refine CutK.go ?_
    conv => whnf
    cases h
    exact Done.of [] [] rfl rfl ⟨⟨rfl, rfl⟩, ⟨rfl, trivial⟩, ⟨rfl, rfl, trivial⟩, trivial⟩

def impl_grown_p4 (o92 : Int) (o93 : Rw) : Option (Option Cs × Int) :=
  some ((some ([D.int .i64 0, D.sl o93] : Cs)), o92)
set_option maxHeartbeats 4000000 in
set_option maxRecDepth 100000 in
theorem impl_grown_p4_ct {o92 : Int} {o93 : Rw} {r : Option Cs × Int} (h : impl_grown_p4 o92 o93 = some r) : X prog 1 (tlF f79 4) (mk 50 [(5, .ptr 1216 0)] [(0, .box 3 [.d (D.int .i64 o92)]), (1216, .box 105 [.d (D.int .i64 0), .os 1084000 o93.length]), (1084000, .arr 73 false o93)]) (finK prog f79 1 (.d (optP r.1)) (⟨[(3, [.d (D.int .i64 r.2)])], []⟩)) := by
  rw [impl_grown_p4] at h
  conv => whnf
  cases h
  exact Done.of [some 0] [1084000, 1216] rfl rfl ⟨⟨rfl, rfl⟩, ⟨rfl, ⟨rfl, rfl, trivial⟩, trivial⟩, ⟨rfl, rfl, ⟨rfl, Nat.le_of_eq rfl, eq_take rfl⟩, trivial⟩, trivial⟩
def impl_grown_l1 (rec_impl_grown : Rw → Int → Option (Option Cs × Int)) (a1 : Rw) (v122n : Nat) (x183 : Rw) (x184 : Int) (K2 : Int → Rw → Option (Option Cs × Int)) : Nat → Int → Int → Rw → Option (Option Cs × Int)
  | 0, _, _, _ => none
  | n + 1, v192, v193, v194 => (if v192 < x184 then ((rec_impl_grown x183 v193).bind fun y210 => (optC y210.1 (some ((none : Option Cs), y210.2)) fun x213 => (if v194.length + 1 ≤ cap then (impl_grown_l1 rec_impl_grown a1 v122n x183 x184 K2 n (IntKind.i64.wrap (v192 + 1)) y210.2 (v194 ++ ([[D.pt x213]]))) else none))) else (K2 v193 v194))
set_option maxHeartbeats 4000000 in
set_option maxRecDepth 100000 in
theorem impl_grown_l1_ct {rec_impl_grown : Rw → Int → Option (Option Cs × Int)} {a1 : Rw} {v122n : Nat} {x183 : Rw} {x184 : Int} {K2 : Int → Rw → Option (Option Cs × Int)} (hrec_impl_grown : ∀ (a1 : Rw) (a2 : Int) (r : Option Cs × Int), rec_impl_grown a1 a2 = some r → Ct prog 79 [.agg [.d (D.sl a1)], .ptr 0 0] (⟨[(3, [.d (D.int .i64 a2)])], []⟩) (.d (optP r.1)) (⟨[(3, [.d (D.int .i64 r.2)])], []⟩)) {r : Option Cs × Int} : ∀ (n : Nat) (v192 : Int) (v193 : Int) (v194 : Rw), impl_grown_l1 rec_impl_grown a1 v122n x183 x184 K2 n v192 v193 v194 = some r → LoopOk prog 1 (lp f79 1) (mk 50 [(1, .ptr 0 0), (5, .ptr 1216 0), (7, .ptr 448 0), (21, .d (D.sl a1)), (22, .d (D.int .i64 (a1.length : Int))), (23, .d (D.int .i64 (v122n : Int))), (28, .d (D.int .i64 x184)), (29, .d (D.int .i64 v192))] [(0, .box 3 [.d (D.int .i64 v193)]), (448, .box 96 [.d (D.sl x183), .d (D.int .i64 x184)]), (1216, .box 105 [.d (D.int .i64 0), .os 76800 v194.length]), (76800, .arr 73 false v194)]) (LoopEnd prog f79 1 50 (.d (optP r.1)) (⟨[(3, [.d (D.int .i64 r.2)])], []⟩) (fun i ts os => (i = 2 ∧ ∃ v201 : Int, ∃ v202 : Rw, K2 v201 v202 = some r ∧ ts = [(1, .ptr 0 0), (5, .ptr 1216 0), (21, .d (D.sl a1)), (22, .d (D.int .i64 (a1.length : Int))), (23, .d (D.int .i64 (v122n : Int)))] ∧ os = [(0, .box 3 [.d (D.int .i64 v201)]), (1216, .box 105 [.d (D.int .i64 0), .os 79801 v202.length]), (79801, .arr 73 false v202)])))
  | 0, _, _, _, h => by
      rw [impl_grown_l1] at h; cases h
  | n + 1, v192, v193, v194, h => by
      rw [impl_grown_l1] at h
      refine LoopOk.step ?_
      conv => whnf
      refine splD (fun g209 => ?_) (fun g209 => ?_)
      · replace h := iteP h g209
        conv => whnf
        refine Pick.no ?_
        conv => whnf
        obtain ⟨y210, e211, h⟩ := bind_ex h
        refine optOn y210.1 (fun g212 => ?_) (fun x213 g212 => ?_)
        · replace h := optN g212 h
          have c := hrec_impl_grown _ _ _ e211
          rw [g212] at c
          refine CallOk.of c ?_
          clear c
          conv => whnf
          refine CutK.norm [1, 5, 7, 8, 21, 22, 23, 28, 29] [0, 448, 1216, 76800] ?_
          conv => whnf
          refine splT ?_
          conv => whnf
          cases h
          exact Done.of [some 0] [] rfl rfl ⟨⟨rfl, rfl⟩, ⟨rfl, ⟨rfl, rfl, trivial⟩, trivial⟩, rfl, trivial⟩
        · replace h := optS g212 h
          have c := hrec_impl_grown _ _ _ e211
          rw [g212] at c
          refine CallOk.of c ?_
          clear c
          conv => whnf
          refine CutK.norm [1, 5, 7, 8, 21, 22, 23, 28, 29] [0, 448, 1216, 76800] ?_
          conv => whnf
          refine splF ?_
          conv => whnf
          refine Take.all (rfl) ?_
          conv => whnf
          refine Take.all (by first | rfl | exact List.length_append.symm | (simp; done) | omega | (dsimp only; omega)) ?_
          conv => whnf
          obtain ⟨g214, h⟩ := req_ex h
          refine Req.of (room (b := 8) (by decide) g214 (wide1 rfl wide0)) ?_
          conv => whnf
          refine CutK.norm [1, 5, 7, 21, 22, 23, 28, 29] [0, 448, 1216, 2816] ?_
          conv => whnf
          exact LoopOk.back (impl_grown_l1_ct hrec_impl_grown n _ _ _ h) [some 0, some 448, some 1216, some 2816] [] ⟨⟨rfl, rfl⟩, ⟨rfl, ⟨rfl, rfl, trivial⟩, ⟨rfl, rfl, rfl, trivial⟩, ⟨rfl, rfl, ⟨(by first | rfl | exact List.length_append.symm | (simp; done) | omega | (dsimp only; omega)), rfl⟩, trivial⟩, ⟨rfl, rfl, rows_same⟩, trivial⟩, ⟨rfl, rfl⟩, ⟨rfl, rfl⟩, ⟨rfl, rfl⟩, rfl, rfl, rfl, rfl, rfl, trivial⟩
      · replace h := iteN h g209
        conv => whnf
        exact ⟨_, _, [some 0, some 1216, some 76800], [], ⟨rfl, _, _, h, rfl, rfl⟩, ⟨⟨rfl, rfl⟩, ⟨rfl, ⟨rfl, rfl, trivial⟩, ⟨rfl, rfl, ⟨rfl, rfl⟩, trivial⟩, ⟨rfl, rfl, rows_same⟩, trivial⟩, ⟨rfl, rfl⟩, ⟨rfl, rfl⟩, rfl, rfl, rfl, trivial⟩⟩
def impl_grown_l0 (k : Nat) (rec_impl_grown : Rw → Int → Option (Option Cs × Int)) (a1 : Rw) (K0 : Int → Rw → Option (Option Cs × Int)) : Rw → Nat → Int → Rw → Option (Option Cs × Int)
  | [], v122n, v123, v124 => (K0 v123 v124)
  | cs :: rest, v122n, v123, v124 => (cell_si cs fun x183 x184 => (impl_grown_l1 rec_impl_grown a1 v122n x183 x184 (fun (v201 : Int) (v202 : Rw) => (impl_grown_l0 k rec_impl_grown a1 K0 rest (v122n + 1) v201 v202)) k 0 v123 v124))
set_option maxHeartbeats 4000000 in
set_option maxRecDepth 100000 in
theorem impl_grown_l0_ct {k : Nat} {rec_impl_grown : Rw → Int → Option (Option Cs × Int)} {a1 : Rw} {K0 : Int → Rw → Option (Option Cs × Int)} (hrec_impl_grown : ∀ (a1 : Rw) (a2 : Int) (r : Option Cs × Int), rec_impl_grown a1 a2 = some r → Ct prog 79 [.agg [.d (D.sl a1)], .ptr 0 0] (⟨[(3, [.d (D.int .i64 a2)])], []⟩) (.d (optP r.1)) (⟨[(3, [.d (D.int .i64 r.2)])], []⟩)) {r : Option Cs × Int} (hx : a1.length ≤ cap) : ∀ (rest : Rw) (v122n : Nat) (v123 : Int) (v124 : Rw), a1.drop v122n = rest → impl_grown_l0 k rec_impl_grown a1 K0 rest v122n v123 v124 = some r → LoopOk prog 1 (lp f79 0) (mk 50 [(1, .ptr 0 0), (5, .ptr 1216 0), (21, .d (D.sl a1)), (22, .d (D.int .i64 (a1.length : Int))), (23, .d (D.int .i64 (v122n : Int)))] [(0, .box 3 [.d (D.int .i64 v123)]), (1216, .box 105 [.d (D.int .i64 0), .os 64000 v124.length]), (64000, .arr 73 false v124)]) (LoopEnd prog f79 1 50 (.d (optP r.1)) (⟨[(3, [.d (D.int .i64 r.2)])], []⟩) (fun i ts os => (i = 0 ∧ ∃ v153 : Int, ∃ v154 : Rw, K0 v153 v154 = some r ∧ ts = [(5, .ptr 1216 0)] ∧ os = [(0, .box 3 [.d (D.int .i64 v153)]), (1216, .box 105 [.d (D.int .i64 0), .os 67001 v154.length]), (67001, .arr 73 false v154)])))
  | [], v122n, v123, v124, hd, h => by
      rw [impl_grown_l0] at h
      have hn := drop_nil hd
      refine LoopOk.step ?_
      conv => whnf
      refine splD (fun g => absurd g hn) (fun _ => ?_)
      conv => whnf
      exact ⟨_, _, [some 0, some 1216, some 64000], [], ⟨rfl, _, _, h, rfl, rfl⟩, ⟨⟨rfl, rfl⟩, ⟨rfl, ⟨rfl, rfl, trivial⟩, ⟨rfl, rfl, ⟨rfl, rfl⟩, trivial⟩, ⟨rfl, rfl, rows_same⟩, trivial⟩, ⟨rfl, rfl⟩, trivial⟩⟩
  | cs :: rest, v122n, v123, v124, hd, h => by
      rw [impl_grown_l0] at h
      obtain ⟨hrow, hd1, hlt⟩ := drop_cons hd
      refine LoopOk.step ?_
      conv => whnf
      refine splD (fun _ => ?_) (fun g => absurd hlt g)
      conv => whnf
      obtain ⟨x183, x184, e185, h⟩ := cell_si_ex h
      rw [e185] at hrow
      refine Req.of (Int.natCast_nonneg _) ?_
      refine Row.of _ hrow ?_
      conv => whnf
      refine LoopOk.into (impl_grown_l1_ct hrec_impl_grown _ _ _ _ h) [some 0, some 448, some 1216, some 64000] [] ⟨⟨rfl, rfl⟩, ⟨rfl, ⟨rfl, rfl, trivial⟩, ⟨rfl, rfl, rfl, trivial⟩, ⟨rfl, rfl, ⟨rfl, rfl⟩, trivial⟩, ⟨rfl, rfl, rows_same⟩, trivial⟩, ⟨rfl, rfl⟩, ⟨rfl, rfl⟩, ⟨rfl, rfl⟩, rfl, rfl, rfl, rfl, rfl, trivial⟩ ?_ (fun _ hs => hs)
      rintro i ts os ⟨rfl, v201, v202, h, rfl, rfl⟩
      conv => whnf
      refine CutK.norm [1, 5, 21, 22, 23] [0, 1216, 79801] ?_
      conv => whnf
      exact LoopOk.back (impl_grown_l0_ct hrec_impl_grown hx rest (v122n + 1) _ _ hd1 h) [some 0, some 1216, some 79801] [] ⟨⟨rfl, rfl⟩, ⟨rfl, ⟨rfl, rfl, trivial⟩, ⟨rfl, rfl, ⟨rfl, rfl⟩, trivial⟩, ⟨rfl, rfl, rows_same⟩, trivial⟩, ⟨rfl, rfl⟩, ⟨rfl, rfl⟩, rfl, rfl, i64eq (wrap_up hlt hx), trivial⟩
def impl_grown_b (k : Nat) (rec_impl_grown : Rw → Int → Option (Option Cs × Int)) (a1 : Rw) (a2 : Int) : Option (Option Cs × Int) :=
  (if (IntKind.i64.wrap (a2 - 1)) < (0 : Int) then some ((none : Option Cs), IntKind.i64.wrap (a2 - 1)) else (if a1.length ≤ cap then (impl_grown_l0 k rec_impl_grown a1 (fun (v153 : Int) (v154 : Rw) => (impl_grown_p4 v153 v154)) a1 0 (IntKind.i64.wrap (a2 - 1)) ([] : Rw)) else none))
set_option maxHeartbeats 4000000 in
set_option maxRecDepth 100000 in
theorem impl_grown_b_ct {k : Nat} {rec_impl_grown : Rw → Int → Option (Option Cs × Int)} (hrec_impl_grown : ∀ (a1 : Rw) (a2 : Int) (r : Option Cs × Int), rec_impl_grown a1 a2 = some r → Ct prog 79 [.agg [.d (D.sl a1)], .ptr 0 0] (⟨[(3, [.d (D.int .i64 a2)])], []⟩) (.d (optP r.1)) (⟨[(3, [.d (D.int .i64 r.2)])], []⟩)) {a1 : Rw} {a2 : Int} {r : Option Cs × Int} (h : impl_grown_b k rec_impl_grown a1 a2 = some r) : Ct prog 79 [.agg [.d (D.sl a1)], .ptr 0 0] (⟨[(3, [.d (D.int .i64 a2)])], []⟩) (.d (optP r.1)) (⟨[(3, [.d (D.int .i64 r.2)])], []⟩) := by
  rw [impl_grown_b] at h
  refine Ct.of (c := _) mixed func79 ⟨rfl, rfl, rfl⟩ ?_ rfl
  conv => whnf
  refine splD (fun g94 => ?_) (fun g94 => ?_)
  · replace h := iteP h g94
    conv => whnf
    cases h
    exact Done.of [some 0] [] rfl rfl ⟨⟨rfl, rfl⟩, ⟨rfl, ⟨rfl, rfl, trivial⟩, trivial⟩, rfl, trivial⟩
  · replace h := iteN h g94
    conv => whnf
    obtain ⟨g215, h⟩ := req_ex h
    refine LoopOk.into (impl_grown_l0_ct hrec_impl_grown g215 _ _ _ _ rfl h) [some 0, some 1216, none] [] ⟨⟨rfl, rfl⟩, ⟨rfl, ⟨rfl, rfl, trivial⟩, ⟨rfl, rfl, ⟨rfl, rfl⟩, trivial⟩, rfl, trivial⟩, ⟨rfl, rfl⟩, ⟨rfl, rfl⟩, rfl, rfl, rfl, trivial⟩ ?_ (fun _ hs => hs)
    rintro i ts os ⟨rfl, v153, v154, h, rfl, rfl⟩
    conv => whnf
    exact CutK.piece (impl_grown_p4_ct  h) [some 0, some 1216, some 67001] [] ⟨⟨rfl, rfl⟩, ⟨rfl, ⟨rfl, rfl, trivial⟩, ⟨rfl, rfl, ⟨rfl, rfl⟩, trivial⟩, ⟨rfl, rfl, rows_same⟩, trivial⟩, ⟨rfl, rfl⟩, trivial⟩
def impl_grown : Nat → Rw → Int → Option (Option Cs × Int)
  | 0, _, _ => none
  | k + 1, a1, a2 => impl_grown_b k (impl_grown k) a1 a2
theorem impl_grown_ct' : ∀ (k : Nat) (a1 : Rw) (a2 : Int) (r : Option Cs × Int), impl_grown k a1 a2 = some r → Ct prog 79 [.agg [.d (D.sl a1)], .ptr 0 0] (⟨[(3, [.d (D.int .i64 a2)])], []⟩) (.d (optP r.1)) (⟨[(3, [.d (D.int .i64 r.2)])], []⟩)
  | 0, _, _, _, h => by rw [impl_grown] at h; cases h
  | k + 1, _, _, _, h => by rw [impl_grown] at h; exact impl_grown_b_ct (impl_grown_ct' k) h
theorem impl_grown_ct {k : Nat} {a1 : Rw} {a2 : Int} {r : Option Cs × Int} (h : impl_grown k a1 a2 = some r) : Ct prog 79 [.agg [.d (D.sl a1)], .ptr 0 0] (⟨[(3, [.d (D.int .i64 a2)])], []⟩) (.d (optP r.1)) (⟨[(3, [.d (D.int .i64 r.2)])], []⟩) := impl_grown_ct' k _ _ _ h



def impl_HydraOf (k : Nat) (a1 : Rw) : Option (Rw × Bool) :=
  ((impl_IsOrdinal k a1).bind fun y2 => (if y2 = true then ((impl_grown k a1 40).bind fun y5 => (optC y5.1 (some (([] : Rw), false)) fun x8 => ((lib_hydraOf x8).bind fun y9 => (if y9.2 = true then some (y9.1, true) else some (y9.1, false))))) else some (([] : Rw), false)))
set_option maxHeartbeats 4000000 in
set_option maxRecDepth 100000 in
theorem impl_HydraOf_ct {k : Nat} {a1 : Rw} {r : Rw × Bool} (h : impl_HydraOf k a1 = some r) : Ct prog 35 [.agg [.d (D.sl a1)]] (⟨[], []⟩) (.tup [.agg [.d (D.sl r.1)], .d (D.bool r.2)]) (⟨[], []⟩) := by
  rw [impl_HydraOf] at h
  refine Ct.of (c := _) mixed func35 ⟨rfl, rfl, rfl⟩ ?_ rfl
  conv => whnf
  refine Pick.no ?_
  conv => whnf
  obtain ⟨y2, e3, h⟩ := bind_ex h
  refine CallOk.of (impl_IsOrdinal_ct e3) ?_
  conv => whnf
  refine spl (fun g4 => ?_) (fun g4 => ?_)
  · replace h := iteT h g4
    conv => whnf
    refine CutK.go ?_
    conv => whnf
    refine CutK.go ?_
    conv => whnf
    refine Pick.no ?_
    conv => whnf
    obtain ⟨y5, e6, h⟩ := bind_ex h
    refine optOn y5.1 (fun g7 => ?_) (fun x8 g7 => ?_)
    · replace h := optN g7 h
      have c := impl_grown_ct e6
      rw [g7] at c
      refine CallOk.of c ?_
      clear c
      conv => whnf
      refine CutK.go ?_
      conv => whnf
      refine splT ?_
      conv => whnf
      cases h
      exact Done.of [] [] rfl rfl ⟨⟨rfl, rfl⟩, ⟨rfl, trivial⟩, ⟨⟨rfl, trivial⟩, rfl, trivial⟩, trivial⟩
    · replace h := optS g7 h
      have c := impl_grown_ct e6
      rw [g7] at c
      refine CallOk.of c ?_
      clear c
      conv => whnf
      refine CutK.go ?_
      conv => whnf
      refine splF ?_
      conv => whnf
      refine Pick.no ?_
      conv => whnf
      obtain ⟨y9, e10, h⟩ := bind_ex h
      refine CallOk.of (lib_hydraOf_ct e10) ?_
      conv => whnf
      refine spl (fun g11 => ?_) (fun g11 => ?_)
      · replace h := iteT h g11
        conv => whnf
        refine CutK.go ?_
        conv => whnf
        cases h
        exact Done.of [] [] rfl rfl ⟨⟨rfl, rfl⟩, ⟨rfl, trivial⟩, ⟨⟨rfl, trivial⟩, rfl, trivial⟩, trivial⟩
      · replace h := iteF h g11
        conv => whnf
        refine CutK.go ?_
        conv => whnf
        cases h
        exact Done.of [] [] rfl rfl ⟨⟨rfl, rfl⟩, ⟨rfl, trivial⟩, ⟨⟨rfl, trivial⟩, rfl, trivial⟩, trivial⟩
  · replace h := iteF h g4
    conv => whnf
    refine CutK.go ?_
    conv => whnf
    cases h
    exact Done.of [] [] rfl rfl ⟨⟨rfl, rfl⟩, ⟨rfl, trivial⟩, ⟨⟨rfl, trivial⟩, rfl, trivial⟩, trivial⟩

def spec_l1In  (a1 : Int) (a2 : Int) (a3 : Int) : Option Bool :=
  (if a2 ≤ a1 then (if a1 ≤ a3 then some true else some false) else some false)
set_option maxHeartbeats 4000000 in
set_option maxRecDepth 100000 in
theorem spec_l1In_ct  {a1 : Int} {a2 : Int} {a3 : Int} {r : Bool} (h : spec_l1In a1 a2 a3 = some r) : Ct prog 64 [.d (D.int .i64 a1), .d (D.int .i64 a2), .d (D.int .i64 a3)] (⟨[], []⟩) (.d (D.bool r)) (⟨[], []⟩) := by
  rw [spec_l1In] at h
  refine Ct.of (c := _) mixed func64 ⟨rfl, rfl, rfl⟩ ?_ rfl
  conv => whnf
  refine splD (fun g4 => ?_) (fun g4 => ?_)
  · replace h := iteP h g4
    conv => whnf
    refine splD (fun g5 => ?_) (fun g5 => ?_)
    · replace h := iteP h g5
      conv => whnf
      cases h
      exact Done.of [] [] rfl rfl ⟨⟨rfl, rfl⟩, ⟨rfl, trivial⟩, rfl, trivial⟩
    · replace h := iteN h g5
      conv => whnf
      cases h
      exact Done.of [] [] rfl rfl ⟨⟨rfl, rfl⟩, ⟨rfl, trivial⟩, rfl, trivial⟩
  · replace h := iteN h g4
    conv => whnf
    cases h
    exact Done.of [] [] rfl rfl ⟨⟨rfl, rfl⟩, ⟨rfl, trivial⟩, rfl, trivial⟩

def spec_deHydra_l1 (a1 : Rw) (v8n : Nat) (x34 : Int) (K2 : Int → Option Bool) : Nat → Int → Option Bool
  | 0, _ => none
  | n + 1, v41 => (if (0 : Int) ≤ v41 then (if v41 = x34 then (K2 v41) else (row_i a1 v41 fun x55 => (spec_deHydra_l1 a1 v8n x34 K2 n x55))) else (K2 v41))
set_option maxHeartbeats 4000000 in
set_option maxRecDepth 100000 in
theorem spec_deHydra_l1_ct {a1 : Rw} {v8n : Nat} {x34 : Int} {K2 : Int → Option Bool} {r : Bool} : ∀ (n : Nat) (v41 : Int), spec_deHydra_l1 a1 v8n x34 K2 n v41 = some r → LoopOk prog 0 (lp f41 1) (mk 43 [(1, .ptr 64 0), (3, .d (D.int .i64 (v8n : Int))), (4, .d (D.int .i64 x34)), (5, .d (D.int .i64 v41)), (7, .d (D.sl a1)), (8, .d (D.int .i64 (a1.length : Int))), (9, .d (D.int .i64 (v8n : Int)))] [(64, .box 31 [.d (D.sl a1)])]) (LoopEnd prog f41 0 43 (.d (D.bool r)) (⟨[], []⟩) (fun i ts os => (i = 2 ∧ ∃ v47 : Int, K2 v47 = some r ∧ ts = [(1, .ptr 64 0), (3, .d (D.int .i64 (v8n : Int))), (4, .d (D.int .i64 x34)), (5, .d (D.int .i64 v47)), (7, .d (D.sl a1)), (8, .d (D.int .i64 (a1.length : Int))), (9, .d (D.int .i64 (v8n : Int)))] ∧ os = [(64, .box 31 [.d (D.sl a1)])])))
  | 0, _, h => by
      rw [spec_deHydra_l1] at h; cases h
  | n + 1, v41, h => by
      rw [spec_deHydra_l1] at h
      refine LoopOk.step ?_
      conv => whnf
      refine splD (fun g53 => ?_) (fun g53 => ?_)
      · replace h := iteP h g53
        conv => whnf
        refine splN (fun g54 => ?_) (fun g54 => ?_)
        · replace h := iteN h g54
          conv => whnf
          obtain ⟨g57, x55, e56, h⟩ := row_i_ex h
          refine Req.of g57 ?_
          refine Row.of _ e56 ?_
          conv => whnf
          exact LoopOk.back (spec_deHydra_l1_ct  n _ h) [some 64] [] ⟨⟨rfl, rfl⟩, ⟨rfl, ⟨rfl, rfl, trivial⟩, trivial⟩, ⟨rfl, rfl⟩, rfl, rfl, rfl, rfl, rfl, rfl, trivial⟩
        · replace h := iteP h g54
          conv => whnf
          exact ⟨_, _, [some 64], [], ⟨rfl, _, h, rfl, rfl⟩, ⟨⟨rfl, rfl⟩, ⟨rfl, ⟨rfl, rfl, trivial⟩, trivial⟩, ⟨rfl, rfl⟩, rfl, rfl, rfl, rfl, rfl, rfl, trivial⟩⟩
      · replace h := iteN h g53
        conv => whnf
        exact ⟨_, _, [some 64], [], ⟨rfl, _, h, rfl, rfl⟩, ⟨⟨rfl, rfl⟩, ⟨rfl, ⟨rfl, rfl, trivial⟩, trivial⟩, ⟨rfl, rfl⟩, rfl, rfl, rfl, rfl, rfl, rfl, trivial⟩⟩
def spec_deHydra_l0 (k : Nat) (a1 : Rw) (K0 : Option Bool) : Rw → Nat → Option Bool
  | [], v8n => (K0)
  | cs :: rest, v8n => (cell_i cs fun x34 => (spec_deHydra_l1 a1 v8n x34 (fun (v47 : Int) => (if v47 = x34 then (if x34 < (0 : Int) then (if (v8n : Int) = (0 : Int) then (spec_deHydra_l0 k a1 K0 rest (v8n + 1)) else some false) else (if (v8n : Int) = (0 : Int) then some false else (spec_deHydra_l0 k a1 K0 rest (v8n + 1)))) else some false)) k (IntKind.i64.wrap ((v8n : Int) - 1))))
set_option maxHeartbeats 4000000 in
set_option maxRecDepth 100000 in
theorem spec_deHydra_l0_ct {k : Nat} {a1 : Rw} {K0 : Option Bool} {r : Bool} (hx : a1.length ≤ cap) : ∀ (rest : Rw) (v8n : Nat), a1.drop v8n = rest → spec_deHydra_l0 k a1 K0 rest v8n = some r → LoopOk prog 0 (lp f41 0) (mk 43 [(1, .ptr 64 0), (7, .d (D.sl a1)), (8, .d (D.int .i64 (a1.length : Int))), (9, .d (D.int .i64 (v8n : Int)))] [(64, .box 31 [.d (D.sl a1)])]) (LoopEnd prog f41 0 43 (.d (D.bool r)) (⟨[], []⟩) (fun i ts os => (i = 0 ∧ K0 = some r ∧ ts = [(1, .ptr 64 0)] ∧ os = [(64, .box 31 [.d (D.sl a1)])])))
  | [], v8n, hd, h => by
      rw [spec_deHydra_l0] at h
      have hn := drop_nil hd
      refine LoopOk.step ?_
      conv => whnf
      refine splD (fun g => absurd g hn) (fun _ => ?_)
      conv => whnf
      exact ⟨_, _, [some 64], [], ⟨rfl, h, rfl, rfl⟩, ⟨⟨rfl, rfl⟩, ⟨rfl, ⟨rfl, rfl, trivial⟩, trivial⟩, ⟨rfl, rfl⟩, trivial⟩⟩
  | cs :: rest, v8n, hd, h => by
      rw [spec_deHydra_l0] at h
      obtain ⟨hrow, hd1, hlt⟩ := drop_cons hd
      refine LoopOk.step ?_
      conv => whnf
      refine splD (fun _ => ?_) (fun g => absurd hlt g)
      conv => whnf
      obtain ⟨x34, e35, h⟩ := cell_i_ex h
      rw [e35] at hrow
      refine Req.of (Int.natCast_nonneg _) ?_
      refine Row.of _ hrow ?_
      conv => whnf
      refine LoopOk.into (spec_deHydra_l1_ct  _ _ h) [some 64] [] ⟨⟨rfl, rfl⟩, ⟨rfl, ⟨rfl, rfl, trivial⟩, trivial⟩, ⟨rfl, rfl⟩, rfl, rfl, rfl, rfl, rfl, rfl, trivial⟩ ?_ (fun _ hs => hs)
      rintro i ts os ⟨rfl, v47, h, rfl, rfl⟩
      conv => whnf
      refine CutK.norm [1, 3, 4, 5, 7, 8, 9] [64] ?_
      conv => whnf
      refine splN (fun g58 => ?_) (fun g58 => ?_)
      · replace h := iteN h g58
        conv => whnf
        cases h
        exact Done.of [] [] rfl rfl ⟨⟨rfl, rfl⟩, ⟨rfl, trivial⟩, rfl, trivial⟩
      · replace h := iteP h g58
        conv => whnf
        refine splD (fun g59 => ?_) (fun g59 => ?_)
        · replace h := iteP h g59
          conv => whnf
          refine splD (fun g60 => ?_) (fun g60 => ?_)
          · replace h := iteP h g60
            conv => whnf
            refine splF ?_
            conv => whnf
            refine CutK.norm [1, 7, 8, 9] [64] ?_
            conv => whnf
            exact LoopOk.back (spec_deHydra_l0_ct hx rest (v8n + 1)  hd1 h) [some 64] [] ⟨⟨rfl, rfl⟩, ⟨rfl, ⟨rfl, rfl, trivial⟩, trivial⟩, ⟨rfl, rfl⟩, rfl, rfl, i64eq (wrap_up hlt hx), trivial⟩
          · replace h := iteN h g60
            conv => whnf
            refine splT ?_
            conv => whnf
            cases h
            exact Done.of [] [] rfl rfl ⟨⟨rfl, rfl⟩, ⟨rfl, trivial⟩, rfl, trivial⟩
        · replace h := iteN h g59
          conv => whnf
          refine splD (fun g61 => ?_) (fun g61 => ?_)
          · replace h := iteP h g61
            conv => whnf
            refine splT ?_
            conv => whnf
            cases h
            exact Done.of [] [] rfl rfl ⟨⟨rfl, rfl⟩, ⟨rfl, trivial⟩, rfl, trivial⟩
          · replace h := iteN h g61
            conv => whnf
            refine splF ?_
            conv => whnf
            refine CutK.norm [1, 7, 8, 9] [64] ?_
            conv => whnf
            exact LoopOk.back (spec_deHydra_l0_ct hx rest (v8n + 1)  hd1 h) [some 64] [] ⟨⟨rfl, rfl⟩, ⟨rfl, ⟨rfl, rfl, trivial⟩, trivial⟩, ⟨rfl, rfl⟩, rfl, rfl, i64eq (wrap_up hlt hx), trivial⟩
def spec_deHydra (k : Nat) (a1 : Rw) : Option Bool :=
  (if a1.length ≤ cap then (spec_deHydra_l0 k a1 ((spec_l1In (a1.length : Int) 1 40).bind fun y63 => (if y63 = true then some true else some false)) a1 0) else none)
set_option maxHeartbeats 4000000 in
set_option maxRecDepth 100000 in
theorem spec_deHydra_ct {k : Nat} {a1 : Rw} {r : Bool} (h : spec_deHydra k a1 = some r) : Ct prog 41 [.agg [.d (D.sl a1)]] (⟨[], []⟩) (.d (D.bool r)) (⟨[], []⟩) := by
  rw [spec_deHydra] at h
  refine Ct.of (c := _) mixed func41 ⟨rfl, rfl, rfl⟩ ?_ rfl
  conv => whnf
  obtain ⟨g62, h⟩ := req_ex h
  refine LoopOk.into (spec_deHydra_l0_ct  g62 _ _  rfl h) [some 64] [] ⟨⟨rfl, rfl⟩, ⟨rfl, ⟨rfl, rfl, trivial⟩, trivial⟩, ⟨rfl, rfl⟩, rfl, rfl, rfl, trivial⟩ ?_ (fun _ hs => hs)
  rintro i ts os ⟨rfl, h, rfl, rfl⟩
  conv => whnf
  refine CutK.norm [1] [64] ?_
  conv => whnf
  refine Pick.no ?_
  conv => whnf
  obtain ⟨y63, e64, h⟩ := bind_ex h
  refine CallOk.of (spec_l1In_ct e64) ?_
  conv => whnf
  refine spl (fun g65 => ?_) (fun g65 => ?_)
  · replace h := iteT h g65
    conv => whnf
    refine CutK.norm [2] [] ?_
    conv => whnf
    cases h
    exact Done.of [] [] rfl rfl ⟨⟨rfl, rfl⟩, ⟨rfl, trivial⟩, rfl, trivial⟩
  · replace h := iteF h g65
    conv => whnf
    refine CutK.norm [2] [] ?_
    conv => whnf
    cases h
    exact Done.of [] [] rfl rfl ⟨⟨rfl, rfl⟩, ⟨rfl, trivial⟩, rfl, trivial⟩

def spec_deChildren_l0 (a1 : Rw) (a2 : Int) (K0 : Rw → Option Rw) : Rw → Nat → Rw → Option Rw
  | [], v9n, v8 => (K0 v8)
  | cs :: rest, v9n, v8 => (cell_i cs fun x23 => (if x23 = a2 then (if v8.length + 1 ≤ cap then (spec_deChildren_l0 a1 a2 K0 rest (v9n + 1) (v8 ++ ([[D.int .i64 (v9n : Int)]]))) else none) else (spec_deChildren_l0 a1 a2 K0 rest (v9n + 1) v8)))
set_option maxHeartbeats 4000000 in
set_option maxRecDepth 100000 in
theorem spec_deChildren_l0_ct {a1 : Rw} {a2 : Int} {K0 : Rw → Option Rw} {r : Rw} (hx : a1.length ≤ cap) : ∀ (rest : Rw) (v9n : Nat) (v8 : Rw), a1.drop v9n = rest → spec_deChildren_l0 a1 a2 K0 rest v9n v8 = some r → LoopOk prog 0 (lp f83 0) (mk 25 [(1, .d (D.int .i64 a2)), (5, .os 64000 v8.length), (9, .d (D.sl a1)), (10, .d (D.int .i64 (a1.length : Int))), (11, .d (D.int .i64 (v9n : Int)))] [(64000, .arr 3 true v8)]) (LoopEnd prog f83 0 25 (.os 8 r.length) (⟨[], [(3, true, r)]⟩) (fun i ts os => (i = 0 ∧ ∃ v16 : Rw, K0 v16 = some r ∧ ts = [(5, .os 67001 v16.length)] ∧ os = [(67001, .arr 3 true v16)])))
  | [], v9n, v8, hd, h => by
      rw [spec_deChildren_l0] at h
      have hn := drop_nil hd
      refine LoopOk.step ?_
      conv => whnf
      refine splD (fun g => absurd g hn) (fun _ => ?_)
      conv => whnf
      exact ⟨_, _, [some 64000], [], ⟨rfl, _, h, rfl, rfl⟩, ⟨⟨rfl, rfl⟩, ⟨rfl, ⟨rfl, rfl, rows_same⟩, trivial⟩, ⟨rfl, rfl⟩, trivial⟩⟩
  | cs :: rest, v9n, v8, hd, h => by
      rw [spec_deChildren_l0] at h
      obtain ⟨hrow, hd1, hlt⟩ := drop_cons hd
      refine LoopOk.step ?_
      conv => whnf
      refine splD (fun _ => ?_) (fun g => absurd hlt g)
      conv => whnf
      obtain ⟨x23, e24, h⟩ := cell_i_ex h
      rw [e24] at hrow
      refine Req.of (Int.natCast_nonneg _) ?_
      refine Row.of _ hrow ?_
      conv => whnf
      refine splD (fun g25 => ?_) (fun g25 => ?_)
      · replace h := iteP h g25
        conv => whnf
        refine Take.all (rfl) ?_
        conv => whnf
        refine Take.all (by first | rfl | exact List.length_append.symm | (simp; done) | omega | (dsimp only; omega)) ?_
        conv => whnf
        obtain ⟨g26, h⟩ := req_ex h
        refine Req.of (room (b := 8) (by decide) g26 (wide1 rfl wide0)) ?_
        conv => whnf
        exact LoopOk.back (spec_deChildren_l0_ct hx rest (v9n + 1) _ hd1 h) [some 1408] [] ⟨⟨rfl, rfl⟩, ⟨rfl, ⟨rfl, rfl, rows_same⟩, trivial⟩, rfl, ⟨(by first | rfl | exact List.length_append.symm | (simp; done) | omega | (dsimp only; omega)), rfl⟩, rfl, rfl, i64eq (wrap_up hlt hx), trivial⟩
      · replace h := iteN h g25
        conv => whnf
        exact LoopOk.back (spec_deChildren_l0_ct hx rest (v9n + 1) _ hd1 h) [some 64000] [] ⟨⟨rfl, rfl⟩, ⟨rfl, ⟨rfl, rfl, rows_same⟩, trivial⟩, rfl, ⟨rfl, rfl⟩, rfl, rfl, i64eq (wrap_up hlt hx), trivial⟩
def spec_deChildren  (a1 : Rw) (a2 : Int) : Option Rw :=
  (if a1.length ≤ cap then (spec_deChildren_l0 a1 a2 (fun (v16 : Rw) => some v16) a1 0 ([] : Rw)) else none)
set_option maxHeartbeats 4000000 in
set_option maxRecDepth 100000 in
theorem spec_deChildren_ct  {a1 : Rw} {a2 : Int} {r : Rw} (h : spec_deChildren a1 a2 = some r) : Ct prog 83 [.agg [.d (D.sl a1)], .d (D.int .i64 a2)] (⟨[], []⟩) (.os 8 r.length) (⟨[], [(3, true, r)]⟩) := by
  rw [spec_deChildren] at h
  refine Ct.of (c := _) mixed func83 ⟨rfl, rfl, rfl⟩ ?_ rfl
  conv => whnf
  obtain ⟨g27, h⟩ := req_ex h
  refine LoopOk.into (spec_deChildren_l0_ct  g27 _ _ _ rfl h) [none] [] ⟨⟨rfl, rfl⟩, ⟨rfl, rfl, trivial⟩, rfl, ⟨rfl, rfl⟩, rfl, rfl, rfl, trivial⟩ ?_ (fun _ hs => hs)
  rintro i ts os ⟨rfl, v16, h, rfl, rfl⟩
  conv => whnf
  refine CutK.go ?_
  conv => whnf
  cases h
  exact Done.of [some 67001] [] rfl rfl ⟨⟨rfl, rfl⟩, ⟨rfl, ⟨rfl, rfl, rows_same⟩, trivial⟩, ⟨rfl, rfl⟩, trivial⟩

def spec_l1Sign  (a1 : Int) : Option Int :=
  (if (0 : Int) < a1 then some 1 else (if a1 < (0 : Int) then some (-1) else some 0))
set_option maxHeartbeats 4000000 in
set_option maxRecDepth 100000 in
theorem spec_l1Sign_ct  {a1 : Int} {r : Int} (h : spec_l1Sign a1 = some r) : Ct prog 100 [.d (D.int .i64 a1)] (⟨[], []⟩) (.d (D.int .i64 r)) (⟨[], []⟩) := by
  rw [spec_l1Sign] at h
  refine Ct.of (c := _) mixed func100 ⟨rfl, rfl, rfl⟩ ?_ rfl
  conv => whnf
  refine splD (fun g2 => ?_) (fun g2 => ?_)
  · replace h := iteP h g2
    conv => whnf
    cases h
    exact Done.of [] [] rfl rfl ⟨⟨rfl, rfl⟩, ⟨rfl, trivial⟩, rfl, trivial⟩
  · replace h := iteN h g2
    conv => whnf
    refine splD (fun g3 => ?_) (fun g3 => ?_)
    · replace h := iteP h g3
      conv => whnf
      cases h
      exact Done.of [] [] rfl rfl ⟨⟨rfl, rfl⟩, ⟨rfl, trivial⟩, rfl, trivial⟩
    · replace h := iteN h g3
      conv => whnf
      cases h
      exact Done.of [] [] rfl rfl ⟨⟨rfl, rfl⟩, ⟨rfl, trivial⟩, rfl, trivial⟩

def spec_odCmp_p2 (a1 : Rw) (a2 : Rw) : Option Int :=
  (if (a1.length : Int) < (a2.length : Int) then some (-1) else some 0)
set_option maxHeartbeats 4000000 in
set_option maxRecDepth 100000 in
theorem spec_odCmp_p2_ct {a1 : Rw} {a2 : Rw} {r : Int} (h : spec_odCmp_p2 a1 a2 = some r) : X prog 0 (tlF f78 2) (mk 60 [(2, .ptr 128 0), (3, .ptr 192 0)] [(128, .box 28 [.d (D.sl a1)]), (192, .box 28 [.d (D.sl a2)])]) (finK prog f78 0 (.d (D.int .i64 r)) (⟨[], []⟩)) := by
  rw [spec_odCmp_p2] at h
  conv => whnf
  refine splD (fun g37 => ?_) (fun g37 => ?_)
  · replace h := iteP h g37
    conv => whnf
    cases h
    exact Done.of [] [] rfl rfl ⟨⟨rfl, rfl⟩, ⟨rfl, trivial⟩, rfl, trivial⟩
  · replace h := iteN h g37
    conv => whnf
    cases h
    exact Done.of [] [] rfl rfl ⟨⟨rfl, rfl⟩, ⟨rfl, trivial⟩, rfl, trivial⟩
def spec_odCmp_l0 (rec_spec_odCmp : Rw → Rw → Option Int) (a1 : Rw) (a2 : Rw) (K0 : Option Int) : Rw → Nat → Option Int
  | [], v54n => (K0)
  | cs :: rest, v54n => (cell_si cs fun x71 x72 => (if (v54n : Int) = (a2.length : Int) then some 1 else (row_si a2 (v54n : Int) fun x75 x76 => ((rec_spec_odCmp x71 x75).bind fun y79 => (if y79 = (0 : Int) then (if x72 = x76 then (spec_odCmp_l0 rec_spec_odCmp a1 a2 K0 rest (v54n + 1)) else ((spec_l1Sign (IntKind.i64.wrap (x72 - x76))).bind fun y83 => some y83)) else some y79)))))
set_option maxHeartbeats 4000000 in
set_option maxRecDepth 100000 in
theorem spec_odCmp_l0_ct {rec_spec_odCmp : Rw → Rw → Option Int} {a1 : Rw} {a2 : Rw} {K0 : Option Int} (hrec_spec_odCmp : ∀ (a1 : Rw) (a2 : Rw) (r : Int), rec_spec_odCmp a1 a2 = some r → Ct prog 78 [.agg [.d (D.sl a1)], .agg [.d (D.sl a2)]] (⟨[], []⟩) (.d (D.int .i64 r)) (⟨[], []⟩)) {r : Int} (hx : a1.length ≤ cap) : ∀ (rest : Rw) (v54n : Nat), a1.drop v54n = rest → spec_odCmp_l0 rec_spec_odCmp a1 a2 K0 rest v54n = some r → LoopOk prog 0 (lp f78 0) (mk 60 [(2, .ptr 128 0), (3, .ptr 192 0), (9, .d (D.sl a1)), (10, .d (D.int .i64 (a1.length : Int))), (11, .d (D.int .i64 (v54n : Int)))] [(128, .box 28 [.d (D.sl a1)]), (192, .box 28 [.d (D.sl a2)])]) (LoopEnd prog f78 0 60 (.d (D.int .i64 r)) (⟨[], []⟩) (fun i ts os => (i = 0 ∧ K0 = some r ∧ ts = [(2, .ptr 128 0), (3, .ptr 192 0)] ∧ os = [(128, .box 28 [.d (D.sl a1)]), (192, .box 28 [.d (D.sl a2)])])))
  | [], v54n, hd, h => by
      rw [spec_odCmp_l0] at h
      have hn := drop_nil hd
      refine LoopOk.step ?_
      conv => whnf
      refine splD (fun g => absurd g hn) (fun _ => ?_)
      conv => whnf
      exact ⟨_, _, [some 128, some 192], [], ⟨rfl, h, rfl, rfl⟩, ⟨⟨rfl, rfl⟩, ⟨rfl, ⟨rfl, rfl, trivial⟩, ⟨rfl, rfl, trivial⟩, trivial⟩, ⟨rfl, rfl⟩, ⟨rfl, rfl⟩, trivial⟩⟩
  | cs :: rest, v54n, hd, h => by
      rw [spec_odCmp_l0] at h
      obtain ⟨hrow, hd1, hlt⟩ := drop_cons hd
      refine LoopOk.step ?_
      conv => whnf
      refine splD (fun _ => ?_) (fun g => absurd hlt g)
      conv => whnf
      obtain ⟨x71, x72, e73, h⟩ := cell_si_ex h
      rw [e73] at hrow
      refine Req.of (Int.natCast_nonneg _) ?_
      refine Row.of _ hrow ?_
      conv => whnf
      refine splD (fun g74 => ?_) (fun g74 => ?_)
      · replace h := iteP h g74
        conv => whnf
        cases h
        exact Done.of [] [] rfl rfl ⟨⟨rfl, rfl⟩, ⟨rfl, trivial⟩, rfl, trivial⟩
      · replace h := iteN h g74
        conv => whnf
        obtain ⟨g78, x75, x76, e77, h⟩ := row_si_ex h
        refine Req.of g78 ?_
        refine Row.of _ e77 ?_
        conv => whnf
        refine Pick.no ?_
        conv => whnf
        obtain ⟨y79, e80, h⟩ := bind_ex h
        refine CallOk.of (hrec_spec_odCmp _ _ _ e80) ?_
        conv => whnf
        refine CutK.norm [2, 3, 5, 6, 7, 9, 10, 11] [128, 192, 384] ?_
        conv => whnf
        refine splN (fun g81 => ?_) (fun g81 => ?_)
        · replace h := iteN h g81
          conv => whnf
          cases h
          exact Done.of [] [] rfl rfl ⟨⟨rfl, rfl⟩, ⟨rfl, trivial⟩, rfl, trivial⟩
        · replace h := iteP h g81
          conv => whnf
          refine CutK.norm [2, 3, 5, 6, 9, 10, 11] [128, 192, 384] ?_
          conv => whnf
          refine Req.of g78 ?_
          refine Row.of _ e77 ?_
          conv => whnf
          refine splN (fun g82 => ?_) (fun g82 => ?_)
          · replace h := iteN h g82
            conv => whnf
            refine Req.of g78 ?_
            refine Row.of _ e77 ?_
            conv => whnf
            refine Pick.no ?_
            conv => whnf
            obtain ⟨y83, e84, h⟩ := bind_ex h
            refine CallOk.of (spec_l1Sign_ct e84) ?_
            conv => whnf
            refine CutK.norm [4] [] ?_
            conv => whnf
            cases h
            exact Done.of [] [] rfl rfl ⟨⟨rfl, rfl⟩, ⟨rfl, trivial⟩, rfl, trivial⟩
          · replace h := iteP h g82
            conv => whnf
            refine CutK.norm [2, 3, 9, 10, 11] [128, 192] ?_
            conv => whnf
            exact LoopOk.back (spec_odCmp_l0_ct hrec_spec_odCmp hx rest (v54n + 1)  hd1 h) [some 128, some 192] [] ⟨⟨rfl, rfl⟩, ⟨rfl, ⟨rfl, rfl, trivial⟩, ⟨rfl, rfl, trivial⟩, trivial⟩, ⟨rfl, rfl⟩, ⟨rfl, rfl⟩, rfl, rfl, i64eq (wrap_up hlt hx), trivial⟩
def spec_odCmp_b (rec_spec_odCmp : Rw → Rw → Option Int) (a1 : Rw) (a2 : Rw) : Option Int :=
  (if a1.length ≤ cap then (spec_odCmp_l0 rec_spec_odCmp a1 a2 (spec_odCmp_p2 a1 a2) a1 0) else none)
set_option maxHeartbeats 4000000 in
set_option maxRecDepth 100000 in
theorem spec_odCmp_b_ct {rec_spec_odCmp : Rw → Rw → Option Int} (hrec_spec_odCmp : ∀ (a1 : Rw) (a2 : Rw) (r : Int), rec_spec_odCmp a1 a2 = some r → Ct prog 78 [.agg [.d (D.sl a1)], .agg [.d (D.sl a2)]] (⟨[], []⟩) (.d (D.int .i64 r)) (⟨[], []⟩)) {a1 : Rw} {a2 : Rw} {r : Int} (h : spec_odCmp_b rec_spec_odCmp a1 a2 = some r) : Ct prog 78 [.agg [.d (D.sl a1)], .agg [.d (D.sl a2)]] (⟨[], []⟩) (.d (D.int .i64 r)) (⟨[], []⟩) := by
  rw [spec_odCmp_b] at h
  refine Ct.of (c := _) mixed func78 ⟨rfl, rfl, rfl⟩ ?_ rfl
  conv => whnf
  obtain ⟨g85, h⟩ := req_ex h
  refine LoopOk.into (spec_odCmp_l0_ct hrec_spec_odCmp g85 _ _  rfl h) [some 128, some 192] [] ⟨⟨rfl, rfl⟩, ⟨rfl, ⟨rfl, rfl, trivial⟩, ⟨rfl, rfl, trivial⟩, trivial⟩, ⟨rfl, rfl⟩, ⟨rfl, rfl⟩, rfl, rfl, rfl, trivial⟩ ?_ (fun _ hs => hs)
  rintro i ts os ⟨rfl, h, rfl, rfl⟩
  conv => whnf
  exact CutK.piece (spec_odCmp_p2_ct  h) [some 128, some 192] [] ⟨⟨rfl, rfl⟩, ⟨rfl, ⟨rfl, rfl, trivial⟩, ⟨rfl, rfl, trivial⟩, trivial⟩, ⟨rfl, rfl⟩, ⟨rfl, rfl⟩, trivial⟩
def spec_odCmp : Nat → Rw → Rw → Option Int
  | 0, _, _ => none
  | k + 1, a1, a2 => spec_odCmp_b (spec_odCmp k) a1 a2
theorem spec_odCmp_ct' : ∀ (k : Nat) (a1 : Rw) (a2 : Rw) (r : Int), spec_odCmp k a1 a2 = some r → Ct prog 78 [.agg [.d (D.sl a1)], .agg [.d (D.sl a2)]] (⟨[], []⟩) (.d (D.int .i64 r)) (⟨[], []⟩)
  | 0, _, _, _, h => by rw [spec_odCmp] at h; cases h
  | k + 1, _, _, _, h => by rw [spec_odCmp] at h; exact spec_odCmp_b_ct (spec_odCmp_ct' k) h
theorem spec_odCmp_ct {k : Nat} {a1 : Rw} {a2 : Rw} {r : Int} (h : spec_odCmp k a1 a2 = some r) : Ct prog 78 [.agg [.d (D.sl a1)], .agg [.d (D.sl a2)]] (⟨[], []⟩) (.d (D.int .i64 r)) (⟨[], []⟩) := spec_odCmp_ct' k _ _ _ h

def spec_odMeet_p4 (a2 : Rw) (a3 : Int) (o61 : Rw) (v62 : Bool) : Option Rw :=
  (cond v62 (some o61) (if o61.length + 1 ≤ cap then some (o61 ++ ([[D.sl a2, D.int .i64 a3]])) else none))
set_option maxHeartbeats 4000000 in
set_option maxRecDepth 100000 in
theorem spec_odMeet_p4_ct {a2 : Rw} {a3 : Int} {o61 : Rw} {v62 : Bool} {r : Rw} (h : spec_odMeet_p4 a2 a3 o61 v62 = some r) : X prog 0 (tlF f84 4) (mk 66 [(3, .ptr 192 0), (4, .ptr 256 0), (5, .ptr 320 0), (6, .d (D.bool v62))] [(192, .box 96 [.d (D.sl a2), .d (D.int .i64 a3)]), (256, .box 28 [.es]), (320, .box 28 [.os 1084000 o61.length]), (1084000, .arr 96 false o61)]) (finK prog f84 0 (.agg [.os 8 r.length]) (⟨[], [(96, false, r)]⟩)) := by
  rw [spec_odMeet_p4] at h
  cases v62
  · replace h := condF h
    conv => whnf
    refine Take.all (rfl) ?_
    conv => whnf
    refine Take.all (by first | rfl | exact List.length_append.symm | (simp; done) | omega | (dsimp only; omega)) ?_
    conv => whnf
    obtain ⟨g64, h⟩ := req_ex h
    refine Req.of (room (b := 32) (by decide) g64 (wide1 rfl wide0)) ?_
    conv => whnf
    cases h
    exact Done.of [some 4032] [] rfl rfl ⟨⟨rfl, rfl⟩, ⟨rfl, ⟨rfl, rfl, rows_same⟩, trivial⟩, ⟨⟨(by first | rfl | exact List.length_append.symm | (simp; done) | omega | (dsimp only; omega)), rfl⟩, trivial⟩, trivial⟩
  · replace h := condT h
    conv => whnf
    cases h
    exact Done.of [some 1084000] [] rfl rfl ⟨⟨rfl, rfl⟩, ⟨rfl, ⟨rfl, rfl, rows_same⟩, trivial⟩, ⟨⟨rfl, rfl⟩, trivial⟩, trivial⟩
def spec_odMeet_l0 (k : Nat) (a1 : Rw) (a2 : Rw) (a3 : Int) (K0 : Rw → Bool → Option Rw) : Rw → Bool → Rw → Option Rw
  | [], v74, v76 => (cond v74 (K0 v76 true) (K0 v76 false))
  | cs :: rest, v74, v76 => (cond v74 (cell_si cs fun x133 x134 => ((spec_odCmp k x133 a2).bind fun y136 => (if v76.length + 1 ≤ cap then (spec_odMeet_l0 k a1 a2 a3 K0 rest true (v76 ++ ([[D.sl x133, D.int .i64 x134]]))) else none))) (cell_si cs fun x122 x123 => ((spec_odCmp k x122 a2).bind fun y125 => (if y125 ≤ (0 : Int) then (if y125 = (0 : Int) then (if v76.length + 1 ≤ cap then (spec_odMeet_l0 k a1 a2 a3 K0 rest true (v76 ++ ([[D.sl a2, D.int .i64 (IntKind.i64.wrap (a3 + x123))]]))) else none) else (if v76.length + 1 ≤ cap then (if (v76 ++ ([[D.sl a2, D.int .i64 a3]])).length + 1 ≤ cap then (spec_odMeet_l0 k a1 a2 a3 K0 rest true ((v76 ++ ([[D.sl a2, D.int .i64 a3]])) ++ ([[D.sl x122, D.int .i64 x123]]))) else none) else none)) else (if v76.length + 1 ≤ cap then (spec_odMeet_l0 k a1 a2 a3 K0 rest false (v76 ++ ([[D.sl x122, D.int .i64 x123]]))) else none)))))
set_option maxHeartbeats 4000000 in
set_option maxRecDepth 100000 in
theorem spec_odMeet_l0_ct {k : Nat} {a1 : Rw} {a2 : Rw} {a3 : Int} {K0 : Rw → Bool → Option Rw} {r : Rw} (hx : a1.length ≤ cap) : ∀ (rest : Rw) (v75n : Nat) (v74 : Bool) (v76 : Rw), a1.drop v75n = rest → spec_odMeet_l0 k a1 a2 a3 K0 rest v74 v76 = some r → LoopOk prog 0 (lp f84 0) (mk 66 [(3, .ptr 192 0), (4, .ptr 256 0), (5, .ptr 320 0), (6, .d (D.bool v74)), (12, .d (D.sl a1)), (13, .d (D.int .i64 (a1.length : Int))), (14, .d (D.int .i64 (v75n : Int)))] [(192, .box 96 [.d (D.sl a2), .d (D.int .i64 a3)]), (256, .box 28 [.es]), (320, .box 28 [.os 64000 v76.length]), (64000, .arr 96 false v76)]) (LoopEnd prog f84 0 66 (.agg [.os 8 r.length]) (⟨[], [(96, false, r)]⟩) (fun i ts os => (i = 0 ∧ ∃ v91 : Rw, ∃ v100 : Bool, K0 v91 v100 = some r ∧ ts = [(3, .ptr 192 0), (4, .ptr 256 0), (5, .ptr 320 0), (6, .d (D.bool v100))] ∧ os = [(192, .box 96 [.d (D.sl a2), .d (D.int .i64 a3)]), (256, .box 28 [.es]), (320, .box 28 [.os 67001 v91.length]), (67001, .arr 96 false v91)])))
  | [], v75n, v74, v76, hd, h => by
      rw [spec_odMeet_l0] at h
      have hn := drop_nil hd
      cases v74
      · replace h := condF h
        refine LoopOk.step ?_
        conv => whnf
        refine splD (fun g => absurd g hn) (fun _ => ?_)
        conv => whnf
        exact ⟨_, _, [some 192, some 256, some 320, some 64000], [], ⟨rfl, _, _, h, rfl, rfl⟩, ⟨⟨rfl, rfl⟩, ⟨rfl, ⟨rfl, rfl, rfl, trivial⟩, ⟨rfl, trivial, trivial⟩, ⟨rfl, ⟨rfl, rfl⟩, trivial⟩, ⟨rfl, rfl, rows_same⟩, trivial⟩, ⟨rfl, rfl⟩, ⟨rfl, rfl⟩, ⟨rfl, rfl⟩, rfl, trivial⟩⟩
      · replace h := condT h
        refine LoopOk.step ?_
        conv => whnf
        refine splD (fun g => absurd g hn) (fun _ => ?_)
        conv => whnf
        exact ⟨_, _, [some 192, some 256, some 320, some 64000], [], ⟨rfl, _, _, h, rfl, rfl⟩, ⟨⟨rfl, rfl⟩, ⟨rfl, ⟨rfl, rfl, rfl, trivial⟩, ⟨rfl, trivial, trivial⟩, ⟨rfl, ⟨rfl, rfl⟩, trivial⟩, ⟨rfl, rfl, rows_same⟩, trivial⟩, ⟨rfl, rfl⟩, ⟨rfl, rfl⟩, ⟨rfl, rfl⟩, rfl, trivial⟩⟩
  | cs :: rest, v75n, v74, v76, hd, h => by
      rw [spec_odMeet_l0] at h
      obtain ⟨hrow, hd1, hlt⟩ := drop_cons hd
      cases v74
      · replace h := condF h
        refine LoopOk.step ?_
        conv => whnf
        refine splD (fun _ => ?_) (fun g => absurd hlt g)
        conv => whnf
        obtain ⟨x122, x123, e124, h⟩ := cell_si_ex h
        rw [e124] at hrow
        refine Req.of (Int.natCast_nonneg _) ?_
        refine Row.of _ hrow ?_
        conv => whnf
        refine Pick.no ?_
        conv => whnf
        obtain ⟨y125, e126, h⟩ := bind_ex h
        refine CallOk.of (spec_odCmp_ct e126) ?_
        conv => whnf
        refine CutK.norm [3, 4, 5, 6, 8, 9, 12, 13, 14] [192, 256, 320, 512, 64000] ?_
        conv => whnf
        refine splD (fun g127 => ?_) (fun g127 => ?_)
        · replace h := iteP h g127
          conv => whnf
          refine splD (fun g128 => ?_) (fun g128 => ?_)
          · replace h := iteP h g128
            conv => whnf
            refine Take.all (rfl) ?_
            conv => whnf
            refine Take.all (by first | rfl | exact List.length_append.symm | (simp; done) | omega | (dsimp only; omega)) ?_
            conv => whnf
            obtain ⟨g129, h⟩ := req_ex h
            refine Req.of (room (b := 32) (by decide) g129 (wide1 rfl wide0)) ?_
            conv => whnf
            refine CutK.norm [3, 4, 5, 6, 12, 13, 14] [192, 256, 320, 2688] ?_
            conv => whnf
            exact LoopOk.back (spec_odMeet_l0_ct hx rest (v75n + 1) _ _ hd1 h) [some 192, some 256, some 320, some 2688] [] ⟨⟨rfl, rfl⟩, ⟨rfl, ⟨rfl, rfl, rfl, trivial⟩, ⟨rfl, trivial, trivial⟩, ⟨rfl, ⟨(by first | rfl | exact List.length_append.symm | (simp; done) | omega | (dsimp only; omega)), rfl⟩, trivial⟩, ⟨rfl, rfl, rows_same⟩, trivial⟩, ⟨rfl, rfl⟩, ⟨rfl, rfl⟩, ⟨rfl, rfl⟩, rfl, rfl, rfl, i64eq (wrap_up hlt hx), trivial⟩
          · replace h := iteN h g128
            conv => whnf
            refine Take.all (rfl) ?_
            conv => whnf
            refine Take.all (by first | rfl | exact List.length_append.symm | (simp; done) | omega | (dsimp only; omega)) ?_
            conv => whnf
            obtain ⟨g130, h⟩ := req_ex h
            refine Req.of (room (b := 32) (by decide) g130 (wide1 rfl wide0)) ?_
            conv => whnf
            refine CutK.norm [3, 4, 5, 6, 8, 12, 13, 14] [192, 256, 320, 512, 3072] ?_
            conv => whnf
            refine Take.all (by first | rfl | exact List.length_append.symm | (simp; done) | omega | (dsimp only; omega)) ?_
            conv => whnf
            refine Take.all (by first | rfl | exact List.length_append.symm | (simp; done) | omega | (dsimp only; omega)) ?_
            conv => whnf
            obtain ⟨g131, h⟩ := req_ex h
            refine Req.of (room (b := 32) (by decide) g131 (wide1 rfl wide0)) ?_
            conv => whnf
            refine CutK.norm [3, 4, 5, 6, 12, 13, 14] [192, 256, 320, 3456] ?_
            conv => whnf
            exact LoopOk.back (spec_odMeet_l0_ct hx rest (v75n + 1) _ _ hd1 h) [some 192, some 256, some 320, some 3456] [] ⟨⟨rfl, rfl⟩, ⟨rfl, ⟨rfl, rfl, rfl, trivial⟩, ⟨rfl, trivial, trivial⟩, ⟨rfl, ⟨(by first | rfl | exact List.length_append.symm | (simp; done) | omega | (dsimp only; omega)), rfl⟩, trivial⟩, ⟨rfl, rfl, rows_same⟩, trivial⟩, ⟨rfl, rfl⟩, ⟨rfl, rfl⟩, ⟨rfl, rfl⟩, rfl, rfl, rfl, i64eq (wrap_up hlt hx), trivial⟩
        · replace h := iteN h g127
          conv => whnf
          refine CutK.norm [3, 4, 5, 6, 8, 12, 13, 14] [192, 256, 320, 512, 64000] ?_
          conv => whnf
          refine Take.all (rfl) ?_
          conv => whnf
          refine Take.all (by first | rfl | exact List.length_append.symm | (simp; done) | omega | (dsimp only; omega)) ?_
          conv => whnf
          obtain ⟨g132, h⟩ := req_ex h
          refine Req.of (room (b := 32) (by decide) g132 (wide1 rfl wide0)) ?_
          conv => whnf
          refine CutK.norm [3, 4, 5, 6, 12, 13, 14] [192, 256, 320, 3456] ?_
          conv => whnf
          exact LoopOk.back (spec_odMeet_l0_ct hx rest (v75n + 1) _ _ hd1 h) [some 192, some 256, some 320, some 3456] [] ⟨⟨rfl, rfl⟩, ⟨rfl, ⟨rfl, rfl, rfl, trivial⟩, ⟨rfl, trivial, trivial⟩, ⟨rfl, ⟨(by first | rfl | exact List.length_append.symm | (simp; done) | omega | (dsimp only; omega)), rfl⟩, trivial⟩, ⟨rfl, rfl, rows_same⟩, trivial⟩, ⟨rfl, rfl⟩, ⟨rfl, rfl⟩, ⟨rfl, rfl⟩, rfl, rfl, rfl, i64eq (wrap_up hlt hx), trivial⟩
      · replace h := condT h
        refine LoopOk.step ?_
        conv => whnf
        refine splD (fun _ => ?_) (fun g => absurd hlt g)
        conv => whnf
        obtain ⟨x133, x134, e135, h⟩ := cell_si_ex h
        rw [e135] at hrow
        refine Req.of (Int.natCast_nonneg _) ?_
        refine Row.of _ hrow ?_
        conv => whnf
        refine Pick.no ?_
        conv => whnf
        obtain ⟨y136, e137, h⟩ := bind_ex h
        refine CallOk.of (spec_odCmp_ct e137) ?_
        conv => whnf
        refine CutK.norm [3, 4, 5, 6, 8, 9, 12, 13, 14] [192, 256, 320, 512, 64000] ?_
        conv => whnf
        refine CutK.norm [3, 4, 5, 6, 8, 12, 13, 14] [192, 256, 320, 512, 64000] ?_
        conv => whnf
        refine Take.all (rfl) ?_
        conv => whnf
        refine Take.all (by first | rfl | exact List.length_append.symm | (simp; done) | omega | (dsimp only; omega)) ?_
        conv => whnf
        obtain ⟨g138, h⟩ := req_ex h
        refine Req.of (room (b := 32) (by decide) g138 (wide1 rfl wide0)) ?_
        conv => whnf
        refine CutK.norm [3, 4, 5, 6, 12, 13, 14] [192, 256, 320, 3456] ?_
        conv => whnf
        exact LoopOk.back (spec_odMeet_l0_ct hx rest (v75n + 1) _ _ hd1 h) [some 192, some 256, some 320, some 3456] [] ⟨⟨rfl, rfl⟩, ⟨rfl, ⟨rfl, rfl, rfl, trivial⟩, ⟨rfl, trivial, trivial⟩, ⟨rfl, ⟨(by first | rfl | exact List.length_append.symm | (simp; done) | omega | (dsimp only; omega)), rfl⟩, trivial⟩, ⟨rfl, rfl, rows_same⟩, trivial⟩, ⟨rfl, rfl⟩, ⟨rfl, rfl⟩, ⟨rfl, rfl⟩, rfl, rfl, rfl, i64eq (wrap_up hlt hx), trivial⟩
def spec_odMeet (k : Nat) (a1 : Rw) (a2 : Rw) (a3 : Int) : Option Rw :=
  (if a1.length ≤ cap then (spec_odMeet_l0 k a1 a2 a3 (fun (v91 : Rw) (v100 : Bool) => (cond v100 (spec_odMeet_p4 a2 a3 v91 true) (spec_odMeet_p4 a2 a3 v91 false))) a1 false ([] : Rw)) else none)
set_option maxHeartbeats 4000000 in
set_option maxRecDepth 100000 in
theorem spec_odMeet_ct {k : Nat} {a1 : Rw} {a2 : Rw} {a3 : Int} {r : Rw} (h : spec_odMeet k a1 a2 a3 = some r) : Ct prog 84 [.agg [.d (D.sl a1)], .agg [.d (D.sl a2), .d (D.int .i64 a3)]] (⟨[], []⟩) (.agg [.os 8 r.length]) (⟨[], [(96, false, r)]⟩) := by
  rw [spec_odMeet] at h
  refine Ct.of (c := _) mixed func84 ⟨rfl, rfl, rfl⟩ ?_ rfl
  conv => whnf
  obtain ⟨g139, h⟩ := req_ex h
  refine LoopOk.into (spec_odMeet_l0_ct  g139 _ _ _ _ rfl h) [some 192, some 256, some 320, none] [] ⟨⟨rfl, rfl⟩, ⟨rfl, ⟨rfl, rfl, rfl, trivial⟩, ⟨rfl, trivial, trivial⟩, ⟨rfl, ⟨rfl, rfl⟩, trivial⟩, rfl, trivial⟩, ⟨rfl, rfl⟩, ⟨rfl, rfl⟩, ⟨rfl, rfl⟩, rfl, rfl, rfl, rfl, trivial⟩ ?_ (fun _ hs => hs)
  rintro i ts os ⟨rfl, v91, v100, h, rfl, rfl⟩
  cases v100
  · replace h := condF h
    conv => whnf
    exact CutK.piece (spec_odMeet_p4_ct  h) [some 192, some 256, some 320, some 67001] [] ⟨⟨rfl, rfl⟩, ⟨rfl, ⟨rfl, rfl, rfl, trivial⟩, ⟨rfl, trivial, trivial⟩, ⟨rfl, ⟨rfl, rfl⟩, trivial⟩, ⟨rfl, rfl, rows_same⟩, trivial⟩, ⟨rfl, rfl⟩, ⟨rfl, rfl⟩, ⟨rfl, rfl⟩, rfl, trivial⟩
  · replace h := condT h
    conv => whnf
    exact CutK.piece (spec_odMeet_p4_ct  h) [some 192, some 256, some 320, some 67001] [] ⟨⟨rfl, rfl⟩, ⟨rfl, ⟨rfl, rfl, rfl, trivial⟩, ⟨rfl, trivial, trivial⟩, ⟨rfl, ⟨rfl, rfl⟩, trivial⟩, ⟨rfl, rfl, rows_same⟩, trivial⟩, ⟨rfl, rfl⟩, ⟨rfl, rfl⟩, ⟨rfl, rfl⟩, rfl, trivial⟩

def spec_deOrdinal_l0 (k : Nat) (rec_spec_deOrdinal : Rw → Int → Option Rw) (a1 : Rw) (y3 : Rw) (K0 : Rw → Option Rw) : Rw → Nat → Rw → Option Rw
  | [], v14n, v15 => (K0 v15)
  | cs :: rest, v14n, v15 => (if 0 ≤ (v14n : Int) ∧ (v14n : Int) < (y3.length : Int) then (cell_i cs fun x36 => ((rec_spec_deOrdinal a1 x36).bind fun y38 => ((spec_odMeet k v15 y38 1).bind fun y40 => (spec_deOrdinal_l0 k rec_spec_deOrdinal a1 y3 K0 rest (v14n + 1) y40)))) else none)
set_option maxHeartbeats 4000000 in
set_option maxRecDepth 100000 in
theorem spec_deOrdinal_l0_ct {k : Nat} {rec_spec_deOrdinal : Rw → Int → Option Rw} {a1 : Rw} {y3 : Rw} {K0 : Rw → Option Rw} (hrec_spec_deOrdinal : ∀ (a1 : Rw) (a2 : Int) (r : Rw), rec_spec_deOrdinal a1 a2 = some r → Ct prog 43 [.agg [.d (D.sl a1)], .d (D.int .i64 a2)] (⟨[], []⟩) (.agg [.os 8 r.length]) (⟨[], [(96, false, r)]⟩)) {r : Rw} (hx : y3.length ≤ cap) : ∀ (rest : Rw) (v14n : Nat) (v15 : Rw), y3.drop v14n = rest → spec_deOrdinal_l0 k rec_spec_deOrdinal a1 y3 K0 rest v14n v15 = some r → LoopOk prog 0 (lp f43 0) (mk 25 [(2, .ptr 128 0), (4, .ptr 256 0), (5, .ptr 320 0), (11, .os 64000 y3.length), (12, .d (D.int .i64 (y3.length : Int))), (13, .d (D.int .i64 (v14n : Int)))] [(128, .box 31 [.d (D.sl a1)]), (256, .box 28 [.es]), (320, .box 28 [.os 64001 v15.length]), (64000, .arr 3 true y3), (64001, .arr 96 false v15)]) (LoopEnd prog f43 0 25 (.agg [.os 8 r.length]) (⟨[], [(96, false, r)]⟩) (fun i ts os => (i = 0 ∧ ∃ v25 : Rw, K0 v25 = some r ∧ ts = [(4, .ptr 256 0), (5, .ptr 320 0)] ∧ os = [(256, .box 28 [.es]), (320, .box 28 [.os 67002 v25.length]), (67002, .arr 96 false v25)])))
  | [], v14n, v15, hd, h => by
      rw [spec_deOrdinal_l0] at h
      have hn := drop_nil hd
      refine LoopOk.step ?_
      conv => whnf
      refine splD (fun g => absurd g hn) (fun _ => ?_)
      conv => whnf
      exact ⟨_, _, [some 256, some 320, some 64001], [], ⟨rfl, _, h, rfl, rfl⟩, ⟨⟨rfl, rfl⟩, ⟨rfl, ⟨rfl, trivial, trivial⟩, ⟨rfl, ⟨rfl, rfl⟩, trivial⟩, ⟨rfl, rfl, rows_same⟩, trivial⟩, ⟨rfl, rfl⟩, ⟨rfl, rfl⟩, trivial⟩⟩
  | cs :: rest, v14n, v15, hd, h => by
      rw [spec_deOrdinal_l0] at h
      obtain ⟨hrow, hd1, hlt⟩ := drop_cons hd
      refine LoopOk.step ?_
      conv => whnf
      refine splD (fun _ => ?_) (fun g => absurd hlt g)
      conv => whnf
      obtain ⟨g35, h⟩ := req_ex h
      refine Req.of g35 ?_
      conv => whnf
      obtain ⟨x36, e37, h⟩ := cell_i_ex h
      rw [e37] at hrow
      refine Row.of _ hrow ?_
      conv => whnf
      refine Pick.no ?_
      conv => whnf
      obtain ⟨y38, e39, h⟩ := bind_ex h
      refine CallOk.of (hrec_spec_deOrdinal _ _ _ e39) ?_
      conv => whnf
      refine Pick.no ?_
      conv => whnf
      refine Take.all (rfl) ?_
      conv => whnf
      refine Take.all (rfl) ?_
      conv => whnf
      obtain ⟨y40, e41, h⟩ := bind_ex h
      refine CallOk.of (spec_odMeet_ct e41) ?_
      conv => whnf
      refine CutK.go ?_
      conv => whnf
      exact LoopOk.back (spec_deOrdinal_l0_ct hrec_spec_deOrdinal hx rest (v14n + 1) _ hd1 h) [some 128, some 256, some 320, some 64000, some 1408] [] ⟨⟨rfl, rfl⟩, ⟨rfl, ⟨rfl, rfl, trivial⟩, ⟨rfl, trivial, trivial⟩, ⟨rfl, ⟨rfl, rfl⟩, trivial⟩, ⟨rfl, rfl, rows_same⟩, ⟨rfl, rfl, rows_same⟩, trivial⟩, ⟨rfl, rfl⟩, ⟨rfl, rfl⟩, ⟨rfl, rfl⟩, ⟨rfl, rfl⟩, rfl, i64eq (wrap_up hlt hx), trivial⟩
def spec_deOrdinal_b (k : Nat) (rec_spec_deOrdinal : Rw → Int → Option Rw) (a1 : Rw) (a2 : Int) : Option Rw :=
  ((spec_deChildren a1 a2).bind fun y3 => (if y3.length ≤ cap then (spec_deOrdinal_l0 k rec_spec_deOrdinal a1 y3 (fun (v25 : Rw) => some v25) y3 0 ([] : Rw)) else none))
set_option maxHeartbeats 4000000 in
set_option maxRecDepth 100000 in
theorem spec_deOrdinal_b_ct {k : Nat} {rec_spec_deOrdinal : Rw → Int → Option Rw} (hrec_spec_deOrdinal : ∀ (a1 : Rw) (a2 : Int) (r : Rw), rec_spec_deOrdinal a1 a2 = some r → Ct prog 43 [.agg [.d (D.sl a1)], .d (D.int .i64 a2)] (⟨[], []⟩) (.agg [.os 8 r.length]) (⟨[], [(96, false, r)]⟩)) {a1 : Rw} {a2 : Int} {r : Rw} (h : spec_deOrdinal_b k rec_spec_deOrdinal a1 a2 = some r) : Ct prog 43 [.agg [.d (D.sl a1)], .d (D.int .i64 a2)] (⟨[], []⟩) (.agg [.os 8 r.length]) (⟨[], [(96, false, r)]⟩) := by
  rw [spec_deOrdinal_b] at h
  refine Ct.of (c := _) mixed func43 ⟨rfl, rfl, rfl⟩ ?_ rfl
  conv => whnf
  refine Pick.no ?_
  conv => whnf
  obtain ⟨y3, e4, h⟩ := bind_ex h
  refine CallOk.of (spec_deChildren_ct e4) ?_
  conv => whnf
  refine CutK.go ?_
  conv => whnf
  obtain ⟨g42, h⟩ := req_ex h
  refine LoopOk.into (spec_deOrdinal_l0_ct hrec_spec_deOrdinal g42 _ _ _ rfl h) [some 128, some 256, some 320, some 704, none] [] ⟨⟨rfl, rfl⟩, ⟨rfl, ⟨rfl, rfl, trivial⟩, ⟨rfl, trivial, trivial⟩, ⟨rfl, ⟨rfl, rfl⟩, trivial⟩, ⟨rfl, rfl, rows_same⟩, rfl, trivial⟩, ⟨rfl, rfl⟩, ⟨rfl, rfl⟩, ⟨rfl, rfl⟩, ⟨rfl, rfl⟩, rfl, rfl, trivial⟩ ?_ (fun _ hs => hs)
  rintro i ts os ⟨rfl, v25, h, rfl, rfl⟩
  conv => whnf
  refine CutK.go ?_
  conv => whnf
  cases h
  exact Done.of [some 67002] [] rfl rfl ⟨⟨rfl, rfl⟩, ⟨rfl, ⟨rfl, rfl, rows_same⟩, trivial⟩, ⟨⟨rfl, rfl⟩, trivial⟩, trivial⟩
def spec_deOrdinal : Nat → Rw → Int → Option Rw
  | 0, _, _ => none
  | k + 1, a1, a2 => spec_deOrdinal_b k (spec_deOrdinal k) a1 a2
theorem spec_deOrdinal_ct' : ∀ (k : Nat) (a1 : Rw) (a2 : Int) (r : Rw), spec_deOrdinal k a1 a2 = some r → Ct prog 43 [.agg [.d (D.sl a1)], .d (D.int .i64 a2)] (⟨[], []⟩) (.agg [.os 8 r.length]) (⟨[], [(96, false, r)]⟩)
  | 0, _, _, _, h => by rw [spec_deOrdinal] at h; cases h
  | k + 1, _, _, _, h => by rw [spec_deOrdinal] at h; exact spec_deOrdinal_b_ct (spec_deOrdinal_ct' k) h
theorem spec_deOrdinal_ct {k : Nat} {a1 : Rw} {a2 : Int} {r : Rw} (h : spec_deOrdinal k a1 a2 = some r) : Ct prog 43 [.agg [.d (D.sl a1)], .d (D.int .i64 a2)] (⟨[], []⟩) (.agg [.os 8 r.length]) (⟨[], [(96, false, r)]⟩) := spec_deOrdinal_ct' k _ _ _ h

def spec_odLeft_l0 (rec_spec_odLeft : Rw → Int → Int → Option Int) (a1 : Rw) (a2 : Int) (K0 : Int → Option Int) : Rw → Int → Option Int
  | [], v13 => (K0 v13)
  | cs :: rest, v13 => (cell_si cs fun x34 x35 => (if v13 < (0 : Int) then some (-1) else (if a2 = (0 : Int) then some (-1) else ((rec_spec_odLeft x34 (IntKind.i64.wrap (a2 - 1)) (IntKind.i64.wrap (v13 - 1))).bind fun y39 => (spec_odLeft_l0 rec_spec_odLeft a1 a2 K0 rest y39)))))
set_option maxHeartbeats 4000000 in
set_option maxRecDepth 100000 in
theorem spec_odLeft_l0_ct {rec_spec_odLeft : Rw → Int → Int → Option Int} {a1 : Rw} {a2 : Int} {K0 : Int → Option Int} (hrec_spec_odLeft : ∀ (a1 : Rw) (a2 : Int) (a3 : Int) (r : Int), rec_spec_odLeft a1 a2 a3 = some r → Ct prog 98 [.agg [.d (D.sl a1)], .d (D.int .i64 a2), .d (D.int .i64 a3)] (⟨[], []⟩) (.d (D.int .i64 r)) (⟨[], []⟩)) {r : Int} (hx : a1.length ≤ cap) : ∀ (rest : Rw) (v14n : Nat) (v13 : Int), a1.drop v14n = rest → spec_odLeft_l0 rec_spec_odLeft a1 a2 K0 rest v13 = some r → LoopOk prog 0 (lp f98 0) (mk 33 [(1, .d (D.int .i64 a2)), (2, .d (D.int .i64 v13)), (12, .d (D.sl a1)), (13, .d (D.int .i64 (a1.length : Int))), (14, .d (D.int .i64 (v14n : Int)))] []) (LoopEnd prog f98 0 33 (.d (D.int .i64 r)) (⟨[], []⟩) (fun i ts os => (i = 0 ∧ ∃ v24 : Int, K0 v24 = some r ∧ ts = [(2, .d (D.int .i64 v24))] ∧ os = [])))
  | [], v14n, v13, hd, h => by
      rw [spec_odLeft_l0] at h
      have hn := drop_nil hd
      refine LoopOk.step ?_
      conv => whnf
      refine splD (fun g => absurd g hn) (fun _ => ?_)
      conv => whnf
      exact ⟨_, _, [], [], ⟨rfl, _, h, rfl, rfl⟩, ⟨⟨rfl, rfl⟩, ⟨rfl, trivial⟩, rfl, trivial⟩⟩
  | cs :: rest, v14n, v13, hd, h => by
      rw [spec_odLeft_l0] at h
      obtain ⟨hrow, hd1, hlt⟩ := drop_cons hd
      refine LoopOk.step ?_
      conv => whnf
      refine splD (fun _ => ?_) (fun g => absurd hlt g)
      conv => whnf
      obtain ⟨x34, x35, e36, h⟩ := cell_si_ex h
      rw [e36] at hrow
      refine Req.of (Int.natCast_nonneg _) ?_
      refine Row.of _ hrow ?_
      conv => whnf
      refine splD (fun g37 => ?_) (fun g37 => ?_)
      · replace h := iteP h g37
        conv => whnf
        cases h
        exact Done.of [] [] rfl rfl ⟨⟨rfl, rfl⟩, ⟨rfl, trivial⟩, rfl, trivial⟩
      · replace h := iteN h g37
        conv => whnf
        refine splD (fun g38 => ?_) (fun g38 => ?_)
        · replace h := iteP h g38
          conv => whnf
          cases h
          exact Done.of [] [] rfl rfl ⟨⟨rfl, rfl⟩, ⟨rfl, trivial⟩, rfl, trivial⟩
        · replace h := iteN h g38
          conv => whnf
          refine Pick.no ?_
          conv => whnf
          obtain ⟨y39, e40, h⟩ := bind_ex h
          refine CallOk.of (hrec_spec_odLeft _ _ _ _ e40) ?_
          conv => whnf
          refine CutK.norm [1, 2, 12, 13, 14] [] ?_
          conv => whnf
          exact LoopOk.back (spec_odLeft_l0_ct hrec_spec_odLeft hx rest (v14n + 1) _ hd1 h) [] [] ⟨⟨rfl, rfl⟩, ⟨rfl, trivial⟩, rfl, rfl, rfl, rfl, i64eq (wrap_up hlt hx), trivial⟩
def spec_odLeft_b (rec_spec_odLeft : Rw → Int → Int → Option Int) (a1 : Rw) (a2 : Int) (a3 : Int) : Option Int :=
  (if a1.length ≤ cap then (spec_odLeft_l0 rec_spec_odLeft a1 a2 (fun (v24 : Int) => some v24) a1 (IntKind.i64.wrap (a3 - 1))) else none)
set_option maxHeartbeats 4000000 in
set_option maxRecDepth 100000 in
theorem spec_odLeft_b_ct {rec_spec_odLeft : Rw → Int → Int → Option Int} (hrec_spec_odLeft : ∀ (a1 : Rw) (a2 : Int) (a3 : Int) (r : Int), rec_spec_odLeft a1 a2 a3 = some r → Ct prog 98 [.agg [.d (D.sl a1)], .d (D.int .i64 a2), .d (D.int .i64 a3)] (⟨[], []⟩) (.d (D.int .i64 r)) (⟨[], []⟩)) {a1 : Rw} {a2 : Int} {a3 : Int} {r : Int} (h : spec_odLeft_b rec_spec_odLeft a1 a2 a3 = some r) : Ct prog 98 [.agg [.d (D.sl a1)], .d (D.int .i64 a2), .d (D.int .i64 a3)] (⟨[], []⟩) (.d (D.int .i64 r)) (⟨[], []⟩) := by
  rw [spec_odLeft_b] at h
  refine Ct.of (c := _) mixed func98 ⟨rfl, rfl, rfl⟩ ?_ rfl
  conv => whnf
  obtain ⟨g41, h⟩ := req_ex h
  refine LoopOk.into (spec_odLeft_l0_ct hrec_spec_odLeft g41 _ _ _ rfl h) [] [] ⟨⟨rfl, rfl⟩, ⟨rfl, trivial⟩, rfl, rfl, rfl, rfl, rfl, trivial⟩ ?_ (fun _ hs => hs)
  rintro i ts os ⟨rfl, v24, h, rfl, rfl⟩
  conv => whnf
  refine CutK.norm [2] [] ?_
  conv => whnf
  cases h
  exact Done.of [] [] rfl rfl ⟨⟨rfl, rfl⟩, ⟨rfl, trivial⟩, rfl, trivial⟩
def spec_odLeft : Nat → Rw → Int → Int → Option Int
  | 0, _, _, _ => none
  | k + 1, a1, a2, a3 => spec_odLeft_b (spec_odLeft k) a1 a2 a3
theorem spec_odLeft_ct' : ∀ (k : Nat) (a1 : Rw) (a2 : Int) (a3 : Int) (r : Int), spec_odLeft k a1 a2 a3 = some r → Ct prog 98 [.agg [.d (D.sl a1)], .d (D.int .i64 a2), .d (D.int .i64 a3)] (⟨[], []⟩) (.d (D.int .i64 r)) (⟨[], []⟩)
  | 0, _, _, _, _, h => by rw [spec_odLeft] at h; cases h
  | k + 1, _, _, _, _, h => by rw [spec_odLeft] at h; exact spec_odLeft_b_ct (spec_odLeft_ct' k) h
theorem spec_odLeft_ct {k : Nat} {a1 : Rw} {a2 : Int} {a3 : Int} {r : Int} (h : spec_odLeft k a1 a2 a3 = some r) : Ct prog 98 [.agg [.d (D.sl a1)], .d (D.int .i64 a2), .d (D.int .i64 a3)] (⟨[], []⟩) (.d (D.int .i64 r)) (⟨[], []⟩) := spec_odLeft_ct' k _ _ _ _ h

def spec_odForm_p3  : Option Bool :=
  some true
set_option maxHeartbeats 4000000 in
set_option maxRecDepth 100000 in
theorem spec_odForm_p3_ct  {r : Bool} (h : spec_odForm_p3 = some r) : X prog 0 (tlF f99 3) (mk 47 [] []) (finK prog f99 0 (.d (D.bool r)) (⟨[], []⟩)) := by
  rw [spec_odForm_p3] at h
  conv => whnf
  cases h
  exact Done.of [] [] rfl rfl ⟨⟨rfl, rfl⟩, ⟨rfl, trivial⟩, rfl, trivial⟩
def spec_odForm_l0 (k : Nat) (rec_spec_odForm : Rw → Int → Option Bool) (a1 : Rw) (a2 : Int) (K0 : Option Bool) : Rw → Nat → Option Bool
  | [], v47n => (K0)
  | cs :: rest, v47n => (cell_si cs fun x67 x68 => ((spec_l1In x68 1 1000000).bind fun y70 => (if y70 = true then ((rec_spec_odForm x67 (IntKind.i64.wrap (a2 - 1))).bind fun y73 => (if y73 = true then (if (0 : Int) < (v47n : Int) then (row_si a1 (IntKind.i64.wrap ((v47n : Int) - 1)) fun x77 x78 => ((spec_odCmp k x77 x67).bind fun y81 => (if y81 ≤ (0 : Int) then some false else (spec_odForm_l0 k rec_spec_odForm a1 a2 K0 rest (v47n + 1))))) else (spec_odForm_l0 k rec_spec_odForm a1 a2 K0 rest (v47n + 1))) else some false)) else some false)))
set_option maxHeartbeats 4000000 in
set_option maxRecDepth 100000 in
theorem spec_odForm_l0_ct {k : Nat} {rec_spec_odForm : Rw → Int → Option Bool} {a1 : Rw} {a2 : Int} {K0 : Option Bool} (hrec_spec_odForm : ∀ (a1 : Rw) (a2 : Int) (r : Bool), rec_spec_odForm a1 a2 = some r → Ct prog 99 [.agg [.d (D.sl a1)], .d (D.int .i64 a2)] (⟨[], []⟩) (.d (D.bool r)) (⟨[], []⟩)) {r : Bool} (hx : a1.length ≤ cap) : ∀ (rest : Rw) (v47n : Nat), a1.drop v47n = rest → spec_odForm_l0 k rec_spec_odForm a1 a2 K0 rest v47n = some r → LoopOk prog 0 (lp f99 0) (mk 47 [(1, .d (D.int .i64 a2)), (2, .ptr 128 0), (10, .d (D.sl a1)), (11, .d (D.int .i64 (a1.length : Int))), (12, .d (D.int .i64 (v47n : Int)))] [(128, .box 28 [.d (D.sl a1)])]) (LoopEnd prog f99 0 47 (.d (D.bool r)) (⟨[], []⟩) (fun i ts os => (i = 0 ∧ K0 = some r ∧ ts = [] ∧ os = [])))
  | [], v47n, hd, h => by
      rw [spec_odForm_l0] at h
      have hn := drop_nil hd
      refine LoopOk.step ?_
      conv => whnf
      refine splD (fun g => absurd g hn) (fun _ => ?_)
      conv => whnf
      exact ⟨_, _, [], [], ⟨rfl, h, rfl, rfl⟩, ⟨⟨rfl, rfl⟩, ⟨rfl, trivial⟩, trivial⟩⟩
  | cs :: rest, v47n, hd, h => by
      rw [spec_odForm_l0] at h
      obtain ⟨hrow, hd1, hlt⟩ := drop_cons hd
      refine LoopOk.step ?_
      conv => whnf
      refine splD (fun _ => ?_) (fun g => absurd hlt g)
      conv => whnf
      obtain ⟨x67, x68, e69, h⟩ := cell_si_ex h
      rw [e69] at hrow
      refine Req.of (Int.natCast_nonneg _) ?_
      refine Row.of _ hrow ?_
      conv => whnf
      refine Pick.no ?_
      conv => whnf
      obtain ⟨y70, e71, h⟩ := bind_ex h
      refine CallOk.of (spec_l1In_ct e71) ?_
      conv => whnf
      refine spl (fun g72 => ?_) (fun g72 => ?_)
      · replace h := iteT h g72
        conv => whnf
        refine Pick.no ?_
        conv => whnf
        obtain ⟨y73, e74, h⟩ := bind_ex h
        refine CallOk.of (hrec_spec_odForm _ _ _ e74) ?_
        conv => whnf
        refine spl (fun g75 => ?_) (fun g75 => ?_)
        · replace h := iteT h g75
          conv => whnf
          refine splD (fun g76 => ?_) (fun g76 => ?_)
          · replace h := iteP h g76
            conv => whnf
            obtain ⟨g80, x77, x78, e79, h⟩ := row_si_ex h
            refine Req.of g80 ?_
            refine Row.of _ e79 ?_
            conv => whnf
            refine Pick.no ?_
            conv => whnf
            obtain ⟨y81, e82, h⟩ := bind_ex h
            refine CallOk.of (spec_odCmp_ct e82) ?_
            conv => whnf
            refine splD (fun g83 => ?_) (fun g83 => ?_)
            · replace h := iteP h g83
              conv => whnf
              refine CutK.norm [1, 2, 10, 11, 12, 45] [128] ?_
              conv => whnf
              cases h
              exact Done.of [] [] rfl rfl ⟨⟨rfl, rfl⟩, ⟨rfl, trivial⟩, rfl, trivial⟩
            · replace h := iteN h g83
              conv => whnf
              refine CutK.norm [1, 2, 10, 11, 12, 45] [128] ?_
              conv => whnf
              refine CutK.norm [1, 2, 10, 11, 12] [128] ?_
              conv => whnf
              exact LoopOk.back (spec_odForm_l0_ct hrec_spec_odForm hx rest (v47n + 1)  hd1 h) [some 128] [] ⟨⟨rfl, rfl⟩, ⟨rfl, ⟨rfl, rfl, trivial⟩, trivial⟩, rfl, ⟨rfl, rfl⟩, rfl, rfl, i64eq (wrap_up hlt hx), trivial⟩
          · replace h := iteN h g76
            conv => whnf
            refine CutK.norm [1, 2, 10, 11, 12, 45] [128] ?_
            conv => whnf
            refine CutK.norm [1, 2, 10, 11, 12] [128] ?_
            conv => whnf
            exact LoopOk.back (spec_odForm_l0_ct hrec_spec_odForm hx rest (v47n + 1)  hd1 h) [some 128] [] ⟨⟨rfl, rfl⟩, ⟨rfl, ⟨rfl, rfl, trivial⟩, trivial⟩, rfl, ⟨rfl, rfl⟩, rfl, rfl, i64eq (wrap_up hlt hx), trivial⟩
        · replace h := iteF h g75
          conv => whnf
          refine CutK.norm [1, 2, 10, 11, 12, 45] [128] ?_
          conv => whnf
          cases h
          exact Done.of [] [] rfl rfl ⟨⟨rfl, rfl⟩, ⟨rfl, trivial⟩, rfl, trivial⟩
      · replace h := iteF h g72
        conv => whnf
        refine CutK.norm [1, 2, 10, 11, 12, 45] [128] ?_
        conv => whnf
        cases h
        exact Done.of [] [] rfl rfl ⟨⟨rfl, rfl⟩, ⟨rfl, trivial⟩, rfl, trivial⟩
def spec_odForm_b (k : Nat) (rec_spec_odForm : Rw → Int → Option Bool) (a1 : Rw) (a2 : Int) : Option Bool :=
  (if a2 < (0 : Int) then some false else (if a1.length ≤ cap then (spec_odForm_l0 k rec_spec_odForm a1 a2 (spec_odForm_p3) a1 0) else none))
set_option maxHeartbeats 4000000 in
set_option maxRecDepth 100000 in
theorem spec_odForm_b_ct {k : Nat} {rec_spec_odForm : Rw → Int → Option Bool} (hrec_spec_odForm : ∀ (a1 : Rw) (a2 : Int) (r : Bool), rec_spec_odForm a1 a2 = some r → Ct prog 99 [.agg [.d (D.sl a1)], .d (D.int .i64 a2)] (⟨[], []⟩) (.d (D.bool r)) (⟨[], []⟩)) {a1 : Rw} {a2 : Int} {r : Bool} (h : spec_odForm_b k rec_spec_odForm a1 a2 = some r) : Ct prog 99 [.agg [.d (D.sl a1)], .d (D.int .i64 a2)] (⟨[], []⟩) (.d (D.bool r)) (⟨[], []⟩) := by
  rw [spec_odForm_b] at h
  refine Ct.of (c := _) mixed func99 ⟨rfl, rfl, rfl⟩ ?_ rfl
  conv => whnf
  refine splD (fun g35 => ?_) (fun g35 => ?_)
  · replace h := iteP h g35
    conv => whnf
    cases h
    exact Done.of [] [] rfl rfl ⟨⟨rfl, rfl⟩, ⟨rfl, trivial⟩, rfl, trivial⟩
  · replace h := iteN h g35
    conv => whnf
    obtain ⟨g84, h⟩ := req_ex h
    refine LoopOk.into (spec_odForm_l0_ct hrec_spec_odForm g84 _ _  rfl h) [some 128] [] ⟨⟨rfl, rfl⟩, ⟨rfl, ⟨rfl, rfl, trivial⟩, trivial⟩, rfl, ⟨rfl, rfl⟩, rfl, rfl, rfl, trivial⟩ ?_ (fun _ hs => hs)
    rintro i ts os ⟨rfl, h, rfl, rfl⟩
    conv => whnf
    exact CutK.piece (spec_odForm_p3_ct  h) [] [] ⟨⟨rfl, rfl⟩, ⟨rfl, trivial⟩, trivial⟩
def spec_odForm : Nat → Rw → Int → Option Bool
  | 0, _, _ => none
  | k + 1, a1, a2 => spec_odForm_b k (spec_odForm k) a1 a2
theorem spec_odForm_ct' : ∀ (k : Nat) (a1 : Rw) (a2 : Int) (r : Bool), spec_odForm k a1 a2 = some r → Ct prog 99 [.agg [.d (D.sl a1)], .d (D.int .i64 a2)] (⟨[], []⟩) (.d (D.bool r)) (⟨[], []⟩)
  | 0, _, _, _, h => by rw [spec_odForm] at h; cases h
  | k + 1, _, _, _, h => by rw [spec_odForm] at h; exact spec_odForm_b_ct (spec_odForm_ct' k) h
theorem spec_odForm_ct {k : Nat} {a1 : Rw} {a2 : Int} {r : Bool} (h : spec_odForm k a1 a2 = some r) : Ct prog 99 [.agg [.d (D.sl a1)], .d (D.int .i64 a2)] (⟨[], []⟩) (.d (D.bool r)) (⟨[], []⟩) := spec_odForm_ct' k _ _ _ h

def spec_odGood (k : Nat) (a1 : Rw) : Option Bool :=
  ((spec_odLeft k a1 6 60).bind fun y2 => (if (0 : Int) ≤ y2 then ((spec_odForm k a1 6).bind fun y5 => (if y5 = true then some true else some false)) else some false))
set_option maxHeartbeats 4000000 in
set_option maxRecDepth 100000 in
theorem spec_odGood_ct {k : Nat} {a1 : Rw} {r : Bool} (h : spec_odGood k a1 = some r) : Ct prog 77 [.agg [.d (D.sl a1)]] (⟨[], []⟩) (.d (D.bool r)) (⟨[], []⟩) := by
  rw [spec_odGood] at h
  refine Ct.of (c := _) mixed func77 ⟨rfl, rfl, rfl⟩ ?_ rfl
  conv => whnf
  refine Pick.no ?_
  conv => whnf
  obtain ⟨y2, e3, h⟩ := bind_ex h
  refine CallOk.of (spec_odLeft_ct e3) ?_
  conv => whnf
  refine splD (fun g4 => ?_) (fun g4 => ?_)
  · replace h := iteP h g4
    conv => whnf
    refine Pick.no ?_
    conv => whnf
    obtain ⟨y5, e6, h⟩ := bind_ex h
    refine CallOk.of (spec_odForm_ct e6) ?_
    conv => whnf
    refine spl (fun g7 => ?_) (fun g7 => ?_)
    · replace h := iteT h g7
      conv => whnf
      refine CutK.go ?_
      conv => whnf
      cases h
      exact Done.of [] [] rfl rfl ⟨⟨rfl, rfl⟩, ⟨rfl, trivial⟩, rfl, trivial⟩
    · replace h := iteF h g7
      conv => whnf
      refine CutK.go ?_
      conv => whnf
      cases h
      exact Done.of [] [] rfl rfl ⟨⟨rfl, rfl⟩, ⟨rfl, trivial⟩, rfl, trivial⟩
  · replace h := iteN h g4
    conv => whnf
    refine CutK.go ?_
    conv => whnf
    cases h
    exact Done.of [] [] rfl rfl ⟨⟨rfl, rfl⟩, ⟨rfl, trivial⟩, rfl, trivial⟩

def spec_odOwn_l0 (rec_spec_odOwn : Rw → Option Rw) (a1 : Rw) (K0 : Rw → Option Rw) : Rw → Rw → Option Rw
  | [], v10 => (K0 v10)
  | cs :: rest, v10 => (cell_si cs fun x28 x29 => ((rec_spec_odOwn x28).bind fun y31 => (if v10.length + 1 ≤ cap then (spec_odOwn_l0 rec_spec_odOwn a1 K0 rest (v10 ++ ([[D.sl y31, D.int .i64 x29]]))) else none)))
set_option maxHeartbeats 4000000 in
set_option maxRecDepth 100000 in
theorem spec_odOwn_l0_ct {rec_spec_odOwn : Rw → Option Rw} {a1 : Rw} {K0 : Rw → Option Rw} (hrec_spec_odOwn : ∀ (a1 : Rw) (r : Rw), rec_spec_odOwn a1 = some r → Ct prog 82 [.agg [.d (D.sl a1)]] (⟨[], []⟩) (.agg [.os 8 r.length]) (⟨[], [(96, true, r)]⟩)) {r : Rw} (hx : a1.length ≤ cap) : ∀ (rest : Rw) (v9n : Nat) (v10 : Rw), a1.drop v9n = rest → spec_odOwn_l0 rec_spec_odOwn a1 K0 rest v10 = some r → LoopOk prog 0 (lp f82 0) (mk 27 [(2, .ptr 128 0), (3, .ptr 192 0), (8, .d (D.sl a1)), (9, .d (D.int .i64 (a1.length : Int))), (10, .d (D.int .i64 (v9n : Int)))] [(128, .box 28 [.es]), (192, .box 28 [.os 64000 v10.length]), (64000, .arr 96 true v10)]) (LoopEnd prog f82 0 27 (.agg [.os 8 r.length]) (⟨[], [(96, true, r)]⟩) (fun i ts os => (i = 0 ∧ ∃ v19 : Rw, K0 v19 = some r ∧ ts = [(2, .ptr 128 0), (3, .ptr 192 0)] ∧ os = [(128, .box 28 [.es]), (192, .box 28 [.os 67001 v19.length]), (67001, .arr 96 true v19)])))
  | [], v9n, v10, hd, h => by
      rw [spec_odOwn_l0] at h
      have hn := drop_nil hd
      refine LoopOk.step ?_
      conv => whnf
      refine splD (fun g => absurd g hn) (fun _ => ?_)
      conv => whnf
      exact ⟨_, _, [some 128, some 192, some 64000], [], ⟨rfl, _, h, rfl, rfl⟩, ⟨⟨rfl, rfl⟩, ⟨rfl, ⟨rfl, trivial, trivial⟩, ⟨rfl, ⟨rfl, rfl⟩, trivial⟩, ⟨rfl, rfl, rows_same⟩, trivial⟩, ⟨rfl, rfl⟩, ⟨rfl, rfl⟩, trivial⟩⟩
  | cs :: rest, v9n, v10, hd, h => by
      rw [spec_odOwn_l0] at h
      obtain ⟨hrow, hd1, hlt⟩ := drop_cons hd
      refine LoopOk.step ?_
      conv => whnf
      refine splD (fun _ => ?_) (fun g => absurd hlt g)
      conv => whnf
      obtain ⟨x28, x29, e30, h⟩ := cell_si_ex h
      rw [e30] at hrow
      refine Req.of (Int.natCast_nonneg _) ?_
      refine Row.of _ hrow ?_
      conv => whnf
      refine Pick.no ?_
      conv => whnf
      obtain ⟨y31, e32, h⟩ := bind_ex h
      refine CallOk.of (hrec_spec_odOwn _ _ e32) ?_
      conv => whnf
      refine Take.all (rfl) ?_
      conv => whnf
      refine Take.all (rfl) ?_
      conv => whnf
      refine Take.all (by first | rfl | exact List.length_append.symm | (simp; done) | omega | (dsimp only; omega)) ?_
      conv => whnf
      obtain ⟨g33, h⟩ := req_ex h
      refine Req.of (room (b := 32) (by decide) g33 (wide1 rfl wide0)) ?_
      conv => whnf
      refine CutK.go ?_
      conv => whnf
      exact LoopOk.back (spec_odOwn_l0_ct hrec_spec_odOwn hx rest (v9n + 1) _ hd1 h) [some 128, some 192, some 1472] [] ⟨⟨rfl, rfl⟩, ⟨rfl, ⟨rfl, trivial, trivial⟩, ⟨rfl, ⟨(by first | rfl | exact List.length_append.symm | (simp; done) | omega | (dsimp only; omega)), rfl⟩, trivial⟩, ⟨rfl, rfl, rows_same⟩, trivial⟩, ⟨rfl, rfl⟩, ⟨rfl, rfl⟩, rfl, rfl, i64eq (wrap_up hlt hx), trivial⟩
def spec_odOwn_b (rec_spec_odOwn : Rw → Option Rw) (a1 : Rw) : Option Rw :=
  (if a1.length ≤ cap then (spec_odOwn_l0 rec_spec_odOwn a1 (fun (v19 : Rw) => some v19) a1 ([] : Rw)) else none)
set_option maxHeartbeats 4000000 in
set_option maxRecDepth 100000 in
theorem spec_odOwn_b_ct {rec_spec_odOwn : Rw → Option Rw} (hrec_spec_odOwn : ∀ (a1 : Rw) (r : Rw), rec_spec_odOwn a1 = some r → Ct prog 82 [.agg [.d (D.sl a1)]] (⟨[], []⟩) (.agg [.os 8 r.length]) (⟨[], [(96, true, r)]⟩)) {a1 : Rw} {r : Rw} (h : spec_odOwn_b rec_spec_odOwn a1 = some r) : Ct prog 82 [.agg [.d (D.sl a1)]] (⟨[], []⟩) (.agg [.os 8 r.length]) (⟨[], [(96, true, r)]⟩) := by
  rw [spec_odOwn_b] at h
  refine Ct.of (c := _) mixed func82 ⟨rfl, rfl, rfl⟩ ?_ rfl
  conv => whnf
  obtain ⟨g34, h⟩ := req_ex h
  refine LoopOk.into (spec_odOwn_l0_ct hrec_spec_odOwn g34 _ _ _ rfl h) [some 128, some 192, none] [] ⟨⟨rfl, rfl⟩, ⟨rfl, ⟨rfl, trivial, trivial⟩, ⟨rfl, ⟨rfl, rfl⟩, trivial⟩, rfl, trivial⟩, ⟨rfl, rfl⟩, ⟨rfl, rfl⟩, rfl, rfl, rfl, trivial⟩ ?_ (fun _ hs => hs)
  rintro i ts os ⟨rfl, v19, h, rfl, rfl⟩
  conv => whnf
  refine CutK.go ?_
  conv => whnf
  cases h
  exact Done.of [some 67001] [] rfl rfl ⟨⟨rfl, rfl⟩, ⟨rfl, ⟨rfl, rfl, rows_same⟩, trivial⟩, ⟨⟨rfl, rfl⟩, trivial⟩, trivial⟩
def spec_odOwn : Nat → Rw → Option Rw
  | 0, _ => none
  | k + 1, a1 => spec_odOwn_b (spec_odOwn k) a1
theorem spec_odOwn_ct' : ∀ (k : Nat) (a1 : Rw) (r : Rw), spec_odOwn k a1 = some r → Ct prog 82 [.agg [.d (D.sl a1)]] (⟨[], []⟩) (.agg [.os 8 r.length]) (⟨[], [(96, true, r)]⟩)
  | 0, _, _, h => by rw [spec_odOwn] at h; cases h
  | k + 1, _, _, h => by rw [spec_odOwn] at h; exact spec_odOwn_b_ct (spec_odOwn_ct' k) h
theorem spec_odOwn_ct {k : Nat} {a1 : Rw} {r : Rw} (h : spec_odOwn k a1 = some r) : Ct prog 82 [.agg [.d (D.sl a1)]] (⟨[], []⟩) (.agg [.os 8 r.length]) (⟨[], [(96, true, r)]⟩) := spec_odOwn_ct' k _ _ h

def spec_odIf (k : Nat) (a1 : Rw) : Option (Rw × Bool) :=
  ((spec_odGood k a1).bind fun y2 => (if y2 = true then ((spec_odOwn k a1).bind fun y5 => some (y5, true)) else some (([] : Rw), false)))
set_option maxHeartbeats 4000000 in
set_option maxRecDepth 100000 in
theorem spec_odIf_ct {k : Nat} {a1 : Rw} {r : Rw × Bool} (h : spec_odIf k a1 = some r) : Ct prog 42 [.agg [.d (D.sl a1)]] (⟨[], []⟩) (.tup [.agg [.os 8 r.1.length], .d (D.bool r.2)]) (⟨[], [(96, true, r.1)]⟩) := by
  rw [spec_odIf] at h
  refine Ct.of (c := _) mixed func42 ⟨rfl, rfl, rfl⟩ ?_ rfl
  conv => whnf
  refine Pick.no ?_
  conv => whnf
  obtain ⟨y2, e3, h⟩ := bind_ex h
  refine CallOk.of (spec_odGood_ct e3) ?_
  conv => whnf
  refine spl (fun g4 => ?_) (fun g4 => ?_)
  · replace h := iteT h g4
    conv => whnf
    refine CutK.go ?_
    conv => whnf
    refine CutK.go ?_
    conv => whnf
    refine Pick.no ?_
    conv => whnf
    obtain ⟨y5, e6, h⟩ := bind_ex h
    refine CallOk.of (spec_odOwn_ct e6) ?_
    conv => whnf
    refine CutK.go ?_
    conv => whnf
    cases h
    exact Done.of [some 576] [] rfl rfl ⟨⟨rfl, rfl⟩, ⟨rfl, ⟨rfl, rfl, rows_same⟩, trivial⟩, ⟨⟨⟨rfl, rfl⟩, trivial⟩, rfl, trivial⟩, trivial⟩
  · replace h := iteF h g4
    conv => whnf
    refine CutK.go ?_
    conv => whnf
    cases h
    exact Done.of [none] [] rfl rfl ⟨⟨rfl, rfl⟩, ⟨rfl, rfl, trivial⟩, ⟨⟨⟨rfl, rfl⟩, trivial⟩, rfl, trivial⟩, trivial⟩

def spec_HydraOrdinal (k : Nat) (a1 : Rw) : Option (Rw × Bool) :=
  ((spec_deHydra k a1).bind fun y2 => (if y2 = true then ((spec_deOrdinal k a1 0).bind fun y5 => ((spec_odIf k y5).bind fun y7 => (if y7.2 = true then some (y7.1, true) else some (y7.1, false)))) else some (([] : Rw), false)))
set_option maxHeartbeats 4000000 in
set_option maxRecDepth 100000 in
theorem spec_HydraOrdinal_ct {k : Nat} {a1 : Rw} {r : Rw × Bool} (h : spec_HydraOrdinal k a1 = some r) : Ct prog 10 [.agg [.d (D.sl a1)]] (⟨[], []⟩) (.tup [.agg [.os 8 r.1.length], .d (D.bool r.2)]) (⟨[], [(96, true, r.1)]⟩) := by
  rw [spec_HydraOrdinal] at h
  refine Ct.of (c := _) mixed func10 ⟨rfl, rfl, rfl⟩ ?_ rfl
  conv => whnf
  refine Pick.no ?_
  conv => whnf
  obtain ⟨y2, e3, h⟩ := bind_ex h
  refine CallOk.of (spec_deHydra_ct e3) ?_
  conv => whnf
  refine spl (fun g4 => ?_) (fun g4 => ?_)
  · replace h := iteT h g4
    conv => whnf
    refine CutK.go ?_
    conv => whnf
    refine CutK.go ?_
    conv => whnf
    refine Pick.no ?_
    conv => whnf
    obtain ⟨y5, e6, h⟩ := bind_ex h
    refine CallOk.of (spec_deOrdinal_ct e6) ?_
    conv => whnf
    refine Pick.no ?_
    conv => whnf
    refine Take.all (rfl) ?_
    conv => whnf
    obtain ⟨y7, e8, h⟩ := bind_ex h
    refine CallOk.of (spec_odIf_ct e8) ?_
    conv => whnf
    refine spl (fun g9 => ?_) (fun g9 => ?_)
    · replace h := iteT h g9
      conv => whnf
      refine CutK.go ?_
      conv => whnf
      cases h
      exact Done.of [some 640] [] rfl rfl ⟨⟨rfl, rfl⟩, ⟨rfl, ⟨rfl, rfl, rows_same⟩, trivial⟩, ⟨⟨⟨rfl, rfl⟩, trivial⟩, rfl, trivial⟩, trivial⟩
    · replace h := iteF h g9
      conv => whnf
      refine CutK.go ?_
      conv => whnf
      cases h
      exact Done.of [some 640] [] rfl rfl ⟨⟨rfl, rfl⟩, ⟨rfl, ⟨rfl, rfl, rows_same⟩, trivial⟩, ⟨⟨⟨rfl, rfl⟩, trivial⟩, rfl, trivial⟩, trivial⟩
  · replace h := iteF h g4
    conv => whnf
    refine CutK.go ?_
    conv => whnf
    cases h
    exact Done.of [none] [] rfl rfl ⟨⟨rfl, rfl⟩, ⟨rfl, rfl, trivial⟩, ⟨⟨⟨rfl, rfl⟩, trivial⟩, rfl, trivial⟩, trivial⟩

def spec_l1Cur_next  (a1 : Rw) (a2 : Int) (a3 : Int) : Option (Int × Rw × Int × Int) :=
  (if a2 < (a1.length : Int) then (row_iu8 a1 a2 fun x5 => (if (IntKind.i64.wrap (a2 + 1)) ≤ (a1.length : Int) then some (IntKind.i64.wrap x5, a1, IntKind.i64.wrap (a2 + 1), IntKind.u64.wrap ((IntKind.u64.wrap ((IntKind.u64.wrap (a3 * 6364136223846793005)) + (IntKind.u64.wrap (IntKind.i64.wrap x5)))) + 1442695040888963407)) else some (IntKind.i64.wrap (IntKind.u64.wrap (BitVec.ofInt (IntKind.u64).bits ((IntKind.u64.wrap ((IntKind.u64.wrap ((IntKind.u64.wrap (a3 * 6364136223846793005)) + (IntKind.u64.wrap (IntKind.i64.wrap x5)))) + 1442695040888963407)).fdiv (2 ^ (min (40 : Int).toNat (IntKind.u64).bits))) &&& BitVec.ofInt (IntKind.u64).bits 255).toNat), a1, IntKind.i64.wrap (a2 + 1), IntKind.u64.wrap ((IntKind.u64.wrap ((IntKind.u64.wrap (a3 * 6364136223846793005)) + (IntKind.u64.wrap (IntKind.i64.wrap x5)))) + 1442695040888963407)))) else (if (IntKind.i64.wrap (a2 + 1)) ≤ (a1.length : Int) then some (0, a1, IntKind.i64.wrap (a2 + 1), IntKind.u64.wrap ((IntKind.u64.wrap ((IntKind.u64.wrap (a3 * 6364136223846793005)) + (IntKind.u64.wrap 0))) + 1442695040888963407)) else some (IntKind.i64.wrap (IntKind.u64.wrap (BitVec.ofInt (IntKind.u64).bits ((IntKind.u64.wrap ((IntKind.u64.wrap ((IntKind.u64.wrap (a3 * 6364136223846793005)) + (IntKind.u64.wrap 0))) + 1442695040888963407)).fdiv (2 ^ (min (40 : Int).toNat (IntKind.u64).bits))) &&& BitVec.ofInt (IntKind.u64).bits 255).toNat), a1, IntKind.i64.wrap (a2 + 1), IntKind.u64.wrap ((IntKind.u64.wrap ((IntKind.u64.wrap (a3 * 6364136223846793005)) + (IntKind.u64.wrap 0))) + 1442695040888963407))))
set_option maxHeartbeats 4000000 in
set_option maxRecDepth 100000 in
theorem spec_l1Cur_next_ct  {a1 : Rw} {a2 : Int} {a3 : Int} {r : Int × Rw × Int × Int} (h : spec_l1Cur_next a1 a2 a3 = some r) : Ct prog 89 [.ptr 0 0] (⟨[(82, [.d (D.sl a1), .d (D.int .i64 a2), .d (D.int .u64 a3)])], []⟩) (.d (D.int .i64 r.1)) (⟨[(82, [.d (D.sl r.2.1), .d (D.int .i64 r.2.2.1), .d (D.int .u64 r.2.2.2)])], []⟩) := by
  rw [spec_l1Cur_next] at h
  refine Ct.of (c := _) mixed func89 ⟨rfl, rfl, rfl⟩ ?_ rfl
  conv => whnf
  refine splD (fun g4 => ?_) (fun g4 => ?_)
  · replace h := iteP h g4
    conv => whnf
    obtain ⟨g7, x5, e6, h⟩ := row_iu8_ex h
    refine Req.of g7 ?_
    refine Row.of _ e6 ?_
    conv => whnf
    refine splD (fun g8 => ?_) (fun g8 => ?_)
    · replace h := iteP h g8
      conv => whnf
      cases h
      exact Done.of [some 0] [] rfl rfl ⟨⟨rfl, rfl⟩, ⟨rfl, ⟨rfl, rfl, rfl, rfl, trivial⟩, trivial⟩, rfl, trivial⟩
    · replace h := iteN h g8
      conv => whnf
      refine Req.of (by decide) ?_
      conv => whnf
      cases h
      exact Done.of [some 0] [] rfl rfl ⟨⟨rfl, rfl⟩, ⟨rfl, ⟨rfl, rfl, rfl, rfl, trivial⟩, trivial⟩, rfl, trivial⟩
  · replace h := iteN h g4
    conv => whnf
    refine splD (fun g9 => ?_) (fun g9 => ?_)
    · replace h := iteP h g9
      conv => whnf
      cases h
      exact Done.of [some 0] [] rfl rfl ⟨⟨rfl, rfl⟩, ⟨rfl, ⟨rfl, rfl, rfl, rfl, trivial⟩, trivial⟩, rfl, trivial⟩
    · replace h := iteN h g9
      conv => whnf
      refine Req.of (by decide) ?_
      conv => whnf
      cases h
      exact Done.of [some 0] [] rfl rfl ⟨⟨rfl, rfl⟩, ⟨rfl, ⟨rfl, rfl, rfl, rfl, trivial⟩, trivial⟩, rfl, trivial⟩

def spec_l1Cur_pick  (a1 : Rw) (a2 : Int) (a3 : Int) (a4 : Int) : Option (Int × Rw × Int × Int) :=
  (if a4 ≤ (1 : Int) then some (0, a1, a2, a3) else ((spec_l1Cur_next a1 a2 a3).bind fun y6 => (if (200 : Int) < a4 then ((spec_l1Cur_next y6.2.1 y6.2.2.1 y6.2.2.2).bind fun y9 => (if a4 ≠ 0 then some ((IntKind.i64.wrap ((IntKind.i64.wrap (y6.1 * 256)) + y9.1)).tmod a4, y9.2.1, y9.2.2.1, y9.2.2.2) else none)) else (if a4 ≠ 0 then some (y6.1.tmod a4, y6.2.1, y6.2.2.1, y6.2.2.2) else none))))
set_option maxHeartbeats 4000000 in
set_option maxRecDepth 100000 in
theorem spec_l1Cur_pick_ct  {a1 : Rw} {a2 : Int} {a3 : Int} {a4 : Int} {r : Int × Rw × Int × Int} (h : spec_l1Cur_pick a1 a2 a3 a4 = some r) : Ct prog 54 [.ptr 0 0, .d (D.int .i64 a4)] (⟨[(82, [.d (D.sl a1), .d (D.int .i64 a2), .d (D.int .u64 a3)])], []⟩) (.d (D.int .i64 r.1)) (⟨[(82, [.d (D.sl r.2.1), .d (D.int .i64 r.2.2.1), .d (D.int .u64 r.2.2.2)])], []⟩) := by
  rw [spec_l1Cur_pick] at h
  refine Ct.of (c := _) mixed func54 ⟨rfl, rfl, rfl⟩ ?_ rfl
  conv => whnf
  refine splD (fun g5 => ?_) (fun g5 => ?_)
  · replace h := iteP h g5
    conv => whnf
    cases h
    exact Done.of [some 0] [] rfl rfl ⟨⟨rfl, rfl⟩, ⟨rfl, ⟨rfl, rfl, rfl, rfl, trivial⟩, trivial⟩, rfl, trivial⟩
  · replace h := iteN h g5
    conv => whnf
    refine Pick.no ?_
    conv => whnf
    obtain ⟨y6, e7, h⟩ := bind_ex h
    refine CallOk.of (spec_l1Cur_next_ct e7) ?_
    conv => whnf
    refine CutK.go ?_
    conv => whnf
    refine splD (fun g8 => ?_) (fun g8 => ?_)
    · replace h := iteP h g8
      conv => whnf
      refine Pick.no ?_
      conv => whnf
      obtain ⟨y9, e10, h⟩ := bind_ex h
      refine CallOk.of (spec_l1Cur_next_ct e10) ?_
      conv => whnf
      refine CutK.go ?_
      conv => whnf
      obtain ⟨g11, h⟩ := req_ex h
      refine Req.of g11 ?_
      conv => whnf
      cases h
      exact Done.of [some 0] [] rfl rfl ⟨⟨rfl, rfl⟩, ⟨rfl, ⟨rfl, rfl, rfl, rfl, trivial⟩, trivial⟩, rfl, trivial⟩
    · replace h := iteN h g8
      conv => whnf
      refine CutK.go ?_
      conv => whnf
      obtain ⟨g12, h⟩ := req_ex h
      refine Req.of g12 ?_
      conv => whnf
      cases h
      exact Done.of [some 0] [] rfl rfl ⟨⟨rfl, rfl⟩, ⟨rfl, ⟨rfl, rfl, rfl, rfl, trivial⟩, trivial⟩, rfl, trivial⟩

def spec_l1Cur_one  (a1 : Rw) (a2 : Int) (a3 : Int) (a4 : Int) : Option (Bool × Rw × Int × Int) :=
  ((spec_l1Cur_pick a1 a2 a3 a4).bind fun y5 => (if y5.1 = (0 : Int) then some (true, y5.2.1, y5.2.2.1, y5.2.2.2) else some (false, y5.2.1, y5.2.2.1, y5.2.2.2)))
set_option maxHeartbeats 4000000 in
set_option maxRecDepth 100000 in
theorem spec_l1Cur_one_ct  {a1 : Rw} {a2 : Int} {a3 : Int} {a4 : Int} {r : Bool × Rw × Int × Int} (h : spec_l1Cur_one a1 a2 a3 a4 = some r) : Ct prog 56 [.ptr 0 0, .d (D.int .i64 a4)] (⟨[(82, [.d (D.sl a1), .d (D.int .i64 a2), .d (D.int .u64 a3)])], []⟩) (.d (D.bool r.1)) (⟨[(82, [.d (D.sl r.2.1), .d (D.int .i64 r.2.2.1), .d (D.int .u64 r.2.2.2)])], []⟩) := by
  rw [spec_l1Cur_one] at h
  refine Ct.of (c := _) mixed func56 ⟨rfl, rfl, rfl⟩ ?_ rfl
  conv => whnf
  refine Pick.no ?_
  conv => whnf
  obtain ⟨y5, e6, h⟩ := bind_ex h
  refine CallOk.of (spec_l1Cur_pick_ct e6) ?_
  conv => whnf
  refine splD (fun g7 => ?_) (fun g7 => ?_)
  · replace h := iteP h g7
    conv => whnf
    refine CutK.go ?_
    conv => whnf
    cases h
    exact Done.of [some 0] [] rfl rfl ⟨⟨rfl, rfl⟩, ⟨rfl, ⟨rfl, rfl, rfl, rfl, trivial⟩, trivial⟩, rfl, trivial⟩
  · replace h := iteN h g7
    conv => whnf
    refine CutK.go ?_
    conv => whnf
    cases h
    exact Done.of [some 0] [] rfl rfl ⟨⟨rfl, rfl⟩, ⟨rfl, ⟨rfl, rfl, rfl, rfl, trivial⟩, trivial⟩, rfl, trivial⟩

def spec_l1Cur_hydra_p6 (o99 : Rw) (o100 : Int) (o101 : Int) (o102 : Rw) : Option (Rw × Rw × Int × Int) :=
  some (o102, o99, o100, o101)
set_option maxHeartbeats 4000000 in
set_option maxRecDepth 100000 in
theorem spec_l1Cur_hydra_p6_ct {o99 : Rw} {o100 : Int} {o101 : Int} {o102 : Rw} {r : Rw × Rw × Int × Int} (h : spec_l1Cur_hydra_p6 o99 o100 o101 o102 = some r) : X prog 1 (tlF f53 6) (mk 64 [(2, .ptr 128 0), (3, .ptr 192 0)] [(0, .box 82 [.d (D.sl o99), .d (D.int .i64 o100), .d (D.int .u64 o101)]), (128, .box 31 [.es]), (192, .box 31 [.os 1094000 o102.length]), (1094000, .arr 3 true o102)]) (finK prog f53 1 (.agg [.os 8 r.1.length]) (⟨[(82, [.d (D.sl r.2.1), .d (D.int .i64 r.2.2.1), .d (D.int .u64 r.2.2.2)])], [(3, true, r.1)]⟩)) := by
  rw [spec_l1Cur_hydra_p6] at h
  conv => whnf
  cases h
  exact Done.of [some 0, some 1094000] [] rfl rfl ⟨⟨rfl, rfl⟩, ⟨rfl, ⟨rfl, rfl, rfl, rfl, trivial⟩, ⟨rfl, rfl, rows_same⟩, trivial⟩, ⟨⟨rfl, rfl⟩, trivial⟩, trivial⟩
def spec_l1Cur_hydra_p5 (o84 : Rw) (o85 : Int) (o86 : Int) (o87 : Rw) : Option (Rw × Rw × Int × Int) :=
  ((spec_l1Cur_pick o84 o85 o86 14).bind fun y104 => (if y104.1 = (0 : Int) then ((spec_l1Cur_pick y104.2.1 y104.2.2.1 y104.2.2.2 (o87.length : Int)).bind fun y107 => ((spec_l1Cur_pick y107.2.1 y107.2.2.1 y107.2.2.2 8).bind fun y109 => (if 0 ≤ y107.1 ∧ y107.1 < (o87.length : Int) then (row_i o87 y107.1 fun x112 => (spec_l1Cur_hydra_p6 y109.2.1 y109.2.2.1 y109.2.2.2 (o87.set ((y107.1 : Int).toNat) [D.int .i64 (IntKind.i64.wrap (y109.1 - 2))]))) else none))) else (if y104.1 = (1 : Int) then (spec_l1Cur_hydra_p6 y104.2.1 y104.2.2.1 y104.2.2.2 ([] : Rw)) else (spec_l1Cur_hydra_p6 y104.2.1 y104.2.2.1 y104.2.2.2 o87))))
set_option maxHeartbeats 4000000 in
set_option maxRecDepth 100000 in
theorem spec_l1Cur_hydra_p5_ct {o84 : Rw} {o85 : Int} {o86 : Int} {o87 : Rw} {r : Rw × Rw × Int × Int} (h : spec_l1Cur_hydra_p5 o84 o85 o86 o87 = some r) : X prog 1 (tlF f53 5) (mk 64 [(0, .ptr 0 0), (2, .ptr 128 0), (3, .ptr 192 0)] [(0, .box 82 [.d (D.sl o84), .d (D.int .i64 o85), .d (D.int .u64 o86)]), (128, .box 31 [.es]), (192, .box 31 [.os 1089000 o87.length]), (1089000, .arr 3 true o87)]) (finK prog f53 1 (.agg [.os 8 r.1.length]) (⟨[(82, [.d (D.sl r.2.1), .d (D.int .i64 r.2.2.1), .d (D.int .u64 r.2.2.2)])], [(3, true, r.1)]⟩)) := by
  rw [spec_l1Cur_hydra_p5] at h
  conv => whnf
  refine Pick.no ?_
  conv => whnf
  obtain ⟨y104, e105, h⟩ := bind_ex h
  refine CallOk.of (spec_l1Cur_pick_ct e105) ?_
  conv => whnf
  refine CutK.norm [0, 2, 3, 46] [0, 128, 192, 1089000] ?_
  conv => whnf
  refine splD (fun g106 => ?_) (fun g106 => ?_)
  · replace h := iteP h g106
    conv => whnf
    refine Pick.no ?_
    conv => whnf
    obtain ⟨y107, e108, h⟩ := bind_ex h
    refine CallOk.of (spec_l1Cur_pick_ct e108) ?_
    conv => whnf
    refine Pick.no ?_
    conv => whnf
    obtain ⟨y109, e110, h⟩ := bind_ex h
    refine CallOk.of (spec_l1Cur_pick_ct e110) ?_
    conv => whnf
    obtain ⟨g111, h⟩ := req_ex h
    refine Req.of g111 ?_
    conv => whnf
    obtain ⟨g114, x112, e113, h⟩ := row_i_ex h
    refine Row.of _ e113 ?_
    conv => whnf
    exact CutK.piece (spec_l1Cur_hydra_p6_ct  h) [some 0, some 128, some 192, some 1089000] [] ⟨⟨rfl, rfl⟩, ⟨rfl, ⟨rfl, rfl, rfl, rfl, trivial⟩, ⟨rfl, trivial, trivial⟩, ⟨rfl, ⟨(by first | rfl | exact List.length_append.symm | (simp; done) | omega | (dsimp only; omega)), rfl⟩, trivial⟩, ⟨rfl, rfl, rows_same⟩, trivial⟩, ⟨rfl, rfl⟩, ⟨rfl, rfl⟩, trivial⟩
  · replace h := iteN h g106
    conv => whnf
    refine splD (fun g115 => ?_) (fun g115 => ?_)
    · replace h := iteP h g115
      conv => whnf
      exact CutK.piece (spec_l1Cur_hydra_p6_ct  h) [some 0, some 128, some 192, none] [] ⟨⟨rfl, rfl⟩, ⟨rfl, ⟨rfl, rfl, rfl, rfl, trivial⟩, ⟨rfl, trivial, trivial⟩, ⟨rfl, ⟨rfl, rfl⟩, trivial⟩, rfl, trivial⟩, ⟨rfl, rfl⟩, ⟨rfl, rfl⟩, trivial⟩
    · replace h := iteN h g115
      conv => whnf
      exact CutK.piece (spec_l1Cur_hydra_p6_ct  h) [some 0, some 128, some 192, some 1089000] [] ⟨⟨rfl, rfl⟩, ⟨rfl, ⟨rfl, rfl, rfl, rfl, trivial⟩, ⟨rfl, trivial, trivial⟩, ⟨rfl, ⟨rfl, rfl⟩, trivial⟩, ⟨rfl, rfl, rows_same⟩, trivial⟩, ⟨rfl, rfl⟩, ⟨rfl, rfl⟩, trivial⟩
def spec_l1Cur_hydra_l1 (v122 : Int) (v126 : Rw) (y182 : Int × Rw × Int × Int) (K2 : Int → Option (Rw × Rw × Int × Int)) : Nat → Int → Int → Option (Rw × Rw × Int × Int)
  | 0, _, _ => none
  | n + 1, v190, v191 => (if (0 : Int) < v191 then (if (0 : Int) < v190 then (if 0 ≤ v190 ∧ v190 < (v126.length : Int) then (row_i v126 v190 fun x208 => (spec_l1Cur_hydra_l1 v122 v126 y182 K2 n x208 (IntKind.i64.wrap (v191 - 1)))) else none) else (K2 v190)) else (K2 v190))
set_option maxHeartbeats 4000000 in
set_option maxRecDepth 100000 in
theorem spec_l1Cur_hydra_l1_ct {v122 : Int} {v126 : Rw} {y182 : Int × Rw × Int × Int} {K2 : Int → Option (Rw × Rw × Int × Int)} {r : Rw × Rw × Int × Int} : ∀ (n : Nat) (v190 : Int) (v191 : Int), spec_l1Cur_hydra_l1 v122 v126 y182 K2 n v190 v191 = some r → LoopOk prog 1 (lp f53 1) (mk 64 [(0, .ptr 0 0), (2, .ptr 128 0), (3, .ptr 192 0), (4, .d (D.int .i64 v122)), (5, .d (D.int .i64 v190)), (6, .d (D.int .i64 v191))] [(0, .box 82 [.d (D.sl y182.2.1), .d (D.int .i64 y182.2.2.1), .d (D.int .u64 y182.2.2.2)]), (128, .box 31 [.es]), (192, .box 31 [.os 76800 v126.length]), (76800, .arr 3 true v126)]) (LoopEnd prog f53 1 64 (.agg [.os 8 r.1.length]) (⟨[(82, [.d (D.sl r.2.1), .d (D.int .i64 r.2.2.1), .d (D.int .u64 r.2.2.2)])], [(3, true, r.1)]⟩) (fun i ts os => (i = 2 ∧ ∃ v198 : Int, K2 v198 = some r ∧ ts = [(0, .ptr 0 0), (2, .ptr 128 0), (3, .ptr 192 0), (4, .d (D.int .i64 v122)), (5, .d (D.int .i64 v198))] ∧ os = [(0, .box 82 [.d (D.sl y182.2.1), .d (D.int .i64 y182.2.2.1), .d (D.int .u64 y182.2.2.2)]), (128, .box 31 [.es]), (192, .box 31 [.os 79801 v126.length]), (79801, .arr 3 true v126)])))
  | 0, _, _, h => by
      rw [spec_l1Cur_hydra_l1] at h; cases h
  | n + 1, v190, v191, h => by
      rw [spec_l1Cur_hydra_l1] at h
      refine LoopOk.step ?_
      conv => whnf
      refine splD (fun g205 => ?_) (fun g205 => ?_)
      · replace h := iteP h g205
        conv => whnf
        refine splD (fun g206 => ?_) (fun g206 => ?_)
        · replace h := iteP h g206
          conv => whnf
          obtain ⟨g207, h⟩ := req_ex h
          refine Req.of g207 ?_
          conv => whnf
          obtain ⟨g210, x208, e209, h⟩ := row_i_ex h
          refine Row.of _ e209 ?_
          conv => whnf
          exact LoopOk.back (spec_l1Cur_hydra_l1_ct  n _ _ h) [some 0, some 128, some 192, some 76800] [] ⟨⟨rfl, rfl⟩, ⟨rfl, ⟨rfl, rfl, rfl, rfl, trivial⟩, ⟨rfl, trivial, trivial⟩, ⟨rfl, ⟨rfl, rfl⟩, trivial⟩, ⟨rfl, rfl, rows_same⟩, trivial⟩, ⟨rfl, rfl⟩, ⟨rfl, rfl⟩, ⟨rfl, rfl⟩, rfl, rfl, rfl, trivial⟩
        · replace h := iteN h g206
          conv => whnf
          exact ⟨_, _, [some 0, some 128, some 192, some 76800], [], ⟨rfl, _, h, rfl, rfl⟩, ⟨⟨rfl, rfl⟩, ⟨rfl, ⟨rfl, rfl, rfl, rfl, trivial⟩, ⟨rfl, trivial, trivial⟩, ⟨rfl, ⟨rfl, rfl⟩, trivial⟩, ⟨rfl, rfl, rows_same⟩, trivial⟩, ⟨rfl, rfl⟩, ⟨rfl, rfl⟩, ⟨rfl, rfl⟩, rfl, rfl, trivial⟩⟩
      · replace h := iteN h g205
        conv => whnf
        exact ⟨_, _, [some 0, some 128, some 192, some 76800], [], ⟨rfl, _, h, rfl, rfl⟩, ⟨⟨rfl, rfl⟩, ⟨rfl, ⟨rfl, rfl, rfl, rfl, trivial⟩, ⟨rfl, trivial, trivial⟩, ⟨rfl, ⟨rfl, rfl⟩, trivial⟩, ⟨rfl, rfl, rows_same⟩, trivial⟩, ⟨rfl, rfl⟩, ⟨rfl, rfl⟩, ⟨rfl, rfl⟩, rfl, rfl, trivial⟩⟩
def spec_l1Cur_hydra_l0 (k : Nat) (K0 : Rw → Int → Int → Rw → Option (Rw × Rw × Int × Int)) : Nat → Int → Rw → Int → Int → Rw → Option (Rw × Rw × Int × Int)
  | 0, _, _, _, _, _ => none
  | n + 1, v122, v123, v124, v125, v126 => (if (0 : Int) < v122 then ((spec_l1Cur_pick v123 v124 v125 4).bind fun y182 => (spec_l1Cur_hydra_l1 v122 v126 y182 (fun (v198 : Int) => (if v126.length + 1 ≤ cap then (spec_l1Cur_hydra_l0 k K0 n (IntKind.i64.wrap (v122 - 1)) y182.2.1 y182.2.2.1 y182.2.2.2 (v126 ++ ([[D.int .i64 v198]]))) else none)) k (IntKind.i64.wrap ((v126.length : Int) - 1)) y182.1)) else (K0 v123 v124 v125 v126))
set_option maxHeartbeats 4000000 in
set_option maxRecDepth 100000 in
theorem spec_l1Cur_hydra_l0_ct {k : Nat} {K0 : Rw → Int → Int → Rw → Option (Rw × Rw × Int × Int)} {r : Rw × Rw × Int × Int} : ∀ (n : Nat) (v122 : Int) (v123 : Rw) (v124 : Int) (v125 : Int) (v126 : Rw), spec_l1Cur_hydra_l0 k K0 n v122 v123 v124 v125 v126 = some r → LoopOk prog 1 (lp f53 0) (mk 64 [(0, .ptr 0 0), (2, .ptr 128 0), (3, .ptr 192 0), (4, .d (D.int .i64 v122))] [(0, .box 82 [.d (D.sl v123), .d (D.int .i64 v124), .d (D.int .u64 v125)]), (128, .box 31 [.es]), (192, .box 31 [.os 64000 v126.length]), (64000, .arr 3 true v126)]) (LoopEnd prog f53 1 64 (.agg [.os 8 r.1.length]) (⟨[(82, [.d (D.sl r.2.1), .d (D.int .i64 r.2.2.1), .d (D.int .u64 r.2.2.2)])], [(3, true, r.1)]⟩) (fun i ts os => (i = 0 ∧ ∃ v152 : Rw, ∃ v153 : Int, ∃ v154 : Int, ∃ v155 : Rw, K0 v152 v153 v154 v155 = some r ∧ ts = [(0, .ptr 0 0), (2, .ptr 128 0), (3, .ptr 192 0)] ∧ os = [(0, .box 82 [.d (D.sl v152), .d (D.int .i64 v153), .d (D.int .u64 v154)]), (128, .box 31 [.es]), (192, .box 31 [.os 67001 v155.length]), (67001, .arr 3 true v155)])))
  | 0, _, _, _, _, _, h => by
      rw [spec_l1Cur_hydra_l0] at h; cases h
  | n + 1, v122, v123, v124, v125, v126, h => by
      rw [spec_l1Cur_hydra_l0] at h
      refine LoopOk.step ?_
      conv => whnf
      refine splD (fun g181 => ?_) (fun g181 => ?_)
      · replace h := iteP h g181
        conv => whnf
        refine Pick.no ?_
        conv => whnf
        obtain ⟨y182, e183, h⟩ := bind_ex h
        refine CallOk.of (spec_l1Cur_pick_ct e183) ?_
        conv => whnf
        refine CutK.norm [0, 2, 3, 4, 5, 6] [0, 128, 192, 64000] ?_
        conv => whnf
        refine LoopOk.into (spec_l1Cur_hydra_l1_ct  _ _ _ h) [some 0, some 128, some 192, some 64000] [] ⟨⟨rfl, rfl⟩, ⟨rfl, ⟨rfl, rfl, rfl, rfl, trivial⟩, ⟨rfl, trivial, trivial⟩, ⟨rfl, ⟨rfl, rfl⟩, trivial⟩, ⟨rfl, rfl, rows_same⟩, trivial⟩, ⟨rfl, rfl⟩, ⟨rfl, rfl⟩, ⟨rfl, rfl⟩, rfl, rfl, rfl, trivial⟩ ?_ (fun _ hs => hs)
        rintro i ts os ⟨rfl, v198, h, rfl, rfl⟩
        conv => whnf
        refine CutK.norm [0, 2, 3, 4, 5] [0, 128, 192, 79801] ?_
        conv => whnf
        refine Take.all (rfl) ?_
        conv => whnf
        refine Take.all (by first | rfl | exact List.length_append.symm | (simp; done) | omega | (dsimp only; omega)) ?_
        conv => whnf
        obtain ⟨g211, h⟩ := req_ex h
        refine Req.of (room (b := 8) (by decide) g211 (wide1 rfl wide0)) ?_
        conv => whnf
        refine CutK.norm [0, 2, 3, 4] [0, 128, 192, 2752] ?_
        conv => whnf
        exact LoopOk.back (spec_l1Cur_hydra_l0_ct  n _ _ _ _ _ h) [some 0, some 128, some 192, some 2752] [] ⟨⟨rfl, rfl⟩, ⟨rfl, ⟨rfl, rfl, rfl, rfl, trivial⟩, ⟨rfl, trivial, trivial⟩, ⟨rfl, ⟨(by first | rfl | exact List.length_append.symm | (simp; done) | omega | (dsimp only; omega)), rfl⟩, trivial⟩, ⟨rfl, rfl, rows_same⟩, trivial⟩, ⟨rfl, rfl⟩, ⟨rfl, rfl⟩, ⟨rfl, rfl⟩, rfl, trivial⟩
      · replace h := iteN h g181
        conv => whnf
        exact ⟨_, _, [some 0, some 128, some 192, some 64000], [], ⟨rfl, _, _, _, _, h, rfl, rfl⟩, ⟨⟨rfl, rfl⟩, ⟨rfl, ⟨rfl, rfl, rfl, rfl, trivial⟩, ⟨rfl, trivial, trivial⟩, ⟨rfl, ⟨rfl, rfl⟩, trivial⟩, ⟨rfl, rfl, rows_same⟩, trivial⟩, ⟨rfl, rfl⟩, ⟨rfl, rfl⟩, ⟨rfl, rfl⟩, trivial⟩⟩
def spec_l1Cur_hydra_p4 (k : Nat) (o15 : Int) (o16 : Rw) (o17 : Int) (o18 : Int) : Option (Rw × Rw × Int × Int) :=
  (spec_l1Cur_hydra_l0 k (fun (v152 : Rw) (v153 : Int) (v154 : Int) (v155 : Rw) => (spec_l1Cur_hydra_p5 v152 v153 v154 v155)) k o15 o16 o17 o18 ([[D.int .i64 (-1)]] : Rw))
set_option maxHeartbeats 4000000 in
set_option maxRecDepth 100000 in
theorem spec_l1Cur_hydra_p4_ct {k : Nat} {o15 : Int} {o16 : Rw} {o17 : Int} {o18 : Int} {r : Rw × Rw × Int × Int} (h : spec_l1Cur_hydra_p4 k o15 o16 o17 o18 = some r) : X prog 1 (tlF f53 4) (mk 64 [(0, .ptr 0 0), (2, .ptr 128 0), (3, .ptr 192 0), (4, .d (D.int .i64 o15))] [(0, .box 82 [.d (D.sl o16), .d (D.int .i64 o17), .d (D.int .u64 o18)]), (128, .box 31 [.es]), (192, .box 31 [.os 1084000 1]), (1084000, .arr 3 true ([[D.int .i64 (-1)]]))]) (finK prog f53 1 (.agg [.os 8 r.1.length]) (⟨[(82, [.d (D.sl r.2.1), .d (D.int .i64 r.2.2.1), .d (D.int .u64 r.2.2.2)])], [(3, true, r.1)]⟩)) := by
  rw [spec_l1Cur_hydra_p4] at h
  conv => whnf
  refine LoopOk.into (spec_l1Cur_hydra_l0_ct  _ _ _ _ _ _ h) [some 0, some 128, some 192, some 1084000] [] ⟨⟨rfl, rfl⟩, ⟨rfl, ⟨rfl, rfl, rfl, rfl, trivial⟩, ⟨rfl, trivial, trivial⟩, ⟨rfl, ⟨(by first | rfl | exact List.length_append.symm | (simp; done) | omega | (dsimp only; omega)), rfl⟩, trivial⟩, ⟨rfl, rfl, rows_same⟩, trivial⟩, ⟨rfl, rfl⟩, ⟨rfl, rfl⟩, ⟨rfl, rfl⟩, rfl, trivial⟩ ?_ (fun _ hs => hs)
  rintro i ts os ⟨rfl, v152, v153, v154, v155, h, rfl, rfl⟩
  conv => whnf
  exact CutK.piece (spec_l1Cur_hydra_p5_ct  h) [some 0, some 128, some 192, some 67001] [] ⟨⟨rfl, rfl⟩, ⟨rfl, ⟨rfl, rfl, rfl, rfl, trivial⟩, ⟨rfl, trivial, trivial⟩, ⟨rfl, ⟨rfl, rfl⟩, trivial⟩, ⟨rfl, rfl, rows_same⟩, trivial⟩, ⟨rfl, rfl⟩, ⟨rfl, rfl⟩, ⟨rfl, rfl⟩, trivial⟩
def spec_l1Cur_hydra_p3 (k : Nat) (o6 : Int) (o7 : Rw) (o8 : Int) (o9 : Int) : Option (Rw × Rw × Int × Int) :=
  ((spec_l1Cur_one o7 o8 o9 20).bind fun y212 => (if y212.1 = true then ((spec_l1Cur_pick y212.2.1 y212.2.2.1 y212.2.2.2 2).bind fun y215 => (spec_l1Cur_hydra_p4 k (IntKind.i64.wrap (40 - y215.1)) y215.2.1 y215.2.2.1 y215.2.2.2)) else (spec_l1Cur_hydra_p4 k o6 y212.2.1 y212.2.2.1 y212.2.2.2)))
set_option maxHeartbeats 4000000 in
set_option maxRecDepth 100000 in
theorem spec_l1Cur_hydra_p3_ct {k : Nat} {o6 : Int} {o7 : Rw} {o8 : Int} {o9 : Int} {r : Rw × Rw × Int × Int} (h : spec_l1Cur_hydra_p3 k o6 o7 o8 o9 = some r) : X prog 1 (tlF f53 3) (mk 64 [(0, .ptr 0 0), (2, .ptr 128 0), (3, .ptr 192 0), (4, .d (D.int .i64 o6))] [(0, .box 82 [.d (D.sl o7), .d (D.int .i64 o8), .d (D.int .u64 o9)]), (128, .box 31 [.es]), (192, .box 31 [.os 1079000 1]), (1079000, .arr 3 true ([[D.int .i64 (-1)]]))]) (finK prog f53 1 (.agg [.os 8 r.1.length]) (⟨[(82, [.d (D.sl r.2.1), .d (D.int .i64 r.2.2.1), .d (D.int .u64 r.2.2.2)])], [(3, true, r.1)]⟩)) := by
  rw [spec_l1Cur_hydra_p3] at h
  conv => whnf
  refine Pick.no ?_
  conv => whnf
  obtain ⟨y212, e213, h⟩ := bind_ex h
  refine CallOk.of (spec_l1Cur_one_ct e213) ?_
  conv => whnf
  refine spl (fun g214 => ?_) (fun g214 => ?_)
  · replace h := iteT h g214
    conv => whnf
    refine CutK.norm [0, 2, 3, 4, 12] [0, 128, 192, 1079000] ?_
    conv => whnf
    refine Pick.no ?_
    conv => whnf
    obtain ⟨y215, e216, h⟩ := bind_ex h
    refine CallOk.of (spec_l1Cur_pick_ct e216) ?_
    conv => whnf
    exact CutK.piece (spec_l1Cur_hydra_p4_ct  h) [some 0, some 128, some 192, some 1079000] [] ⟨⟨rfl, rfl⟩, ⟨rfl, ⟨rfl, rfl, rfl, rfl, trivial⟩, ⟨rfl, trivial, trivial⟩, ⟨rfl, ⟨(by first | rfl | exact List.length_append.symm | (simp; done) | omega | (dsimp only; omega)), rfl⟩, trivial⟩, ⟨rfl, rfl, rows_same⟩, trivial⟩, ⟨rfl, rfl⟩, ⟨rfl, rfl⟩, ⟨rfl, rfl⟩, rfl, trivial⟩
  · replace h := iteF h g214
    conv => whnf
    refine CutK.norm [0, 2, 3, 4, 12] [0, 128, 192, 1079000] ?_
    conv => whnf
    exact CutK.piece (spec_l1Cur_hydra_p4_ct  h) [some 0, some 128, some 192, some 1079000] [] ⟨⟨rfl, rfl⟩, ⟨rfl, ⟨rfl, rfl, rfl, rfl, trivial⟩, ⟨rfl, trivial, trivial⟩, ⟨rfl, ⟨(by first | rfl | exact List.length_append.symm | (simp; done) | omega | (dsimp only; omega)), rfl⟩, trivial⟩, ⟨rfl, rfl, rows_same⟩, trivial⟩, ⟨rfl, rfl⟩, ⟨rfl, rfl⟩, ⟨rfl, rfl⟩, rfl, trivial⟩
def spec_l1Cur_hydra (k : Nat) (a1 : Rw) (a2 : Int) (a3 : Int) : Option (Rw × Rw × Int × Int) :=
  ((spec_l1Cur_pick a1 a2 a3 9).bind fun y217 => (spec_l1Cur_hydra_p3 k y217.1 y217.2.1 y217.2.2.1 y217.2.2.2))
set_option maxHeartbeats 4000000 in
set_option maxRecDepth 100000 in
theorem spec_l1Cur_hydra_ct {k : Nat} {a1 : Rw} {a2 : Int} {a3 : Int} {r : Rw × Rw × Int × Int} (h : spec_l1Cur_hydra k a1 a2 a3 = some r) : Ct prog 53 [.ptr 0 0] (⟨[(82, [.d (D.sl a1), .d (D.int .i64 a2), .d (D.int .u64 a3)])], []⟩) (.agg [.os 8 r.1.length]) (⟨[(82, [.d (D.sl r.2.1), .d (D.int .i64 r.2.2.1), .d (D.int .u64 r.2.2.2)])], [(3, true, r.1)]⟩) := by
  rw [spec_l1Cur_hydra] at h
  refine Ct.of (c := _) mixed func53 ⟨rfl, rfl, rfl⟩ ?_ rfl
  conv => whnf
  refine Pick.no ?_
  conv => whnf
  obtain ⟨y217, e218, h⟩ := bind_ex h
  refine CallOk.of (spec_l1Cur_pick_ct e218) ?_
  conv => whnf
  exact CutK.piece (spec_l1Cur_hydra_p3_ct  h) [some 0, some 128, some 192, some 448] [] ⟨⟨rfl, rfl⟩, ⟨rfl, ⟨rfl, rfl, rfl, rfl, trivial⟩, ⟨rfl, trivial, trivial⟩, ⟨rfl, ⟨(by first | rfl | exact List.length_append.symm | (simp; done) | omega | (dsimp only; omega)), rfl⟩, trivial⟩, ⟨rfl, rfl, rows_same⟩, trivial⟩, ⟨rfl, rfl⟩, ⟨rfl, rfl⟩, ⟨rfl, rfl⟩, rfl, trivial⟩

def spec_DrawHydraOrdinal (k : Nat) (a1 : Rw) : Option Rw :=
  ((spec_l1Cur_hydra k a1 0 0).bind fun y2 => some y2.1)
set_option maxHeartbeats 4000000 in
set_option maxRecDepth 100000 in
theorem spec_DrawHydraOrdinal_ct {k : Nat} {a1 : Rw} {r : Rw} (h : spec_DrawHydraOrdinal k a1 = some r) : Ct prog 33 [.d (D.sl a1)] (⟨[], []⟩) (.agg [.os 8 r.length]) (⟨[], [(3, true, r)]⟩) := by
  rw [spec_DrawHydraOrdinal] at h
  refine Ct.of (c := _) mixed func33 ⟨rfl, rfl, rfl⟩ ?_ rfl
  conv => whnf
  refine Pick.no ?_
  conv => whnf
  obtain ⟨y2, e3, h⟩ := bind_ex h
  refine CallOk.of (spec_l1Cur_hydra_ct e3) ?_
  conv => whnf
  refine CutK.go ?_
  conv => whnf
  cases h
  exact Done.of [some 512] [] rfl rfl ⟨⟨rfl, rfl⟩, ⟨rfl, ⟨rfl, rfl, rows_same⟩, trivial⟩, ⟨⟨rfl, rfl⟩, trivial⟩, trivial⟩

def laws_big  (a1 : Rw) (a2 : Rw) : Option Bool :=
  (if (1048576 : Int) < (a1.length : Int) then some true else (if (IntKind.i64.wrap (1048576 - (a1.length : Int))) < (a2.length : Int) then some true else some false))
set_option maxHeartbeats 4000000 in
set_option maxRecDepth 100000 in
theorem laws_big_ct  {a1 : Rw} {a2 : Rw} {r : Bool} (h : laws_big a1 a2 = some r) : Ct prog 18 [.d (D.sl a1), .d (D.sl a2)] (⟨[], []⟩) (.d (D.bool r)) (⟨[], []⟩) := by
  rw [laws_big] at h
  refine Ct.of (c := _) mixed func18 ⟨rfl, rfl, rfl⟩ ?_ rfl
  conv => whnf
  refine splD (fun g3 => ?_) (fun g3 => ?_)
  · replace h := iteP h g3
    conv => whnf
    cases h
    exact Done.of [] [] rfl rfl ⟨⟨rfl, rfl⟩, ⟨rfl, trivial⟩, rfl, trivial⟩
  · replace h := iteN h g3
    conv => whnf
    refine splD (fun g4 => ?_) (fun g4 => ?_)
    · replace h := iteP h g4
      conv => whnf
      cases h
      exact Done.of [] [] rfl rfl ⟨⟨rfl, rfl⟩, ⟨rfl, trivial⟩, rfl, trivial⟩
    · replace h := iteN h g4
      conv => whnf
      cases h
      exact Done.of [] [] rfl rfl ⟨⟨rfl, rfl⟩, ⟨rfl, trivial⟩, rfl, trivial⟩
end
end Go.Proofs.Try
