/- Printed by program (axgen): pure functions, and that the Go functions compute them. -/
import Derived.Test.YtmihoieaiojbhaaProg
import Derived.Test.YtmihoieaiojbhaaAxC
import Derived.KernelRfl
import Derived.Test.YtmihoieaiojbhaaShelf
import Derived.Test.YtmihoieaiojbhaaDel
set_option linter.unusedVariables false
set_option linter.unusedSimpArgs false
namespace Go.Proofs.Try
open Go Go.AX
theorem mixed : prog.follows .mixedOrders = true := by kernel_rfl
def cell_sii {α : Type} (cs : List D) (K : Rw → Int → Int → Option α) : Option α := match cs with | [.sl a0, .int .i64 a1, .int .i64 a2] => K a0 a1 a2 | _ => none
def row_sii {α : Type} (es : Rw) (i : Int) (K : Rw → Int → Int → Option α) : Option α := if 0 ≤ i then (match es[i.toNat]? with | some cs => cell_sii cs K | none => none) else none
theorem cell_sii_ex {α : Type} {cs : List D} {K : Rw → Int → Int → Option α} {r : α} (h : cell_sii cs K = some r) : ∃ a0 a1 a2, cs = [.sl a0, .int .i64 a1, .int .i64 a2] ∧ K a0 a1 a2 = some r := by
  unfold cell_sii at h
  split at h
  · exact ⟨_, _, _, rfl, h⟩
  · cases h
theorem row_sii_ex {α : Type} {es : Rw} {i : Int} {K : Rw → Int → Int → Option α} {r : α} (h : row_sii es i K = some r) : 0 ≤ i ∧ ∃ a0 a1 a2, es[i.toNat]? = some [.sl a0, .int .i64 a1, .int .i64 a2] ∧ K a0 a1 a2 = some r := by
  unfold row_sii at h
  obtain ⟨g, h⟩ := req_ex h
  split at h
  · rename_i cs e
    obtain ⟨a0, a1, a2, rfl, h⟩ := cell_sii_ex h
    exact ⟨g, a0, a1, a2, e, h⟩
  · cases h
def cell_ts {α : Type} (cs : List D) (K : ByteArray → Rw → Option α) : Option α := match cs with | [.str a0, .sl a1] => K a0 a1 | _ => none
def row_ts {α : Type} (es : Rw) (i : Int) (K : ByteArray → Rw → Option α) : Option α := if 0 ≤ i then (match es[i.toNat]? with | some cs => cell_ts cs K | none => none) else none
theorem cell_ts_ex {α : Type} {cs : List D} {K : ByteArray → Rw → Option α} {r : α} (h : cell_ts cs K = some r) : ∃ a0 a1, cs = [.str a0, .sl a1] ∧ K a0 a1 = some r := by
  unfold cell_ts at h
  split at h
  · exact ⟨_, _, rfl, h⟩
  · cases h
theorem row_ts_ex {α : Type} {es : Rw} {i : Int} {K : ByteArray → Rw → Option α} {r : α} (h : row_ts es i K = some r) : 0 ≤ i ∧ ∃ a0 a1, es[i.toNat]? = some [.str a0, .sl a1] ∧ K a0 a1 = some r := by
  unfold row_ts at h
  obtain ⟨g, h⟩ := req_ex h
  split at h
  · rename_i cs e
    obtain ⟨a0, a1, rfl, h⟩ := cell_ts_ex h
    exact ⟨g, a0, a1, e, h⟩
  · cases h
noncomputable section
def laws_markText_l0 (K0 : ByteArray → Option ByteArray) : Nat → Int → ByteArray → Option ByteArray
  | 0, _, _ => none
  | n + 1, v7, v8 => (if (0 : Int) < v7 then ((strD ([[D.int .u8 (IntKind.u8.wrap (IntKind.i64.wrap (48 + (v7.tmod 10))))]] : Rw)).bind fun y19 => (if y19.size + v8.size ≤ 9223372036854775807 then (laws_markText_l0 K0 n (IntKind.i64.wrap (v7.tdiv 10)) (y19 ++ v8)) else none)) else (K0 v8))
set_option maxHeartbeats 4000000 in
set_option maxRecDepth 100000 in
theorem laws_markText_l0_ct {K0 : ByteArray → Option ByteArray} {r : ByteArray} : ∀ (n : Nat) (v7 : Int) (v8 : ByteArray), laws_markText_l0 K0 n v7 v8 = some r → LoopOk prog 0 (lp f159 0) (mk 20 [(0, .d (D.int .i64 v7)), (3, .d (D.str v8))] []) (LoopEnd prog f159 0 20 (.d (D.str r)) (⟨[], []⟩) (fun i ts os => (i = 0 ∧ ∃ v13 : ByteArray, K0 v13 = some r ∧ ts = [(3, .d (D.str v13))] ∧ os = [])))
  | 0, _, _, h => by
      rw [laws_markText_l0] at h; cases h
  | n + 1, v7, v8, h => by
      rw [laws_markText_l0] at h
      refine LoopOk.step ?_
      conv => whnf
      refine splD (fun g18 => ?_) (fun g18 => ?_)
      · replace h := iteP h g18
        conv => whnf
        refine Req.of (by decide) ?_
        conv => whnf
        obtain ⟨y19, e20, h⟩ := bind_ex h
        refine StrOk.of e20 (by first | rfl | exact List.length_append.symm | (simp; done) | omega | (dsimp only; omega)) ?_
        conv => whnf
        obtain ⟨g21, h⟩ := req_ex h
        refine Req.of g21 ?_
        conv => whnf
        refine Req.of (by decide) ?_
        conv => whnf
        exact LoopOk.back (laws_markText_l0_ct  n _ _ h) [] [] ⟨⟨rfl, rfl⟩, ⟨rfl, trivial⟩, rfl, rfl, trivial⟩
      · replace h := iteN h g18
        conv => whnf
        exact ⟨_, _, [], [], ⟨rfl, _, h, rfl, rfl⟩, ⟨⟨rfl, rfl⟩, ⟨rfl, trivial⟩, rfl, trivial⟩⟩
def laws_markText (k : Nat) (a1 : Int) : Option ByteArray :=
  (if a1 ≤ (0 : Int) then some (ByteArray.mk #[109, 48]) else (laws_markText_l0 (fun (v13 : ByteArray) => (if (ByteArray.mk #[109]).size + v13.size ≤ 9223372036854775807 then some ((ByteArray.mk #[109]) ++ v13) else none)) k a1 (ByteArray.mk #[])))
set_option maxHeartbeats 4000000 in
set_option maxRecDepth 100000 in
theorem laws_markText_ct {k : Nat} {a1 : Int} {r : ByteArray} (h : laws_markText k a1 = some r) : Ct prog 159 [.d (D.int .i64 a1)] (⟨[], []⟩) (.d (D.str r)) (⟨[], []⟩) := by
  rw [laws_markText] at h
  refine Ct.of (c := _) mixed func159 ⟨rfl, rfl, rfl⟩ ?_ rfl
  conv => whnf
  refine splD (fun g2 => ?_) (fun g2 => ?_)
  · replace h := iteP h g2
    conv => whnf
    cases h
    exact Done.of [] [] rfl rfl ⟨⟨rfl, rfl⟩, ⟨rfl, trivial⟩, rfl, trivial⟩
  · replace h := iteN h g2
    conv => whnf
    refine LoopOk.into (laws_markText_l0_ct  _ _ _ h) [] [] ⟨⟨rfl, rfl⟩, ⟨rfl, trivial⟩, rfl, rfl, trivial⟩ ?_ (fun _ hs => hs)
    rintro i ts os ⟨rfl, v13, h, rfl, rfl⟩
    conv => whnf
    refine CutK.go ?_
    conv => whnf
    obtain ⟨g22, h⟩ := req_ex h
    refine Req.of g22 ?_
    conv => whnf
    cases h
    exact Done.of [] [] rfl rfl ⟨⟨rfl, rfl⟩, ⟨rfl, trivial⟩, rfl, trivial⟩

def laws_heldSurrealTermS_l0 (rec_laws_heldSurrealTermS : Rw → Int → Option Int) (a1 : Rw) (K0 : Int → Option Int) : Rw → Int → Option Int
  | [], v14 => (K0 v14)
  | cs :: rest, v14 => (cell_sii cs fun x39 x40 x41 => ((rec_laws_heldSurrealTermS x39 v14).bind fun y43 => (if y43 < (0 : Int) then some (-1) else (if x40 = y43 then (if x41 = (IntKind.i64.wrap (y43 + 1)) then (laws_heldSurrealTermS_l0 rec_laws_heldSurrealTermS a1 K0 rest (IntKind.i64.wrap ((IntKind.i64.wrap (y43 + 1)) + 1))) else some (-1)) else some (-1)))))
set_option maxHeartbeats 4000000 in
set_option maxRecDepth 100000 in
theorem laws_heldSurrealTermS_l0_ct {rec_laws_heldSurrealTermS : Rw → Int → Option Int} {a1 : Rw} {K0 : Int → Option Int} (hrec_laws_heldSurrealTermS : ∀ (a1 : Rw) (a2 : Int) (r : Int), rec_laws_heldSurrealTermS a1 a2 = some r → Ct prog 161 [.d (D.sl a1), .d (D.int .i64 a2)] (⟨[], []⟩) (.d (D.int .i64 r)) (⟨[], []⟩)) {r : Int} (hx : a1.length ≤ cap) : ∀ (rest : Rw) (v15n : Nat) (v14 : Int), a1.drop v15n = rest → laws_heldSurrealTermS_l0 rec_laws_heldSurrealTermS a1 K0 rest v14 = some r → LoopOk prog 0 (lp f161 0) (mk 43 [(0, .d (D.sl a1)), (1, .d (D.int .i64 v14)), (5, .d (D.int .i64 (v15n : Int)))] []) (LoopEnd prog f161 0 43 (.d (D.int .i64 r)) (⟨[], []⟩) (fun i ts os => (i = 0 ∧ ∃ v27 : Int, K0 v27 = some r ∧ ts = [(1, .d (D.int .i64 v27))] ∧ os = [])))
  | [], v15n, v14, hd, h => by
      rw [laws_heldSurrealTermS_l0] at h
      have hn := drop_nil hd
      refine LoopOk.step ?_
      conv => whnf
      refine splD (fun g => absurd g hn) (fun _ => ?_)
      conv => whnf
      exact ⟨_, _, [], [], ⟨rfl, _, h, rfl, rfl⟩, ⟨⟨rfl, rfl⟩, ⟨rfl, trivial⟩, rfl, trivial⟩⟩
  | cs :: rest, v15n, v14, hd, h => by
      rw [laws_heldSurrealTermS_l0] at h
      obtain ⟨hrow, hd1, hlt⟩ := drop_cons hd
      refine LoopOk.step ?_
      conv => whnf
      refine splD (fun _ => ?_) (fun g => absurd hlt g)
      conv => whnf
      obtain ⟨x39, x40, x41, e42, h⟩ := cell_sii_ex h
      rw [e42] at hrow
      refine Req.of (Int.natCast_nonneg _) ?_
      refine Row.of _ hrow ?_
      conv => whnf
      refine Pick.no ?_
      conv => whnf
      obtain ⟨y43, e44, h⟩ := bind_ex h
      refine CallOk.of (hrec_laws_heldSurrealTermS _ _ _ e44) ?_
      conv => whnf
      refine CutK.norm [0, 1, 5] [] ?_
      conv => whnf
      refine splD (fun g45 => ?_) (fun g45 => ?_)
      · replace h := iteP h g45
        conv => whnf
        cases h
        exact Done.of [] [] rfl rfl ⟨⟨rfl, rfl⟩, ⟨rfl, trivial⟩, rfl, trivial⟩
      · replace h := iteN h g45
        conv => whnf
        refine Req.of (Int.natCast_nonneg _) ?_
        refine Row.of _ hrow ?_
        conv => whnf
        refine splN (fun g46 => ?_) (fun g46 => ?_)
        · replace h := iteN h g46
          conv => whnf
          cases h
          exact Done.of [] [] rfl rfl ⟨⟨rfl, rfl⟩, ⟨rfl, trivial⟩, rfl, trivial⟩
        · replace h := iteP h g46
          conv => whnf
          refine Req.of (Int.natCast_nonneg _) ?_
          refine Row.of _ hrow ?_
          conv => whnf
          refine splN (fun g47 => ?_) (fun g47 => ?_)
          · replace h := iteN h g47
            conv => whnf
            cases h
            exact Done.of [] [] rfl rfl ⟨⟨rfl, rfl⟩, ⟨rfl, trivial⟩, rfl, trivial⟩
          · replace h := iteP h g47
            conv => whnf
            refine CutK.norm [0, 1, 5] [] ?_
            conv => whnf
            exact LoopOk.back (laws_heldSurrealTermS_l0_ct hrec_laws_heldSurrealTermS hx rest (v15n + 1) _ hd1 h) [] [] ⟨⟨rfl, rfl⟩, ⟨rfl, trivial⟩, rfl, rfl, i64eq (wrap_up hlt hx), trivial⟩
def laws_heldSurrealTermS_b (rec_laws_heldSurrealTermS : Rw → Int → Option Int) (a1 : Rw) (a2 : Int) : Option Int :=
  (if a1.length ≤ cap then (laws_heldSurrealTermS_l0 rec_laws_heldSurrealTermS a1 (fun (v27 : Int) => some v27) a1 a2) else none)
set_option maxHeartbeats 4000000 in
set_option maxRecDepth 100000 in
theorem laws_heldSurrealTermS_b_ct {rec_laws_heldSurrealTermS : Rw → Int → Option Int} (hrec_laws_heldSurrealTermS : ∀ (a1 : Rw) (a2 : Int) (r : Int), rec_laws_heldSurrealTermS a1 a2 = some r → Ct prog 161 [.d (D.sl a1), .d (D.int .i64 a2)] (⟨[], []⟩) (.d (D.int .i64 r)) (⟨[], []⟩)) {a1 : Rw} {a2 : Int} {r : Int} (h : laws_heldSurrealTermS_b rec_laws_heldSurrealTermS a1 a2 = some r) : Ct prog 161 [.d (D.sl a1), .d (D.int .i64 a2)] (⟨[], []⟩) (.d (D.int .i64 r)) (⟨[], []⟩) := by
  rw [laws_heldSurrealTermS_b] at h
  refine Ct.of (c := _) mixed func161 ⟨rfl, rfl, rfl⟩ ?_ rfl
  conv => whnf
  obtain ⟨g48, h⟩ := req_ex h
  refine LoopOk.into (laws_heldSurrealTermS_l0_ct hrec_laws_heldSurrealTermS g48 _ _ _ rfl h) [] [] ⟨⟨rfl, rfl⟩, ⟨rfl, trivial⟩, rfl, rfl, rfl, trivial⟩ ?_ (fun _ hs => hs)
  rintro i ts os ⟨rfl, v27, h, rfl, rfl⟩
  conv => whnf
  refine CutK.norm [1] [] ?_
  conv => whnf
  cases h
  exact Done.of [] [] rfl rfl ⟨⟨rfl, rfl⟩, ⟨rfl, trivial⟩, rfl, trivial⟩
def laws_heldSurrealTermS : Nat → Rw → Int → Option Int
  | 0, _, _ => none
  | k + 1, a1, a2 => laws_heldSurrealTermS_b (laws_heldSurrealTermS k) a1 a2
theorem laws_heldSurrealTermS_ct' : ∀ (k : Nat) (a1 : Rw) (a2 : Int) (r : Int), laws_heldSurrealTermS k a1 a2 = some r → Ct prog 161 [.d (D.sl a1), .d (D.int .i64 a2)] (⟨[], []⟩) (.d (D.int .i64 r)) (⟨[], []⟩)
  | 0, _, _, _, h => by rw [laws_heldSurrealTermS] at h; cases h
  | k + 1, _, _, _, h => by rw [laws_heldSurrealTermS] at h; exact laws_heldSurrealTermS_b_ct (laws_heldSurrealTermS_ct' k) h
theorem laws_heldSurrealTermS_ct {k : Nat} {a1 : Rw} {a2 : Int} {r : Int} (h : laws_heldSurrealTermS k a1 a2 = some r) : Ct prog 161 [.d (D.sl a1), .d (D.int .i64 a2)] (⟨[], []⟩) (.d (D.int .i64 r)) (⟨[], []⟩) := laws_heldSurrealTermS_ct' k _ _ _ h

def laws_heldEntryS_l0 (k : Nat) (a1 : Rw) (K0 : Int → Option Int) : Rw → Int → Option Int
  | [], v14 => (K0 v14)
  | cs :: rest, v14 => (cell_ts cs fun x39 x40 => ((laws_markText k v14).bind fun y42 => (if (!(x39.toList == y42.toList)) = true then some (-1) else ((laws_heldSurrealTermS k x40 (IntKind.i64.wrap (v14 + 1))).bind fun y45 => (if y45 < (0 : Int) then some (-1) else (laws_heldEntryS_l0 k a1 K0 rest y45))))))
set_option maxHeartbeats 4000000 in
set_option maxRecDepth 100000 in
theorem laws_heldEntryS_l0_ct {k : Nat} {a1 : Rw} {K0 : Int → Option Int} {r : Int} (hx : a1.length ≤ cap) : ∀ (rest : Rw) (v15n : Nat) (v14 : Int), a1.drop v15n = rest → laws_heldEntryS_l0 k a1 K0 rest v14 = some r → LoopOk prog 0 (lp f100 0) (mk 33 [(0, .d (D.sl a1)), (1, .d (D.int .i64 v14)), (5, .d (D.int .i64 (v15n : Int)))] []) (LoopEnd prog f100 0 33 (.d (D.int .i64 r)) (⟨[], []⟩) (fun i ts os => (i = 0 ∧ ∃ v27 : Int, K0 v27 = some r ∧ ts = [(1, .d (D.int .i64 v27))] ∧ os = [])))
  | [], v15n, v14, hd, h => by
      rw [laws_heldEntryS_l0] at h
      have hn := drop_nil hd
      refine LoopOk.step ?_
      conv => whnf
      refine splD (fun g => absurd g hn) (fun _ => ?_)
      conv => whnf
      exact ⟨_, _, [], [], ⟨rfl, _, h, rfl, rfl⟩, ⟨⟨rfl, rfl⟩, ⟨rfl, trivial⟩, rfl, trivial⟩⟩
  | cs :: rest, v15n, v14, hd, h => by
      rw [laws_heldEntryS_l0] at h
      obtain ⟨hrow, hd1, hlt⟩ := drop_cons hd
      refine LoopOk.step ?_
      conv => whnf
      refine splD (fun _ => ?_) (fun g => absurd hlt g)
      conv => whnf
      obtain ⟨x39, x40, e41, h⟩ := cell_ts_ex h
      rw [e41] at hrow
      refine Req.of (Int.natCast_nonneg _) ?_
      refine Row.of _ hrow ?_
      conv => whnf
      refine Pick.no ?_
      conv => whnf
      obtain ⟨y42, e43, h⟩ := bind_ex h
      refine CallOk.of (laws_markText_ct e43) ?_
      conv => whnf
      refine spl (fun g44 => ?_) (fun g44 => ?_)
      · replace h := iteT h g44
        conv => whnf
        refine CutK.norm [0, 1, 5, 19] [] ?_
        conv => whnf
        cases h
        exact Done.of [] [] rfl rfl ⟨⟨rfl, rfl⟩, ⟨rfl, trivial⟩, rfl, trivial⟩
      · replace h := iteF h g44
        conv => whnf
        refine CutK.norm [0, 1, 5, 19] [] ?_
        conv => whnf
        refine CutK.norm [0, 1, 5] [] ?_
        conv => whnf
        refine Req.of (Int.natCast_nonneg _) ?_
        refine Row.of _ hrow ?_
        conv => whnf
        refine Pick.no ?_
        conv => whnf
        obtain ⟨y45, e46, h⟩ := bind_ex h
        refine CallOk.of (laws_heldSurrealTermS_ct e46) ?_
        conv => whnf
        refine CutK.norm [0, 1, 5] [] ?_
        conv => whnf
        refine splD (fun g47 => ?_) (fun g47 => ?_)
        · replace h := iteP h g47
          conv => whnf
          cases h
          exact Done.of [] [] rfl rfl ⟨⟨rfl, rfl⟩, ⟨rfl, trivial⟩, rfl, trivial⟩
        · replace h := iteN h g47
          conv => whnf
          refine CutK.norm [0, 1, 5] [] ?_
          conv => whnf
          exact LoopOk.back (laws_heldEntryS_l0_ct hx rest (v15n + 1) _ hd1 h) [] [] ⟨⟨rfl, rfl⟩, ⟨rfl, trivial⟩, rfl, rfl, i64eq (wrap_up hlt hx), trivial⟩
def laws_heldEntryS (k : Nat) (a1 : Rw) (a2 : Int) : Option Int :=
  (if a1.length ≤ cap then (laws_heldEntryS_l0 k a1 (fun (v27 : Int) => some v27) a1 a2) else none)
set_option maxHeartbeats 4000000 in
set_option maxRecDepth 100000 in
theorem laws_heldEntryS_ct {k : Nat} {a1 : Rw} {a2 : Int} {r : Int} (h : laws_heldEntryS k a1 a2 = some r) : Ct prog 100 [.d (D.sl a1), .d (D.int .i64 a2)] (⟨[], []⟩) (.d (D.int .i64 r)) (⟨[], []⟩) := by
  rw [laws_heldEntryS] at h
  refine Ct.of (c := _) mixed func100 ⟨rfl, rfl, rfl⟩ ?_ rfl
  conv => whnf
  obtain ⟨g48, h⟩ := req_ex h
  refine LoopOk.into (laws_heldEntryS_l0_ct  g48 _ _ _ rfl h) [] [] ⟨⟨rfl, rfl⟩, ⟨rfl, trivial⟩, rfl, rfl, rfl, trivial⟩ ?_ (fun _ hs => hs)
  rintro i ts os ⟨rfl, v27, h, rfl, rfl⟩
  conv => whnf
  refine CutK.norm [1] [] ?_
  conv => whnf
  cases h
  exact Done.of [] [] rfl rfl ⟨⟨rfl, rfl⟩, ⟨rfl, trivial⟩, rfl, trivial⟩

def laws_heldNotebook (k : Nat) (a1 : Rw) (a2 : Int) : Option Int :=
  ((laws_heldEntryS k a1 a2).bind fun y3 => (if y3 < (0 : Int) then some (-1) else some y3))
set_option maxHeartbeats 4000000 in
set_option maxRecDepth 100000 in
theorem laws_heldNotebook_ct {k : Nat} {a1 : Rw} {a2 : Int} {r : Int} (h : laws_heldNotebook k a1 a2 = some r) : Ct prog 37 [.agg [.d (D.sl a1)], .d (D.int .i64 a2)] (⟨[], []⟩) (.d (D.int .i64 r)) (⟨[], []⟩) := by
  rw [laws_heldNotebook] at h
  refine Ct.of (c := _) mixed func37 ⟨rfl, rfl, rfl⟩ ?_ rfl
  conv => whnf
  refine Pick.no ?_
  conv => whnf
  obtain ⟨y3, e4, h⟩ := bind_ex h
  refine CallOk.of (laws_heldEntryS_ct e4) ?_
  conv => whnf
  refine CutK.go ?_
  conv => whnf
  refine splD (fun g5 => ?_) (fun g5 => ?_)
  · replace h := iteP h g5
    conv => whnf
    cases h
    exact Done.of [] [] rfl rfl ⟨⟨rfl, rfl⟩, ⟨rfl, trivial⟩, rfl, trivial⟩
  · replace h := iteN h g5
    conv => whnf
    cases h
    exact Done.of [] [] rfl rfl ⟨⟨rfl, rfl⟩, ⟨rfl, trivial⟩, rfl, trivial⟩

def laws_eqFraction  (a1 : Int) (a2 : Int) (a3 : Int) (a4 : Int) : Option Bool :=
  (if a1 = a3 then (if a2 = a4 then some true else some false) else some false)
set_option maxHeartbeats 4000000 in
set_option maxRecDepth 100000 in
theorem laws_eqFraction_ct  {a1 : Int} {a2 : Int} {a3 : Int} {a4 : Int} {r : Bool} (h : laws_eqFraction a1 a2 a3 a4 = some r) : Ct prog 197 [.agg [.d (D.int .i64 a1), .d (D.int .i64 a2)], .agg [.d (D.int .i64 a3), .d (D.int .i64 a4)]] (⟨[], []⟩) (.d (D.bool r)) (⟨[], []⟩) := by
  rw [laws_eqFraction] at h
  refine Ct.of (c := _) mixed func197 ⟨rfl, rfl, rfl⟩ ?_ rfl
  conv => whnf
  refine splN (fun g5 => ?_) (fun g5 => ?_)
  · replace h := iteN h g5
    conv => whnf
    cases h
    exact Done.of [] [] rfl rfl ⟨⟨rfl, rfl⟩, ⟨rfl, trivial⟩, rfl, trivial⟩
  · replace h := iteP h g5
    conv => whnf
    refine splN (fun g6 => ?_) (fun g6 => ?_)
    · replace h := iteN h g6
      conv => whnf
      cases h
      exact Done.of [] [] rfl rfl ⟨⟨rfl, rfl⟩, ⟨rfl, trivial⟩, rfl, trivial⟩
    · replace h := iteP h g6
      conv => whnf
      cases h
      exact Done.of [] [] rfl rfl ⟨⟨rfl, rfl⟩, ⟨rfl, trivial⟩, rfl, trivial⟩

def laws_eqSurrealTerm (rec_laws_eqSurreal : Rw → Rw → Option Bool) (a1 : Rw) (a2 : Int) (a3 : Int) (a4 : Rw) (a5 : Int) (a6 : Int) : Option Bool :=
  ((rec_laws_eqSurreal a1 a4).bind fun y7 => (if y7 = true then ((laws_eqFraction a2 a3 a5 a6).bind fun y10 => (if y10 = true then some true else some false)) else some false))
set_option maxHeartbeats 4000000 in
set_option maxRecDepth 100000 in
theorem laws_eqSurrealTerm_ct {rec_laws_eqSurreal : Rw → Rw → Option Bool} (hrec_laws_eqSurreal : ∀ (a1 : Rw) (a2 : Rw) (r : Bool), rec_laws_eqSurreal a1 a2 = some r → Ct prog 184 [.agg [.d (D.sl a1)], .agg [.d (D.sl a2)]] (⟨[], []⟩) (.d (D.bool r)) (⟨[], []⟩)) {a1 : Rw} {a2 : Int} {a3 : Int} {a4 : Rw} {a5 : Int} {a6 : Int} {r : Bool} (h : laws_eqSurrealTerm rec_laws_eqSurreal a1 a2 a3 a4 a5 a6 = some r) : Ct prog 195 [.agg [.d (D.sl a1), .d (D.int .i64 a2), .d (D.int .i64 a3)], .agg [.d (D.sl a4), .d (D.int .i64 a5), .d (D.int .i64 a6)]] (⟨[], []⟩) (.d (D.bool r)) (⟨[], []⟩) := by
  rw [laws_eqSurrealTerm] at h
  refine Ct.of (c := _) mixed func195 ⟨rfl, rfl, rfl⟩ ?_ rfl
  conv => whnf
  refine Pick.no ?_
  conv => whnf
  obtain ⟨y7, e8, h⟩ := bind_ex h
  refine CallOk.of (hrec_laws_eqSurreal _ _ _ e8) ?_
  conv => whnf
  refine spl (fun g9 => ?_) (fun g9 => ?_)
  · replace h := iteT h g9
    conv => whnf
    refine CutK.go ?_
    conv => whnf
    refine CutK.go ?_
    conv => whnf
    refine Pick.no ?_
    conv => whnf
    obtain ⟨y10, e11, h⟩ := bind_ex h
    refine CallOk.of (laws_eqFraction_ct e11) ?_
    conv => whnf
    refine spl (fun g12 => ?_) (fun g12 => ?_)
    · replace h := iteT h g12
      conv => whnf
      refine CutK.go ?_
      conv => whnf
      refine CutK.go ?_
      conv => whnf
      cases h
      exact Done.of [] [] rfl rfl ⟨⟨rfl, rfl⟩, ⟨rfl, trivial⟩, rfl, trivial⟩
    · replace h := iteF h g12
      conv => whnf
      refine CutK.go ?_
      conv => whnf
      cases h
      exact Done.of [] [] rfl rfl ⟨⟨rfl, rfl⟩, ⟨rfl, trivial⟩, rfl, trivial⟩
  · replace h := iteF h g9
    conv => whnf
    refine CutK.go ?_
    conv => whnf
    cases h
    exact Done.of [] [] rfl rfl ⟨⟨rfl, rfl⟩, ⟨rfl, trivial⟩, rfl, trivial⟩

def laws_eqSurrealTermS_l0 (rec_laws_eqSurreal : Rw → Rw → Option Bool) (a1 : Rw) (a2 : Rw) (K0 : Option Bool) : Rw → Nat → Option Bool
  | [], v18n => (K0)
  | cs :: rest, v18n => (cell_sii cs fun x33 x34 x35 => (row_sii a2 (v18n : Int) fun x37 x38 x39 => ((laws_eqSurrealTerm rec_laws_eqSurreal x33 x34 x35 x37 x38 x39).bind fun y42 => (if y42 = true then (laws_eqSurrealTermS_l0 rec_laws_eqSurreal a1 a2 K0 rest (v18n + 1)) else some false))))
set_option maxHeartbeats 4000000 in
set_option maxRecDepth 100000 in
theorem laws_eqSurrealTermS_l0_ct {rec_laws_eqSurreal : Rw → Rw → Option Bool} {a1 : Rw} {a2 : Rw} {K0 : Option Bool} (hrec_laws_eqSurreal : ∀ (a1 : Rw) (a2 : Rw) (r : Bool), rec_laws_eqSurreal a1 a2 = some r → Ct prog 184 [.agg [.d (D.sl a1)], .agg [.d (D.sl a2)]] (⟨[], []⟩) (.d (D.bool r)) (⟨[], []⟩)) {r : Bool} (hx : a1.length ≤ cap) : ∀ (rest : Rw) (v18n : Nat), a1.drop v18n = rest → laws_eqSurrealTermS_l0 rec_laws_eqSurreal a1 a2 K0 rest v18n = some r → LoopOk prog 0 (lp f191 0) (mk 27 [(0, .d (D.sl a1)), (1, .d (D.sl a2)), (5, .d (D.int .i64 (v18n : Int)))] []) (LoopEnd prog f191 0 27 (.d (D.bool r)) (⟨[], []⟩) (fun i ts os => (i = 0 ∧ K0 = some r ∧ ts = [] ∧ os = [])))
  | [], v18n, hd, h => by
      rw [laws_eqSurrealTermS_l0] at h
      have hn := drop_nil hd
      refine LoopOk.step ?_
      conv => whnf
      refine splD (fun g => absurd g hn) (fun _ => ?_)
      conv => whnf
      exact ⟨_, _, [], [], ⟨rfl, h, rfl, rfl⟩, ⟨⟨rfl, rfl⟩, ⟨rfl, trivial⟩, trivial⟩⟩
  | cs :: rest, v18n, hd, h => by
      rw [laws_eqSurrealTermS_l0] at h
      obtain ⟨hrow, hd1, hlt⟩ := drop_cons hd
      refine LoopOk.step ?_
      conv => whnf
      refine splD (fun _ => ?_) (fun g => absurd hlt g)
      conv => whnf
      obtain ⟨x33, x34, x35, e36, h⟩ := cell_sii_ex h
      rw [e36] at hrow
      refine Req.of (Int.natCast_nonneg _) ?_
      refine Row.of _ hrow ?_
      conv => whnf
      obtain ⟨g41, x37, x38, x39, e40, h⟩ := row_sii_ex h
      refine Req.of g41 ?_
      refine Row.of _ e40 ?_
      conv => whnf
      refine Pick.no ?_
      conv => whnf
      obtain ⟨y42, e43, h⟩ := bind_ex h
      refine CallOk.of (laws_eqSurrealTerm_ct hrec_laws_eqSurreal e43) ?_
      conv => whnf
      refine spl (fun g44 => ?_) (fun g44 => ?_)
      · replace h := iteT h g44
        conv => whnf
        refine CutK.go ?_
        conv => whnf
        refine CutK.go ?_
        conv => whnf
        exact LoopOk.back (laws_eqSurrealTermS_l0_ct hrec_laws_eqSurreal hx rest (v18n + 1)  hd1 h) [] [] ⟨⟨rfl, rfl⟩, ⟨rfl, trivial⟩, rfl, rfl, i64eq (wrap_up hlt hx), trivial⟩
      · replace h := iteF h g44
        conv => whnf
        refine CutK.go ?_
        conv => whnf
        cases h
        exact Done.of [] [] rfl rfl ⟨⟨rfl, rfl⟩, ⟨rfl, trivial⟩, rfl, trivial⟩
def laws_eqSurrealTermS (rec_laws_eqSurreal : Rw → Rw → Option Bool) (a1 : Rw) (a2 : Rw) : Option Bool :=
  (if (a1.length : Int) = (a2.length : Int) then (if a1.length ≤ cap then (laws_eqSurrealTermS_l0 rec_laws_eqSurreal a1 a2 (some true) a1 0) else none) else some false)
set_option maxHeartbeats 4000000 in
set_option maxRecDepth 100000 in
theorem laws_eqSurrealTermS_ct {rec_laws_eqSurreal : Rw → Rw → Option Bool} (hrec_laws_eqSurreal : ∀ (a1 : Rw) (a2 : Rw) (r : Bool), rec_laws_eqSurreal a1 a2 = some r → Ct prog 184 [.agg [.d (D.sl a1)], .agg [.d (D.sl a2)]] (⟨[], []⟩) (.d (D.bool r)) (⟨[], []⟩)) {a1 : Rw} {a2 : Rw} {r : Bool} (h : laws_eqSurrealTermS rec_laws_eqSurreal a1 a2 = some r) : Ct prog 191 [.d (D.sl a1), .d (D.sl a2)] (⟨[], []⟩) (.d (D.bool r)) (⟨[], []⟩) := by
  rw [laws_eqSurrealTermS] at h
  refine Ct.of (c := _) mixed func191 ⟨rfl, rfl, rfl⟩ ?_ rfl
  conv => whnf
  refine splN (fun g3 => ?_) (fun g3 => ?_)
  · replace h := iteN h g3
    conv => whnf
    cases h
    exact Done.of [] [] rfl rfl ⟨⟨rfl, rfl⟩, ⟨rfl, trivial⟩, rfl, trivial⟩
  · replace h := iteP h g3
    conv => whnf
    obtain ⟨g45, h⟩ := req_ex h
    refine LoopOk.into (laws_eqSurrealTermS_l0_ct hrec_laws_eqSurreal g45 _ _  rfl h) [] [] ⟨⟨rfl, rfl⟩, ⟨rfl, trivial⟩, rfl, rfl, rfl, trivial⟩ ?_ (fun _ hs => hs)
    rintro i ts os ⟨rfl, h, rfl, rfl⟩
    conv => whnf
    refine CutK.go ?_
    conv => whnf
    cases h
    exact Done.of [] [] rfl rfl ⟨⟨rfl, rfl⟩, ⟨rfl, trivial⟩, rfl, trivial⟩

def laws_eqSurreal_b (rec_laws_eqSurreal : Rw → Rw → Option Bool) (a1 : Rw) (a2 : Rw) : Option Bool :=
  ((laws_eqSurrealTermS rec_laws_eqSurreal a1 a2).bind fun y3 => (if y3 = true then some true else some false))
set_option maxHeartbeats 4000000 in
set_option maxRecDepth 100000 in
theorem laws_eqSurreal_b_ct {rec_laws_eqSurreal : Rw → Rw → Option Bool} (hrec_laws_eqSurreal : ∀ (a1 : Rw) (a2 : Rw) (r : Bool), rec_laws_eqSurreal a1 a2 = some r → Ct prog 184 [.agg [.d (D.sl a1)], .agg [.d (D.sl a2)]] (⟨[], []⟩) (.d (D.bool r)) (⟨[], []⟩)) {a1 : Rw} {a2 : Rw} {r : Bool} (h : laws_eqSurreal_b rec_laws_eqSurreal a1 a2 = some r) : Ct prog 184 [.agg [.d (D.sl a1)], .agg [.d (D.sl a2)]] (⟨[], []⟩) (.d (D.bool r)) (⟨[], []⟩) := by
  rw [laws_eqSurreal_b] at h
  refine Ct.of (c := _) mixed func184 ⟨rfl, rfl, rfl⟩ ?_ rfl
  conv => whnf
  refine Pick.no ?_
  conv => whnf
  obtain ⟨y3, e4, h⟩ := bind_ex h
  refine CallOk.of (laws_eqSurrealTermS_ct hrec_laws_eqSurreal e4) ?_
  conv => whnf
  refine spl (fun g5 => ?_) (fun g5 => ?_)
  · replace h := iteT h g5
    conv => whnf
    refine CutK.go ?_
    conv => whnf
    refine CutK.go ?_
    conv => whnf
    cases h
    exact Done.of [] [] rfl rfl ⟨⟨rfl, rfl⟩, ⟨rfl, trivial⟩, rfl, trivial⟩
  · replace h := iteF h g5
    conv => whnf
    refine CutK.go ?_
    conv => whnf
    cases h
    exact Done.of [] [] rfl rfl ⟨⟨rfl, rfl⟩, ⟨rfl, trivial⟩, rfl, trivial⟩
def laws_eqSurreal : Nat → Rw → Rw → Option Bool
  | 0, _, _ => none
  | k + 1, a1, a2 => laws_eqSurreal_b (laws_eqSurreal k) a1 a2
theorem laws_eqSurreal_ct' : ∀ (k : Nat) (a1 : Rw) (a2 : Rw) (r : Bool), laws_eqSurreal k a1 a2 = some r → Ct prog 184 [.agg [.d (D.sl a1)], .agg [.d (D.sl a2)]] (⟨[], []⟩) (.d (D.bool r)) (⟨[], []⟩)
  | 0, _, _, _, h => by rw [laws_eqSurreal] at h; cases h
  | k + 1, _, _, _, h => by rw [laws_eqSurreal] at h; exact laws_eqSurreal_b_ct (laws_eqSurreal_ct' k) h
theorem laws_eqSurreal_ct {k : Nat} {a1 : Rw} {a2 : Rw} {r : Bool} (h : laws_eqSurreal k a1 a2 = some r) : Ct prog 184 [.agg [.d (D.sl a1)], .agg [.d (D.sl a2)]] (⟨[], []⟩) (.d (D.bool r)) (⟨[], []⟩) := laws_eqSurreal_ct' k _ _ _ h

def laws_eqEntry (k : Nat) (a1 : ByteArray) (a2 : Rw) (a3 : ByteArray) (a4 : Rw) : Option Bool :=
  (if (!(a1.toList == a3.toList)) = true then some false else ((laws_eqSurreal k a2 a4).bind fun y6 => (if y6 = true then some true else some false)))
set_option maxHeartbeats 4000000 in
set_option maxRecDepth 100000 in
theorem laws_eqEntry_ct {k : Nat} {a1 : ByteArray} {a2 : Rw} {a3 : ByteArray} {a4 : Rw} {r : Bool} (h : laws_eqEntry k a1 a2 a3 a4 = some r) : Ct prog 158 [.agg [.d (D.str a1), .d (D.sl a2)], .agg [.d (D.str a3), .d (D.sl a4)]] (⟨[], []⟩) (.d (D.bool r)) (⟨[], []⟩) := by
  rw [laws_eqEntry] at h
  refine Ct.of (c := _) mixed func158 ⟨rfl, rfl, rfl⟩ ?_ rfl
  conv => whnf
  refine spl (fun g5 => ?_) (fun g5 => ?_)
  · replace h := iteT h g5
    conv => whnf
    cases h
    exact Done.of [] [] rfl rfl ⟨⟨rfl, rfl⟩, ⟨rfl, trivial⟩, rfl, trivial⟩
  · replace h := iteF h g5
    conv => whnf
    refine Pick.no ?_
    conv => whnf
    obtain ⟨y6, e7, h⟩ := bind_ex h
    refine CallOk.of (laws_eqSurreal_ct e7) ?_
    conv => whnf
    refine spl (fun g8 => ?_) (fun g8 => ?_)
    · replace h := iteT h g8
      conv => whnf
      refine CutK.go ?_
      conv => whnf
      refine CutK.go ?_
      conv => whnf
      cases h
      exact Done.of [] [] rfl rfl ⟨⟨rfl, rfl⟩, ⟨rfl, trivial⟩, rfl, trivial⟩
    · replace h := iteF h g8
      conv => whnf
      refine CutK.go ?_
      conv => whnf
      cases h
      exact Done.of [] [] rfl rfl ⟨⟨rfl, rfl⟩, ⟨rfl, trivial⟩, rfl, trivial⟩

def laws_eqEntryS_l0 (k : Nat) (a1 : Rw) (a2 : Rw) (K0 : Option Bool) : Rw → Nat → Option Bool
  | [], v16n => (K0)
  | cs :: rest, v16n => (cell_ts cs fun x29 x30 => (row_ts a2 (v16n : Int) fun x32 x33 => ((laws_eqEntry k x29 x30 x32 x33).bind fun y36 => (if y36 = true then (laws_eqEntryS_l0 k a1 a2 K0 rest (v16n + 1)) else some false))))
set_option maxHeartbeats 4000000 in
set_option maxRecDepth 100000 in
theorem laws_eqEntryS_l0_ct {k : Nat} {a1 : Rw} {a2 : Rw} {K0 : Option Bool} {r : Bool} (hx : a1.length ≤ cap) : ∀ (rest : Rw) (v16n : Nat), a1.drop v16n = rest → laws_eqEntryS_l0 k a1 a2 K0 rest v16n = some r → LoopOk prog 0 (lp f98 0) (mk 27 [(0, .d (D.sl a1)), (1, .d (D.sl a2)), (5, .d (D.int .i64 (v16n : Int)))] []) (LoopEnd prog f98 0 27 (.d (D.bool r)) (⟨[], []⟩) (fun i ts os => (i = 0 ∧ K0 = some r ∧ ts = [] ∧ os = [])))
  | [], v16n, hd, h => by
      rw [laws_eqEntryS_l0] at h
      have hn := drop_nil hd
      refine LoopOk.step ?_
      conv => whnf
      refine splD (fun g => absurd g hn) (fun _ => ?_)
      conv => whnf
      exact ⟨_, _, [], [], ⟨rfl, h, rfl, rfl⟩, ⟨⟨rfl, rfl⟩, ⟨rfl, trivial⟩, trivial⟩⟩
  | cs :: rest, v16n, hd, h => by
      rw [laws_eqEntryS_l0] at h
      obtain ⟨hrow, hd1, hlt⟩ := drop_cons hd
      refine LoopOk.step ?_
      conv => whnf
      refine splD (fun _ => ?_) (fun g => absurd hlt g)
      conv => whnf
      obtain ⟨x29, x30, e31, h⟩ := cell_ts_ex h
      rw [e31] at hrow
      refine Req.of (Int.natCast_nonneg _) ?_
      refine Row.of _ hrow ?_
      conv => whnf
      obtain ⟨g35, x32, x33, e34, h⟩ := row_ts_ex h
      refine Req.of g35 ?_
      refine Row.of _ e34 ?_
      conv => whnf
      refine Pick.no ?_
      conv => whnf
      obtain ⟨y36, e37, h⟩ := bind_ex h
      refine CallOk.of (laws_eqEntry_ct e37) ?_
      conv => whnf
      refine spl (fun g38 => ?_) (fun g38 => ?_)
      · replace h := iteT h g38
        conv => whnf
        refine CutK.go ?_
        conv => whnf
        refine CutK.go ?_
        conv => whnf
        exact LoopOk.back (laws_eqEntryS_l0_ct hx rest (v16n + 1)  hd1 h) [] [] ⟨⟨rfl, rfl⟩, ⟨rfl, trivial⟩, rfl, rfl, i64eq (wrap_up hlt hx), trivial⟩
      · replace h := iteF h g38
        conv => whnf
        refine CutK.go ?_
        conv => whnf
        cases h
        exact Done.of [] [] rfl rfl ⟨⟨rfl, rfl⟩, ⟨rfl, trivial⟩, rfl, trivial⟩
def laws_eqEntryS (k : Nat) (a1 : Rw) (a2 : Rw) : Option Bool :=
  (if (a1.length : Int) = (a2.length : Int) then (if a1.length ≤ cap then (laws_eqEntryS_l0 k a1 a2 (some true) a1 0) else none) else some false)
set_option maxHeartbeats 4000000 in
set_option maxRecDepth 100000 in
theorem laws_eqEntryS_ct {k : Nat} {a1 : Rw} {a2 : Rw} {r : Bool} (h : laws_eqEntryS k a1 a2 = some r) : Ct prog 98 [.d (D.sl a1), .d (D.sl a2)] (⟨[], []⟩) (.d (D.bool r)) (⟨[], []⟩) := by
  rw [laws_eqEntryS] at h
  refine Ct.of (c := _) mixed func98 ⟨rfl, rfl, rfl⟩ ?_ rfl
  conv => whnf
  refine splN (fun g3 => ?_) (fun g3 => ?_)
  · replace h := iteN h g3
    conv => whnf
    cases h
    exact Done.of [] [] rfl rfl ⟨⟨rfl, rfl⟩, ⟨rfl, trivial⟩, rfl, trivial⟩
  · replace h := iteP h g3
    conv => whnf
    obtain ⟨g39, h⟩ := req_ex h
    refine LoopOk.into (laws_eqEntryS_l0_ct  g39 _ _  rfl h) [] [] ⟨⟨rfl, rfl⟩, ⟨rfl, trivial⟩, rfl, rfl, rfl, trivial⟩ ?_ (fun _ hs => hs)
    rintro i ts os ⟨rfl, h, rfl, rfl⟩
    conv => whnf
    refine CutK.go ?_
    conv => whnf
    cases h
    exact Done.of [] [] rfl rfl ⟨⟨rfl, rfl⟩, ⟨rfl, trivial⟩, rfl, trivial⟩

def laws_eqNotebook (k : Nat) (a1 : Rw) (a2 : Rw) : Option Bool :=
  ((laws_eqEntryS k a1 a2).bind fun y3 => (if y3 = true then some true else some false))
set_option maxHeartbeats 4000000 in
set_option maxRecDepth 100000 in
theorem laws_eqNotebook_ct {k : Nat} {a1 : Rw} {a2 : Rw} {r : Bool} (h : laws_eqNotebook k a1 a2 = some r) : Ct prog 35 [.agg [.d (D.sl a1)], .agg [.d (D.sl a2)]] (⟨[], []⟩) (.d (D.bool r)) (⟨[], []⟩) := by
  rw [laws_eqNotebook] at h
  refine Ct.of (c := _) mixed func35 ⟨rfl, rfl, rfl⟩ ?_ rfl
  conv => whnf
  refine Pick.no ?_
  conv => whnf
  obtain ⟨y3, e4, h⟩ := bind_ex h
  refine CallOk.of (laws_eqEntryS_ct e4) ?_
  conv => whnf
  refine spl (fun g5 => ?_) (fun g5 => ?_)
  · replace h := iteT h g5
    conv => whnf
    refine CutK.go ?_
    conv => whnf
    refine CutK.go ?_
    conv => whnf
    cases h
    exact Done.of [] [] rfl rfl ⟨⟨rfl, rfl⟩, ⟨rfl, trivial⟩, rfl, trivial⟩
  · replace h := iteF h g5
    conv => whnf
    refine CutK.go ?_
    conv => whnf
    cases h
    exact Done.of [] [] rfl rfl ⟨⟨rfl, rfl⟩, ⟨rfl, trivial⟩, rfl, trivial⟩

def laws_toFraction  (a1 : Int) (a2 : Int) : Option (Int × Int) :=
  some (a1, a2)
set_option maxHeartbeats 4000000 in
set_option maxRecDepth 100000 in
theorem laws_toFraction_ct  {a1 : Int} {a2 : Int} {r : Int × Int} (h : laws_toFraction a1 a2 = some r) : Ct prog 196 [.agg [.d (D.int .i64 a1), .d (D.int .i64 a2)]] (⟨[], []⟩) (.agg [.d (D.int .i64 r.1), .d (D.int .i64 r.2)]) (⟨[], []⟩) := by
  rw [laws_toFraction] at h
  refine Ct.of (c := _) mixed func196 ⟨rfl, rfl, rfl⟩ ?_ rfl
  conv => whnf
  cases h
  exact Done.of [] [] rfl rfl ⟨⟨rfl, rfl⟩, ⟨rfl, trivial⟩, ⟨rfl, rfl, trivial⟩, trivial⟩

def laws_toSurrealTerm (rec_laws_toSurreal : Rw → Option Rw) (a1 : Rw) (a2 : Int) (a3 : Int) : Option (Rw × Int × Int) :=
  ((rec_laws_toSurreal a1).bind fun y4 => ((laws_toFraction a2 a3).bind fun y6 => some (y4, y6.1, y6.2)))
set_option maxHeartbeats 4000000 in
set_option maxRecDepth 100000 in
theorem laws_toSurrealTerm_ct {rec_laws_toSurreal : Rw → Option Rw} (hrec_laws_toSurreal : ∀ (a1 : Rw) (r : Rw), rec_laws_toSurreal a1 = some r → Ct prog 182 [.agg [.d (D.sl a1)]] (⟨[], []⟩) (.agg [.os 8 r.length]) (⟨[], [(109, true, r)]⟩)) {a1 : Rw} {a2 : Int} {a3 : Int} {r : Rw × Int × Int} (h : laws_toSurrealTerm rec_laws_toSurreal a1 a2 a3 = some r) : Ct prog 194 [.agg [.d (D.sl a1), .d (D.int .i64 a2), .d (D.int .i64 a3)]] (⟨[], []⟩) (.agg [.os 8 r.1.length, .d (D.int .i64 r.2.1), .d (D.int .i64 r.2.2)]) (⟨[], [(109, true, r.1)]⟩) := by
  rw [laws_toSurrealTerm] at h
  refine Ct.of (c := _) mixed func194 ⟨rfl, rfl, rfl⟩ ?_ rfl
  conv => whnf
  refine Pick.no ?_
  conv => whnf
  obtain ⟨y4, e5, h⟩ := bind_ex h
  refine CallOk.of (hrec_laws_toSurreal _ _ e5) ?_
  conv => whnf
  refine CutK.go ?_
  conv => whnf
  refine Pick.no ?_
  conv => whnf
  obtain ⟨y6, e7, h⟩ := bind_ex h
  refine CallOk.of (laws_toFraction_ct e7) ?_
  conv => whnf
  refine CutK.go ?_
  conv => whnf
  cases h
  exact Done.of [some 384] [] rfl rfl ⟨⟨rfl, rfl⟩, ⟨rfl, ⟨rfl, rfl, rows_same⟩, trivial⟩, ⟨⟨rfl, rfl⟩, rfl, rfl, trivial⟩, trivial⟩

def laws_toSurrealTermS_l0 (rec_laws_toSurreal : Rw → Option Rw) (a1 : Rw) (K0 : Rw → Option Rw) : Rw → Nat → Rw → Option Rw
  | [], v18n, v17 => (K0 v17)
  | cs :: rest, v18n, v17 => (cell_sii cs fun x48 x49 x50 => ((laws_toSurrealTerm rec_laws_toSurreal x48 x49 x50).bind fun y52 => (if 0 ≤ (v18n : Int) ∧ (v18n : Int) < (v17.length : Int) then (row_sii v17 (v18n : Int) fun x55 x56 x57 => (laws_toSurrealTermS_l0 rec_laws_toSurreal a1 K0 rest (v18n + 1) (v17.set (((v18n : Int) : Int).toNat) [D.sl y52.1, D.int .i64 y52.2.1, D.int .i64 y52.2.2]))) else none)))
set_option maxHeartbeats 4000000 in
set_option maxRecDepth 100000 in
theorem laws_toSurrealTermS_l0_ct {rec_laws_toSurreal : Rw → Option Rw} {a1 : Rw} {K0 : Rw → Option Rw} (hrec_laws_toSurreal : ∀ (a1 : Rw) (r : Rw), rec_laws_toSurreal a1 = some r → Ct prog 182 [.agg [.d (D.sl a1)]] (⟨[], []⟩) (.agg [.os 8 r.length]) (⟨[], [(109, true, r)]⟩)) {r : Rw} (hx : a1.length ≤ cap) : ∀ (rest : Rw) (v18n : Nat) (v17 : Rw), a1.drop v18n = rest → laws_toSurrealTermS_l0 rec_laws_toSurreal a1 K0 rest v18n v17 = some r → LoopOk prog 0 (lp f189 0) (mk 23 [(0, .d (D.sl a1)), (3, .os 64000 v17.length), (4, .d (D.int .i64 (v18n : Int)))] [(64000, .arr 109 true v17)]) (LoopEnd prog f189 0 23 (.os 8 r.length) (⟨[], [(109, true, r)]⟩) (fun i ts os => (i = 0 ∧ ∃ v33 : Rw, K0 v33 = some r ∧ ts = [(3, .os 67001 v33.length)] ∧ os = [(67001, .arr 109 true v33)])))
  | [], v18n, v17, hd, h => by
      rw [laws_toSurrealTermS_l0] at h
      have hn := drop_nil hd
      refine LoopOk.step ?_
      conv => whnf
      refine splD (fun g => absurd g hn) (fun _ => ?_)
      conv => whnf
      exact ⟨_, _, [some 64000], [], ⟨rfl, _, h, rfl, rfl⟩, ⟨⟨rfl, rfl⟩, ⟨rfl, ⟨rfl, rfl, rows_same⟩, trivial⟩, ⟨rfl, rfl⟩, trivial⟩⟩
  | cs :: rest, v18n, v17, hd, h => by
      rw [laws_toSurrealTermS_l0] at h
      obtain ⟨hrow, hd1, hlt⟩ := drop_cons hd
      refine LoopOk.step ?_
      conv => whnf
      refine splD (fun _ => ?_) (fun g => absurd hlt g)
      conv => whnf
      obtain ⟨x48, x49, x50, e51, h⟩ := cell_sii_ex h
      rw [e51] at hrow
      refine Req.of (Int.natCast_nonneg _) ?_
      refine Row.of _ hrow ?_
      conv => whnf
      refine Pick.no ?_
      conv => whnf
      obtain ⟨y52, e53, h⟩ := bind_ex h
      refine CallOk.of (laws_toSurrealTerm_ct hrec_laws_toSurreal e53) ?_
      conv => whnf
      obtain ⟨g54, h⟩ := req_ex h
      refine Req.of g54 ?_
      conv => whnf
      refine Take.all (rfl) ?_
      conv => whnf
      obtain ⟨g59, x55, x56, x57, e58, h⟩ := row_sii_ex h
      refine Row.of _ e58 ?_
      conv => whnf
      refine CutK.go ?_
      conv => whnf
      exact LoopOk.back (laws_toSurrealTermS_l0_ct hrec_laws_toSurreal hx rest (v18n + 1) _ hd1 h) [some 64000] [] ⟨⟨rfl, rfl⟩, ⟨rfl, ⟨rfl, rfl, rows_same⟩, trivial⟩, rfl, ⟨(by first | rfl | exact List.length_append.symm | (simp; done) | omega | (dsimp only; omega)), rfl⟩, i64eq (wrap_up hlt hx), trivial⟩
def laws_toSurrealTermS (rec_laws_toSurreal : Rw → Option Rw) (a1 : Rw) : Option Rw :=
  (if 0 ≤ (a1.length : Int) ∧ (a1.length : Int) ≤ 1099511627776 then (if a1.length ≤ cap then (laws_toSurrealTermS_l0 rec_laws_toSurreal a1 (fun (v33 : Rw) => some v33) a1 0 (List.replicate ((a1.length : Int) : Int).toNat [D.sl ([]), D.int .i64 0, D.int .i64 0] : Rw)) else none) else none)
set_option maxHeartbeats 4000000 in
set_option maxRecDepth 100000 in
theorem laws_toSurrealTermS_ct {rec_laws_toSurreal : Rw → Option Rw} (hrec_laws_toSurreal : ∀ (a1 : Rw) (r : Rw), rec_laws_toSurreal a1 = some r → Ct prog 182 [.agg [.d (D.sl a1)]] (⟨[], []⟩) (.agg [.os 8 r.length]) (⟨[], [(109, true, r)]⟩)) {a1 : Rw} {r : Rw} (h : laws_toSurrealTermS rec_laws_toSurreal a1 = some r) : Ct prog 189 [.d (D.sl a1)] (⟨[], []⟩) (.os 8 r.length) (⟨[], [(109, true, r)]⟩) := by
  rw [laws_toSurrealTermS] at h
  refine Ct.of (c := _) mixed func189 ⟨rfl, rfl, rfl⟩ ?_ rfl
  conv => whnf
  obtain ⟨g2, h⟩ := req_ex h
  refine Req.of (makeRoom (b := 40) (by decide) g2) ?_
  conv => whnf
  obtain ⟨g60, h⟩ := req_ex h
  refine LoopOk.into (laws_toSurrealTermS_l0_ct hrec_laws_toSurreal g60 _ _ _ rfl h) [some 448] [] ⟨⟨rfl, rfl⟩, ⟨rfl, ⟨rfl, rfl, rows_same⟩, trivial⟩, rfl, ⟨(by first | rfl | exact List.length_append.symm | (simp; done) | omega | (dsimp only; omega)), rfl⟩, rfl, trivial⟩ ?_ (fun _ hs => hs)
  rintro i ts os ⟨rfl, v33, h, rfl, rfl⟩
  conv => whnf
  refine CutK.go ?_
  conv => whnf
  cases h
  exact Done.of [some 67001] [] rfl rfl ⟨⟨rfl, rfl⟩, ⟨rfl, ⟨rfl, rfl, rows_same⟩, trivial⟩, ⟨rfl, rfl⟩, trivial⟩

def laws_toSurreal_b (rec_laws_toSurreal : Rw → Option Rw) (a1 : Rw) : Option Rw :=
  ((laws_toSurrealTermS rec_laws_toSurreal a1).bind fun y2 => some y2)
set_option maxHeartbeats 4000000 in
set_option maxRecDepth 100000 in
theorem laws_toSurreal_b_ct {rec_laws_toSurreal : Rw → Option Rw} (hrec_laws_toSurreal : ∀ (a1 : Rw) (r : Rw), rec_laws_toSurreal a1 = some r → Ct prog 182 [.agg [.d (D.sl a1)]] (⟨[], []⟩) (.agg [.os 8 r.length]) (⟨[], [(109, true, r)]⟩)) {a1 : Rw} {r : Rw} (h : laws_toSurreal_b rec_laws_toSurreal a1 = some r) : Ct prog 182 [.agg [.d (D.sl a1)]] (⟨[], []⟩) (.agg [.os 8 r.length]) (⟨[], [(109, true, r)]⟩) := by
  rw [laws_toSurreal_b] at h
  refine Ct.of (c := _) mixed func182 ⟨rfl, rfl, rfl⟩ ?_ rfl
  conv => whnf
  refine Pick.no ?_
  conv => whnf
  obtain ⟨y2, e3, h⟩ := bind_ex h
  refine CallOk.of (laws_toSurrealTermS_ct hrec_laws_toSurreal e3) ?_
  conv => whnf
  refine CutK.go ?_
  conv => whnf
  cases h
  exact Done.of [some 384] [] rfl rfl ⟨⟨rfl, rfl⟩, ⟨rfl, ⟨rfl, rfl, rows_same⟩, trivial⟩, ⟨⟨rfl, rfl⟩, trivial⟩, trivial⟩
def laws_toSurreal : Nat → Rw → Option Rw
  | 0, _ => none
  | k + 1, a1 => laws_toSurreal_b (laws_toSurreal k) a1
theorem laws_toSurreal_ct' : ∀ (k : Nat) (a1 : Rw) (r : Rw), laws_toSurreal k a1 = some r → Ct prog 182 [.agg [.d (D.sl a1)]] (⟨[], []⟩) (.agg [.os 8 r.length]) (⟨[], [(109, true, r)]⟩)
  | 0, _, _, h => by rw [laws_toSurreal] at h; cases h
  | k + 1, _, _, h => by rw [laws_toSurreal] at h; exact laws_toSurreal_b_ct (laws_toSurreal_ct' k) h
theorem laws_toSurreal_ct {k : Nat} {a1 : Rw} {r : Rw} (h : laws_toSurreal k a1 = some r) : Ct prog 182 [.agg [.d (D.sl a1)]] (⟨[], []⟩) (.agg [.os 8 r.length]) (⟨[], [(109, true, r)]⟩) := laws_toSurreal_ct' k _ _ h

def laws_toEntry (k : Nat) (a1 : ByteArray) (a2 : Rw) : Option (ByteArray × Rw) :=
  ((laws_toSurreal k a2).bind fun y3 => some (a1, y3))
set_option maxHeartbeats 4000000 in
set_option maxRecDepth 100000 in
theorem laws_toEntry_ct {k : Nat} {a1 : ByteArray} {a2 : Rw} {r : ByteArray × Rw} (h : laws_toEntry k a1 a2 = some r) : Ct prog 153 [.agg [.d (D.str a1), .d (D.sl a2)]] (⟨[], []⟩) (.agg [.d (D.str r.1), .os 8 r.2.length]) (⟨[], [(109, true, r.2)]⟩) := by
  rw [laws_toEntry] at h
  refine Ct.of (c := _) mixed func153 ⟨rfl, rfl, rfl⟩ ?_ rfl
  conv => whnf
  refine Pick.no ?_
  conv => whnf
  obtain ⟨y3, e4, h⟩ := bind_ex h
  refine CallOk.of (laws_toSurreal_ct e4) ?_
  conv => whnf
  refine CutK.go ?_
  conv => whnf
  cases h
  exact Done.of [some 576] [] rfl rfl ⟨⟨rfl, rfl⟩, ⟨rfl, ⟨rfl, rfl, rows_same⟩, trivial⟩, ⟨rfl, ⟨rfl, rfl⟩, trivial⟩, trivial⟩

def laws_toEntryS_l0 (k : Nat) (a1 : Rw) (K0 : Rw → Option Rw) : Rw → Nat → Rw → Option Rw
  | [], v16n, v15 => (K0 v15)
  | cs :: rest, v16n, v15 => (cell_ts cs fun x42 x43 => ((laws_toEntry k x42 x43).bind fun y45 => (if 0 ≤ (v16n : Int) ∧ (v16n : Int) < (v15.length : Int) then (row_ts v15 (v16n : Int) fun x48 x49 => (laws_toEntryS_l0 k a1 K0 rest (v16n + 1) (v15.set (((v16n : Int) : Int).toNat) [D.str y45.1, D.sl y45.2]))) else none)))
set_option maxHeartbeats 4000000 in
set_option maxRecDepth 100000 in
theorem laws_toEntryS_l0_ct {k : Nat} {a1 : Rw} {K0 : Rw → Option Rw} {r : Rw} (hx : a1.length ≤ cap) : ∀ (rest : Rw) (v16n : Nat) (v15 : Rw), a1.drop v16n = rest → laws_toEntryS_l0 k a1 K0 rest v16n v15 = some r → LoopOk prog 0 (lp f93 0) (mk 23 [(0, .d (D.sl a1)), (3, .os 64000 v15.length), (4, .d (D.int .i64 (v16n : Int)))] [(64000, .arr 132 true v15)]) (LoopEnd prog f93 0 23 (.os 8 r.length) (⟨[], [(132, true, r)]⟩) (fun i ts os => (i = 0 ∧ ∃ v29 : Rw, K0 v29 = some r ∧ ts = [(3, .os 67001 v29.length)] ∧ os = [(67001, .arr 132 true v29)])))
  | [], v16n, v15, hd, h => by
      rw [laws_toEntryS_l0] at h
      have hn := drop_nil hd
      refine LoopOk.step ?_
      conv => whnf
      refine splD (fun g => absurd g hn) (fun _ => ?_)
      conv => whnf
      exact ⟨_, _, [some 64000], [], ⟨rfl, _, h, rfl, rfl⟩, ⟨⟨rfl, rfl⟩, ⟨rfl, ⟨rfl, rfl, rows_same⟩, trivial⟩, ⟨rfl, rfl⟩, trivial⟩⟩
  | cs :: rest, v16n, v15, hd, h => by
      rw [laws_toEntryS_l0] at h
      obtain ⟨hrow, hd1, hlt⟩ := drop_cons hd
      refine LoopOk.step ?_
      conv => whnf
      refine splD (fun _ => ?_) (fun g => absurd hlt g)
      conv => whnf
      obtain ⟨x42, x43, e44, h⟩ := cell_ts_ex h
      rw [e44] at hrow
      refine Req.of (Int.natCast_nonneg _) ?_
      refine Row.of _ hrow ?_
      conv => whnf
      refine Pick.no ?_
      conv => whnf
      obtain ⟨y45, e46, h⟩ := bind_ex h
      refine CallOk.of (laws_toEntry_ct e46) ?_
      conv => whnf
      obtain ⟨g47, h⟩ := req_ex h
      refine Req.of g47 ?_
      conv => whnf
      refine Take.all (rfl) ?_
      conv => whnf
      obtain ⟨g51, x48, x49, e50, h⟩ := row_ts_ex h
      refine Row.of _ e50 ?_
      conv => whnf
      refine CutK.go ?_
      conv => whnf
      exact LoopOk.back (laws_toEntryS_l0_ct hx rest (v16n + 1) _ hd1 h) [some 64000] [] ⟨⟨rfl, rfl⟩, ⟨rfl, ⟨rfl, rfl, rows_same⟩, trivial⟩, rfl, ⟨(by first | rfl | exact List.length_append.symm | (simp; done) | omega | (dsimp only; omega)), rfl⟩, i64eq (wrap_up hlt hx), trivial⟩
def laws_toEntryS (k : Nat) (a1 : Rw) : Option Rw :=
  (if 0 ≤ (a1.length : Int) ∧ (a1.length : Int) ≤ 1099511627776 then (if a1.length ≤ cap then (laws_toEntryS_l0 k a1 (fun (v29 : Rw) => some v29) a1 0 (List.replicate ((a1.length : Int) : Int).toNat [D.str ByteArray.empty, D.sl ([])] : Rw)) else none) else none)
set_option maxHeartbeats 4000000 in
set_option maxRecDepth 100000 in
theorem laws_toEntryS_ct {k : Nat} {a1 : Rw} {r : Rw} (h : laws_toEntryS k a1 = some r) : Ct prog 93 [.d (D.sl a1)] (⟨[], []⟩) (.os 8 r.length) (⟨[], [(132, true, r)]⟩) := by
  rw [laws_toEntryS] at h
  refine Ct.of (c := _) mixed func93 ⟨rfl, rfl, rfl⟩ ?_ rfl
  conv => whnf
  obtain ⟨g2, h⟩ := req_ex h
  refine Req.of (makeRoom (b := 40) (by decide) g2) ?_
  conv => whnf
  obtain ⟨g52, h⟩ := req_ex h
  refine LoopOk.into (laws_toEntryS_l0_ct  g52 _ _ _ rfl h) [some 448] [] ⟨⟨rfl, rfl⟩, ⟨rfl, ⟨rfl, rfl, rows_same⟩, trivial⟩, rfl, ⟨(by first | rfl | exact List.length_append.symm | (simp; done) | omega | (dsimp only; omega)), rfl⟩, rfl, trivial⟩ ?_ (fun _ hs => hs)
  rintro i ts os ⟨rfl, v29, h, rfl, rfl⟩
  conv => whnf
  refine CutK.go ?_
  conv => whnf
  cases h
  exact Done.of [some 67001] [] rfl rfl ⟨⟨rfl, rfl⟩, ⟨rfl, ⟨rfl, rfl, rows_same⟩, trivial⟩, ⟨rfl, rfl⟩, trivial⟩

def laws_toNotebook (k : Nat) (a1 : Rw) : Option Rw :=
  ((laws_toEntryS k a1).bind fun y2 => some y2)
set_option maxHeartbeats 4000000 in
set_option maxRecDepth 100000 in
theorem laws_toNotebook_ct {k : Nat} {a1 : Rw} {r : Rw} (h : laws_toNotebook k a1 = some r) : Ct prog 33 [.agg [.d (D.sl a1)]] (⟨[], []⟩) (.agg [.os 8 r.length]) (⟨[], [(132, true, r)]⟩) := by
  rw [laws_toNotebook] at h
  refine Ct.of (c := _) mixed func33 ⟨rfl, rfl, rfl⟩ ?_ rfl
  conv => whnf
  refine Pick.no ?_
  conv => whnf
  obtain ⟨y2, e3, h⟩ := bind_ex h
  refine CallOk.of (laws_toEntryS_ct e3) ?_
  conv => whnf
  refine CutK.go ?_
  conv => whnf
  cases h
  exact Done.of [some 384] [] rfl rfl ⟨⟨rfl, rfl⟩, ⟨rfl, ⟨rfl, rfl, rows_same⟩, trivial⟩, ⟨⟨rfl, rfl⟩, trivial⟩, trivial⟩

def lib_Compare (a1 a2 : ByteArray) : Option Int := some (Lib.compareBytes a1.data.toList a2.data.toList)
theorem lib_Compare_ct {a1 a2 : ByteArray} {r : Int} (h : lib_Compare a1 a2 = some r) : Ct prog 156 [.d (.str a1), .d (.str a2)] ⟨[], []⟩ (.d (.int .i64 r)) ⟨[], []⟩ := by
  cases h
  refine Ct.libD (u := .int .i64 _) ⟨_, func156, rfl, rfl⟩ (fun _ _ => .int _ _) fun w M vs hs hr => ?_
  obtain ⟨v, u, rfl, hv, hu⟩ := repL_two hr
  rw [rep_str hv, rep_str hu]
  refine (strings_Compare a1 a2 w).mono ?_
  rintro e w' ⟨rfl, rfl⟩
  exact ⟨rfl, RowKit.Below.refl _ _⟩

def impl_Notebook_at_1  (a1 : ByteArray) (a2 : Rw) (a3 : ByteArray) : Option Int :=
  ((lib_Compare a1 a3).bind fun y4 => some y4)
set_option maxHeartbeats 4000000 in
set_option maxRecDepth 100000 in
theorem impl_Notebook_at_1_ct  {a1 : ByteArray} {a2 : Rw} {a3 : ByteArray} {r : Int} (h : impl_Notebook_at_1 a1 a2 a3 = some r) : Ct prog 155 [.agg [.d (D.str a1), .d (D.sl a2)], .d (D.str a3)] (⟨[], []⟩) (.d (D.int .i64 r)) (⟨[], []⟩) := by
  rw [impl_Notebook_at_1] at h
  refine Ct.of (c := _) mixed func155 ⟨rfl, rfl, rfl⟩ ?_ rfl
  conv => whnf
  refine Pick.no ?_
  conv => whnf
  obtain ⟨y4, e5, h⟩ := bind_ex h
  refine CallOk.of (lib_Compare_ct e5) ?_
  conv => whnf
  refine CutK.go ?_
  conv => whnf
  cases h
  exact Done.of [] [] rfl rfl ⟨⟨rfl, rfl⟩, ⟨rfl, trivial⟩, rfl, trivial⟩

def slices_BinarySearchFunc__Notebook_at_1_p5 (o39 : Int) (v40 : Bool) : Option (Int × Bool) :=
  (cond v40 (some (o39, true)) (some (o39, false)))
set_option maxHeartbeats 4000000 in
set_option maxRecDepth 100000 in
theorem slices_BinarySearchFunc__Notebook_at_1_p5_ct {o39 : Int} {v40 : Bool} {r : Int × Bool} (h : slices_BinarySearchFunc__Notebook_at_1_p5 o39 v40 = some r) : X prog 0 (tlF f154 5) (mk 49 [(6, .d (D.int .i64 o39)), (7, .d (D.bool v40))] []) (finK prog f154 0 (.tup [.d (D.int .i64 r.1), .d (D.bool r.2)]) (⟨[], []⟩)) := by
  rw [slices_BinarySearchFunc__Notebook_at_1_p5] at h
  cases v40
  · replace h := condF h
    conv => whnf
    cases h
    exact Done.of [] [] rfl rfl ⟨⟨rfl, rfl⟩, ⟨rfl, trivial⟩, ⟨rfl, rfl, trivial⟩, trivial⟩
  · replace h := condT h
    conv => whnf
    cases h
    exact Done.of [] [] rfl rfl ⟨⟨rfl, rfl⟩, ⟨rfl, trivial⟩, ⟨rfl, rfl, trivial⟩, trivial⟩
def slices_BinarySearchFunc__Notebook_at_1_p4 (a1 : Rw) (a2 : ByteArray) (o30 : Int) : Option (Int × Bool) :=
  (if o30 < (a1.length : Int) then (row_ts a1 o30 fun x42 x43 => ((impl_Notebook_at_1 x42 x43 a2).bind fun y46 => (if y46 = (0 : Int) then (slices_BinarySearchFunc__Notebook_at_1_p5 o30 true) else (slices_BinarySearchFunc__Notebook_at_1_p5 o30 false)))) else (slices_BinarySearchFunc__Notebook_at_1_p5 o30 false))
set_option maxHeartbeats 4000000 in
set_option maxRecDepth 100000 in
theorem slices_BinarySearchFunc__Notebook_at_1_p4_ct {a1 : Rw} {a2 : ByteArray} {o30 : Int} {r : Int × Bool} (h : slices_BinarySearchFunc__Notebook_at_1_p4 a1 a2 o30 = some r) : X prog 0 (tlF f154 4) (mk 49 [(0, .d (D.sl a1)), (1, .d (D.str a2)), (2, .fn 155 []), (8, .d (D.int .i64 (a1.length : Int))), (9, .d (D.int .i64 o30))] []) (finK prog f154 0 (.tup [.d (D.int .i64 r.1), .d (D.bool r.2)]) (⟨[], []⟩)) := by
  rw [slices_BinarySearchFunc__Notebook_at_1_p4] at h
  conv => whnf
  refine splD (fun g41 => ?_) (fun g41 => ?_)
  · replace h := iteP h g41
    conv => whnf
    obtain ⟨g45, x42, x43, e44, h⟩ := row_ts_ex h
    refine Req.of g45 ?_
    refine Row.of _ e44 ?_
    conv => whnf
    refine Pick.no ?_
    conv => whnf
    obtain ⟨y46, e47, h⟩ := bind_ex h
    refine CallOk.of (impl_Notebook_at_1_ct e47) ?_
    conv => whnf
    refine splD (fun g48 => ?_) (fun g48 => ?_)
    · replace h := iteP h g48
      conv => whnf
      exact CutK.piece (slices_BinarySearchFunc__Notebook_at_1_p5_ct  h) [] [] ⟨⟨rfl, rfl⟩, ⟨rfl, trivial⟩, rfl, rfl, trivial⟩
    · replace h := iteN h g48
      conv => whnf
      exact CutK.piece (slices_BinarySearchFunc__Notebook_at_1_p5_ct  h) [] [] ⟨⟨rfl, rfl⟩, ⟨rfl, trivial⟩, rfl, rfl, trivial⟩
  · replace h := iteN h g41
    conv => whnf
    exact CutK.piece (slices_BinarySearchFunc__Notebook_at_1_p5_ct  h) [] [] ⟨⟨rfl, rfl⟩, ⟨rfl, trivial⟩, rfl, rfl, trivial⟩
def slices_BinarySearchFunc__Notebook_at_1_l0 (a1 : Rw) (a2 : ByteArray) (K0 : Int → Option (Int × Bool)) : Nat → Int → Int → Option (Int × Bool)
  | 0, _, _ => none
  | n + 1, v57, v58 => (if v57 < v58 then (row_ts a1 (IntKind.i64.wrap ((IntKind.u64.wrap (IntKind.i64.wrap (v57 + v58))).fdiv (2 ^ (min (1 : Int).toNat (IntKind.u64).bits)))) fun x77 x78 => ((impl_Notebook_at_1 x77 x78 a2).bind fun y81 => (if y81 < (0 : Int) then (slices_BinarySearchFunc__Notebook_at_1_l0 a1 a2 K0 n (IntKind.i64.wrap ((IntKind.i64.wrap ((IntKind.u64.wrap (IntKind.i64.wrap (v57 + v58))).fdiv (2 ^ (min (1 : Int).toNat (IntKind.u64).bits)))) + 1)) v58) else (slices_BinarySearchFunc__Notebook_at_1_l0 a1 a2 K0 n v57 (IntKind.i64.wrap ((IntKind.u64.wrap (IntKind.i64.wrap (v57 + v58))).fdiv (2 ^ (min (1 : Int).toNat (IntKind.u64).bits)))))))) else (K0 v57))
set_option maxHeartbeats 4000000 in
set_option maxRecDepth 100000 in
theorem slices_BinarySearchFunc__Notebook_at_1_l0_ct {a1 : Rw} {a2 : ByteArray} {K0 : Int → Option (Int × Bool)} {r : Int × Bool} : ∀ (n : Nat) (v57 : Int) (v58 : Int), slices_BinarySearchFunc__Notebook_at_1_l0 a1 a2 K0 n v57 v58 = some r → LoopOk prog 0 (lp f154 0) (mk 49 [(0, .d (D.sl a1)), (1, .d (D.str a2)), (2, .fn 155 []), (8, .d (D.int .i64 (a1.length : Int))), (9, .d (D.int .i64 v57)), (10, .d (D.int .i64 v58))] []) (LoopEnd prog f154 0 49 (.tup [.d (D.int .i64 r.1), .d (D.bool r.2)]) (⟨[], []⟩) (fun i ts os => (i = 0 ∧ ∃ v67 : Int, K0 v67 = some r ∧ ts = [(0, .d (D.sl a1)), (1, .d (D.str a2)), (2, .fn 155 []), (8, .d (D.int .i64 (a1.length : Int))), (9, .d (D.int .i64 v67))] ∧ os = [])))
  | 0, _, _, h => by
      rw [slices_BinarySearchFunc__Notebook_at_1_l0] at h; cases h
  | n + 1, v57, v58, h => by
      rw [slices_BinarySearchFunc__Notebook_at_1_l0] at h
      refine LoopOk.step ?_
      conv => whnf
      refine splD (fun g76 => ?_) (fun g76 => ?_)
      · replace h := iteP h g76
        conv => whnf
        refine Req.of (by decide) ?_
        conv => whnf
        obtain ⟨g80, x77, x78, e79, h⟩ := row_ts_ex h
        refine Req.of g80 ?_
        refine Row.of _ e79 ?_
        conv => whnf
        refine Pick.no ?_
        conv => whnf
        obtain ⟨y81, e82, h⟩ := bind_ex h
        refine CallOk.of (impl_Notebook_at_1_ct e82) ?_
        conv => whnf
        refine splD (fun g83 => ?_) (fun g83 => ?_)
        · replace h := iteP h g83
          conv => whnf
          refine CutK.norm [0, 1, 2, 8, 9, 10, 11, 31] [] ?_
          conv => whnf
          exact LoopOk.back (slices_BinarySearchFunc__Notebook_at_1_l0_ct  n _ _ h) [] [] ⟨⟨rfl, rfl⟩, ⟨rfl, trivial⟩, rfl, rfl, ⟨rfl, trivial⟩, rfl, rfl, rfl, trivial⟩
        · replace h := iteN h g83
          conv => whnf
          refine CutK.norm [0, 1, 2, 8, 9, 10, 11, 31] [] ?_
          conv => whnf
          exact LoopOk.back (slices_BinarySearchFunc__Notebook_at_1_l0_ct  n _ _ h) [] [] ⟨⟨rfl, rfl⟩, ⟨rfl, trivial⟩, rfl, rfl, ⟨rfl, trivial⟩, rfl, rfl, rfl, trivial⟩
      · replace h := iteN h g76
        conv => whnf
        exact ⟨_, _, [], [], ⟨rfl, _, h, rfl, rfl⟩, ⟨⟨rfl, rfl⟩, ⟨rfl, trivial⟩, rfl, rfl, ⟨rfl, trivial⟩, rfl, rfl, trivial⟩⟩
def slices_BinarySearchFunc__Notebook_at_1 (k : Nat) (a1 : Rw) (a2 : ByteArray) : Option (Int × Bool) :=
  (slices_BinarySearchFunc__Notebook_at_1_l0 a1 a2 (fun (v67 : Int) => (slices_BinarySearchFunc__Notebook_at_1_p4 a1 a2 v67)) k 0 (a1.length : Int))
set_option maxHeartbeats 4000000 in
set_option maxRecDepth 100000 in
theorem slices_BinarySearchFunc__Notebook_at_1_ct {k : Nat} {a1 : Rw} {a2 : ByteArray} {r : Int × Bool} (h : slices_BinarySearchFunc__Notebook_at_1 k a1 a2 = some r) : Ct prog 154 [.d (D.sl a1), .d (D.str a2), .fn 155 []] (⟨[], []⟩) (.tup [.d (D.int .i64 r.1), .d (D.bool r.2)]) (⟨[], []⟩) := by
  rw [slices_BinarySearchFunc__Notebook_at_1] at h
  refine Ct.of (c := _) mixed func154 ⟨rfl, rfl, rfl⟩ ?_ rfl
  conv => whnf
  refine LoopOk.into (slices_BinarySearchFunc__Notebook_at_1_l0_ct  _ _ _ h) [] [] ⟨⟨rfl, rfl⟩, ⟨rfl, trivial⟩, rfl, rfl, ⟨rfl, trivial⟩, rfl, rfl, rfl, trivial⟩ ?_ (fun _ hs => hs)
  rintro i ts os ⟨rfl, v67, h, rfl, rfl⟩
  conv => whnf
  exact CutK.piece (slices_BinarySearchFunc__Notebook_at_1_p4_ct  h) [] [] ⟨⟨rfl, rfl⟩, ⟨rfl, trivial⟩, rfl, rfl, ⟨rfl, trivial⟩, rfl, rfl, trivial⟩

def impl_Notebook_at (k : Nat) (a1 : Rw) (a2 : ByteArray) : Option (Int × Bool × Rw) :=
  ((slices_BinarySearchFunc__Notebook_at_1 k a1 a2).bind fun y3 => (if y3.2 = true then some (y3.1, true, a1) else some (y3.1, false, a1)))
set_option maxHeartbeats 4000000 in
set_option maxRecDepth 100000 in
theorem impl_Notebook_at_ct {k : Nat} {a1 : Rw} {a2 : ByteArray} {r : Int × Bool × Rw} (h : impl_Notebook_at k a1 a2 = some r) : Ct prog 94 [.ptr 0 0, .d (D.str a2)] (⟨[(71, [.d (D.sl a1)])], []⟩) (.tup [.d (D.int .i64 r.1), .d (D.bool r.2.1)]) (⟨[(71, [.d (D.sl r.2.2)])], []⟩) := by
  rw [impl_Notebook_at] at h
  refine Ct.of (c := _) mixed func94 ⟨rfl, rfl, rfl⟩ ?_ rfl
  conv => whnf
  refine Pick.no ?_
  conv => whnf
  obtain ⟨y3, e4, h⟩ := bind_ex h
  refine CallOk.of (slices_BinarySearchFunc__Notebook_at_1_ct e4) ?_
  conv => whnf
  refine spl (fun g5 => ?_) (fun g5 => ?_)
  · replace h := iteT h g5
    conv => whnf
    refine CutK.go ?_
    conv => whnf
    cases h
    exact Done.of [some 0] [] rfl rfl ⟨⟨rfl, rfl⟩, ⟨rfl, ⟨rfl, rfl, trivial⟩, trivial⟩, ⟨rfl, rfl, trivial⟩, trivial⟩
  · replace h := iteF h g5
    conv => whnf
    refine CutK.go ?_
    conv => whnf
    cases h
    exact Done.of [some 0] [] rfl rfl ⟨⟨rfl, rfl⟩, ⟨rfl, ⟨rfl, rfl, trivial⟩, trivial⟩, ⟨rfl, rfl, trivial⟩, trivial⟩

def impl_isName_l0 (a1 : ByteArray) (K0 : Option Bool) : Nat → Int → Option Bool
  | 0, _ => none
  | n + 1, v8 => (if v8 < (a1.size : Int) then (byteD a1 v8 fun b16 => (if (b16.toNat : Int) < (97 : Int) then some false else (if (122 : Int) < (b16.toNat : Int) then some false else (impl_isName_l0 a1 K0 n (IntKind.i64.wrap (v8 + 1)))))) else (K0))
set_option maxHeartbeats 4000000 in
set_option maxRecDepth 100000 in
theorem impl_isName_l0_ct {a1 : ByteArray} {K0 : Option Bool} {r : Bool} : ∀ (n : Nat) (v8 : Int), impl_isName_l0 a1 K0 n v8 = some r → LoopOk prog 0 (lp f157 0) (mk 28 [(0, .d (D.str a1)), (5, .d (D.int .i64 (a1.size : Int))), (6, .d (D.int .i64 v8))] []) (LoopEnd prog f157 0 28 (.d (D.bool r)) (⟨[], []⟩) (fun i ts os => (i = 0 ∧ K0 = some r ∧ ts = [(0, .d (D.str a1))] ∧ os = [])))
  | 0, _, h => by
      rw [impl_isName_l0] at h; cases h
  | n + 1, v8, h => by
      rw [impl_isName_l0] at h
      refine LoopOk.step ?_
      conv => whnf
      refine splD (fun g15 => ?_) (fun g15 => ?_)
      · replace h := iteP h g15
        conv => whnf
        obtain ⟨g17, b16, e18, h⟩ := byteD_ex h
        refine Req.of g17 ?_
        refine Byte.of _ e18 ?_
        conv => whnf
        refine splD (fun g19 => ?_) (fun g19 => ?_)
        · replace h := iteP h g19
          conv => whnf
          cases h
          exact Done.of [] [] rfl rfl ⟨⟨rfl, rfl⟩, ⟨rfl, trivial⟩, rfl, trivial⟩
        · replace h := iteN h g19
          conv => whnf
          refine Req.of g17 ?_
          refine Byte.of _ e18 ?_
          conv => whnf
          refine splD (fun g20 => ?_) (fun g20 => ?_)
          · replace h := iteP h g20
            conv => whnf
            cases h
            exact Done.of [] [] rfl rfl ⟨⟨rfl, rfl⟩, ⟨rfl, trivial⟩, rfl, trivial⟩
          · replace h := iteN h g20
            conv => whnf
            exact LoopOk.back (impl_isName_l0_ct  n _ h) [] [] ⟨⟨rfl, rfl⟩, ⟨rfl, trivial⟩, rfl, rfl, rfl, trivial⟩
      · replace h := iteN h g15
        conv => whnf
        exact ⟨_, _, [], [], ⟨rfl, h, rfl, rfl⟩, ⟨⟨rfl, rfl⟩, ⟨rfl, trivial⟩, rfl, trivial⟩⟩
def impl_isName (k : Nat) (a1 : ByteArray) : Option Bool :=
  (impl_isName_l0 a1 (if (1 : Int) ≤ (a1.size : Int) then (if (a1.size : Int) ≤ (8 : Int) then some true else some false) else some false) k 0)
set_option maxHeartbeats 4000000 in
set_option maxRecDepth 100000 in
theorem impl_isName_ct {k : Nat} {a1 : ByteArray} {r : Bool} (h : impl_isName k a1 = some r) : Ct prog 157 [.d (D.str a1)] (⟨[], []⟩) (.d (D.bool r)) (⟨[], []⟩) := by
  rw [impl_isName] at h
  refine Ct.of (c := _) mixed func157 ⟨rfl, rfl, rfl⟩ ?_ rfl
  conv => whnf
  refine LoopOk.into (impl_isName_l0_ct  _ _ h) [] [] ⟨⟨rfl, rfl⟩, ⟨rfl, trivial⟩, rfl, rfl, rfl, trivial⟩ ?_ (fun _ hs => hs)
  rintro i ts os ⟨rfl, h, rfl, rfl⟩
  conv => whnf
  refine CutK.go ?_
  conv => whnf
  refine splD (fun g21 => ?_) (fun g21 => ?_)
  · replace h := iteP h g21
    conv => whnf
    refine splD (fun g22 => ?_) (fun g22 => ?_)
    · replace h := iteP h g22
      conv => whnf
      cases h
      exact Done.of [] [] rfl rfl ⟨⟨rfl, rfl⟩, ⟨rfl, trivial⟩, rfl, trivial⟩
    · replace h := iteN h g22
      conv => whnf
      cases h
      exact Done.of [] [] rfl rfl ⟨⟨rfl, rfl⟩, ⟨rfl, trivial⟩, rfl, trivial⟩
  · replace h := iteN h g21
    conv => whnf
    cases h
    exact Done.of [] [] rfl rfl ⟨⟨rfl, rfl⟩, ⟨rfl, trivial⟩, rfl, trivial⟩

def impl_in  (a1 : Int) (a2 : Int) (a3 : Int) : Option Bool :=
  (if a2 ≤ a1 then (if a1 ≤ a3 then some true else some false) else some false)
set_option maxHeartbeats 4000000 in
set_option maxRecDepth 100000 in
theorem impl_in_ct  {a1 : Int} {a2 : Int} {a3 : Int} {r : Bool} (h : impl_in a1 a2 a3 = some r) : Ct prog 81 [.d (D.int .i64 a1), .d (D.int .i64 a2), .d (D.int .i64 a3)] (⟨[], []⟩) (.d (D.bool r)) (⟨[], []⟩) := by
  rw [impl_in] at h
  refine Ct.of (c := _) mixed func81 ⟨rfl, rfl, rfl⟩ ?_ rfl
  conv => whnf
  refine splD (fun g4 => ?_) (fun g4 => ?_)
  · replace h := iteP h g4
    conv => whnf
    refine splD (fun g5 => ?_) (fun g5 => ?_)
    · replace h := iteP h g5
      conv => whnf
      cases h
      exact Done.of [] [] rfl rfl ⟨⟨rfl, rfl⟩, ⟨rfl, trivial⟩, rfl, trivial⟩
    · replace h := iteN h g5
      conv => whnf
      cases h
      exact Done.of [] [] rfl rfl ⟨⟨rfl, rfl⟩, ⟨rfl, trivial⟩, rfl, trivial⟩
  · replace h := iteN h g4
    conv => whnf
    cases h
    exact Done.of [] [] rfl rfl ⟨⟨rfl, rfl⟩, ⟨rfl, trivial⟩, rfl, trivial⟩

def impl_size  (a1 : Int) : Option Int :=
  some (if a1 < (IntKind.i64.wrap (0 - a1)) then IntKind.i64.wrap (0 - a1) else a1)
set_option maxHeartbeats 4000000 in
set_option maxRecDepth 100000 in
theorem impl_size_ct  {a1 : Int} {r : Int} (h : impl_size a1 = some r) : Ct prog 169 [.d (D.int .i64 a1)] (⟨[], []⟩) (.d (D.int .i64 r)) (⟨[], []⟩) := by
  rw [impl_size] at h
  refine Ct.of (c := _) mixed func169 ⟨rfl, rfl, rfl⟩ ?_ rfl
  conv => whnf
  cases h
  exact Done.of [] [] rfl rfl ⟨⟨rfl, rfl⟩, ⟨rfl, trivial⟩, rfl, trivial⟩

def impl_gcd_l0 (K0 : Int → Option Int) : Nat → Int → Int → Option Int
  | 0, _, _ => none
  | n + 1, v5, v6 => (if v6 = (0 : Int) then (K0 v5) else (if v6 ≠ 0 then (impl_gcd_l0 K0 n v6 (v5.tmod v6)) else none))
set_option maxHeartbeats 4000000 in
set_option maxRecDepth 100000 in
theorem impl_gcd_l0_ct {K0 : Int → Option Int} {r : Int} : ∀ (n : Nat) (v5 : Int) (v6 : Int), impl_gcd_l0 K0 n v5 v6 = some r → LoopOk prog 0 (lp f122 0) (mk 13 [(0, .d (D.int .i64 v5)), (1, .d (D.int .i64 v6))] []) (LoopEnd prog f122 0 13 (.d (D.int .i64 r)) (⟨[], []⟩) (fun i ts os => (i = 0 ∧ ∃ v9 : Int, K0 v9 = some r ∧ ts = [(0, .d (D.int .i64 v9))] ∧ os = [])))
  | 0, _, _, h => by
      rw [impl_gcd_l0] at h; cases h
  | n + 1, v5, v6, h => by
      rw [impl_gcd_l0] at h
      refine LoopOk.step ?_
      conv => whnf
      refine splN (fun g12 => ?_) (fun g12 => ?_)
      · replace h := iteN h g12
        conv => whnf
        obtain ⟨g13, h⟩ := req_ex h
        refine Req.of g13 ?_
        conv => whnf
        exact LoopOk.back (impl_gcd_l0_ct  n _ _ h) [] [] ⟨⟨rfl, rfl⟩, ⟨rfl, trivial⟩, rfl, rfl, trivial⟩
      · replace h := iteP h g12
        conv => whnf
        exact ⟨_, _, [], [], ⟨rfl, _, h, rfl, rfl⟩, ⟨⟨rfl, rfl⟩, ⟨rfl, trivial⟩, rfl, trivial⟩⟩
def impl_gcd (k : Nat) (a1 : Int) (a2 : Int) : Option Int :=
  (impl_gcd_l0 (fun (v9 : Int) => ((impl_size v9).bind fun y14 => some y14)) k a1 a2)
set_option maxHeartbeats 4000000 in
set_option maxRecDepth 100000 in
theorem impl_gcd_ct {k : Nat} {a1 : Int} {a2 : Int} {r : Int} (h : impl_gcd k a1 a2 = some r) : Ct prog 122 [.d (D.int .i64 a1), .d (D.int .i64 a2)] (⟨[], []⟩) (.d (D.int .i64 r)) (⟨[], []⟩) := by
  rw [impl_gcd] at h
  refine Ct.of (c := _) mixed func122 ⟨rfl, rfl, rfl⟩ ?_ rfl
  conv => whnf
  refine LoopOk.into (impl_gcd_l0_ct  _ _ _ h) [] [] ⟨⟨rfl, rfl⟩, ⟨rfl, trivial⟩, rfl, rfl, trivial⟩ ?_ (fun _ hs => hs)
  rintro i ts os ⟨rfl, v9, h, rfl, rfl⟩
  conv => whnf
  refine CutK.go ?_
  conv => whnf
  refine Pick.no ?_
  conv => whnf
  obtain ⟨y14, e15, h⟩ := bind_ex h
  refine CallOk.of (impl_size_ct e15) ?_
  conv => whnf
  refine CutK.go ?_
  conv => whnf
  cases h
  exact Done.of [] [] rfl rfl ⟨⟨rfl, rfl⟩, ⟨rfl, trivial⟩, rfl, trivial⟩

def impl_IsFraction (k : Nat) (a1 : Int) (a2 : Int) : Option Bool :=
  ((impl_in a2 1 1000000).bind fun y3 => (if y3 = true then ((impl_in a1 (-1000000) 1000000).bind fun y6 => (if y6 = true then ((impl_gcd k a1 a2).bind fun y9 => (if y9 = (1 : Int) then some true else some false)) else some false)) else some false))
set_option maxHeartbeats 4000000 in
set_option maxRecDepth 100000 in
theorem impl_IsFraction_ct {k : Nat} {a1 : Int} {a2 : Int} {r : Bool} (h : impl_IsFraction k a1 a2 = some r) : Ct prog 50 [.agg [.d (D.int .i64 a1), .d (D.int .i64 a2)]] (⟨[], []⟩) (.d (D.bool r)) (⟨[], []⟩) := by
  rw [impl_IsFraction] at h
  refine Ct.of (c := _) mixed func50 ⟨rfl, rfl, rfl⟩ ?_ rfl
  conv => whnf
  refine Pick.no ?_
  conv => whnf
  obtain ⟨y3, e4, h⟩ := bind_ex h
  refine CallOk.of (impl_in_ct e4) ?_
  conv => whnf
  refine spl (fun g5 => ?_) (fun g5 => ?_)
  · replace h := iteT h g5
    conv => whnf
    refine Pick.no ?_
    conv => whnf
    obtain ⟨y6, e7, h⟩ := bind_ex h
    refine CallOk.of (impl_in_ct e7) ?_
    conv => whnf
    refine spl (fun g8 => ?_) (fun g8 => ?_)
    · replace h := iteT h g8
      conv => whnf
      refine Pick.no ?_
      conv => whnf
      obtain ⟨y9, e10, h⟩ := bind_ex h
      refine CallOk.of (impl_gcd_ct e10) ?_
      conv => whnf
      refine splD (fun g11 => ?_) (fun g11 => ?_)
      · replace h := iteP h g11
        conv => whnf
        refine CutK.go ?_
        conv => whnf
        cases h
        exact Done.of [] [] rfl rfl ⟨⟨rfl, rfl⟩, ⟨rfl, trivial⟩, rfl, trivial⟩
      · replace h := iteN h g11
        conv => whnf
        refine CutK.go ?_
        conv => whnf
        cases h
        exact Done.of [] [] rfl rfl ⟨⟨rfl, rfl⟩, ⟨rfl, trivial⟩, rfl, trivial⟩
    · replace h := iteF h g8
      conv => whnf
      refine CutK.go ?_
      conv => whnf
      cases h
      exact Done.of [] [] rfl rfl ⟨⟨rfl, rfl⟩, ⟨rfl, trivial⟩, rfl, trivial⟩
  · replace h := iteF h g5
    conv => whnf
    refine CutK.go ?_
    conv => whnf
    cases h
    exact Done.of [] [] rfl rfl ⟨⟨rfl, rfl⟩, ⟨rfl, trivial⟩, rfl, trivial⟩

def impl_compare  (a1 : Int) (a2 : Int) : Option Int :=
  (if a1 < a2 then some (-1) else (if a2 < a1 then some 1 else some 0))
set_option maxHeartbeats 4000000 in
set_option maxRecDepth 100000 in
theorem impl_compare_ct  {a1 : Int} {a2 : Int} {r : Int} (h : impl_compare a1 a2 = some r) : Ct prog 121 [.d (D.int .i64 a1), .d (D.int .i64 a2)] (⟨[], []⟩) (.d (D.int .i64 r)) (⟨[], []⟩) := by
  rw [impl_compare] at h
  refine Ct.of (c := _) mixed func121 ⟨rfl, rfl, rfl⟩ ?_ rfl
  conv => whnf
  refine splD (fun g3 => ?_) (fun g3 => ?_)
  · replace h := iteP h g3
    conv => whnf
    cases h
    exact Done.of [] [] rfl rfl ⟨⟨rfl, rfl⟩, ⟨rfl, trivial⟩, rfl, trivial⟩
  · replace h := iteN h g3
    conv => whnf
    refine splD (fun g4 => ?_) (fun g4 => ?_)
    · replace h := iteP h g4
      conv => whnf
      cases h
      exact Done.of [] [] rfl rfl ⟨⟨rfl, rfl⟩, ⟨rfl, trivial⟩, rfl, trivial⟩
    · replace h := iteN h g4
      conv => whnf
      cases h
      exact Done.of [] [] rfl rfl ⟨⟨rfl, rfl⟩, ⟨rfl, trivial⟩, rfl, trivial⟩

def impl_cmpFractions  (a1 : Int) (a2 : Int) (a3 : Int) (a4 : Int) : Option Int :=
  ((impl_compare (IntKind.i64.wrap (a1 * a4)) (IntKind.i64.wrap (a3 * a2))).bind fun y5 => some y5)
set_option maxHeartbeats 4000000 in
set_option maxRecDepth 100000 in
theorem impl_cmpFractions_ct  {a1 : Int} {a2 : Int} {a3 : Int} {a4 : Int} {r : Int} (h : impl_cmpFractions a1 a2 a3 a4 = some r) : Ct prog 116 [.agg [.d (D.int .i64 a1), .d (D.int .i64 a2)], .agg [.d (D.int .i64 a3), .d (D.int .i64 a4)]] (⟨[], []⟩) (.d (D.int .i64 r)) (⟨[], []⟩) := by
  rw [impl_cmpFractions] at h
  refine Ct.of (c := _) mixed func116 ⟨rfl, rfl, rfl⟩ ?_ rfl
  conv => whnf
  refine Pick.no ?_
  conv => whnf
  obtain ⟨y5, e6, h⟩ := bind_ex h
  refine CallOk.of (impl_compare_ct e6) ?_
  conv => whnf
  refine CutK.go ?_
  conv => whnf
  cases h
  exact Done.of [] [] rfl rfl ⟨⟨rfl, rfl⟩, ⟨rfl, trivial⟩, rfl, trivial⟩

def impl_order_p2  : Option Int :=
  some 0
set_option maxHeartbeats 4000000 in
set_option maxRecDepth 100000 in
theorem impl_order_p2_ct  {r : Int} (h : impl_order_p2 = some r) : X prog 0 (tlF f138 2) (mk 86 [] []) (finK prog f138 0 (.d (D.int .i64 r)) (⟨[], []⟩)) := by
  rw [impl_order_p2] at h
  conv => whnf
  cases h
  exact Done.of [] [] rfl rfl ⟨⟨rfl, rfl⟩, ⟨rfl, trivial⟩, rfl, trivial⟩
def impl_order_l0 (rec_impl_order : Rw → Rw → Option Int) (a1 : Rw) (a2 : Rw) (K0 : Option Int) : Nat → Int → Option Int
  | 0, _ => none
  | n + 1, v211 => (if v211 < (a1.length : Int) then (if v211 = (a1.length : Int) then (row_sii a2 v211 fun x359 x360 x361 => ((impl_compare x360 0).bind fun y364 => some (IntKind.i64.wrap (0 - y364)))) else (if v211 = (a2.length : Int) then (row_sii a1 v211 fun x367 x368 x369 => ((impl_compare x368 0).bind fun y372 => some y372)) else (row_sii a1 v211 fun x374 x375 x376 => (row_sii a2 v211 fun x379 x380 x381 => ((rec_impl_order x374 x379).bind fun y384 => (if y384 = (1 : Int) then ((impl_compare x375 0).bind fun y387 => some y387) else (if y384 = ((-1) : Int) then ((impl_compare x380 0).bind fun y390 => some (IntKind.i64.wrap (0 - y390))) else ((impl_cmpFractions x375 x376 x380 x381).bind fun y392 => (if y392 = (0 : Int) then (impl_order_l0 rec_impl_order a1 a2 K0 n (IntKind.i64.wrap (v211 + 1))) else some y392))))))))) else (if v211 < (a2.length : Int) then (if v211 = (a1.length : Int) then (row_sii a2 v211 fun x397 x398 x399 => ((impl_compare x398 0).bind fun y402 => some (IntKind.i64.wrap (0 - y402)))) else (if v211 = (a2.length : Int) then (row_sii a1 v211 fun x405 x406 x407 => ((impl_compare x406 0).bind fun y410 => some y410)) else (row_sii a1 v211 fun x412 x413 x414 => (row_sii a2 v211 fun x417 x418 x419 => ((rec_impl_order x412 x417).bind fun y422 => (if y422 = (1 : Int) then ((impl_compare x413 0).bind fun y425 => some y425) else (if y422 = ((-1) : Int) then ((impl_compare x418 0).bind fun y428 => some (IntKind.i64.wrap (0 - y428))) else ((impl_cmpFractions x413 x414 x418 x419).bind fun y430 => (if y430 = (0 : Int) then (impl_order_l0 rec_impl_order a1 a2 K0 n (IntKind.i64.wrap (v211 + 1))) else some y430))))))))) else (K0)))
set_option maxHeartbeats 4000000 in
set_option maxRecDepth 100000 in
theorem impl_order_l0_ct {rec_impl_order : Rw → Rw → Option Int} {a1 : Rw} {a2 : Rw} {K0 : Option Int} (hrec_impl_order : ∀ (a1 : Rw) (a2 : Rw) (r : Int), rec_impl_order a1 a2 = some r → Ct prog 138 [.agg [.d (D.sl a1)], .agg [.d (D.sl a2)]] (⟨[], []⟩) (.d (D.int .i64 r)) (⟨[], []⟩)) {r : Int} : ∀ (n : Nat) (v211 : Int), impl_order_l0 rec_impl_order a1 a2 K0 n v211 = some r → LoopOk prog 0 (lp f138 0) (mk 86 [(2, .ptr 128 0), (3, .ptr 192 0), (5, .d (D.int .i64 v211))] [(128, .box 38 [.d (D.sl a1)]), (192, .box 38 [.d (D.sl a2)])]) (LoopEnd prog f138 0 86 (.d (D.int .i64 r)) (⟨[], []⟩) (fun i ts os => (i = 0 ∧ K0 = some r ∧ ts = [] ∧ os = [])))
  | 0, _, h => by
      rw [impl_order_l0] at h; cases h
  | n + 1, v211, h => by
      rw [impl_order_l0] at h
      refine LoopOk.step ?_
      conv => whnf
      refine splD (fun g357 => ?_) (fun g357 => ?_)
      · replace h := iteP h g357
        conv => whnf
        refine splD (fun g358 => ?_) (fun g358 => ?_)
        · replace h := iteP h g358
          conv => whnf
          obtain ⟨g363, x359, x360, x361, e362, h⟩ := row_sii_ex h
          refine Req.of g363 ?_
          refine Row.of _ e362 ?_
          conv => whnf
          refine Pick.no ?_
          conv => whnf
          obtain ⟨y364, e365, h⟩ := bind_ex h
          refine CallOk.of (impl_compare_ct e365) ?_
          conv => whnf
          refine CutK.norm [4] [] ?_
          conv => whnf
          cases h
          exact Done.of [] [] rfl rfl ⟨⟨rfl, rfl⟩, ⟨rfl, trivial⟩, rfl, trivial⟩
        · replace h := iteN h g358
          conv => whnf
          refine CutK.norm [2, 3, 5] [128, 192] ?_
          conv => whnf
          refine splD (fun g366 => ?_) (fun g366 => ?_)
          · replace h := iteP h g366
            conv => whnf
            obtain ⟨g371, x367, x368, x369, e370, h⟩ := row_sii_ex h
            refine Req.of g371 ?_
            refine Row.of _ e370 ?_
            conv => whnf
            refine Pick.no ?_
            conv => whnf
            obtain ⟨y372, e373, h⟩ := bind_ex h
            refine CallOk.of (impl_compare_ct e373) ?_
            conv => whnf
            refine CutK.norm [4] [] ?_
            conv => whnf
            cases h
            exact Done.of [] [] rfl rfl ⟨⟨rfl, rfl⟩, ⟨rfl, trivial⟩, rfl, trivial⟩
          · replace h := iteN h g366
            conv => whnf
            refine CutK.norm [2, 3, 5] [128, 192] ?_
            conv => whnf
            obtain ⟨g378, x374, x375, x376, e377, h⟩ := row_sii_ex h
            refine Req.of g378 ?_
            refine Row.of _ e377 ?_
            conv => whnf
            obtain ⟨g383, x379, x380, x381, e382, h⟩ := row_sii_ex h
            refine Req.of g383 ?_
            refine Row.of _ e382 ?_
            conv => whnf
            refine Pick.no ?_
            conv => whnf
            obtain ⟨y384, e385, h⟩ := bind_ex h
            refine CallOk.of (hrec_impl_order _ _ _ e385) ?_
            conv => whnf
            refine CutK.norm [2, 3, 5, 6, 7, 64] [128, 192, 384, 448] ?_
            conv => whnf
            refine splD (fun g386 => ?_) (fun g386 => ?_)
            · replace h := iteP h g386
              conv => whnf
              refine Pick.no ?_
              conv => whnf
              obtain ⟨y387, e388, h⟩ := bind_ex h
              refine CallOk.of (impl_compare_ct e388) ?_
              conv => whnf
              refine CutK.norm [4] [] ?_
              conv => whnf
              cases h
              exact Done.of [] [] rfl rfl ⟨⟨rfl, rfl⟩, ⟨rfl, trivial⟩, rfl, trivial⟩
            · replace h := iteN h g386
              conv => whnf
              refine splD (fun g389 => ?_) (fun g389 => ?_)
              · replace h := iteP h g389
                conv => whnf
                refine Pick.no ?_
                conv => whnf
                obtain ⟨y390, e391, h⟩ := bind_ex h
                refine CallOk.of (impl_compare_ct e391) ?_
                conv => whnf
                refine CutK.norm [4] [] ?_
                conv => whnf
                cases h
                exact Done.of [] [] rfl rfl ⟨⟨rfl, rfl⟩, ⟨rfl, trivial⟩, rfl, trivial⟩
              · replace h := iteN h g389
                conv => whnf
                refine CutK.norm [2, 3, 5, 6, 7] [128, 192, 384, 448] ?_
                conv => whnf
                refine Pick.no ?_
                conv => whnf
                obtain ⟨y392, e393, h⟩ := bind_ex h
                refine CallOk.of (impl_cmpFractions_ct e393) ?_
                conv => whnf
                refine CutK.norm [2, 3, 5, 8] [128, 192] ?_
                conv => whnf
                refine splN (fun g394 => ?_) (fun g394 => ?_)
                · replace h := iteN h g394
                  conv => whnf
                  cases h
                  exact Done.of [] [] rfl rfl ⟨⟨rfl, rfl⟩, ⟨rfl, trivial⟩, rfl, trivial⟩
                · replace h := iteP h g394
                  conv => whnf
                  refine CutK.norm [2, 3, 5] [128, 192] ?_
                  conv => whnf
                  exact LoopOk.back (impl_order_l0_ct hrec_impl_order n _ h) [some 128, some 192] [] ⟨⟨rfl, rfl⟩, ⟨rfl, ⟨rfl, rfl, trivial⟩, ⟨rfl, rfl, trivial⟩, trivial⟩, ⟨rfl, rfl⟩, ⟨rfl, rfl⟩, rfl, trivial⟩
      · replace h := iteN h g357
        conv => whnf
        refine splD (fun g395 => ?_) (fun g395 => ?_)
        · replace h := iteP h g395
          conv => whnf
          refine splD (fun g396 => ?_) (fun g396 => ?_)
          · replace h := iteP h g396
            conv => whnf
            obtain ⟨g401, x397, x398, x399, e400, h⟩ := row_sii_ex h
            refine Req.of g401 ?_
            refine Row.of _ e400 ?_
            conv => whnf
            refine Pick.no ?_
            conv => whnf
            obtain ⟨y402, e403, h⟩ := bind_ex h
            refine CallOk.of (impl_compare_ct e403) ?_
            conv => whnf
            refine CutK.norm [4] [] ?_
            conv => whnf
            cases h
            exact Done.of [] [] rfl rfl ⟨⟨rfl, rfl⟩, ⟨rfl, trivial⟩, rfl, trivial⟩
          · replace h := iteN h g396
            conv => whnf
            refine CutK.norm [2, 3, 5] [128, 192] ?_
            conv => whnf
            refine splD (fun g404 => ?_) (fun g404 => ?_)
            · replace h := iteP h g404
              conv => whnf
              obtain ⟨g409, x405, x406, x407, e408, h⟩ := row_sii_ex h
              refine Req.of g409 ?_
              refine Row.of _ e408 ?_
              conv => whnf
              refine Pick.no ?_
              conv => whnf
              obtain ⟨y410, e411, h⟩ := bind_ex h
              refine CallOk.of (impl_compare_ct e411) ?_
              conv => whnf
              refine CutK.norm [4] [] ?_
              conv => whnf
              cases h
              exact Done.of [] [] rfl rfl ⟨⟨rfl, rfl⟩, ⟨rfl, trivial⟩, rfl, trivial⟩
            · replace h := iteN h g404
              conv => whnf
              refine CutK.norm [2, 3, 5] [128, 192] ?_
              conv => whnf
              obtain ⟨g416, x412, x413, x414, e415, h⟩ := row_sii_ex h
              refine Req.of g416 ?_
              refine Row.of _ e415 ?_
              conv => whnf
              obtain ⟨g421, x417, x418, x419, e420, h⟩ := row_sii_ex h
              refine Req.of g421 ?_
              refine Row.of _ e420 ?_
              conv => whnf
              refine Pick.no ?_
              conv => whnf
              obtain ⟨y422, e423, h⟩ := bind_ex h
              refine CallOk.of (hrec_impl_order _ _ _ e423) ?_
              conv => whnf
              refine CutK.norm [2, 3, 5, 6, 7, 64] [128, 192, 384, 448] ?_
              conv => whnf
              refine splD (fun g424 => ?_) (fun g424 => ?_)
              · replace h := iteP h g424
                conv => whnf
                refine Pick.no ?_
                conv => whnf
                obtain ⟨y425, e426, h⟩ := bind_ex h
                refine CallOk.of (impl_compare_ct e426) ?_
                conv => whnf
                refine CutK.norm [4] [] ?_
                conv => whnf
                cases h
                exact Done.of [] [] rfl rfl ⟨⟨rfl, rfl⟩, ⟨rfl, trivial⟩, rfl, trivial⟩
              · replace h := iteN h g424
                conv => whnf
                refine splD (fun g427 => ?_) (fun g427 => ?_)
                · replace h := iteP h g427
                  conv => whnf
                  refine Pick.no ?_
                  conv => whnf
                  obtain ⟨y428, e429, h⟩ := bind_ex h
                  refine CallOk.of (impl_compare_ct e429) ?_
                  conv => whnf
                  refine CutK.norm [4] [] ?_
                  conv => whnf
                  cases h
                  exact Done.of [] [] rfl rfl ⟨⟨rfl, rfl⟩, ⟨rfl, trivial⟩, rfl, trivial⟩
                · replace h := iteN h g427
                  conv => whnf
                  refine CutK.norm [2, 3, 5, 6, 7] [128, 192, 384, 448] ?_
                  conv => whnf
                  refine Pick.no ?_
                  conv => whnf
                  obtain ⟨y430, e431, h⟩ := bind_ex h
                  refine CallOk.of (impl_cmpFractions_ct e431) ?_
                  conv => whnf
                  refine CutK.norm [2, 3, 5, 8] [128, 192] ?_
                  conv => whnf
                  refine splN (fun g432 => ?_) (fun g432 => ?_)
                  · replace h := iteN h g432
                    conv => whnf
                    cases h
                    exact Done.of [] [] rfl rfl ⟨⟨rfl, rfl⟩, ⟨rfl, trivial⟩, rfl, trivial⟩
                  · replace h := iteP h g432
                    conv => whnf
                    refine CutK.norm [2, 3, 5] [128, 192] ?_
                    conv => whnf
                    exact LoopOk.back (impl_order_l0_ct hrec_impl_order n _ h) [some 128, some 192] [] ⟨⟨rfl, rfl⟩, ⟨rfl, ⟨rfl, rfl, trivial⟩, ⟨rfl, rfl, trivial⟩, trivial⟩, ⟨rfl, rfl⟩, ⟨rfl, rfl⟩, rfl, trivial⟩
        · replace h := iteN h g395
          conv => whnf
          exact ⟨_, _, [], [], ⟨rfl, h, rfl, rfl⟩, ⟨⟨rfl, rfl⟩, ⟨rfl, trivial⟩, trivial⟩⟩
def impl_order_b (k : Nat) (rec_impl_order : Rw → Rw → Option Int) (a1 : Rw) (a2 : Rw) : Option Int :=
  (impl_order_l0 rec_impl_order a1 a2 (impl_order_p2) k 0)
set_option maxHeartbeats 4000000 in
set_option maxRecDepth 100000 in
theorem impl_order_b_ct {k : Nat} {rec_impl_order : Rw → Rw → Option Int} (hrec_impl_order : ∀ (a1 : Rw) (a2 : Rw) (r : Int), rec_impl_order a1 a2 = some r → Ct prog 138 [.agg [.d (D.sl a1)], .agg [.d (D.sl a2)]] (⟨[], []⟩) (.d (D.int .i64 r)) (⟨[], []⟩)) {a1 : Rw} {a2 : Rw} {r : Int} (h : impl_order_b k rec_impl_order a1 a2 = some r) : Ct prog 138 [.agg [.d (D.sl a1)], .agg [.d (D.sl a2)]] (⟨[], []⟩) (.d (D.int .i64 r)) (⟨[], []⟩) := by
  rw [impl_order_b] at h
  refine Ct.of (c := _) mixed func138 ⟨rfl, rfl, rfl⟩ ?_ rfl
  conv => whnf
  refine LoopOk.into (impl_order_l0_ct hrec_impl_order _ _ h) [some 128, some 192] [] ⟨⟨rfl, rfl⟩, ⟨rfl, ⟨rfl, rfl, trivial⟩, ⟨rfl, rfl, trivial⟩, trivial⟩, ⟨rfl, rfl⟩, ⟨rfl, rfl⟩, rfl, trivial⟩ ?_ (fun _ hs => hs)
  rintro i ts os ⟨rfl, h, rfl, rfl⟩
  conv => whnf
  exact CutK.piece (impl_order_p2_ct  h) [] [] ⟨⟨rfl, rfl⟩, ⟨rfl, trivial⟩, trivial⟩
def impl_order : Nat → Rw → Rw → Option Int
  | 0, _, _ => none
  | k + 1, a1, a2 => impl_order_b k (impl_order k) a1 a2
theorem impl_order_ct' : ∀ (k : Nat) (a1 : Rw) (a2 : Rw) (r : Int), impl_order k a1 a2 = some r → Ct prog 138 [.agg [.d (D.sl a1)], .agg [.d (D.sl a2)]] (⟨[], []⟩) (.d (D.int .i64 r)) (⟨[], []⟩)
  | 0, _, _, _, h => by rw [impl_order] at h; cases h
  | k + 1, _, _, _, h => by rw [impl_order] at h; exact impl_order_b_ct (impl_order_ct' k) h
theorem impl_order_ct {k : Nat} {a1 : Rw} {a2 : Rw} {r : Int} (h : impl_order k a1 a2 = some r) : Ct prog 138 [.agg [.d (D.sl a1)], .agg [.d (D.sl a2)]] (⟨[], []⟩) (.d (D.int .i64 r)) (⟨[], []⟩) := impl_order_ct' k _ _ _ h

def impl_surrealAt_2_p3 (o71 : Int) : Option (Bool × Int) :=
  some (true, o71)
set_option maxHeartbeats 4000000 in
set_option maxRecDepth 100000 in
theorem impl_surrealAt_2_p3_ct {o71 : Int} {r : Bool × Int} (h : impl_surrealAt_2_p3 o71 = some r) : X prog 1 (tlF f125 3) (mk 91 [] [(0, .box 3 [.d (D.int .i64 o71)])]) (finK prog f125 1 (.d (D.bool r.1)) (⟨[(3, [.d (D.int .i64 r.2)])], []⟩)) := by
  rw [impl_surrealAt_2_p3] at h
  conv => whnf
  cases h
  exact Done.of [some 0] [] rfl rfl ⟨⟨rfl, rfl⟩, ⟨rfl, ⟨rfl, rfl, trivial⟩, trivial⟩, rfl, trivial⟩
def impl_surrealAt_2_l0 (k : Nat) (rec_impl_surrealAt_2 : Rw → Int → Int → Int → Int → Option (Bool × Int)) (a1 : Rw) (a2 : Int) (a3 : Int) (a4 : Int) (K0 : Int → Option (Bool × Int)) : Rw → Nat → Int → Option (Bool × Int)
  | [], v88n, v89 => (K0 v89)
  | cs :: rest, v88n, v89 => (cell_sii cs fun x137 x138 x139 => (if (60 : Int) < (IntKind.i64.wrap (v89 + 1)) then some (false, IntKind.i64.wrap (v89 + 1)) else ((impl_IsFraction k x138 x139).bind fun y142 => (if y142 = true then (if x138 = (0 : Int) then some (false, IntKind.i64.wrap (v89 + 1)) else ((rec_impl_surrealAt_2 x137 x138 x139 (IntKind.i64.wrap (a4 + 1)) (IntKind.i64.wrap (v89 + 1))).bind fun y146 => (if y146.1 = true then (if (0 : Int) < (v88n : Int) then (row_sii a1 (IntKind.i64.wrap ((v88n : Int) - 1)) fun x150 x151 x152 => ((impl_order k x150 x137).bind fun y155 => (if y155 ≤ (0 : Int) then some (false, y146.2) else (impl_surrealAt_2_l0 k rec_impl_surrealAt_2 a1 a2 a3 a4 K0 rest (v88n + 1) y146.2)))) else (impl_surrealAt_2_l0 k rec_impl_surrealAt_2 a1 a2 a3 a4 K0 rest (v88n + 1) y146.2)) else some (false, y146.2)))) else some (false, IntKind.i64.wrap (v89 + 1))))))
set_option maxHeartbeats 4000000 in
set_option maxRecDepth 100000 in
theorem impl_surrealAt_2_l0_ct {k : Nat} {rec_impl_surrealAt_2 : Rw → Int → Int → Int → Int → Option (Bool × Int)} {a1 : Rw} {a2 : Int} {a3 : Int} {a4 : Int} {K0 : Int → Option (Bool × Int)} (hrec_impl_surrealAt_2 : ∀ (a1 : Rw) (a2 : Int) (a3 : Int) (a4 : Int) (a5 : Int) (r : Bool × Int), rec_impl_surrealAt_2 a1 a2 a3 a4 a5 = some r → Ct prog 125 [.dp [D.sl a1, D.int .i64 a2, D.int .i64 a3], .d (D.int .i64 a4), .ptr 0 0] (⟨[(3, [.d (D.int .i64 a5)])], []⟩) (.d (D.bool r.1)) (⟨[(3, [.d (D.int .i64 r.2)])], []⟩)) {r : Bool × Int} (hx : a1.length ≤ cap) : ∀ (rest : Rw) (v88n : Nat) (v89 : Int), a1.drop v88n = rest → impl_surrealAt_2_l0 k rec_impl_surrealAt_2 a1 a2 a3 a4 K0 rest v88n v89 = some r → LoopOk prog 1 (lp f125 0) (mk 91 [(0, .dp [D.sl a1, D.int .i64 a2, D.int .i64 a3]), (1, .d (D.int .i64 a4)), (2, .ptr 0 0), (26, .d (D.int .i64 (a1.length : Int))), (27, .d (D.int .i64 (v88n : Int)))] [(0, .box 3 [.d (D.int .i64 v89)])]) (LoopEnd prog f125 1 91 (.d (D.bool r.1)) (⟨[(3, [.d (D.int .i64 r.2)])], []⟩) (fun i ts os => (i = 0 ∧ ∃ v113 : Int, K0 v113 = some r ∧ ts = [] ∧ os = [(0, .box 3 [.d (D.int .i64 v113)])])))
  | [], v88n, v89, hd, h => by
      rw [impl_surrealAt_2_l0] at h
      have hn := drop_nil hd
      refine LoopOk.step ?_
      conv => whnf
      refine splD (fun g => absurd g hn) (fun _ => ?_)
      conv => whnf
      exact ⟨_, _, [some 0], [], ⟨rfl, _, h, rfl, rfl⟩, ⟨⟨rfl, rfl⟩, ⟨rfl, ⟨rfl, rfl, trivial⟩, trivial⟩, trivial⟩⟩
  | cs :: rest, v88n, v89, hd, h => by
      rw [impl_surrealAt_2_l0] at h
      obtain ⟨hrow, hd1, hlt⟩ := drop_cons hd
      refine LoopOk.step ?_
      conv => whnf
      refine splD (fun _ => ?_) (fun g => absurd hlt g)
      conv => whnf
      obtain ⟨x137, x138, x139, e140, h⟩ := cell_sii_ex h
      rw [e140] at hrow
      refine Req.of (Int.natCast_nonneg _) ?_
      refine Row.of _ hrow ?_
      conv => whnf
      refine splD (fun g141 => ?_) (fun g141 => ?_)
      · replace h := iteP h g141
        conv => whnf
        refine CutK.norm [0, 1, 2, 7, 8, 26, 27, 70] [0] ?_
        conv => whnf
        cases h
        exact Done.of [some 0] [] rfl rfl ⟨⟨rfl, rfl⟩, ⟨rfl, ⟨rfl, rfl, trivial⟩, trivial⟩, rfl, trivial⟩
      · replace h := iteN h g141
        conv => whnf
        refine Pick.no ?_
        conv => whnf
        obtain ⟨y142, e143, h⟩ := bind_ex h
        refine CallOk.of (impl_IsFraction_ct e143) ?_
        conv => whnf
        refine spl (fun g144 => ?_) (fun g144 => ?_)
        · replace h := iteT h g144
          conv => whnf
          refine splD (fun g145 => ?_) (fun g145 => ?_)
          · replace h := iteP h g145
            conv => whnf
            refine CutK.norm [0, 1, 2, 7, 8, 26, 27, 70] [0] ?_
            conv => whnf
            cases h
            exact Done.of [some 0] [] rfl rfl ⟨⟨rfl, rfl⟩, ⟨rfl, ⟨rfl, rfl, trivial⟩, trivial⟩, rfl, trivial⟩
          · replace h := iteN h g145
            conv => whnf
            refine Pick.no ?_
            conv => whnf
            obtain ⟨y146, e147, h⟩ := bind_ex h
            refine CallOk.of (hrec_impl_surrealAt_2 _ _ _ _ _ _ e147) ?_
            conv => whnf
            refine spl (fun g148 => ?_) (fun g148 => ?_)
            · replace h := iteT h g148
              conv => whnf
              refine CutK.norm [0, 1, 2, 7, 8, 26, 27, 70] [0] ?_
              conv => whnf
              refine CutK.norm [0, 1, 2, 7, 8, 26, 27] [0] ?_
              conv => whnf
              refine splD (fun g149 => ?_) (fun g149 => ?_)
              · replace h := iteP h g149
                conv => whnf
                obtain ⟨g154, x150, x151, x152, e153, h⟩ := row_sii_ex h
                refine Req.of g154 ?_
                refine Row.of _ e153 ?_
                conv => whnf
                refine Pick.no ?_
                conv => whnf
                obtain ⟨y155, e156, h⟩ := bind_ex h
                refine CallOk.of (impl_order_ct e156) ?_
                conv => whnf
                refine splD (fun g157 => ?_) (fun g157 => ?_)
                · replace h := iteP h g157
                  conv => whnf
                  refine CutK.norm [0, 1, 2, 26, 27, 89] [0] ?_
                  conv => whnf
                  cases h
                  exact Done.of [some 0] [] rfl rfl ⟨⟨rfl, rfl⟩, ⟨rfl, ⟨rfl, rfl, trivial⟩, trivial⟩, rfl, trivial⟩
                · replace h := iteN h g157
                  conv => whnf
                  refine CutK.norm [0, 1, 2, 26, 27, 89] [0] ?_
                  conv => whnf
                  refine CutK.norm [0, 1, 2, 26, 27] [0] ?_
                  conv => whnf
                  exact LoopOk.back (impl_surrealAt_2_l0_ct hrec_impl_surrealAt_2 hx rest (v88n + 1) _ hd1 h) [some 0] [] ⟨⟨rfl, rfl⟩, ⟨rfl, ⟨rfl, rfl, trivial⟩, trivial⟩, rfl, rfl, ⟨rfl, rfl⟩, rfl, i64eq (wrap_up hlt hx), trivial⟩
              · replace h := iteN h g149
                conv => whnf
                refine CutK.norm [0, 1, 2, 26, 27, 89] [0] ?_
                conv => whnf
                refine CutK.norm [0, 1, 2, 26, 27] [0] ?_
                conv => whnf
                exact LoopOk.back (impl_surrealAt_2_l0_ct hrec_impl_surrealAt_2 hx rest (v88n + 1) _ hd1 h) [some 0] [] ⟨⟨rfl, rfl⟩, ⟨rfl, ⟨rfl, rfl, trivial⟩, trivial⟩, rfl, rfl, ⟨rfl, rfl⟩, rfl, i64eq (wrap_up hlt hx), trivial⟩
            · replace h := iteF h g148
              conv => whnf
              refine CutK.norm [0, 1, 2, 7, 8, 26, 27, 70] [0] ?_
              conv => whnf
              cases h
              exact Done.of [some 0] [] rfl rfl ⟨⟨rfl, rfl⟩, ⟨rfl, ⟨rfl, rfl, trivial⟩, trivial⟩, rfl, trivial⟩
        · replace h := iteF h g144
          conv => whnf
          refine CutK.norm [0, 1, 2, 7, 8, 26, 27, 70] [0] ?_
          conv => whnf
          cases h
          exact Done.of [some 0] [] rfl rfl ⟨⟨rfl, rfl⟩, ⟨rfl, ⟨rfl, rfl, trivial⟩, trivial⟩, rfl, trivial⟩
def impl_surrealAt_2_b (k : Nat) (rec_impl_surrealAt_2 : Rw → Int → Int → Int → Int → Option (Bool × Int)) (a1 : Rw) (a2 : Int) (a3 : Int) (a4 : Int) (a5 : Int) : Option (Bool × Int) :=
  (if (60 : Int) < (IntKind.i64.wrap (a5 + 1)) then some (false, IntKind.i64.wrap (a5 + 1)) else (if (6 : Int) < a4 then some (false, IntKind.i64.wrap (a5 + 1)) else (if a1.length ≤ cap then (impl_surrealAt_2_l0 k rec_impl_surrealAt_2 a1 a2 a3 a4 (fun (v113 : Int) => (impl_surrealAt_2_p3 v113)) a1 0 (IntKind.i64.wrap (a5 + 1))) else none)))
set_option maxHeartbeats 4000000 in
set_option maxRecDepth 100000 in
theorem impl_surrealAt_2_b_ct {k : Nat} {rec_impl_surrealAt_2 : Rw → Int → Int → Int → Int → Option (Bool × Int)} (hrec_impl_surrealAt_2 : ∀ (a1 : Rw) (a2 : Int) (a3 : Int) (a4 : Int) (a5 : Int) (r : Bool × Int), rec_impl_surrealAt_2 a1 a2 a3 a4 a5 = some r → Ct prog 125 [.dp [D.sl a1, D.int .i64 a2, D.int .i64 a3], .d (D.int .i64 a4), .ptr 0 0] (⟨[(3, [.d (D.int .i64 a5)])], []⟩) (.d (D.bool r.1)) (⟨[(3, [.d (D.int .i64 r.2)])], []⟩)) {a1 : Rw} {a2 : Int} {a3 : Int} {a4 : Int} {a5 : Int} {r : Bool × Int} (h : impl_surrealAt_2_b k rec_impl_surrealAt_2 a1 a2 a3 a4 a5 = some r) : Ct prog 125 [.dp [D.sl a1, D.int .i64 a2, D.int .i64 a3], .d (D.int .i64 a4), .ptr 0 0] (⟨[(3, [.d (D.int .i64 a5)])], []⟩) (.d (D.bool r.1)) (⟨[(3, [.d (D.int .i64 r.2)])], []⟩) := by
  rw [impl_surrealAt_2_b] at h
  refine Ct.of (c := _) mixed func125 ⟨rfl, rfl, rfl⟩ ?_ rfl
  conv => whnf
  refine splD (fun g72 => ?_) (fun g72 => ?_)
  · replace h := iteP h g72
    conv => whnf
    cases h
    exact Done.of [some 0] [] rfl rfl ⟨⟨rfl, rfl⟩, ⟨rfl, ⟨rfl, rfl, trivial⟩, trivial⟩, rfl, trivial⟩
  · replace h := iteN h g72
    conv => whnf
    refine splD (fun g73 => ?_) (fun g73 => ?_)
    · replace h := iteP h g73
      conv => whnf
      cases h
      exact Done.of [some 0] [] rfl rfl ⟨⟨rfl, rfl⟩, ⟨rfl, ⟨rfl, rfl, trivial⟩, trivial⟩, rfl, trivial⟩
    · replace h := iteN h g73
      conv => whnf
      obtain ⟨g158, h⟩ := req_ex h
      refine LoopOk.into (impl_surrealAt_2_l0_ct hrec_impl_surrealAt_2 g158 _ _ _ rfl h) [some 0] [] ⟨⟨rfl, rfl⟩, ⟨rfl, ⟨rfl, rfl, trivial⟩, trivial⟩, rfl, rfl, ⟨rfl, rfl⟩, rfl, rfl, trivial⟩ ?_ (fun _ hs => hs)
      rintro i ts os ⟨rfl, v113, h, rfl, rfl⟩
      conv => whnf
      exact CutK.piece (impl_surrealAt_2_p3_ct  h) [some 0] [] ⟨⟨rfl, rfl⟩, ⟨rfl, ⟨rfl, rfl, trivial⟩, trivial⟩, trivial⟩
def impl_surrealAt_2 : Nat → Rw → Int → Int → Int → Int → Option (Bool × Int)
  | 0, _, _, _, _, _ => none
  | k + 1, a1, a2, a3, a4, a5 => impl_surrealAt_2_b k (impl_surrealAt_2 k) a1 a2 a3 a4 a5
theorem impl_surrealAt_2_ct' : ∀ (k : Nat) (a1 : Rw) (a2 : Int) (a3 : Int) (a4 : Int) (a5 : Int) (r : Bool × Int), impl_surrealAt_2 k a1 a2 a3 a4 a5 = some r → Ct prog 125 [.dp [D.sl a1, D.int .i64 a2, D.int .i64 a3], .d (D.int .i64 a4), .ptr 0 0] (⟨[(3, [.d (D.int .i64 a5)])], []⟩) (.d (D.bool r.1)) (⟨[(3, [.d (D.int .i64 r.2)])], []⟩)
  | 0, _, _, _, _, _, _, h => by rw [impl_surrealAt_2] at h; cases h
  | k + 1, _, _, _, _, _, _, h => by rw [impl_surrealAt_2] at h; exact impl_surrealAt_2_b_ct (impl_surrealAt_2_ct' k) h
theorem impl_surrealAt_2_ct {k : Nat} {a1 : Rw} {a2 : Int} {a3 : Int} {a4 : Int} {a5 : Int} {r : Bool × Int} (h : impl_surrealAt_2 k a1 a2 a3 a4 a5 = some r) : Ct prog 125 [.dp [D.sl a1, D.int .i64 a2, D.int .i64 a3], .d (D.int .i64 a4), .ptr 0 0] (⟨[(3, [.d (D.int .i64 a5)])], []⟩) (.d (D.bool r.1)) (⟨[(3, [.d (D.int .i64 r.2)])], []⟩) := impl_surrealAt_2_ct' k _ _ _ _ _ _ h

def impl_surrealAt_p3 (a1 : Rw) (o69 : Int) : Option (Bool × Rw × Int) :=
  some (true, a1, o69)
set_option maxHeartbeats 4000000 in
set_option maxRecDepth 100000 in
theorem impl_surrealAt_p3_ct {a1 : Rw} {o69 : Int} {r : Bool × Rw × Int} (h : impl_surrealAt_p3 a1 o69 = some r) : X prog 2 (tlF f125 3) (mk 91 [] [(0, .box 38 [.d (D.sl a1)]), (64, .box 3 [.d (D.int .i64 o69)])]) (finK prog f125 2 (.d (D.bool r.1)) (⟨[(38, [.d (D.sl r.2.1)]), (3, [.d (D.int .i64 r.2.2)])], []⟩)) := by
  rw [impl_surrealAt_p3] at h
  conv => whnf
  cases h
  exact Done.of [some 0, some 64] [] rfl rfl ⟨⟨rfl, rfl⟩, ⟨rfl, ⟨rfl, rfl, trivial⟩, ⟨rfl, rfl, trivial⟩, trivial⟩, rfl, trivial⟩
def impl_surrealAt_l0 (k : Nat) (a1 : Rw) (a2 : Int) (K0 : Int → Option (Bool × Rw × Int)) : Rw → Nat → Int → Option (Bool × Rw × Int)
  | [], v86n, v87 => (K0 v87)
  | cs :: rest, v86n, v87 => (cell_sii cs fun x135 x136 x137 => (if (60 : Int) < (IntKind.i64.wrap (v87 + 1)) then some (false, a1, IntKind.i64.wrap (v87 + 1)) else ((impl_IsFraction k x136 x137).bind fun y140 => (if y140 = true then (if x136 = (0 : Int) then some (false, a1, IntKind.i64.wrap (v87 + 1)) else ((impl_surrealAt_2 k x135 x136 x137 (IntKind.i64.wrap (a2 + 1)) (IntKind.i64.wrap (v87 + 1))).bind fun y144 => (if y144.1 = true then (if (0 : Int) < (v86n : Int) then (row_sii a1 (IntKind.i64.wrap ((v86n : Int) - 1)) fun x148 x149 x150 => ((impl_order k x148 x135).bind fun y153 => (if y153 ≤ (0 : Int) then some (false, a1, y144.2) else (impl_surrealAt_l0 k a1 a2 K0 rest (v86n + 1) y144.2)))) else (impl_surrealAt_l0 k a1 a2 K0 rest (v86n + 1) y144.2)) else some (false, a1, y144.2)))) else some (false, a1, IntKind.i64.wrap (v87 + 1))))))
set_option maxHeartbeats 4000000 in
set_option maxRecDepth 100000 in
theorem impl_surrealAt_l0_ct {k : Nat} {a1 : Rw} {a2 : Int} {K0 : Int → Option (Bool × Rw × Int)} {r : Bool × Rw × Int} (hx : a1.length ≤ cap) : ∀ (rest : Rw) (v86n : Nat) (v87 : Int), a1.drop v86n = rest → impl_surrealAt_l0 k a1 a2 K0 rest v86n v87 = some r → LoopOk prog 2 (lp f125 0) (mk 91 [(0, .ptr 0 0), (1, .d (D.int .i64 a2)), (2, .ptr 64 0), (26, .d (D.int .i64 (a1.length : Int))), (27, .d (D.int .i64 (v86n : Int)))] [(0, .box 38 [.d (D.sl a1)]), (64, .box 3 [.d (D.int .i64 v87)])]) (LoopEnd prog f125 2 91 (.d (D.bool r.1)) (⟨[(38, [.d (D.sl r.2.1)]), (3, [.d (D.int .i64 r.2.2)])], []⟩) (fun i ts os => (i = 0 ∧ ∃ v111 : Int, K0 v111 = some r ∧ ts = [] ∧ os = [(0, .box 38 [.d (D.sl a1)]), (64, .box 3 [.d (D.int .i64 v111)])])))
  | [], v86n, v87, hd, h => by
      rw [impl_surrealAt_l0] at h
      have hn := drop_nil hd
      refine LoopOk.step ?_
      conv => whnf
      refine splD (fun g => absurd g hn) (fun _ => ?_)
      conv => whnf
      exact ⟨_, _, [some 0, some 64], [], ⟨rfl, _, h, rfl, rfl⟩, ⟨⟨rfl, rfl⟩, ⟨rfl, ⟨rfl, rfl, trivial⟩, ⟨rfl, rfl, trivial⟩, trivial⟩, trivial⟩⟩
  | cs :: rest, v86n, v87, hd, h => by
      rw [impl_surrealAt_l0] at h
      obtain ⟨hrow, hd1, hlt⟩ := drop_cons hd
      refine LoopOk.step ?_
      conv => whnf
      refine splD (fun _ => ?_) (fun g => absurd hlt g)
      conv => whnf
      obtain ⟨x135, x136, x137, e138, h⟩ := cell_sii_ex h
      rw [e138] at hrow
      refine Req.of (Int.natCast_nonneg _) ?_
      refine Row.of _ hrow ?_
      conv => whnf
      refine splD (fun g139 => ?_) (fun g139 => ?_)
      · replace h := iteP h g139
        conv => whnf
        refine CutK.norm [0, 1, 2, 7, 8, 26, 27, 70] [0, 64] ?_
        conv => whnf
        cases h
        exact Done.of [some 0, some 64] [] rfl rfl ⟨⟨rfl, rfl⟩, ⟨rfl, ⟨rfl, rfl, trivial⟩, ⟨rfl, rfl, trivial⟩, trivial⟩, rfl, trivial⟩
      · replace h := iteN h g139
        conv => whnf
        refine Pick.no ?_
        conv => whnf
        obtain ⟨y140, e141, h⟩ := bind_ex h
        refine CallOk.of (impl_IsFraction_ct e141) ?_
        conv => whnf
        refine spl (fun g142 => ?_) (fun g142 => ?_)
        · replace h := iteT h g142
          conv => whnf
          refine splD (fun g143 => ?_) (fun g143 => ?_)
          · replace h := iteP h g143
            conv => whnf
            refine CutK.norm [0, 1, 2, 7, 8, 26, 27, 70] [0, 64] ?_
            conv => whnf
            cases h
            exact Done.of [some 0, some 64] [] rfl rfl ⟨⟨rfl, rfl⟩, ⟨rfl, ⟨rfl, rfl, trivial⟩, ⟨rfl, rfl, trivial⟩, trivial⟩, rfl, trivial⟩
          · replace h := iteN h g143
            conv => whnf
            refine Pick.no ?_
            conv => whnf
            obtain ⟨y144, e145, h⟩ := bind_ex h
            refine CallOk.of (impl_surrealAt_2_ct e145) ?_
            conv => whnf
            refine spl (fun g146 => ?_) (fun g146 => ?_)
            · replace h := iteT h g146
              conv => whnf
              refine CutK.norm [0, 1, 2, 7, 8, 26, 27, 70] [0, 64] ?_
              conv => whnf
              refine CutK.norm [0, 1, 2, 7, 8, 26, 27] [0, 64] ?_
              conv => whnf
              refine splD (fun g147 => ?_) (fun g147 => ?_)
              · replace h := iteP h g147
                conv => whnf
                obtain ⟨g152, x148, x149, x150, e151, h⟩ := row_sii_ex h
                refine Req.of g152 ?_
                refine Row.of _ e151 ?_
                conv => whnf
                refine Pick.no ?_
                conv => whnf
                obtain ⟨y153, e154, h⟩ := bind_ex h
                refine CallOk.of (impl_order_ct e154) ?_
                conv => whnf
                refine splD (fun g155 => ?_) (fun g155 => ?_)
                · replace h := iteP h g155
                  conv => whnf
                  refine CutK.norm [0, 1, 2, 26, 27, 89] [0, 64] ?_
                  conv => whnf
                  cases h
                  exact Done.of [some 0, some 64] [] rfl rfl ⟨⟨rfl, rfl⟩, ⟨rfl, ⟨rfl, rfl, trivial⟩, ⟨rfl, rfl, trivial⟩, trivial⟩, rfl, trivial⟩
                · replace h := iteN h g155
                  conv => whnf
                  refine CutK.norm [0, 1, 2, 26, 27, 89] [0, 64] ?_
                  conv => whnf
                  refine CutK.norm [0, 1, 2, 26, 27] [0, 64] ?_
                  conv => whnf
                  exact LoopOk.back (impl_surrealAt_l0_ct hx rest (v86n + 1) _ hd1 h) [some 0, some 64] [] ⟨⟨rfl, rfl⟩, ⟨rfl, ⟨rfl, rfl, trivial⟩, ⟨rfl, rfl, trivial⟩, trivial⟩, ⟨rfl, rfl⟩, rfl, ⟨rfl, rfl⟩, rfl, i64eq (wrap_up hlt hx), trivial⟩
              · replace h := iteN h g147
                conv => whnf
                refine CutK.norm [0, 1, 2, 26, 27, 89] [0, 64] ?_
                conv => whnf
                refine CutK.norm [0, 1, 2, 26, 27] [0, 64] ?_
                conv => whnf
                exact LoopOk.back (impl_surrealAt_l0_ct hx rest (v86n + 1) _ hd1 h) [some 0, some 64] [] ⟨⟨rfl, rfl⟩, ⟨rfl, ⟨rfl, rfl, trivial⟩, ⟨rfl, rfl, trivial⟩, trivial⟩, ⟨rfl, rfl⟩, rfl, ⟨rfl, rfl⟩, rfl, i64eq (wrap_up hlt hx), trivial⟩
            · replace h := iteF h g146
              conv => whnf
              refine CutK.norm [0, 1, 2, 7, 8, 26, 27, 70] [0, 64] ?_
              conv => whnf
              cases h
              exact Done.of [some 0, some 64] [] rfl rfl ⟨⟨rfl, rfl⟩, ⟨rfl, ⟨rfl, rfl, trivial⟩, ⟨rfl, rfl, trivial⟩, trivial⟩, rfl, trivial⟩
        · replace h := iteF h g142
          conv => whnf
          refine CutK.norm [0, 1, 2, 7, 8, 26, 27, 70] [0, 64] ?_
          conv => whnf
          cases h
          exact Done.of [some 0, some 64] [] rfl rfl ⟨⟨rfl, rfl⟩, ⟨rfl, ⟨rfl, rfl, trivial⟩, ⟨rfl, rfl, trivial⟩, trivial⟩, rfl, trivial⟩
def impl_surrealAt (k : Nat) (a1 : Rw) (a2 : Int) (a3 : Int) : Option (Bool × Rw × Int) :=
  (if (60 : Int) < (IntKind.i64.wrap (a3 + 1)) then some (false, a1, IntKind.i64.wrap (a3 + 1)) else (if (6 : Int) < a2 then some (false, a1, IntKind.i64.wrap (a3 + 1)) else (if a1.length ≤ cap then (impl_surrealAt_l0 k a1 a2 (fun (v111 : Int) => (impl_surrealAt_p3 a1 v111)) a1 0 (IntKind.i64.wrap (a3 + 1))) else none)))
set_option maxHeartbeats 4000000 in
set_option maxRecDepth 100000 in
theorem impl_surrealAt_ct {k : Nat} {a1 : Rw} {a2 : Int} {a3 : Int} {r : Bool × Rw × Int} (h : impl_surrealAt k a1 a2 a3 = some r) : Ct prog 125 [.ptr 0 0, .d (D.int .i64 a2), .ptr 64 0] (⟨[(38, [.d (D.sl a1)]), (3, [.d (D.int .i64 a3)])], []⟩) (.d (D.bool r.1)) (⟨[(38, [.d (D.sl r.2.1)]), (3, [.d (D.int .i64 r.2.2)])], []⟩) := by
  rw [impl_surrealAt] at h
  refine Ct.of (c := _) mixed func125 ⟨rfl, rfl, rfl⟩ ?_ rfl
  conv => whnf
  refine splD (fun g70 => ?_) (fun g70 => ?_)
  · replace h := iteP h g70
    conv => whnf
    cases h
    exact Done.of [some 0, some 64] [] rfl rfl ⟨⟨rfl, rfl⟩, ⟨rfl, ⟨rfl, rfl, trivial⟩, ⟨rfl, rfl, trivial⟩, trivial⟩, rfl, trivial⟩
  · replace h := iteN h g70
    conv => whnf
    refine splD (fun g71 => ?_) (fun g71 => ?_)
    · replace h := iteP h g71
      conv => whnf
      cases h
      exact Done.of [some 0, some 64] [] rfl rfl ⟨⟨rfl, rfl⟩, ⟨rfl, ⟨rfl, rfl, trivial⟩, ⟨rfl, rfl, trivial⟩, trivial⟩, rfl, trivial⟩
    · replace h := iteN h g71
      conv => whnf
      obtain ⟨g156, h⟩ := req_ex h
      refine LoopOk.into (impl_surrealAt_l0_ct  g156 _ _ _ rfl h) [some 0, some 64] [] ⟨⟨rfl, rfl⟩, ⟨rfl, ⟨rfl, rfl, trivial⟩, ⟨rfl, rfl, trivial⟩, trivial⟩, ⟨rfl, rfl⟩, rfl, ⟨rfl, rfl⟩, rfl, rfl, trivial⟩ ?_ (fun _ hs => hs)
      rintro i ts os ⟨rfl, v111, h, rfl, rfl⟩
      conv => whnf
      exact CutK.piece (impl_surrealAt_p3_ct  h) [some 0, some 64] [] ⟨⟨rfl, rfl⟩, ⟨rfl, ⟨rfl, rfl, trivial⟩, ⟨rfl, rfl, trivial⟩, trivial⟩, trivial⟩

def impl_IsSurreal (k : Nat) (a1 : Rw) : Option Bool :=
  ((impl_surrealAt k a1 0 0).bind fun y2 => (if y2.1 = true then some true else some false))
set_option maxHeartbeats 4000000 in
set_option maxRecDepth 100000 in
theorem impl_IsSurreal_ct {k : Nat} {a1 : Rw} {r : Bool} (h : impl_IsSurreal k a1 = some r) : Ct prog 56 [.agg [.d (D.sl a1)]] (⟨[], []⟩) (.d (D.bool r)) (⟨[], []⟩) := by
  rw [impl_IsSurreal] at h
  refine Ct.of (c := _) mixed func56 ⟨rfl, rfl, rfl⟩ ?_ rfl
  conv => whnf
  refine Pick.no ?_
  conv => whnf
  obtain ⟨y2, e3, h⟩ := bind_ex h
  refine CallOk.of (impl_surrealAt_ct e3) ?_
  conv => whnf
  refine spl (fun g4 => ?_) (fun g4 => ?_)
  · replace h := iteT h g4
    conv => whnf
    refine CutK.go ?_
    conv => whnf
    cases h
    exact Done.of [] [] rfl rfl ⟨⟨rfl, rfl⟩, ⟨rfl, trivial⟩, rfl, trivial⟩
  · replace h := iteF h g4
    conv => whnf
    refine CutK.go ?_
    conv => whnf
    cases h
    exact Done.of [] [] rfl rfl ⟨⟨rfl, rfl⟩, ⟨rfl, trivial⟩, rfl, trivial⟩

def impl_IsNotebook_l0 (k : Nat) (a1 : Rw) (K0 : Option Bool) : Rw → Nat → Option Bool
  | [], v13n => (K0)
  | cs :: rest, v13n => (cell_ts cs fun x31 x32 => ((impl_isName k x31).bind fun y34 => (if y34 = true then ((impl_IsSurreal k x32).bind fun y37 => (if y37 = true then (if (0 : Int) < (v13n : Int) then (row_ts a1 (IntKind.i64.wrap ((v13n : Int) - 1)) fun x41 x42 => (if (!Op.bytesLess x41.toList x31.toList) = true then some false else (impl_IsNotebook_l0 k a1 K0 rest (v13n + 1)))) else (impl_IsNotebook_l0 k a1 K0 rest (v13n + 1))) else some false)) else some false)))
set_option maxHeartbeats 4000000 in
set_option maxRecDepth 100000 in
theorem impl_IsNotebook_l0_ct {k : Nat} {a1 : Rw} {K0 : Option Bool} {r : Bool} (hx : a1.length ≤ cap) : ∀ (rest : Rw) (v13n : Nat), a1.drop v13n = rest → impl_IsNotebook_l0 k a1 K0 rest v13n = some r → LoopOk prog 0 (lp f95 0) (mk 44 [(1, .ptr 64 0), (6, .d (D.sl a1)), (7, .d (D.int .i64 (a1.length : Int))), (8, .d (D.int .i64 (v13n : Int)))] [(64, .box 71 [.d (D.sl a1)])]) (LoopEnd prog f95 0 44 (.d (D.bool r)) (⟨[], []⟩) (fun i ts os => (i = 0 ∧ K0 = some r ∧ ts = [(1, .ptr 64 0)] ∧ os = [(64, .box 71 [.d (D.sl a1)])])))
  | [], v13n, hd, h => by
      rw [impl_IsNotebook_l0] at h
      have hn := drop_nil hd
      refine LoopOk.step ?_
      conv => whnf
      refine splD (fun g => absurd g hn) (fun _ => ?_)
      conv => whnf
      exact ⟨_, _, [some 64], [], ⟨rfl, h, rfl, rfl⟩, ⟨⟨rfl, rfl⟩, ⟨rfl, ⟨rfl, rfl, trivial⟩, trivial⟩, ⟨rfl, rfl⟩, trivial⟩⟩
  | cs :: rest, v13n, hd, h => by
      rw [impl_IsNotebook_l0] at h
      obtain ⟨hrow, hd1, hlt⟩ := drop_cons hd
      refine LoopOk.step ?_
      conv => whnf
      refine splD (fun _ => ?_) (fun g => absurd hlt g)
      conv => whnf
      obtain ⟨x31, x32, e33, h⟩ := cell_ts_ex h
      rw [e33] at hrow
      refine Req.of (Int.natCast_nonneg _) ?_
      refine Row.of _ hrow ?_
      conv => whnf
      refine Pick.no ?_
      conv => whnf
      obtain ⟨y34, e35, h⟩ := bind_ex h
      refine CallOk.of (impl_isName_ct e35) ?_
      conv => whnf
      refine spl (fun g36 => ?_) (fun g36 => ?_)
      · replace h := iteT h g36
        conv => whnf
        refine Pick.no ?_
        conv => whnf
        obtain ⟨y37, e38, h⟩ := bind_ex h
        refine CallOk.of (impl_IsSurreal_ct e38) ?_
        conv => whnf
        refine spl (fun g39 => ?_) (fun g39 => ?_)
        · replace h := iteT h g39
          conv => whnf
          refine splD (fun g40 => ?_) (fun g40 => ?_)
          · replace h := iteP h g40
            conv => whnf
            obtain ⟨g44, x41, x42, e43, h⟩ := row_ts_ex h
            refine Req.of g44 ?_
            refine Row.of _ e43 ?_
            conv => whnf
            refine spl (fun g45 => ?_) (fun g45 => ?_)
            · replace h := iteT h g45
              conv => whnf
              refine CutK.norm [1, 6, 7, 8, 38] [64] ?_
              conv => whnf
              cases h
              exact Done.of [] [] rfl rfl ⟨⟨rfl, rfl⟩, ⟨rfl, trivial⟩, rfl, trivial⟩
            · replace h := iteF h g45
              conv => whnf
              refine CutK.norm [1, 6, 7, 8, 38] [64] ?_
              conv => whnf
              refine CutK.norm [1, 6, 7, 8] [64] ?_
              conv => whnf
              exact LoopOk.back (impl_IsNotebook_l0_ct hx rest (v13n + 1)  hd1 h) [some 64] [] ⟨⟨rfl, rfl⟩, ⟨rfl, ⟨rfl, rfl, trivial⟩, trivial⟩, ⟨rfl, rfl⟩, rfl, rfl, i64eq (wrap_up hlt hx), trivial⟩
          · replace h := iteN h g40
            conv => whnf
            refine CutK.norm [1, 6, 7, 8, 38] [64] ?_
            conv => whnf
            refine CutK.norm [1, 6, 7, 8] [64] ?_
            conv => whnf
            exact LoopOk.back (impl_IsNotebook_l0_ct hx rest (v13n + 1)  hd1 h) [some 64] [] ⟨⟨rfl, rfl⟩, ⟨rfl, ⟨rfl, rfl, trivial⟩, trivial⟩, ⟨rfl, rfl⟩, rfl, rfl, i64eq (wrap_up hlt hx), trivial⟩
        · replace h := iteF h g39
          conv => whnf
          refine CutK.norm [1, 6, 7, 8, 38] [64] ?_
          conv => whnf
          cases h
          exact Done.of [] [] rfl rfl ⟨⟨rfl, rfl⟩, ⟨rfl, trivial⟩, rfl, trivial⟩
      · replace h := iteF h g36
        conv => whnf
        refine CutK.norm [1, 6, 7, 8, 38] [64] ?_
        conv => whnf
        cases h
        exact Done.of [] [] rfl rfl ⟨⟨rfl, rfl⟩, ⟨rfl, trivial⟩, rfl, trivial⟩
def impl_IsNotebook (k : Nat) (a1 : Rw) : Option Bool :=
  (if a1.length ≤ cap then (impl_IsNotebook_l0 k a1 (if (a1.length : Int) ≤ (12 : Int) then some true else some false) a1 0) else none)
set_option maxHeartbeats 4000000 in
set_option maxRecDepth 100000 in
theorem impl_IsNotebook_ct {k : Nat} {a1 : Rw} {r : Bool} (h : impl_IsNotebook k a1 = some r) : Ct prog 95 [.agg [.d (D.sl a1)]] (⟨[], []⟩) (.d (D.bool r)) (⟨[], []⟩) := by
  rw [impl_IsNotebook] at h
  refine Ct.of (c := _) mixed func95 ⟨rfl, rfl, rfl⟩ ?_ rfl
  conv => whnf
  obtain ⟨g46, h⟩ := req_ex h
  refine LoopOk.into (impl_IsNotebook_l0_ct  g46 _ _  rfl h) [some 64] [] ⟨⟨rfl, rfl⟩, ⟨rfl, ⟨rfl, rfl, trivial⟩, trivial⟩, ⟨rfl, rfl⟩, rfl, rfl, rfl, trivial⟩ ?_ (fun _ hs => hs)
  rintro i ts os ⟨rfl, h, rfl, rfl⟩
  conv => whnf
  refine CutK.norm [1] [64] ?_
  conv => whnf
  refine splD (fun g47 => ?_) (fun g47 => ?_)
  · replace h := iteP h g47
    conv => whnf
    cases h
    exact Done.of [] [] rfl rfl ⟨⟨rfl, rfl⟩, ⟨rfl, trivial⟩, rfl, trivial⟩
  · replace h := iteN h g47
    conv => whnf
    cases h
    exact Done.of [] [] rfl rfl ⟨⟨rfl, rfl⟩, ⟨rfl, trivial⟩, rfl, trivial⟩

def impl_cloneSurreal_l0 (rec_impl_cloneSurreal : Rw → Option Rw) (a1 : Rw) (K0 : Rw → Option Rw) : Rw → Rw → Option Rw
  | [], v11 => (K0 v11)
  | cs :: rest, v11 => (cell_sii cs fun x31 x32 x33 => ((rec_impl_cloneSurreal x31).bind fun y35 => (if v11.length + 1 ≤ cap then (impl_cloneSurreal_l0 rec_impl_cloneSurreal a1 K0 rest (v11 ++ ([[D.sl y35, D.int .i64 x32, D.int .i64 x33]]))) else none)))
set_option maxHeartbeats 4000000 in
set_option maxRecDepth 100000 in
theorem impl_cloneSurreal_l0_ct {rec_impl_cloneSurreal : Rw → Option Rw} {a1 : Rw} {K0 : Rw → Option Rw} (hrec_impl_cloneSurreal : ∀ (a1 : Rw) (r : Rw), rec_impl_cloneSurreal a1 = some r → Ct prog 136 [.agg [.d (D.sl a1)]] (⟨[], []⟩) (.agg [.os 8 r.length]) (⟨[], [(109, true, r)]⟩)) {r : Rw} (hx : a1.length ≤ cap) : ∀ (rest : Rw) (v10n : Nat) (v11 : Rw), a1.drop v10n = rest → impl_cloneSurreal_l0 rec_impl_cloneSurreal a1 K0 rest v11 = some r → LoopOk prog 0 (lp f136 0) (mk 27 [(2, .ptr 128 0), (3, .ptr 192 0), (8, .d (D.sl a1)), (9, .d (D.int .i64 (a1.length : Int))), (10, .d (D.int .i64 (v10n : Int)))] [(128, .box 38 [.es]), (192, .box 38 [.os 64000 v11.length]), (64000, .arr 109 true v11)]) (LoopEnd prog f136 0 27 (.agg [.os 8 r.length]) (⟨[], [(109, true, r)]⟩) (fun i ts os => (i = 0 ∧ ∃ v21 : Rw, K0 v21 = some r ∧ ts = [(2, .ptr 128 0), (3, .ptr 192 0)] ∧ os = [(128, .box 38 [.es]), (192, .box 38 [.os 67001 v21.length]), (67001, .arr 109 true v21)])))
  | [], v10n, v11, hd, h => by
      rw [impl_cloneSurreal_l0] at h
      have hn := drop_nil hd
      refine LoopOk.step ?_
      conv => whnf
      refine splD (fun g => absurd g hn) (fun _ => ?_)
      conv => whnf
      exact ⟨_, _, [some 128, some 192, some 64000], [], ⟨rfl, _, h, rfl, rfl⟩, ⟨⟨rfl, rfl⟩, ⟨rfl, ⟨rfl, trivial, trivial⟩, ⟨rfl, ⟨rfl, rfl⟩, trivial⟩, ⟨rfl, rfl, rows_same⟩, trivial⟩, ⟨rfl, rfl⟩, ⟨rfl, rfl⟩, trivial⟩⟩
  | cs :: rest, v10n, v11, hd, h => by
      rw [impl_cloneSurreal_l0] at h
      obtain ⟨hrow, hd1, hlt⟩ := drop_cons hd
      refine LoopOk.step ?_
      conv => whnf
      refine splD (fun _ => ?_) (fun g => absurd hlt g)
      conv => whnf
      obtain ⟨x31, x32, x33, e34, h⟩ := cell_sii_ex h
      rw [e34] at hrow
      refine Req.of (Int.natCast_nonneg _) ?_
      refine Row.of _ hrow ?_
      conv => whnf
      refine Pick.no ?_
      conv => whnf
      obtain ⟨y35, e36, h⟩ := bind_ex h
      refine CallOk.of (hrec_impl_cloneSurreal _ _ e36) ?_
      conv => whnf
      refine Take.all (rfl) ?_
      conv => whnf
      refine Take.all (rfl) ?_
      conv => whnf
      refine Take.all (by first | rfl | exact List.length_append.symm | (simp; done) | omega | (dsimp only; omega)) ?_
      conv => whnf
      obtain ⟨g37, h⟩ := req_ex h
      refine Req.of (room (b := 40) (by decide) g37 (wide1 rfl wide0)) ?_
      conv => whnf
      refine CutK.go ?_
      conv => whnf
      exact LoopOk.back (impl_cloneSurreal_l0_ct hrec_impl_cloneSurreal hx rest (v10n + 1) _ hd1 h) [some 128, some 192, some 1472] [] ⟨⟨rfl, rfl⟩, ⟨rfl, ⟨rfl, trivial, trivial⟩, ⟨rfl, ⟨(by first | rfl | exact List.length_append.symm | (simp; done) | omega | (dsimp only; omega)), rfl⟩, trivial⟩, ⟨rfl, rfl, rows_same⟩, trivial⟩, ⟨rfl, rfl⟩, ⟨rfl, rfl⟩, rfl, rfl, i64eq (wrap_up hlt hx), trivial⟩
def impl_cloneSurreal_b (rec_impl_cloneSurreal : Rw → Option Rw) (a1 : Rw) : Option Rw :=
  (if a1.length ≤ cap then (impl_cloneSurreal_l0 rec_impl_cloneSurreal a1 (fun (v21 : Rw) => some v21) a1 ([] : Rw)) else none)
set_option maxHeartbeats 4000000 in
set_option maxRecDepth 100000 in
theorem impl_cloneSurreal_b_ct {rec_impl_cloneSurreal : Rw → Option Rw} (hrec_impl_cloneSurreal : ∀ (a1 : Rw) (r : Rw), rec_impl_cloneSurreal a1 = some r → Ct prog 136 [.agg [.d (D.sl a1)]] (⟨[], []⟩) (.agg [.os 8 r.length]) (⟨[], [(109, true, r)]⟩)) {a1 : Rw} {r : Rw} (h : impl_cloneSurreal_b rec_impl_cloneSurreal a1 = some r) : Ct prog 136 [.agg [.d (D.sl a1)]] (⟨[], []⟩) (.agg [.os 8 r.length]) (⟨[], [(109, true, r)]⟩) := by
  rw [impl_cloneSurreal_b] at h
  refine Ct.of (c := _) mixed func136 ⟨rfl, rfl, rfl⟩ ?_ rfl
  conv => whnf
  obtain ⟨g38, h⟩ := req_ex h
  refine LoopOk.into (impl_cloneSurreal_l0_ct hrec_impl_cloneSurreal g38 _ _ _ rfl h) [some 128, some 192, none] [] ⟨⟨rfl, rfl⟩, ⟨rfl, ⟨rfl, trivial, trivial⟩, ⟨rfl, ⟨rfl, rfl⟩, trivial⟩, rfl, trivial⟩, ⟨rfl, rfl⟩, ⟨rfl, rfl⟩, rfl, rfl, rfl, trivial⟩ ?_ (fun _ hs => hs)
  rintro i ts os ⟨rfl, v21, h, rfl, rfl⟩
  conv => whnf
  refine CutK.go ?_
  conv => whnf
  cases h
  exact Done.of [some 67001] [] rfl rfl ⟨⟨rfl, rfl⟩, ⟨rfl, ⟨rfl, rfl, rows_same⟩, trivial⟩, ⟨⟨rfl, rfl⟩, trivial⟩, trivial⟩
def impl_cloneSurreal : Nat → Rw → Option Rw
  | 0, _ => none
  | k + 1, a1 => impl_cloneSurreal_b (impl_cloneSurreal k) a1
theorem impl_cloneSurreal_ct' : ∀ (k : Nat) (a1 : Rw) (r : Rw), impl_cloneSurreal k a1 = some r → Ct prog 136 [.agg [.d (D.sl a1)]] (⟨[], []⟩) (.agg [.os 8 r.length]) (⟨[], [(109, true, r)]⟩)
  | 0, _, _, h => by rw [impl_cloneSurreal] at h; cases h
  | k + 1, _, _, h => by rw [impl_cloneSurreal] at h; exact impl_cloneSurreal_b_ct (impl_cloneSurreal_ct' k) h
theorem impl_cloneSurreal_ct {k : Nat} {a1 : Rw} {r : Rw} (h : impl_cloneSurreal k a1 = some r) : Ct prog 136 [.agg [.d (D.sl a1)]] (⟨[], []⟩) (.agg [.os 8 r.length]) (⟨[], [(109, true, r)]⟩) := impl_cloneSurreal_ct' k _ _ h

def impl_cloneBook_l0 (k : Nat) (a1 : Rw) (K0 : Rw → Option Rw) : Rw → Rw → Option Rw
  | [], v10 => (K0 v10)
  | cs :: rest, v10 => (cell_ts cs fun x28 x29 => ((impl_cloneSurreal k x29).bind fun y31 => (if v10.length + 1 ≤ cap then (impl_cloneBook_l0 k a1 K0 rest (v10 ++ ([[D.str x28, D.sl y31]]))) else none)))
set_option maxHeartbeats 4000000 in
set_option maxRecDepth 100000 in
theorem impl_cloneBook_l0_ct {k : Nat} {a1 : Rw} {K0 : Rw → Option Rw} {r : Rw} (hx : a1.length ≤ cap) : ∀ (rest : Rw) (v9n : Nat) (v10 : Rw), a1.drop v9n = rest → impl_cloneBook_l0 k a1 K0 rest v10 = some r → LoopOk prog 0 (lp f96 0) (mk 27 [(2, .ptr 128 0), (3, .ptr 192 0), (8, .d (D.sl a1)), (9, .d (D.int .i64 (a1.length : Int))), (10, .d (D.int .i64 (v9n : Int)))] [(128, .box 71 [.es]), (192, .box 71 [.os 64000 v10.length]), (64000, .arr 132 true v10)]) (LoopEnd prog f96 0 27 (.agg [.os 8 r.length]) (⟨[], [(132, true, r)]⟩) (fun i ts os => (i = 0 ∧ ∃ v19 : Rw, K0 v19 = some r ∧ ts = [(2, .ptr 128 0), (3, .ptr 192 0)] ∧ os = [(128, .box 71 [.es]), (192, .box 71 [.os 67001 v19.length]), (67001, .arr 132 true v19)])))
  | [], v9n, v10, hd, h => by
      rw [impl_cloneBook_l0] at h
      have hn := drop_nil hd
      refine LoopOk.step ?_
      conv => whnf
      refine splD (fun g => absurd g hn) (fun _ => ?_)
      conv => whnf
      exact ⟨_, _, [some 128, some 192, some 64000], [], ⟨rfl, _, h, rfl, rfl⟩, ⟨⟨rfl, rfl⟩, ⟨rfl, ⟨rfl, trivial, trivial⟩, ⟨rfl, ⟨rfl, rfl⟩, trivial⟩, ⟨rfl, rfl, rows_same⟩, trivial⟩, ⟨rfl, rfl⟩, ⟨rfl, rfl⟩, trivial⟩⟩
  | cs :: rest, v9n, v10, hd, h => by
      rw [impl_cloneBook_l0] at h
      obtain ⟨hrow, hd1, hlt⟩ := drop_cons hd
      refine LoopOk.step ?_
      conv => whnf
      refine splD (fun _ => ?_) (fun g => absurd hlt g)
      conv => whnf
      obtain ⟨x28, x29, e30, h⟩ := cell_ts_ex h
      rw [e30] at hrow
      refine Req.of (Int.natCast_nonneg _) ?_
      refine Row.of _ hrow ?_
      conv => whnf
      refine Pick.no ?_
      conv => whnf
      obtain ⟨y31, e32, h⟩ := bind_ex h
      refine CallOk.of (impl_cloneSurreal_ct e32) ?_
      conv => whnf
      refine Take.all (rfl) ?_
      conv => whnf
      refine Take.all (rfl) ?_
      conv => whnf
      refine Take.all (by first | rfl | exact List.length_append.symm | (simp; done) | omega | (dsimp only; omega)) ?_
      conv => whnf
      obtain ⟨g33, h⟩ := req_ex h
      refine Req.of (room (b := 40) (by decide) g33 (wide1 rfl wide0)) ?_
      conv => whnf
      refine CutK.go ?_
      conv => whnf
      exact LoopOk.back (impl_cloneBook_l0_ct hx rest (v9n + 1) _ hd1 h) [some 128, some 192, some 1472] [] ⟨⟨rfl, rfl⟩, ⟨rfl, ⟨rfl, trivial, trivial⟩, ⟨rfl, ⟨(by first | rfl | exact List.length_append.symm | (simp; done) | omega | (dsimp only; omega)), rfl⟩, trivial⟩, ⟨rfl, rfl, rows_same⟩, trivial⟩, ⟨rfl, rfl⟩, ⟨rfl, rfl⟩, rfl, rfl, i64eq (wrap_up hlt hx), trivial⟩
def impl_cloneBook (k : Nat) (a1 : Rw) : Option Rw :=
  (if a1.length ≤ cap then (impl_cloneBook_l0 k a1 (fun (v19 : Rw) => some v19) a1 ([] : Rw)) else none)
set_option maxHeartbeats 4000000 in
set_option maxRecDepth 100000 in
theorem impl_cloneBook_ct {k : Nat} {a1 : Rw} {r : Rw} (h : impl_cloneBook k a1 = some r) : Ct prog 96 [.agg [.d (D.sl a1)]] (⟨[], []⟩) (.agg [.os 8 r.length]) (⟨[], [(132, true, r)]⟩) := by
  rw [impl_cloneBook] at h
  refine Ct.of (c := _) mixed func96 ⟨rfl, rfl, rfl⟩ ?_ rfl
  conv => whnf
  obtain ⟨g34, h⟩ := req_ex h
  refine LoopOk.into (impl_cloneBook_l0_ct  g34 _ _ _ rfl h) [some 128, some 192, none] [] ⟨⟨rfl, rfl⟩, ⟨rfl, ⟨rfl, trivial, trivial⟩, ⟨rfl, ⟨rfl, rfl⟩, trivial⟩, rfl, trivial⟩, ⟨rfl, rfl⟩, ⟨rfl, rfl⟩, rfl, rfl, rfl, trivial⟩ ?_ (fun _ hs => hs)
  rintro i ts os ⟨rfl, v19, h, rfl, rfl⟩
  conv => whnf
  refine CutK.go ?_
  conv => whnf
  cases h
  exact Done.of [some 67001] [] rfl rfl ⟨⟨rfl, rfl⟩, ⟨rfl, ⟨rfl, rfl, rows_same⟩, trivial⟩, ⟨⟨rfl, rfl⟩, trivial⟩, trivial⟩

def impl_DropEntry (k : Nat) (a1 : Rw) (a2 : ByteArray) : Option (Rw × Bool) :=
  ((impl_Notebook_at k a1 a2).bind fun y3 => (if y3.2.1 = true then ((impl_IsNotebook k y3.2.2).bind fun y6 => (if y6 = true then ((impl_cloneBook k y3.2.2).bind fun y9 => ((lib_Delete y9 y3.1 (IntKind.i64.wrap (y3.1 + 1))).bind fun y11 => some (y11, true))) else some (([] : Rw), false))) else ((impl_IsNotebook k y3.2.2).bind fun y13 => (if y13 = true then some (([] : Rw), false) else some (([] : Rw), false)))))
set_option maxHeartbeats 4000000 in
set_option maxRecDepth 100000 in
theorem impl_DropEntry_ct {k : Nat} {a1 : Rw} {a2 : ByteArray} {r : Rw × Bool} (h : impl_DropEntry k a1 a2 = some r) : Ct prog 34 [.agg [.d (D.sl a1)], .d (D.str a2)] (⟨[], []⟩) (.tup [.agg [.os 8 r.1.length], .d (D.bool r.2)]) (⟨[], [(132, true, r.1)]⟩) := by
  rw [impl_DropEntry] at h
  refine Ct.of (c := _) mixed func34 ⟨rfl, rfl, rfl⟩ ?_ rfl
  conv => whnf
  refine Pick.no ?_
  conv => whnf
  obtain ⟨y3, e4, h⟩ := bind_ex h
  refine CallOk.of (impl_Notebook_at_ct e4) ?_
  conv => whnf
  refine spl (fun g5 => ?_) (fun g5 => ?_)
  · replace h := iteT h g5
    conv => whnf
    refine CutK.norm [2, 4, 6, 7] [128, 256] ?_
    conv => whnf
    refine Pick.no ?_
    conv => whnf
    obtain ⟨y6, e7, h⟩ := bind_ex h
    refine CallOk.of (impl_IsNotebook_ct e7) ?_
    conv => whnf
    refine spl (fun g8 => ?_) (fun g8 => ?_)
    · replace h := iteT h g8
      conv => whnf
      refine CutK.norm [2, 4, 6, 20] [128, 256] ?_
      conv => whnf
      refine CutK.norm [2, 4, 6] [128, 256] ?_
      conv => whnf
      refine Pick.no ?_
      conv => whnf
      obtain ⟨y9, e10, h⟩ := bind_ex h
      refine CallOk.of (impl_cloneBook_ct e10) ?_
      conv => whnf
      refine CutK.norm [4, 6, 8] [256, 512, 1472] ?_
      conv => whnf
      refine Choice.new ?_
      conv => whnf
      refine Req.of (rfl) ?_
      conv => whnf
      obtain ⟨y11, e12, h⟩ := bind_ex h
      refine DelOk.of (lib_Delete_ct e12) ?_
      conv => whnf
      refine CutK.norm [4, 8] [256, 512, 1472] ?_
      conv => whnf
      cases h
      exact Done.of [some 1472] [] rfl rfl ⟨⟨rfl, rfl⟩, ⟨rfl, ⟨rfl, rfl, rows_same⟩, trivial⟩, ⟨⟨⟨rfl, rfl⟩, trivial⟩, rfl, trivial⟩, trivial⟩
    · replace h := iteF h g8
      conv => whnf
      refine CutK.norm [2, 4, 6, 20] [128, 256] ?_
      conv => whnf
      cases h
      exact Done.of [none] [] rfl rfl ⟨⟨rfl, rfl⟩, ⟨rfl, rfl, trivial⟩, ⟨⟨⟨rfl, rfl⟩, trivial⟩, rfl, trivial⟩, trivial⟩
  · replace h := iteF h g5
    conv => whnf
    refine CutK.norm [2, 4, 6, 7] [128, 256] ?_
    conv => whnf
    refine Pick.no ?_
    conv => whnf
    obtain ⟨y13, e14, h⟩ := bind_ex h
    refine CallOk.of (impl_IsNotebook_ct e14) ?_
    conv => whnf
    refine spl (fun g15 => ?_) (fun g15 => ?_)
    · replace h := iteT h g15
      conv => whnf
      refine CutK.norm [2, 4, 6, 20] [128, 256] ?_
      conv => whnf
      cases h
      exact Done.of [none] [] rfl rfl ⟨⟨rfl, rfl⟩, ⟨rfl, rfl, trivial⟩, ⟨⟨⟨rfl, rfl⟩, trivial⟩, rfl, trivial⟩, trivial⟩
    · replace h := iteF h g15
      conv => whnf
      refine CutK.norm [2, 4, 6, 20] [128, 256] ?_
      conv => whnf
      cases h
      exact Done.of [none] [] rfl rfl ⟨⟨rfl, rfl⟩, ⟨rfl, rfl, trivial⟩, ⟨⟨⟨rfl, rfl⟩, trivial⟩, rfl, trivial⟩, trivial⟩

def laws_markEntryS_2_l0 (a1 : Int) (K0 : Option Int) : Nat → Option Int
  | 0 => none
  | n + 1 => (K0)
set_option maxHeartbeats 4000000 in
set_option maxRecDepth 100000 in
theorem laws_markEntryS_2_l0_ct {a1 : Int} {K0 : Option Int} {r : Int} : ∀ (n : Nat), laws_markEntryS_2_l0 a1 K0 n = some r → LoopOk prog 0 (lp f99 0) (mk 29 [(0, .d (.sl [])), (1, .d (D.int .i64 a1)), (5, .d (D.int .i64 0))] []) (LoopEnd prog f99 0 29 (.d (D.int .i64 r)) (⟨[], []⟩) (fun i ts os => (i = 0 ∧ K0 = some r ∧ ts = [(1, .d (D.int .i64 a1))] ∧ os = [])))
  | 0, h => by
      rw [laws_markEntryS_2_l0] at h; cases h
  | n + 1, h => by
      rw [laws_markEntryS_2_l0] at h
      refine LoopOk.step ?_
      conv => whnf
      refine splD (fun g => absurd g (by decide)) (fun _ => ?_)
      conv => whnf
      exact ⟨_, _, [], [], ⟨rfl, h, rfl, rfl⟩, ⟨⟨rfl, rfl⟩, ⟨rfl, trivial⟩, rfl, trivial⟩⟩
def laws_markEntryS_2 (k : Nat) (a1 : Int) : Option Int :=
  (laws_markEntryS_2_l0 a1 (some a1) k)
set_option maxHeartbeats 4000000 in
set_option maxRecDepth 100000 in
theorem laws_markEntryS_2_ct {k : Nat} {a1 : Int} {r : Int} (h : laws_markEntryS_2 k a1 = some r) : Ct prog 99 [.d (.sl []), .d (D.int .i64 a1)] (⟨[], []⟩) (.d (D.int .i64 r)) (⟨[], []⟩) := by
  rw [laws_markEntryS_2] at h
  refine Ct.of (c := _) mixed func99 ⟨rfl, rfl, rfl⟩ ?_ rfl
  conv => whnf
  refine LoopOk.into (laws_markEntryS_2_l0_ct  _  h) [] [] ⟨⟨rfl, rfl⟩, ⟨rfl, trivial⟩, rfl, rfl, rfl, trivial⟩ ?_ (fun _ hs => hs)
  rintro i ts os ⟨rfl, h, rfl, rfl⟩
  conv => whnf
  refine CutK.go ?_
  conv => whnf
  cases h
  exact Done.of [] [] rfl rfl ⟨⟨rfl, rfl⟩, ⟨rfl, trivial⟩, rfl, trivial⟩

def laws_markNotebook_2 (k : Nat) (a1 : Int) : Option Int :=
  ((laws_markEntryS_2 k a1).bind fun y2 => some y2)
set_option maxHeartbeats 4000000 in
set_option maxRecDepth 100000 in
theorem laws_markNotebook_2_ct {k : Nat} {a1 : Int} {r : Int} (h : laws_markNotebook_2 k a1 = some r) : Ct prog 36 [.agg [.d (.sl [])], .d (D.int .i64 a1)] (⟨[], []⟩) (.d (D.int .i64 r)) (⟨[], []⟩) := by
  rw [laws_markNotebook_2] at h
  refine Ct.of (c := _) mixed func36 ⟨rfl, rfl, rfl⟩ ?_ rfl
  conv => whnf
  refine Pick.no ?_
  conv => whnf
  obtain ⟨y2, e3, h⟩ := bind_ex h
  refine CallOk.of (laws_markEntryS_2_ct e3) ?_
  conv => whnf
  refine CutK.go ?_
  conv => whnf
  cases h
  exact Done.of [] [] rfl rfl ⟨⟨rfl, rfl⟩, ⟨rfl, trivial⟩, rfl, trivial⟩

def laws_markSurrealTermS_2_l0 (a1 : Int) (K0 : Option Int) : Nat → Option Int
  | 0 => none
  | n + 1 => (K0)
set_option maxHeartbeats 4000000 in
set_option maxRecDepth 100000 in
theorem laws_markSurrealTermS_2_l0_ct {a1 : Int} {K0 : Option Int} {r : Int} : ∀ (n : Nat), laws_markSurrealTermS_2_l0 a1 K0 n = some r → LoopOk prog 0 (lp f160 0) (mk 37 [(0, .d (.sl [])), (1, .d (D.int .i64 a1)), (5, .d (D.int .i64 0))] []) (LoopEnd prog f160 0 37 (.d (D.int .i64 r)) (⟨[], []⟩) (fun i ts os => (i = 0 ∧ K0 = some r ∧ ts = [(1, .d (D.int .i64 a1))] ∧ os = [])))
  | 0, h => by
      rw [laws_markSurrealTermS_2_l0] at h; cases h
  | n + 1, h => by
      rw [laws_markSurrealTermS_2_l0] at h
      refine LoopOk.step ?_
      conv => whnf
      refine splD (fun g => absurd g (by decide)) (fun _ => ?_)
      conv => whnf
      exact ⟨_, _, [], [], ⟨rfl, h, rfl, rfl⟩, ⟨⟨rfl, rfl⟩, ⟨rfl, trivial⟩, rfl, trivial⟩⟩
def laws_markSurrealTermS_2 (k : Nat) (a1 : Int) : Option Int :=
  (laws_markSurrealTermS_2_l0 a1 (some a1) k)
set_option maxHeartbeats 4000000 in
set_option maxRecDepth 100000 in
theorem laws_markSurrealTermS_2_ct {k : Nat} {a1 : Int} {r : Int} (h : laws_markSurrealTermS_2 k a1 = some r) : Ct prog 160 [.d (.sl []), .d (D.int .i64 a1)] (⟨[], []⟩) (.d (D.int .i64 r)) (⟨[], []⟩) := by
  rw [laws_markSurrealTermS_2] at h
  refine Ct.of (c := _) mixed func160 ⟨rfl, rfl, rfl⟩ ?_ rfl
  conv => whnf
  refine LoopOk.into (laws_markSurrealTermS_2_l0_ct  _  h) [] [] ⟨⟨rfl, rfl⟩, ⟨rfl, trivial⟩, rfl, rfl, rfl, trivial⟩ ?_ (fun _ hs => hs)
  rintro i ts os ⟨rfl, h, rfl, rfl⟩
  conv => whnf
  refine CutK.norm [1] [] ?_
  conv => whnf
  cases h
  exact Done.of [] [] rfl rfl ⟨⟨rfl, rfl⟩, ⟨rfl, trivial⟩, rfl, trivial⟩

def laws_markSurrealTermS_l0 (rec_laws_markSurrealTermS : Rw → Int → Option (Int × Rw)) (K0 : Int → Rw → Option (Int × Rw)) : Nat → Rw → Int → Int → Option (Int × Rw)
  | 0, _, _, _ => none
  | n + 1, v22, v23, v24 => (if v24 < (v22.length : Int) then (if 0 ≤ v24 ∧ v24 < (v22.length : Int) then (row_sii v22 v24 fun x67 x68 x69 => ((rec_laws_markSurrealTermS x67 v23).bind fun y72 => (row_sii (v22.set ((v24 : Int).toNat) [D.sl y72.2, D.int .i64 x68, D.int .i64 x69]) v24 fun x74 x75 x76 => (row_sii ((v22.set ((v24 : Int).toNat) [D.sl y72.2, D.int .i64 x68, D.int .i64 x69]).set ((v24 : Int).toNat) [D.sl x74, D.int .i64 y72.1, D.int .i64 x76]) v24 fun x79 x80 x81 => (laws_markSurrealTermS_l0 rec_laws_markSurrealTermS K0 n (((v22.set ((v24 : Int).toNat) [D.sl y72.2, D.int .i64 x68, D.int .i64 x69]).set ((v24 : Int).toNat) [D.sl x74, D.int .i64 y72.1, D.int .i64 x76]).set ((v24 : Int).toNat) [D.sl x79, D.int .i64 x80, D.int .i64 (IntKind.i64.wrap (y72.1 + 1))]) (IntKind.i64.wrap ((IntKind.i64.wrap (y72.1 + 1)) + 1)) (IntKind.i64.wrap (v24 + 1))))))) else none) else (K0 v23 v22))
set_option maxHeartbeats 4000000 in
set_option maxRecDepth 100000 in
theorem laws_markSurrealTermS_l0_ct {rec_laws_markSurrealTermS : Rw → Int → Option (Int × Rw)} {K0 : Int → Rw → Option (Int × Rw)} {T : TypeId} (hrec_laws_markSurrealTermS : ∀ (a1 : Rw) (a2 : Int) (r : Int × Rw), rec_laws_markSurrealTermS a1 a2 = some r → CtM prog 160 false [.int .i64 a2] a1 (.int .i64 r.1) r.2) {r : Int × Rw} : ∀ (n : Nat) (v22 : Rw) (v23 : Int) (v24 : Int), laws_markSurrealTermS_l0 rec_laws_markSurrealTermS K0 n v22 v23 v24 = some r → LoopOk prog 1 (lp f160 0) (mk 37 [(0, .os 0 v22.length), (1, .d (D.int .i64 v23)), (5, .d (D.int .i64 v24))] [(0, .arr T true v22)]) (LoopEndM 1 37 (fun i ts os => (i = 0 ∧ ∃ v44 : Int, ∃ v45 : Rw, K0 v44 v45 = some r ∧ ts = [(1, .d (D.int .i64 v44))] ∧ os = [(0, .arr T true v45)])))
  | 0, _, _, _, h => by
      rw [laws_markSurrealTermS_l0] at h; cases h
  | n + 1, v22, v23, v24, h => by
      rw [laws_markSurrealTermS_l0] at h
      refine LoopOk.step ?_
      conv => whnf
      refine splD (fun g65 => ?_) (fun g65 => ?_)
      · replace h := iteP h g65
        conv => whnf
        obtain ⟨g66, h⟩ := req_ex h
        refine Req.of g66 ?_
        conv => whnf
        obtain ⟨g71, x67, x68, x69, e70, h⟩ := row_sii_ex h
        refine Row.of _ e70 ?_
        conv => whnf
        obtain ⟨y72, e73, h⟩ := bind_ex h
        refine MarkOk.of (hrec_laws_markSurrealTermS _ _ _ e73) ?_
        conv => whnf
        refine CutK.norm [0, 1, 5] [0] ?_
        conv => whnf
        refine Req.of g66 ?_
        conv => whnf
        obtain ⟨g78, x74, x75, x76, e77, h⟩ := row_sii_ex h
        refine Row.of _ e77 ?_
        conv => whnf
        refine Req.of g66 ?_
        conv => whnf
        obtain ⟨g83, x79, x80, x81, e82, h⟩ := row_sii_ex h
        refine Row.of _ e82 ?_
        conv => whnf
        refine CutK.norm [0, 1, 5] [0] ?_
        conv => whnf
        exact LoopOk.back (laws_markSurrealTermS_l0_ct hrec_laws_markSurrealTermS n _ _ _ h) [some 0] [] ⟨⟨rfl, rfl⟩, ⟨rfl, ⟨rfl, rfl, rows_same⟩, trivial⟩, ⟨(by first | rfl | exact List.length_append.symm | (simp; done) | omega | (dsimp only; omega)), rfl⟩, rfl, rfl, trivial⟩
      · replace h := iteN h g65
        conv => whnf
        exact ⟨_, _, [some 0], [], ⟨rfl, _, _, h, rfl, rfl⟩, ⟨⟨rfl, rfl⟩, ⟨rfl, ⟨rfl, rfl, rows_same⟩, trivial⟩, rfl, trivial⟩⟩
def laws_markSurrealTermS_b (k : Nat) (rec_laws_markSurrealTermS : Rw → Int → Option (Int × Rw)) (a1 : Rw) (a2 : Int) : Option (Int × Rw) :=
  (if a1.isEmpty = true then ((laws_markSurrealTermS_2 k a2).bind fun y => some (y, ([] : Rw))) else (laws_markSurrealTermS_l0 rec_laws_markSurrealTermS (fun (v44 : Int) (v45 : Rw) => (if v45.length = a1.length then some (v44, v45) else none)) k a1 a2 0))
set_option maxHeartbeats 4000000 in
set_option maxRecDepth 100000 in
theorem laws_markSurrealTermS_b_ct {k : Nat} {rec_laws_markSurrealTermS : Rw → Int → Option (Int × Rw)} (hrec_laws_markSurrealTermS : ∀ (a1 : Rw) (a2 : Int) (r : Int × Rw), rec_laws_markSurrealTermS a1 a2 = some r → CtM prog 160 false [.int .i64 a2] a1 (.int .i64 r.1) r.2) {a1 : Rw} {a2 : Int} {r : Int × Rw} (h : laws_markSurrealTermS_b k rec_laws_markSurrealTermS a1 a2 = some r) : CtM prog 160 false [.int .i64 a2] a1 (.int .i64 r.1) r.2 := by
  rw [laws_markSurrealTermS_b] at h
  refine CtM.of (c := _) mixed func160 ⟨rfl, rfl, rfl⟩ rfl (fun hne T => ?_) (fun h0 => ?_)
  · replace h := iteF h (by cases a1 with | nil => exact absurd rfl hne | cons _ _ => rfl)
    conv => whnf
    refine LoopOk.intoM (laws_markSurrealTermS_l0_ct hrec_laws_markSurrealTermS _ _ _ _ h) [some 0] [] ⟨⟨rfl, rfl⟩, ⟨rfl, ⟨rfl, rfl, rows_same⟩, trivial⟩, ⟨rfl, rfl⟩, rfl, rfl, trivial⟩ ?_
    rintro i ts os ⟨rfl, v44, v45, h, rfl, rfl⟩
    conv => whnf
    refine CutK.norm [1] [0] ?_
    conv => whnf
    obtain ⟨g84, h⟩ := req_ex h
    cases h
    exact DoneM.of [some 0] [] rfl g84 ⟨⟨rfl, rfl⟩, ⟨rfl, ⟨rfl, rfl, rows_same⟩, trivial⟩, rfl, trivial⟩
  · subst h0
    replace h := iteT h rfl
    obtain ⟨y, e, h⟩ := bind_ex h
    cases h
    exact ⟨rfl, laws_markSurrealTermS_2_ct e⟩
def laws_markSurrealTermS : Nat → Rw → Int → Option (Int × Rw)
  | 0, _, _ => none
  | k + 1, a1, a2 => laws_markSurrealTermS_b k (laws_markSurrealTermS k) a1 a2
theorem laws_markSurrealTermS_ct' : ∀ (k : Nat) (a1 : Rw) (a2 : Int) (r : Int × Rw), laws_markSurrealTermS k a1 a2 = some r → CtM prog 160 false [.int .i64 a2] a1 (.int .i64 r.1) r.2
  | 0, _, _, _, h => by rw [laws_markSurrealTermS] at h; cases h
  | k + 1, _, _, _, h => by rw [laws_markSurrealTermS] at h; exact laws_markSurrealTermS_b_ct (laws_markSurrealTermS_ct' k) h
theorem laws_markSurrealTermS_ct {k : Nat} {a1 : Rw} {a2 : Int} {r : Int × Rw} (h : laws_markSurrealTermS k a1 a2 = some r) : CtM prog 160 false [.int .i64 a2] a1 (.int .i64 r.1) r.2 := laws_markSurrealTermS_ct' k _ _ _ h

def laws_markEntryS_l0 (k : Nat) (K0 : Int → Rw → Option (Int × Rw)) : Nat → Rw → Int → Int → Option (Int × Rw)
  | 0, _, _, _ => none
  | n + 1, v17, v18, v19 => (if v19 < (v17.length : Int) then ((laws_markText k v18).bind fun y51 => (if 0 ≤ v19 ∧ v19 < (v17.length : Int) then (row_ts v17 v19 fun x54 x55 => (row_ts (v17.set ((v19 : Int).toNat) [D.str y51, D.sl x55]) v19 fun x58 x59 => ((laws_markSurrealTermS k x59 (IntKind.i64.wrap (v18 + 1))).bind fun y62 => (laws_markEntryS_l0 k K0 n ((v17.set ((v19 : Int).toNat) [D.str y51, D.sl x55]).set ((v19 : Int).toNat) [D.str x58, D.sl y62.2]) y62.1 (IntKind.i64.wrap (v19 + 1)))))) else none)) else (K0 v18 v17))
set_option maxHeartbeats 4000000 in
set_option maxRecDepth 100000 in
theorem laws_markEntryS_l0_ct {k : Nat} {K0 : Int → Rw → Option (Int × Rw)} {T : TypeId} {r : Int × Rw} : ∀ (n : Nat) (v17 : Rw) (v18 : Int) (v19 : Int), laws_markEntryS_l0 k K0 n v17 v18 v19 = some r → LoopOk prog 1 (lp f99 0) (mk 29 [(0, .os 0 v17.length), (1, .d (D.int .i64 v18)), (5, .d (D.int .i64 v19))] [(0, .arr T true v17)]) (LoopEndM 1 29 (fun i ts os => (i = 0 ∧ ∃ v34 : Int, ∃ v35 : Rw, K0 v34 v35 = some r ∧ ts = [(1, .d (D.int .i64 v34))] ∧ os = [(0, .arr T true v35)])))
  | 0, _, _, _, h => by
      rw [laws_markEntryS_l0] at h; cases h
  | n + 1, v17, v18, v19, h => by
      rw [laws_markEntryS_l0] at h
      refine LoopOk.step ?_
      conv => whnf
      refine splD (fun g50 => ?_) (fun g50 => ?_)
      · replace h := iteP h g50
        conv => whnf
        refine Pick.no ?_
        conv => whnf
        obtain ⟨y51, e52, h⟩ := bind_ex h
        refine CallOk.of (laws_markText_ct e52) ?_
        conv => whnf
        obtain ⟨g53, h⟩ := req_ex h
        refine Req.of g53 ?_
        conv => whnf
        obtain ⟨g57, x54, x55, e56, h⟩ := row_ts_ex h
        refine Row.of _ e56 ?_
        conv => whnf
        refine CutK.go ?_
        conv => whnf
        refine Req.of g53 ?_
        conv => whnf
        obtain ⟨g61, x58, x59, e60, h⟩ := row_ts_ex h
        refine Row.of _ e60 ?_
        conv => whnf
        obtain ⟨y62, e63, h⟩ := bind_ex h
        refine MarkOk.of (laws_markSurrealTermS_ct e63) ?_
        conv => whnf
        refine CutK.go ?_
        conv => whnf
        exact LoopOk.back (laws_markEntryS_l0_ct  n _ _ _ h) [some 0] [] ⟨⟨rfl, rfl⟩, ⟨rfl, ⟨rfl, rfl, rows_same⟩, trivial⟩, ⟨(by first | rfl | exact List.length_append.symm | (simp; done) | omega | (dsimp only; omega)), rfl⟩, rfl, rfl, trivial⟩
      · replace h := iteN h g50
        conv => whnf
        exact ⟨_, _, [some 0], [], ⟨rfl, _, _, h, rfl, rfl⟩, ⟨⟨rfl, rfl⟩, ⟨rfl, ⟨rfl, rfl, rows_same⟩, trivial⟩, rfl, trivial⟩⟩
def laws_markEntryS (k : Nat) (a1 : Rw) (a2 : Int) : Option (Int × Rw) :=
  (if a1.isEmpty = true then ((laws_markEntryS_2 k a2).bind fun y => some (y, ([] : Rw))) else (laws_markEntryS_l0 k (fun (v34 : Int) (v35 : Rw) => (if v35.length = a1.length then some (v34, v35) else none)) k a1 a2 0))
set_option maxHeartbeats 4000000 in
set_option maxRecDepth 100000 in
theorem laws_markEntryS_ct {k : Nat} {a1 : Rw} {a2 : Int} {r : Int × Rw} (h : laws_markEntryS k a1 a2 = some r) : CtM prog 99 false [.int .i64 a2] a1 (.int .i64 r.1) r.2 := by
  rw [laws_markEntryS] at h
  refine CtM.of (c := _) mixed func99 ⟨rfl, rfl, rfl⟩ rfl (fun hne T => ?_) (fun h0 => ?_)
  · replace h := iteF h (by cases a1 with | nil => exact absurd rfl hne | cons _ _ => rfl)
    conv => whnf
    refine LoopOk.intoM (laws_markEntryS_l0_ct  _ _ _ _ h) [some 0] [] ⟨⟨rfl, rfl⟩, ⟨rfl, ⟨rfl, rfl, rows_same⟩, trivial⟩, ⟨rfl, rfl⟩, rfl, rfl, trivial⟩ ?_
    rintro i ts os ⟨rfl, v34, v35, h, rfl, rfl⟩
    conv => whnf
    refine CutK.go ?_
    conv => whnf
    obtain ⟨g64, h⟩ := req_ex h
    cases h
    exact DoneM.of [some 0] [] rfl g64 ⟨⟨rfl, rfl⟩, ⟨rfl, ⟨rfl, rfl, rows_same⟩, trivial⟩, rfl, trivial⟩
  · subst h0
    replace h := iteT h rfl
    obtain ⟨y, e, h⟩ := bind_ex h
    cases h
    exact ⟨rfl, laws_markEntryS_2_ct e⟩

def laws_markNotebook (k : Nat) (a1 : Rw) (a2 : Int) : Option (Int × Rw) :=
  (if a1.isEmpty = true then ((laws_markNotebook_2 k a2).bind fun y => some (y, ([] : Rw))) else ((laws_markEntryS k a1 a2).bind fun y3 => (if y3.2.length = a1.length then some (y3.1, y3.2) else none)))
set_option maxHeartbeats 4000000 in
set_option maxRecDepth 100000 in
theorem laws_markNotebook_ct {k : Nat} {a1 : Rw} {a2 : Int} {r : Int × Rw} (h : laws_markNotebook k a1 a2 = some r) : CtM prog 36 true [.int .i64 a2] a1 (.int .i64 r.1) r.2 := by
  rw [laws_markNotebook] at h
  refine CtM.of (c := _) mixed func36 ⟨rfl, rfl, rfl⟩ rfl (fun hne T => ?_) (fun h0 => ?_)
  · replace h := iteF h (by cases a1 with | nil => exact absurd rfl hne | cons _ _ => rfl)
    conv => whnf
    refine Choice.new ?_
    conv => whnf
    refine Req.of (rfl) ?_
    conv => whnf
    obtain ⟨y3, e4, h⟩ := bind_ex h
    refine MarkOk.of (laws_markEntryS_ct e4) ?_
    conv => whnf
    refine CutK.go ?_
    conv => whnf
    obtain ⟨g5, h⟩ := req_ex h
    cases h
    exact DoneM.of [some 0] [] rfl g5 ⟨⟨rfl, rfl⟩, ⟨rfl, ⟨rfl, rfl, rows_same⟩, trivial⟩, rfl, trivial⟩
  · subst h0
    replace h := iteT h rfl
    obtain ⟨y, e, h⟩ := bind_ex h
    cases h
    exact ⟨rfl, laws_markNotebook_2_ct e⟩

def spec_coGet_l0 (a1 : Rw) (a2 : ByteArray) (K0 : Option (Rw × Bool)) : Rw → Option (Rw × Bool)
  | [] => (K0)
  | cs :: rest => (cell_ts cs fun x16 x17 => (if (x16.toList == a2.toList) = true then some (x17, true) else (spec_coGet_l0 a1 a2 K0 rest)))
set_option maxHeartbeats 4000000 in
set_option maxRecDepth 100000 in
theorem spec_coGet_l0_ct {a1 : Rw} {a2 : ByteArray} {K0 : Option (Rw × Bool)} {r : Rw × Bool} (hx : a1.length ≤ cap) : ∀ (rest : Rw) (v9n : Nat), a1.drop v9n = rest → spec_coGet_l0 a1 a2 K0 rest = some r → LoopOk prog 0 (lp f89 0) (mk 23 [(1, .d (D.str a2)), (4, .ptr 256 0), (9, .d (D.sl a1)), (10, .d (D.int .i64 (a1.length : Int))), (11, .d (D.int .i64 (v9n : Int)))] [(256, .box 38 [.es])]) (LoopEnd prog f89 0 23 (.tup [.agg [.d (D.sl r.1)], .d (D.bool r.2)]) (⟨[], []⟩) (fun i ts os => (i = 0 ∧ K0 = some r ∧ ts = [(4, .ptr 256 0)] ∧ os = [(256, .box 38 [.es])])))
  | [], v9n, hd, h => by
      rw [spec_coGet_l0] at h
      have hn := drop_nil hd
      refine LoopOk.step ?_
      conv => whnf
      refine splD (fun g => absurd g hn) (fun _ => ?_)
      conv => whnf
      exact ⟨_, _, [some 256], [], ⟨rfl, h, rfl, rfl⟩, ⟨⟨rfl, rfl⟩, ⟨rfl, ⟨rfl, trivial, trivial⟩, trivial⟩, ⟨rfl, rfl⟩, trivial⟩⟩
  | cs :: rest, v9n, hd, h => by
      rw [spec_coGet_l0] at h
      obtain ⟨hrow, hd1, hlt⟩ := drop_cons hd
      refine LoopOk.step ?_
      conv => whnf
      refine splD (fun _ => ?_) (fun g => absurd hlt g)
      conv => whnf
      obtain ⟨x16, x17, e18, h⟩ := cell_ts_ex h
      rw [e18] at hrow
      refine Req.of (Int.natCast_nonneg _) ?_
      refine Row.of _ hrow ?_
      conv => whnf
      refine spl (fun g19 => ?_) (fun g19 => ?_)
      · replace h := iteT h g19
        conv => whnf
        cases h
        exact Done.of [] [] rfl rfl ⟨⟨rfl, rfl⟩, ⟨rfl, trivial⟩, ⟨⟨rfl, trivial⟩, rfl, trivial⟩, trivial⟩
      · replace h := iteF h g19
        conv => whnf
        exact LoopOk.back (spec_coGet_l0_ct hx rest (v9n + 1)  hd1 h) [some 256] [] ⟨⟨rfl, rfl⟩, ⟨rfl, ⟨rfl, trivial, trivial⟩, trivial⟩, rfl, ⟨rfl, rfl⟩, rfl, rfl, i64eq (wrap_up hlt hx), trivial⟩
def spec_coGet  (a1 : Rw) (a2 : ByteArray) : Option (Rw × Bool) :=
  (if a1.length ≤ cap then (spec_coGet_l0 a1 a2 (some (([] : Rw), false)) a1) else none)
set_option maxHeartbeats 4000000 in
set_option maxRecDepth 100000 in
theorem spec_coGet_ct  {a1 : Rw} {a2 : ByteArray} {r : Rw × Bool} (h : spec_coGet a1 a2 = some r) : Ct prog 89 [.agg [.d (D.sl a1)], .d (D.str a2)] (⟨[], []⟩) (.tup [.agg [.d (D.sl r.1)], .d (D.bool r.2)]) (⟨[], []⟩) := by
  rw [spec_coGet] at h
  refine Ct.of (c := _) mixed func89 ⟨rfl, rfl, rfl⟩ ?_ rfl
  conv => whnf
  obtain ⟨g20, h⟩ := req_ex h
  refine LoopOk.into (spec_coGet_l0_ct  g20 _ _  rfl h) [some 256] [] ⟨⟨rfl, rfl⟩, ⟨rfl, ⟨rfl, trivial, trivial⟩, trivial⟩, rfl, ⟨rfl, rfl⟩, rfl, rfl, rfl, trivial⟩ ?_ (fun _ hs => hs)
  rintro i ts os ⟨rfl, h, rfl, rfl⟩
  conv => whnf
  refine CutK.go ?_
  conv => whnf
  cases h
  exact Done.of [] [] rfl rfl ⟨⟨rfl, rfl⟩, ⟨rfl, trivial⟩, ⟨⟨rfl, trivial⟩, rfl, trivial⟩, trivial⟩

def spec_l1In  (a1 : Int) (a2 : Int) (a3 : Int) : Option Bool :=
  (if a2 ≤ a1 then (if a1 ≤ a3 then some true else some false) else some false)
set_option maxHeartbeats 4000000 in
set_option maxRecDepth 100000 in
theorem spec_l1In_ct  {a1 : Int} {a2 : Int} {a3 : Int} {r : Bool} (h : spec_l1In a1 a2 a3 = some r) : Ct prog 142 [.d (D.int .i64 a1), .d (D.int .i64 a2), .d (D.int .i64 a3)] (⟨[], []⟩) (.d (D.bool r)) (⟨[], []⟩) := by
  rw [spec_l1In] at h
  refine Ct.of (c := _) mixed func142 ⟨rfl, rfl, rfl⟩ ?_ rfl
  conv => whnf
  refine splD (fun g4 => ?_) (fun g4 => ?_)
  · replace h := iteP h g4
    conv => whnf
    refine splD (fun g5 => ?_) (fun g5 => ?_)
    · replace h := iteP h g5
      conv => whnf
      cases h
      exact Done.of [] [] rfl rfl ⟨⟨rfl, rfl⟩, ⟨rfl, trivial⟩, rfl, trivial⟩
    · replace h := iteN h g5
      conv => whnf
      cases h
      exact Done.of [] [] rfl rfl ⟨⟨rfl, rfl⟩, ⟨rfl, trivial⟩, rfl, trivial⟩
  · replace h := iteN h g4
    conv => whnf
    cases h
    exact Done.of [] [] rfl rfl ⟨⟨rfl, rfl⟩, ⟨rfl, trivial⟩, rfl, trivial⟩

def spec_coName_l0 (a1 : ByteArray) (K0 : Option Bool) : Nat → Int → Option Bool
  | 0, _ => none
  | n + 1, v8 => (if v8 < (a1.size : Int) then (byteD a1 v8 fun b16 => (if (b16.toNat : Int) < (97 : Int) then some false else (if (122 : Int) < (b16.toNat : Int) then some false else (spec_coName_l0 a1 K0 n (IntKind.i64.wrap (v8 + 1)))))) else (K0))
set_option maxHeartbeats 4000000 in
set_option maxRecDepth 100000 in
theorem spec_coName_l0_ct {a1 : ByteArray} {K0 : Option Bool} {r : Bool} : ∀ (n : Nat) (v8 : Int), spec_coName_l0 a1 K0 n v8 = some r → LoopOk prog 0 (lp f151 0) (mk 23 [(0, .d (D.str a1)), (3, .d (D.int .i64 v8))] []) (LoopEnd prog f151 0 23 (.d (D.bool r)) (⟨[], []⟩) (fun i ts os => (i = 0 ∧ K0 = some r ∧ ts = [(0, .d (D.str a1))] ∧ os = [])))
  | 0, _, h => by
      rw [spec_coName_l0] at h; cases h
  | n + 1, v8, h => by
      rw [spec_coName_l0] at h
      refine LoopOk.step ?_
      conv => whnf
      refine splD (fun g15 => ?_) (fun g15 => ?_)
      · replace h := iteP h g15
        conv => whnf
        obtain ⟨g17, b16, e18, h⟩ := byteD_ex h
        refine Req.of g17 ?_
        refine Byte.of _ e18 ?_
        conv => whnf
        refine splD (fun g19 => ?_) (fun g19 => ?_)
        · replace h := iteP h g19
          conv => whnf
          cases h
          exact Done.of [] [] rfl rfl ⟨⟨rfl, rfl⟩, ⟨rfl, trivial⟩, rfl, trivial⟩
        · replace h := iteN h g19
          conv => whnf
          refine Req.of g17 ?_
          refine Byte.of _ e18 ?_
          conv => whnf
          refine splD (fun g20 => ?_) (fun g20 => ?_)
          · replace h := iteP h g20
            conv => whnf
            cases h
            exact Done.of [] [] rfl rfl ⟨⟨rfl, rfl⟩, ⟨rfl, trivial⟩, rfl, trivial⟩
          · replace h := iteN h g20
            conv => whnf
            exact LoopOk.back (spec_coName_l0_ct  n _ h) [] [] ⟨⟨rfl, rfl⟩, ⟨rfl, trivial⟩, rfl, rfl, trivial⟩
      · replace h := iteN h g15
        conv => whnf
        exact ⟨_, _, [], [], ⟨rfl, h, rfl, rfl⟩, ⟨⟨rfl, rfl⟩, ⟨rfl, trivial⟩, rfl, trivial⟩⟩
def spec_coName (k : Nat) (a1 : ByteArray) : Option Bool :=
  (spec_coName_l0 a1 ((spec_l1In (a1.size : Int) 1 8).bind fun y21 => (if y21 = true then some true else some false)) k 0)
set_option maxHeartbeats 4000000 in
set_option maxRecDepth 100000 in
theorem spec_coName_ct {k : Nat} {a1 : ByteArray} {r : Bool} (h : spec_coName k a1 = some r) : Ct prog 151 [.d (D.str a1)] (⟨[], []⟩) (.d (D.bool r)) (⟨[], []⟩) := by
  rw [spec_coName] at h
  refine Ct.of (c := _) mixed func151 ⟨rfl, rfl, rfl⟩ ?_ rfl
  conv => whnf
  refine LoopOk.into (spec_coName_l0_ct  _ _ h) [] [] ⟨⟨rfl, rfl⟩, ⟨rfl, trivial⟩, rfl, rfl, trivial⟩ ?_ (fun _ hs => hs)
  rintro i ts os ⟨rfl, h, rfl, rfl⟩
  conv => whnf
  refine CutK.go ?_
  conv => whnf
  refine Pick.no ?_
  conv => whnf
  obtain ⟨y21, e22, h⟩ := bind_ex h
  refine CallOk.of (spec_l1In_ct e22) ?_
  conv => whnf
  refine spl (fun g23 => ?_) (fun g23 => ?_)
  · replace h := iteT h g23
    conv => whnf
    refine CutK.go ?_
    conv => whnf
    cases h
    exact Done.of [] [] rfl rfl ⟨⟨rfl, rfl⟩, ⟨rfl, trivial⟩, rfl, trivial⟩
  · replace h := iteF h g23
    conv => whnf
    refine CutK.go ?_
    conv => whnf
    cases h
    exact Done.of [] [] rfl rfl ⟨⟨rfl, rfl⟩, ⟨rfl, trivial⟩, rfl, trivial⟩

def spec_suLeft_l0 (rec_spec_suLeft : Rw → Int → Int → Option Int) (a1 : Rw) (a2 : Int) (K0 : Int → Option Int) : Rw → Int → Option Int
  | [], v14 => (K0 v14)
  | cs :: rest, v14 => (cell_sii cs fun x37 x38 x39 => (if v14 < (0 : Int) then some (-1) else (if a2 = (0 : Int) then some (-1) else ((rec_spec_suLeft x37 (IntKind.i64.wrap (a2 - 1)) (IntKind.i64.wrap (v14 - 1))).bind fun y43 => (spec_suLeft_l0 rec_spec_suLeft a1 a2 K0 rest y43)))))
set_option maxHeartbeats 4000000 in
set_option maxRecDepth 100000 in
theorem spec_suLeft_l0_ct {rec_spec_suLeft : Rw → Int → Int → Option Int} {a1 : Rw} {a2 : Int} {K0 : Int → Option Int} (hrec_spec_suLeft : ∀ (a1 : Rw) (a2 : Int) (a3 : Int) (r : Int), rec_spec_suLeft a1 a2 a3 = some r → Ct prog 129 [.agg [.d (D.sl a1)], .d (D.int .i64 a2), .d (D.int .i64 a3)] (⟨[], []⟩) (.d (D.int .i64 r)) (⟨[], []⟩)) {r : Int} (hx : a1.length ≤ cap) : ∀ (rest : Rw) (v15n : Nat) (v14 : Int), a1.drop v15n = rest → spec_suLeft_l0 rec_spec_suLeft a1 a2 K0 rest v14 = some r → LoopOk prog 0 (lp f129 0) (mk 33 [(1, .d (D.int .i64 a2)), (2, .d (D.int .i64 v14)), (12, .d (D.sl a1)), (13, .d (D.int .i64 (a1.length : Int))), (14, .d (D.int .i64 (v15n : Int)))] []) (LoopEnd prog f129 0 33 (.d (D.int .i64 r)) (⟨[], []⟩) (fun i ts os => (i = 0 ∧ ∃ v26 : Int, K0 v26 = some r ∧ ts = [(2, .d (D.int .i64 v26))] ∧ os = [])))
  | [], v15n, v14, hd, h => by
      rw [spec_suLeft_l0] at h
      have hn := drop_nil hd
      refine LoopOk.step ?_
      conv => whnf
      refine splD (fun g => absurd g hn) (fun _ => ?_)
      conv => whnf
      exact ⟨_, _, [], [], ⟨rfl, _, h, rfl, rfl⟩, ⟨⟨rfl, rfl⟩, ⟨rfl, trivial⟩, rfl, trivial⟩⟩
  | cs :: rest, v15n, v14, hd, h => by
      rw [spec_suLeft_l0] at h
      obtain ⟨hrow, hd1, hlt⟩ := drop_cons hd
      refine LoopOk.step ?_
      conv => whnf
      refine splD (fun _ => ?_) (fun g => absurd hlt g)
      conv => whnf
      obtain ⟨x37, x38, x39, e40, h⟩ := cell_sii_ex h
      rw [e40] at hrow
      refine Req.of (Int.natCast_nonneg _) ?_
      refine Row.of _ hrow ?_
      conv => whnf
      refine splD (fun g41 => ?_) (fun g41 => ?_)
      · replace h := iteP h g41
        conv => whnf
        cases h
        exact Done.of [] [] rfl rfl ⟨⟨rfl, rfl⟩, ⟨rfl, trivial⟩, rfl, trivial⟩
      · replace h := iteN h g41
        conv => whnf
        refine splD (fun g42 => ?_) (fun g42 => ?_)
        · replace h := iteP h g42
          conv => whnf
          cases h
          exact Done.of [] [] rfl rfl ⟨⟨rfl, rfl⟩, ⟨rfl, trivial⟩, rfl, trivial⟩
        · replace h := iteN h g42
          conv => whnf
          refine Pick.no ?_
          conv => whnf
          obtain ⟨y43, e44, h⟩ := bind_ex h
          refine CallOk.of (hrec_spec_suLeft _ _ _ _ e44) ?_
          conv => whnf
          refine CutK.norm [1, 2, 12, 13, 14] [] ?_
          conv => whnf
          exact LoopOk.back (spec_suLeft_l0_ct hrec_spec_suLeft hx rest (v15n + 1) _ hd1 h) [] [] ⟨⟨rfl, rfl⟩, ⟨rfl, trivial⟩, rfl, rfl, rfl, rfl, i64eq (wrap_up hlt hx), trivial⟩
def spec_suLeft_b (rec_spec_suLeft : Rw → Int → Int → Option Int) (a1 : Rw) (a2 : Int) (a3 : Int) : Option Int :=
  (if a1.length ≤ cap then (spec_suLeft_l0 rec_spec_suLeft a1 a2 (fun (v26 : Int) => some v26) a1 (IntKind.i64.wrap (a3 - 1))) else none)
set_option maxHeartbeats 4000000 in
set_option maxRecDepth 100000 in
theorem spec_suLeft_b_ct {rec_spec_suLeft : Rw → Int → Int → Option Int} (hrec_spec_suLeft : ∀ (a1 : Rw) (a2 : Int) (a3 : Int) (r : Int), rec_spec_suLeft a1 a2 a3 = some r → Ct prog 129 [.agg [.d (D.sl a1)], .d (D.int .i64 a2), .d (D.int .i64 a3)] (⟨[], []⟩) (.d (D.int .i64 r)) (⟨[], []⟩)) {a1 : Rw} {a2 : Int} {a3 : Int} {r : Int} (h : spec_suLeft_b rec_spec_suLeft a1 a2 a3 = some r) : Ct prog 129 [.agg [.d (D.sl a1)], .d (D.int .i64 a2), .d (D.int .i64 a3)] (⟨[], []⟩) (.d (D.int .i64 r)) (⟨[], []⟩) := by
  rw [spec_suLeft_b] at h
  refine Ct.of (c := _) mixed func129 ⟨rfl, rfl, rfl⟩ ?_ rfl
  conv => whnf
  obtain ⟨g45, h⟩ := req_ex h
  refine LoopOk.into (spec_suLeft_l0_ct hrec_spec_suLeft g45 _ _ _ rfl h) [] [] ⟨⟨rfl, rfl⟩, ⟨rfl, trivial⟩, rfl, rfl, rfl, rfl, rfl, trivial⟩ ?_ (fun _ hs => hs)
  rintro i ts os ⟨rfl, v26, h, rfl, rfl⟩
  conv => whnf
  refine CutK.norm [2] [] ?_
  conv => whnf
  cases h
  exact Done.of [] [] rfl rfl ⟨⟨rfl, rfl⟩, ⟨rfl, trivial⟩, rfl, trivial⟩
def spec_suLeft : Nat → Rw → Int → Int → Option Int
  | 0, _, _, _ => none
  | k + 1, a1, a2, a3 => spec_suLeft_b (spec_suLeft k) a1 a2 a3
theorem spec_suLeft_ct' : ∀ (k : Nat) (a1 : Rw) (a2 : Int) (a3 : Int) (r : Int), spec_suLeft k a1 a2 a3 = some r → Ct prog 129 [.agg [.d (D.sl a1)], .d (D.int .i64 a2), .d (D.int .i64 a3)] (⟨[], []⟩) (.d (D.int .i64 r)) (⟨[], []⟩)
  | 0, _, _, _, _, h => by rw [spec_suLeft] at h; cases h
  | k + 1, _, _, _, _, h => by rw [spec_suLeft] at h; exact spec_suLeft_b_ct (spec_suLeft_ct' k) h
theorem spec_suLeft_ct {k : Nat} {a1 : Rw} {a2 : Int} {a3 : Int} {r : Int} (h : spec_suLeft k a1 a2 a3 = some r) : Ct prog 129 [.agg [.d (D.sl a1)], .d (D.int .i64 a2), .d (D.int .i64 a3)] (⟨[], []⟩) (.d (D.int .i64 r)) (⟨[], []⟩) := spec_suLeft_ct' k _ _ _ _ h

def spec_l1Most  (a1 : Int) (a2 : Int) : Option Int :=
  (if a2 < a1 then some a1 else some a2)
set_option maxHeartbeats 4000000 in
set_option maxRecDepth 100000 in
theorem spec_l1Most_ct  {a1 : Int} {a2 : Int} {r : Int} (h : spec_l1Most a1 a2 = some r) : Ct prog 192 [.d (D.int .i64 a1), .d (D.int .i64 a2)] (⟨[], []⟩) (.d (D.int .i64 r)) (⟨[], []⟩) := by
  rw [spec_l1Most] at h
  refine Ct.of (c := _) mixed func192 ⟨rfl, rfl, rfl⟩ ?_ rfl
  conv => whnf
  refine splD (fun g3 => ?_) (fun g3 => ?_)
  · replace h := iteP h g3
    conv => whnf
    cases h
    exact Done.of [] [] rfl rfl ⟨⟨rfl, rfl⟩, ⟨rfl, trivial⟩, rfl, trivial⟩
  · replace h := iteN h g3
    conv => whnf
    cases h
    exact Done.of [] [] rfl rfl ⟨⟨rfl, rfl⟩, ⟨rfl, trivial⟩, rfl, trivial⟩

def spec_l1Abs  (a1 : Int) : Option Int :=
  ((spec_l1Most a1 (IntKind.i64.wrap (0 - a1))).bind fun y2 => some y2)
set_option maxHeartbeats 4000000 in
set_option maxRecDepth 100000 in
theorem spec_l1Abs_ct  {a1 : Int} {r : Int} (h : spec_l1Abs a1 = some r) : Ct prog 185 [.d (D.int .i64 a1)] (⟨[], []⟩) (.d (D.int .i64 r)) (⟨[], []⟩) := by
  rw [spec_l1Abs] at h
  refine Ct.of (c := _) mixed func185 ⟨rfl, rfl, rfl⟩ ?_ rfl
  conv => whnf
  refine Pick.no ?_
  conv => whnf
  obtain ⟨y2, e3, h⟩ := bind_ex h
  refine CallOk.of (spec_l1Most_ct e3) ?_
  conv => whnf
  refine CutK.go ?_
  conv => whnf
  cases h
  exact Done.of [] [] rfl rfl ⟨⟨rfl, rfl⟩, ⟨rfl, trivial⟩, rfl, trivial⟩

def spec_shGcd_l0 (K0 : Int → Option Int) : Nat → Int → Int → Option Int
  | 0, _, _ => none
  | n + 1, v5, v6 => (if v6 = (0 : Int) then (K0 v5) else (if v6 ≠ 0 then (spec_shGcd_l0 K0 n v6 (v5.tmod v6)) else none))
set_option maxHeartbeats 4000000 in
set_option maxRecDepth 100000 in
theorem spec_shGcd_l0_ct {K0 : Int → Option Int} {r : Int} : ∀ (n : Nat) (v5 : Int) (v6 : Int), spec_shGcd_l0 K0 n v5 v6 = some r → LoopOk prog 0 (lp f162 0) (mk 13 [(0, .d (D.int .i64 v5)), (1, .d (D.int .i64 v6))] []) (LoopEnd prog f162 0 13 (.d (D.int .i64 r)) (⟨[], []⟩) (fun i ts os => (i = 0 ∧ ∃ v9 : Int, K0 v9 = some r ∧ ts = [(0, .d (D.int .i64 v9))] ∧ os = [])))
  | 0, _, _, h => by
      rw [spec_shGcd_l0] at h; cases h
  | n + 1, v5, v6, h => by
      rw [spec_shGcd_l0] at h
      refine LoopOk.step ?_
      conv => whnf
      refine splN (fun g12 => ?_) (fun g12 => ?_)
      · replace h := iteN h g12
        conv => whnf
        obtain ⟨g13, h⟩ := req_ex h
        refine Req.of g13 ?_
        conv => whnf
        exact LoopOk.back (spec_shGcd_l0_ct  n _ _ h) [] [] ⟨⟨rfl, rfl⟩, ⟨rfl, trivial⟩, rfl, rfl, trivial⟩
      · replace h := iteP h g12
        conv => whnf
        exact ⟨_, _, [], [], ⟨rfl, _, h, rfl, rfl⟩, ⟨⟨rfl, rfl⟩, ⟨rfl, trivial⟩, rfl, trivial⟩⟩
def spec_shGcd (k : Nat) (a1 : Int) (a2 : Int) : Option Int :=
  (spec_shGcd_l0 (fun (v9 : Int) => ((spec_l1Abs v9).bind fun y14 => some y14)) k a1 a2)
set_option maxHeartbeats 4000000 in
set_option maxRecDepth 100000 in
theorem spec_shGcd_ct {k : Nat} {a1 : Int} {a2 : Int} {r : Int} (h : spec_shGcd k a1 a2 = some r) : Ct prog 162 [.d (D.int .i64 a1), .d (D.int .i64 a2)] (⟨[], []⟩) (.d (D.int .i64 r)) (⟨[], []⟩) := by
  rw [spec_shGcd] at h
  refine Ct.of (c := _) mixed func162 ⟨rfl, rfl, rfl⟩ ?_ rfl
  conv => whnf
  refine LoopOk.into (spec_shGcd_l0_ct  _ _ _ h) [] [] ⟨⟨rfl, rfl⟩, ⟨rfl, trivial⟩, rfl, rfl, trivial⟩ ?_ (fun _ hs => hs)
  rintro i ts os ⟨rfl, v9, h, rfl, rfl⟩
  conv => whnf
  refine CutK.go ?_
  conv => whnf
  refine Pick.no ?_
  conv => whnf
  obtain ⟨y14, e15, h⟩ := bind_ex h
  refine CallOk.of (spec_l1Abs_ct e15) ?_
  conv => whnf
  refine CutK.go ?_
  conv => whnf
  cases h
  exact Done.of [] [] rfl rfl ⟨⟨rfl, rfl⟩, ⟨rfl, trivial⟩, rfl, trivial⟩

def spec_shGood (k : Nat) (a1 : Int) (a2 : Int) : Option Bool :=
  ((spec_l1In a2 1 1000000).bind fun y3 => (if y3 = true then ((spec_l1In a1 (-1000000) 1000000).bind fun y6 => (if y6 = true then ((spec_shGcd k a1 a2).bind fun y9 => (if y9 = (1 : Int) then some true else some false)) else some false)) else some false))
set_option maxHeartbeats 4000000 in
set_option maxRecDepth 100000 in
theorem spec_shGood_ct {k : Nat} {a1 : Int} {a2 : Int} {r : Bool} (h : spec_shGood k a1 a2 = some r) : Ct prog 101 [.agg [.d (D.int .i64 a1), .d (D.int .i64 a2)]] (⟨[], []⟩) (.d (D.bool r)) (⟨[], []⟩) := by
  rw [spec_shGood] at h
  refine Ct.of (c := _) mixed func101 ⟨rfl, rfl, rfl⟩ ?_ rfl
  conv => whnf
  refine Pick.no ?_
  conv => whnf
  obtain ⟨y3, e4, h⟩ := bind_ex h
  refine CallOk.of (spec_l1In_ct e4) ?_
  conv => whnf
  refine spl (fun g5 => ?_) (fun g5 => ?_)
  · replace h := iteT h g5
    conv => whnf
    refine Pick.no ?_
    conv => whnf
    obtain ⟨y6, e7, h⟩ := bind_ex h
    refine CallOk.of (spec_l1In_ct e7) ?_
    conv => whnf
    refine spl (fun g8 => ?_) (fun g8 => ?_)
    · replace h := iteT h g8
      conv => whnf
      refine Pick.no ?_
      conv => whnf
      obtain ⟨y9, e10, h⟩ := bind_ex h
      refine CallOk.of (spec_shGcd_ct e10) ?_
      conv => whnf
      refine splD (fun g11 => ?_) (fun g11 => ?_)
      · replace h := iteP h g11
        conv => whnf
        refine CutK.go ?_
        conv => whnf
        cases h
        exact Done.of [] [] rfl rfl ⟨⟨rfl, rfl⟩, ⟨rfl, trivial⟩, rfl, trivial⟩
      · replace h := iteN h g11
        conv => whnf
        refine CutK.go ?_
        conv => whnf
        cases h
        exact Done.of [] [] rfl rfl ⟨⟨rfl, rfl⟩, ⟨rfl, trivial⟩, rfl, trivial⟩
    · replace h := iteF h g8
      conv => whnf
      refine CutK.go ?_
      conv => whnf
      cases h
      exact Done.of [] [] rfl rfl ⟨⟨rfl, rfl⟩, ⟨rfl, trivial⟩, rfl, trivial⟩
  · replace h := iteF h g5
    conv => whnf
    refine CutK.go ?_
    conv => whnf
    cases h
    exact Done.of [] [] rfl rfl ⟨⟨rfl, rfl⟩, ⟨rfl, trivial⟩, rfl, trivial⟩

def spec_l1Sign  (a1 : Int) : Option Int :=
  (if (0 : Int) < a1 then some 1 else (if a1 < (0 : Int) then some (-1) else some 0))
set_option maxHeartbeats 4000000 in
set_option maxRecDepth 100000 in
theorem spec_l1Sign_ct  {a1 : Int} {r : Int} (h : spec_l1Sign a1 = some r) : Ct prog 103 [.d (D.int .i64 a1)] (⟨[], []⟩) (.d (D.int .i64 r)) (⟨[], []⟩) := by
  rw [spec_l1Sign] at h
  refine Ct.of (c := _) mixed func103 ⟨rfl, rfl, rfl⟩ ?_ rfl
  conv => whnf
  refine splD (fun g2 => ?_) (fun g2 => ?_)
  · replace h := iteP h g2
    conv => whnf
    cases h
    exact Done.of [] [] rfl rfl ⟨⟨rfl, rfl⟩, ⟨rfl, trivial⟩, rfl, trivial⟩
  · replace h := iteN h g2
    conv => whnf
    refine splD (fun g3 => ?_) (fun g3 => ?_)
    · replace h := iteP h g3
      conv => whnf
      cases h
      exact Done.of [] [] rfl rfl ⟨⟨rfl, rfl⟩, ⟨rfl, trivial⟩, rfl, trivial⟩
    · replace h := iteN h g3
      conv => whnf
      cases h
      exact Done.of [] [] rfl rfl ⟨⟨rfl, rfl⟩, ⟨rfl, trivial⟩, rfl, trivial⟩

def spec_suSign  (a1 : Rw) : Option Int :=
  (if (a1.length : Int) = (0 : Int) then some 0 else (row_sii a1 0 fun x3 x4 x5 => ((spec_l1Sign x4).bind fun y8 => some y8)))
set_option maxHeartbeats 4000000 in
set_option maxRecDepth 100000 in
theorem spec_suSign_ct  {a1 : Rw} {r : Int} (h : spec_suSign a1 = some r) : Ct prog 186 [.d (D.sl a1)] (⟨[], []⟩) (.d (D.int .i64 r)) (⟨[], []⟩) := by
  rw [spec_suSign] at h
  refine Ct.of (c := _) mixed func186 ⟨rfl, rfl, rfl⟩ ?_ rfl
  conv => whnf
  refine splD (fun g2 => ?_) (fun g2 => ?_)
  · replace h := iteP h g2
    conv => whnf
    cases h
    exact Done.of [] [] rfl rfl ⟨⟨rfl, rfl⟩, ⟨rfl, trivial⟩, rfl, trivial⟩
  · replace h := iteN h g2
    conv => whnf
    obtain ⟨g7, x3, x4, x5, e6, h⟩ := row_sii_ex h
    refine Req.of g7 ?_
    refine Row.of _ e6 ?_
    conv => whnf
    refine Pick.no ?_
    conv => whnf
    obtain ⟨y8, e9, h⟩ := bind_ex h
    refine CallOk.of (spec_l1Sign_ct e9) ?_
    conv => whnf
    refine CutK.go ?_
    conv => whnf
    cases h
    exact Done.of [] [] rfl rfl ⟨⟨rfl, rfl⟩, ⟨rfl, trivial⟩, rfl, trivial⟩

def spec_shCmp  (a1 : Int) (a2 : Int) (a3 : Int) (a4 : Int) : Option Int :=
  ((spec_l1Sign (IntKind.i64.wrap ((IntKind.i64.wrap (a1 * a4)) - (IntKind.i64.wrap (a3 * a2))))).bind fun y5 => some y5)
set_option maxHeartbeats 4000000 in
set_option maxRecDepth 100000 in
theorem spec_shCmp_ct  {a1 : Int} {a2 : Int} {a3 : Int} {a4 : Int} {r : Int} (h : spec_shCmp a1 a2 a3 a4 = some r) : Ct prog 42 [.agg [.d (D.int .i64 a1), .d (D.int .i64 a2)], .agg [.d (D.int .i64 a3), .d (D.int .i64 a4)]] (⟨[], []⟩) (.d (D.int .i64 r)) (⟨[], []⟩) := by
  rw [spec_shCmp] at h
  refine Ct.of (c := _) mixed func42 ⟨rfl, rfl, rfl⟩ ?_ rfl
  conv => whnf
  refine Pick.no ?_
  conv => whnf
  obtain ⟨y5, e6, h⟩ := bind_ex h
  refine CallOk.of (spec_l1Sign_ct e6) ?_
  conv => whnf
  refine CutK.go ?_
  conv => whnf
  cases h
  exact Done.of [] [] rfl rfl ⟨⟨rfl, rfl⟩, ⟨rfl, trivial⟩, rfl, trivial⟩

def spec_suCmp_p3 (o57 : Int) : Option Int :=
  some o57
set_option maxHeartbeats 4000000 in
set_option maxRecDepth 100000 in
theorem spec_suCmp_p3_ct {o57 : Int} {r : Int} (h : spec_suCmp_p3 o57 = some r) : X prog 0 (tlF f171 3) (mk 71 [(4, .d (D.int .i64 o57))] []) (finK prog f171 0 (.d (D.int .i64 r)) (⟨[], []⟩)) := by
  rw [spec_suCmp_p3] at h
  conv => whnf
  cases h
  exact Done.of [] [] rfl rfl ⟨⟨rfl, rfl⟩, ⟨rfl, trivial⟩, rfl, trivial⟩
def spec_suCmp_p2 (a1 : Rw) (a2 : Rw) : Option Int :=
  (if 0 ≤ (a1.length : Int) ∧ (a1.length : Int) ≤ (a2.length : Int) ∧ (∀ cs ∈ a2, cs.length = 3) then ((spec_suSign (a2.drop ((a1.length : Int) : Int).toNat)).bind fun y59 => (spec_suCmp_p3 (IntKind.i64.wrap (0 - y59)))) else none)
set_option maxHeartbeats 4000000 in
set_option maxRecDepth 100000 in
theorem spec_suCmp_p2_ct {a1 : Rw} {a2 : Rw} {r : Int} (h : spec_suCmp_p2 a1 a2 = some r) : X prog 0 (tlF f171 2) (mk 71 [(2, .ptr 128 0), (3, .ptr 192 0)] [(128, .box 38 [.d (D.sl a1)]), (192, .box 38 [.d (D.sl a2)])]) (finK prog f171 0 (.d (D.int .i64 r)) (⟨[], []⟩)) := by
  rw [spec_suCmp_p2] at h
  conv => whnf
  obtain ⟨g58, h⟩ := req_ex h
  refine Req.of g58 ?_
  conv => whnf
  refine Pick.no ?_
  conv => whnf
  obtain ⟨y59, e60, h⟩ := bind_ex h
  refine CallOk.of (spec_suSign_ct e60) ?_
  conv => whnf
  exact CutK.piece (spec_suCmp_p3_ct  h) [] [] ⟨⟨rfl, rfl⟩, ⟨rfl, trivial⟩, rfl, trivial⟩
def spec_suCmp_l0 (rec_spec_suCmp : Rw → Rw → Option Int) (a1 : Rw) (a2 : Rw) (K0 : Option Int) : Rw → Nat → Option Int
  | [], v86n => (K0)
  | cs :: rest, v86n => (cell_sii cs fun x112 x113 x114 => (if (v86n : Int) = (a2.length : Int) then ((spec_l1Sign x113).bind fun y117 => some y117) else (row_sii a2 (v86n : Int) fun x119 x120 x121 => ((rec_spec_suCmp x112 x119).bind fun y124 => (if (0 : Int) < y124 then ((spec_l1Sign x113).bind fun y127 => some y127) else (if y124 < (0 : Int) then ((spec_l1Sign x120).bind fun y130 => some (IntKind.i64.wrap (0 - y130))) else (if (!(decide (x113 = x120) && (decide (x114 = x121) && true))) = true then ((spec_shCmp x113 x114 x120 x121).bind fun y133 => some y133) else (spec_suCmp_l0 rec_spec_suCmp a1 a2 K0 rest (v86n + 1)))))))))
set_option maxHeartbeats 4000000 in
set_option maxRecDepth 100000 in
theorem spec_suCmp_l0_ct {rec_spec_suCmp : Rw → Rw → Option Int} {a1 : Rw} {a2 : Rw} {K0 : Option Int} (hrec_spec_suCmp : ∀ (a1 : Rw) (a2 : Rw) (r : Int), rec_spec_suCmp a1 a2 = some r → Ct prog 171 [.agg [.d (D.sl a1)], .agg [.d (D.sl a2)]] (⟨[], []⟩) (.d (D.int .i64 r)) (⟨[], []⟩)) {r : Int} (hx : a1.length ≤ cap) : ∀ (rest : Rw) (v86n : Nat), a1.drop v86n = rest → spec_suCmp_l0 rec_spec_suCmp a1 a2 K0 rest v86n = some r → LoopOk prog 0 (lp f171 0) (mk 71 [(2, .ptr 128 0), (3, .ptr 192 0), (10, .d (D.sl a1)), (11, .d (D.int .i64 (a1.length : Int))), (12, .d (D.int .i64 (v86n : Int)))] [(128, .box 38 [.d (D.sl a1)]), (192, .box 38 [.d (D.sl a2)])]) (LoopEnd prog f171 0 71 (.d (D.int .i64 r)) (⟨[], []⟩) (fun i ts os => (i = 0 ∧ K0 = some r ∧ ts = [(2, .ptr 128 0), (3, .ptr 192 0)] ∧ os = [(128, .box 38 [.d (D.sl a1)]), (192, .box 38 [.d (D.sl a2)])])))
  | [], v86n, hd, h => by
      rw [spec_suCmp_l0] at h
      have hn := drop_nil hd
      refine LoopOk.step ?_
      conv => whnf
      refine splD (fun g => absurd g hn) (fun _ => ?_)
      conv => whnf
      exact ⟨_, _, [some 128, some 192], [], ⟨rfl, h, rfl, rfl⟩, ⟨⟨rfl, rfl⟩, ⟨rfl, ⟨rfl, rfl, trivial⟩, ⟨rfl, rfl, trivial⟩, trivial⟩, ⟨rfl, rfl⟩, ⟨rfl, rfl⟩, trivial⟩⟩
  | cs :: rest, v86n, hd, h => by
      rw [spec_suCmp_l0] at h
      obtain ⟨hrow, hd1, hlt⟩ := drop_cons hd
      refine LoopOk.step ?_
      conv => whnf
      refine splD (fun _ => ?_) (fun g => absurd hlt g)
      conv => whnf
      obtain ⟨x112, x113, x114, e115, h⟩ := cell_sii_ex h
      rw [e115] at hrow
      refine Req.of (Int.natCast_nonneg _) ?_
      refine Row.of _ hrow ?_
      conv => whnf
      refine splD (fun g116 => ?_) (fun g116 => ?_)
      · replace h := iteP h g116
        conv => whnf
        refine Pick.no ?_
        conv => whnf
        obtain ⟨y117, e118, h⟩ := bind_ex h
        refine CallOk.of (spec_l1Sign_ct e118) ?_
        conv => whnf
        refine CutK.norm [4] [] ?_
        conv => whnf
        cases h
        exact Done.of [] [] rfl rfl ⟨⟨rfl, rfl⟩, ⟨rfl, trivial⟩, rfl, trivial⟩
      · replace h := iteN h g116
        conv => whnf
        refine CutK.norm [2, 3, 5, 6, 10, 11, 12] [128, 192, 384] ?_
        conv => whnf
        obtain ⟨g123, x119, x120, x121, e122, h⟩ := row_sii_ex h
        refine Req.of g123 ?_
        refine Row.of _ e122 ?_
        conv => whnf
        refine Pick.no ?_
        conv => whnf
        obtain ⟨y124, e125, h⟩ := bind_ex h
        refine CallOk.of (hrec_spec_suCmp _ _ _ e125) ?_
        conv => whnf
        refine CutK.norm [2, 3, 6, 7, 8, 10, 11, 12] [128, 192, 384, 448] ?_
        conv => whnf
        refine splD (fun g126 => ?_) (fun g126 => ?_)
        · replace h := iteP h g126
          conv => whnf
          refine Pick.no ?_
          conv => whnf
          obtain ⟨y127, e128, h⟩ := bind_ex h
          refine CallOk.of (spec_l1Sign_ct e128) ?_
          conv => whnf
          refine CutK.norm [4] [] ?_
          conv => whnf
          cases h
          exact Done.of [] [] rfl rfl ⟨⟨rfl, rfl⟩, ⟨rfl, trivial⟩, rfl, trivial⟩
        · replace h := iteN h g126
          conv => whnf
          refine splD (fun g129 => ?_) (fun g129 => ?_)
          · replace h := iteP h g129
            conv => whnf
            refine Pick.no ?_
            conv => whnf
            obtain ⟨y130, e131, h⟩ := bind_ex h
            refine CallOk.of (spec_l1Sign_ct e131) ?_
            conv => whnf
            refine CutK.norm [4] [] ?_
            conv => whnf
            cases h
            exact Done.of [] [] rfl rfl ⟨⟨rfl, rfl⟩, ⟨rfl, trivial⟩, rfl, trivial⟩
          · replace h := iteN h g129
            conv => whnf
            refine Req.of ⟨by kernel_rfl, by kernel_rfl⟩ ?_
            conv => whnf
            refine spl (fun g132 => ?_) (fun g132 => ?_)
            · replace h := iteT h g132
              conv => whnf
              refine Pick.no ?_
              conv => whnf
              obtain ⟨y133, e134, h⟩ := bind_ex h
              refine CallOk.of (spec_shCmp_ct e134) ?_
              conv => whnf
              refine CutK.norm [4] [] ?_
              conv => whnf
              cases h
              exact Done.of [] [] rfl rfl ⟨⟨rfl, rfl⟩, ⟨rfl, trivial⟩, rfl, trivial⟩
            · replace h := iteF h g132
              conv => whnf
              refine CutK.norm [2, 3, 10, 11, 12] [128, 192] ?_
              conv => whnf
              exact LoopOk.back (spec_suCmp_l0_ct hrec_spec_suCmp hx rest (v86n + 1)  hd1 h) [some 128, some 192] [] ⟨⟨rfl, rfl⟩, ⟨rfl, ⟨rfl, rfl, trivial⟩, ⟨rfl, rfl, trivial⟩, trivial⟩, ⟨rfl, rfl⟩, ⟨rfl, rfl⟩, rfl, rfl, i64eq (wrap_up hlt hx), trivial⟩
def spec_suCmp_b (rec_spec_suCmp : Rw → Rw → Option Int) (a1 : Rw) (a2 : Rw) : Option Int :=
  (if a1.length ≤ cap then (spec_suCmp_l0 rec_spec_suCmp a1 a2 (spec_suCmp_p2 a1 a2) a1 0) else none)
set_option maxHeartbeats 4000000 in
set_option maxRecDepth 100000 in
theorem spec_suCmp_b_ct {rec_spec_suCmp : Rw → Rw → Option Int} (hrec_spec_suCmp : ∀ (a1 : Rw) (a2 : Rw) (r : Int), rec_spec_suCmp a1 a2 = some r → Ct prog 171 [.agg [.d (D.sl a1)], .agg [.d (D.sl a2)]] (⟨[], []⟩) (.d (D.int .i64 r)) (⟨[], []⟩)) {a1 : Rw} {a2 : Rw} {r : Int} (h : spec_suCmp_b rec_spec_suCmp a1 a2 = some r) : Ct prog 171 [.agg [.d (D.sl a1)], .agg [.d (D.sl a2)]] (⟨[], []⟩) (.d (D.int .i64 r)) (⟨[], []⟩) := by
  rw [spec_suCmp_b] at h
  refine Ct.of (c := _) mixed func171 ⟨rfl, rfl, rfl⟩ ?_ rfl
  conv => whnf
  obtain ⟨g135, h⟩ := req_ex h
  refine LoopOk.into (spec_suCmp_l0_ct hrec_spec_suCmp g135 _ _  rfl h) [some 128, some 192] [] ⟨⟨rfl, rfl⟩, ⟨rfl, ⟨rfl, rfl, trivial⟩, ⟨rfl, rfl, trivial⟩, trivial⟩, ⟨rfl, rfl⟩, ⟨rfl, rfl⟩, rfl, rfl, rfl, trivial⟩ ?_ (fun _ hs => hs)
  rintro i ts os ⟨rfl, h, rfl, rfl⟩
  conv => whnf
  exact CutK.piece (spec_suCmp_p2_ct  h) [some 128, some 192] [] ⟨⟨rfl, rfl⟩, ⟨rfl, ⟨rfl, rfl, trivial⟩, ⟨rfl, rfl, trivial⟩, trivial⟩, ⟨rfl, rfl⟩, ⟨rfl, rfl⟩, trivial⟩
def spec_suCmp : Nat → Rw → Rw → Option Int
  | 0, _, _ => none
  | k + 1, a1, a2 => spec_suCmp_b (spec_suCmp k) a1 a2
theorem spec_suCmp_ct' : ∀ (k : Nat) (a1 : Rw) (a2 : Rw) (r : Int), spec_suCmp k a1 a2 = some r → Ct prog 171 [.agg [.d (D.sl a1)], .agg [.d (D.sl a2)]] (⟨[], []⟩) (.d (D.int .i64 r)) (⟨[], []⟩)
  | 0, _, _, _, h => by rw [spec_suCmp] at h; cases h
  | k + 1, _, _, _, h => by rw [spec_suCmp] at h; exact spec_suCmp_b_ct (spec_suCmp_ct' k) h
theorem spec_suCmp_ct {k : Nat} {a1 : Rw} {a2 : Rw} {r : Int} (h : spec_suCmp k a1 a2 = some r) : Ct prog 171 [.agg [.d (D.sl a1)], .agg [.d (D.sl a2)]] (⟨[], []⟩) (.d (D.int .i64 r)) (⟨[], []⟩) := spec_suCmp_ct' k _ _ _ h

def spec_suForm_p3  : Option Bool :=
  some true
set_option maxHeartbeats 4000000 in
set_option maxRecDepth 100000 in
theorem spec_suForm_p3_ct  {r : Bool} (h : spec_suForm_p3 = some r) : X prog 0 (tlF f130 3) (mk 53 [] []) (finK prog f130 0 (.d (D.bool r)) (⟨[], []⟩)) := by
  rw [spec_suForm_p3] at h
  conv => whnf
  cases h
  exact Done.of [] [] rfl rfl ⟨⟨rfl, rfl⟩, ⟨rfl, trivial⟩, rfl, trivial⟩
def spec_suForm_l0 (k : Nat) (rec_spec_suForm : Rw → Int → Option Bool) (a1 : Rw) (a2 : Int) (K0 : Option Bool) : Rw → Nat → Option Bool
  | [], v54n => (K0)
  | cs :: rest, v54n => (cell_sii cs fun x77 x78 x79 => ((spec_shGood k x78 x79).bind fun y81 => (if y81 = true then (if x78 = (0 : Int) then some false else ((rec_spec_suForm x77 (IntKind.i64.wrap (a2 - 1))).bind fun y85 => (if y85 = true then (if (0 : Int) < (v54n : Int) then (row_sii a1 (IntKind.i64.wrap ((v54n : Int) - 1)) fun x89 x90 x91 => ((spec_suCmp k x89 x77).bind fun y94 => (if y94 ≤ (0 : Int) then some false else (spec_suForm_l0 k rec_spec_suForm a1 a2 K0 rest (v54n + 1))))) else (spec_suForm_l0 k rec_spec_suForm a1 a2 K0 rest (v54n + 1))) else some false))) else some false)))
set_option maxHeartbeats 4000000 in
set_option maxRecDepth 100000 in
theorem spec_suForm_l0_ct {k : Nat} {rec_spec_suForm : Rw → Int → Option Bool} {a1 : Rw} {a2 : Int} {K0 : Option Bool} (hrec_spec_suForm : ∀ (a1 : Rw) (a2 : Int) (r : Bool), rec_spec_suForm a1 a2 = some r → Ct prog 130 [.agg [.d (D.sl a1)], .d (D.int .i64 a2)] (⟨[], []⟩) (.d (D.bool r)) (⟨[], []⟩)) {r : Bool} (hx : a1.length ≤ cap) : ∀ (rest : Rw) (v54n : Nat), a1.drop v54n = rest → spec_suForm_l0 k rec_spec_suForm a1 a2 K0 rest v54n = some r → LoopOk prog 0 (lp f130 0) (mk 53 [(1, .d (D.int .i64 a2)), (2, .ptr 128 0), (10, .d (D.sl a1)), (11, .d (D.int .i64 (a1.length : Int))), (12, .d (D.int .i64 (v54n : Int)))] [(128, .box 38 [.d (D.sl a1)])]) (LoopEnd prog f130 0 53 (.d (D.bool r)) (⟨[], []⟩) (fun i ts os => (i = 0 ∧ K0 = some r ∧ ts = [] ∧ os = [])))
  | [], v54n, hd, h => by
      rw [spec_suForm_l0] at h
      have hn := drop_nil hd
      refine LoopOk.step ?_
      conv => whnf
      refine splD (fun g => absurd g hn) (fun _ => ?_)
      conv => whnf
      exact ⟨_, _, [], [], ⟨rfl, h, rfl, rfl⟩, ⟨⟨rfl, rfl⟩, ⟨rfl, trivial⟩, trivial⟩⟩
  | cs :: rest, v54n, hd, h => by
      rw [spec_suForm_l0] at h
      obtain ⟨hrow, hd1, hlt⟩ := drop_cons hd
      refine LoopOk.step ?_
      conv => whnf
      refine splD (fun _ => ?_) (fun g => absurd hlt g)
      conv => whnf
      obtain ⟨x77, x78, x79, e80, h⟩ := cell_sii_ex h
      rw [e80] at hrow
      refine Req.of (Int.natCast_nonneg _) ?_
      refine Row.of _ hrow ?_
      conv => whnf
      refine Pick.no ?_
      conv => whnf
      obtain ⟨y81, e82, h⟩ := bind_ex h
      refine CallOk.of (spec_shGood_ct e82) ?_
      conv => whnf
      refine spl (fun g83 => ?_) (fun g83 => ?_)
      · replace h := iteT h g83
        conv => whnf
        refine splD (fun g84 => ?_) (fun g84 => ?_)
        · replace h := iteP h g84
          conv => whnf
          refine CutK.norm [1, 2, 10, 11, 12, 51] [128] ?_
          conv => whnf
          cases h
          exact Done.of [] [] rfl rfl ⟨⟨rfl, rfl⟩, ⟨rfl, trivial⟩, rfl, trivial⟩
        · replace h := iteN h g84
          conv => whnf
          refine Pick.no ?_
          conv => whnf
          obtain ⟨y85, e86, h⟩ := bind_ex h
          refine CallOk.of (hrec_spec_suForm _ _ _ e86) ?_
          conv => whnf
          refine spl (fun g87 => ?_) (fun g87 => ?_)
          · replace h := iteT h g87
            conv => whnf
            refine splD (fun g88 => ?_) (fun g88 => ?_)
            · replace h := iteP h g88
              conv => whnf
              obtain ⟨g93, x89, x90, x91, e92, h⟩ := row_sii_ex h
              refine Req.of g93 ?_
              refine Row.of _ e92 ?_
              conv => whnf
              refine Pick.no ?_
              conv => whnf
              obtain ⟨y94, e95, h⟩ := bind_ex h
              refine CallOk.of (spec_suCmp_ct e95) ?_
              conv => whnf
              refine splD (fun g96 => ?_) (fun g96 => ?_)
              · replace h := iteP h g96
                conv => whnf
                refine CutK.norm [1, 2, 10, 11, 12, 51] [128] ?_
                conv => whnf
                cases h
                exact Done.of [] [] rfl rfl ⟨⟨rfl, rfl⟩, ⟨rfl, trivial⟩, rfl, trivial⟩
              · replace h := iteN h g96
                conv => whnf
                refine CutK.norm [1, 2, 10, 11, 12, 51] [128] ?_
                conv => whnf
                refine CutK.norm [1, 2, 10, 11, 12] [128] ?_
                conv => whnf
                exact LoopOk.back (spec_suForm_l0_ct hrec_spec_suForm hx rest (v54n + 1)  hd1 h) [some 128] [] ⟨⟨rfl, rfl⟩, ⟨rfl, ⟨rfl, rfl, trivial⟩, trivial⟩, rfl, ⟨rfl, rfl⟩, rfl, rfl, i64eq (wrap_up hlt hx), trivial⟩
            · replace h := iteN h g88
              conv => whnf
              refine CutK.norm [1, 2, 10, 11, 12, 51] [128] ?_
              conv => whnf
              refine CutK.norm [1, 2, 10, 11, 12] [128] ?_
              conv => whnf
              exact LoopOk.back (spec_suForm_l0_ct hrec_spec_suForm hx rest (v54n + 1)  hd1 h) [some 128] [] ⟨⟨rfl, rfl⟩, ⟨rfl, ⟨rfl, rfl, trivial⟩, trivial⟩, rfl, ⟨rfl, rfl⟩, rfl, rfl, i64eq (wrap_up hlt hx), trivial⟩
          · replace h := iteF h g87
            conv => whnf
            refine CutK.norm [1, 2, 10, 11, 12, 51] [128] ?_
            conv => whnf
            cases h
            exact Done.of [] [] rfl rfl ⟨⟨rfl, rfl⟩, ⟨rfl, trivial⟩, rfl, trivial⟩
      · replace h := iteF h g83
        conv => whnf
        refine CutK.norm [1, 2, 10, 11, 12, 51] [128] ?_
        conv => whnf
        cases h
        exact Done.of [] [] rfl rfl ⟨⟨rfl, rfl⟩, ⟨rfl, trivial⟩, rfl, trivial⟩
def spec_suForm_b (k : Nat) (rec_spec_suForm : Rw → Int → Option Bool) (a1 : Rw) (a2 : Int) : Option Bool :=
  (if a2 < (0 : Int) then some false else (if a1.length ≤ cap then (spec_suForm_l0 k rec_spec_suForm a1 a2 (spec_suForm_p3) a1 0) else none))
set_option maxHeartbeats 4000000 in
set_option maxRecDepth 100000 in
theorem spec_suForm_b_ct {k : Nat} {rec_spec_suForm : Rw → Int → Option Bool} (hrec_spec_suForm : ∀ (a1 : Rw) (a2 : Int) (r : Bool), rec_spec_suForm a1 a2 = some r → Ct prog 130 [.agg [.d (D.sl a1)], .d (D.int .i64 a2)] (⟨[], []⟩) (.d (D.bool r)) (⟨[], []⟩)) {a1 : Rw} {a2 : Int} {r : Bool} (h : spec_suForm_b k rec_spec_suForm a1 a2 = some r) : Ct prog 130 [.agg [.d (D.sl a1)], .d (D.int .i64 a2)] (⟨[], []⟩) (.d (D.bool r)) (⟨[], []⟩) := by
  rw [spec_suForm_b] at h
  refine Ct.of (c := _) mixed func130 ⟨rfl, rfl, rfl⟩ ?_ rfl
  conv => whnf
  refine splD (fun g40 => ?_) (fun g40 => ?_)
  · replace h := iteP h g40
    conv => whnf
    cases h
    exact Done.of [] [] rfl rfl ⟨⟨rfl, rfl⟩, ⟨rfl, trivial⟩, rfl, trivial⟩
  · replace h := iteN h g40
    conv => whnf
    obtain ⟨g97, h⟩ := req_ex h
    refine LoopOk.into (spec_suForm_l0_ct hrec_spec_suForm g97 _ _  rfl h) [some 128] [] ⟨⟨rfl, rfl⟩, ⟨rfl, ⟨rfl, rfl, trivial⟩, trivial⟩, rfl, ⟨rfl, rfl⟩, rfl, rfl, rfl, trivial⟩ ?_ (fun _ hs => hs)
    rintro i ts os ⟨rfl, h, rfl, rfl⟩
    conv => whnf
    exact CutK.piece (spec_suForm_p3_ct  h) [] [] ⟨⟨rfl, rfl⟩, ⟨rfl, trivial⟩, trivial⟩
def spec_suForm : Nat → Rw → Int → Option Bool
  | 0, _, _ => none
  | k + 1, a1, a2 => spec_suForm_b k (spec_suForm k) a1 a2
theorem spec_suForm_ct' : ∀ (k : Nat) (a1 : Rw) (a2 : Int) (r : Bool), spec_suForm k a1 a2 = some r → Ct prog 130 [.agg [.d (D.sl a1)], .d (D.int .i64 a2)] (⟨[], []⟩) (.d (D.bool r)) (⟨[], []⟩)
  | 0, _, _, _, h => by rw [spec_suForm] at h; cases h
  | k + 1, _, _, _, h => by rw [spec_suForm] at h; exact spec_suForm_b_ct (spec_suForm_ct' k) h
theorem spec_suForm_ct {k : Nat} {a1 : Rw} {a2 : Int} {r : Bool} (h : spec_suForm k a1 a2 = some r) : Ct prog 130 [.agg [.d (D.sl a1)], .d (D.int .i64 a2)] (⟨[], []⟩) (.d (D.bool r)) (⟨[], []⟩) := spec_suForm_ct' k _ _ _ h

def spec_suGood (k : Nat) (a1 : Rw) : Option Bool :=
  ((spec_suLeft k a1 6 60).bind fun y2 => (if (0 : Int) ≤ y2 then ((spec_suForm k a1 6).bind fun y5 => (if y5 = true then some true else some false)) else some false))
set_option maxHeartbeats 4000000 in
set_option maxRecDepth 100000 in
theorem spec_suGood_ct {k : Nat} {a1 : Rw} {r : Bool} (h : spec_suGood k a1 = some r) : Ct prog 61 [.agg [.d (D.sl a1)]] (⟨[], []⟩) (.d (D.bool r)) (⟨[], []⟩) := by
  rw [spec_suGood] at h
  refine Ct.of (c := _) mixed func61 ⟨rfl, rfl, rfl⟩ ?_ rfl
  conv => whnf
  refine Pick.no ?_
  conv => whnf
  obtain ⟨y2, e3, h⟩ := bind_ex h
  refine CallOk.of (spec_suLeft_ct e3) ?_
  conv => whnf
  refine splD (fun g4 => ?_) (fun g4 => ?_)
  · replace h := iteP h g4
    conv => whnf
    refine Pick.no ?_
    conv => whnf
    obtain ⟨y5, e6, h⟩ := bind_ex h
    refine CallOk.of (spec_suForm_ct e6) ?_
    conv => whnf
    refine spl (fun g7 => ?_) (fun g7 => ?_)
    · replace h := iteT h g7
      conv => whnf
      refine CutK.go ?_
      conv => whnf
      cases h
      exact Done.of [] [] rfl rfl ⟨⟨rfl, rfl⟩, ⟨rfl, trivial⟩, rfl, trivial⟩
    · replace h := iteF h g7
      conv => whnf
      refine CutK.go ?_
      conv => whnf
      cases h
      exact Done.of [] [] rfl rfl ⟨⟨rfl, rfl⟩, ⟨rfl, trivial⟩, rfl, trivial⟩
  · replace h := iteN h g4
    conv => whnf
    refine CutK.go ?_
    conv => whnf
    cases h
    exact Done.of [] [] rfl rfl ⟨⟨rfl, rfl⟩, ⟨rfl, trivial⟩, rfl, trivial⟩

def spec_coGood_l0 (k : Nat) (a1 : Rw) (K0 : Option Bool) : Rw → Nat → Option Bool
  | [], v13n => (K0)
  | cs :: rest, v13n => (cell_ts cs fun x31 x32 => ((spec_coName k x31).bind fun y34 => (if y34 = true then ((spec_suGood k x32).bind fun y37 => (if y37 = true then (if (0 : Int) < (v13n : Int) then (row_ts a1 (IntKind.i64.wrap ((v13n : Int) - 1)) fun x41 x42 => (if (!Op.bytesLess x41.toList x31.toList) = true then some false else (spec_coGood_l0 k a1 K0 rest (v13n + 1)))) else (spec_coGood_l0 k a1 K0 rest (v13n + 1))) else some false)) else some false)))
set_option maxHeartbeats 4000000 in
set_option maxRecDepth 100000 in
theorem spec_coGood_l0_ct {k : Nat} {a1 : Rw} {K0 : Option Bool} {r : Bool} (hx : a1.length ≤ cap) : ∀ (rest : Rw) (v13n : Nat), a1.drop v13n = rest → spec_coGood_l0 k a1 K0 rest v13n = some r → LoopOk prog 0 (lp f90 0) (mk 44 [(1, .ptr 64 0), (6, .d (D.sl a1)), (7, .d (D.int .i64 (a1.length : Int))), (8, .d (D.int .i64 (v13n : Int)))] [(64, .box 71 [.d (D.sl a1)])]) (LoopEnd prog f90 0 44 (.d (D.bool r)) (⟨[], []⟩) (fun i ts os => (i = 0 ∧ K0 = some r ∧ ts = [(1, .ptr 64 0)] ∧ os = [(64, .box 71 [.d (D.sl a1)])])))
  | [], v13n, hd, h => by
      rw [spec_coGood_l0] at h
      have hn := drop_nil hd
      refine LoopOk.step ?_
      conv => whnf
      refine splD (fun g => absurd g hn) (fun _ => ?_)
      conv => whnf
      exact ⟨_, _, [some 64], [], ⟨rfl, h, rfl, rfl⟩, ⟨⟨rfl, rfl⟩, ⟨rfl, ⟨rfl, rfl, trivial⟩, trivial⟩, ⟨rfl, rfl⟩, trivial⟩⟩
  | cs :: rest, v13n, hd, h => by
      rw [spec_coGood_l0] at h
      obtain ⟨hrow, hd1, hlt⟩ := drop_cons hd
      refine LoopOk.step ?_
      conv => whnf
      refine splD (fun _ => ?_) (fun g => absurd hlt g)
      conv => whnf
      obtain ⟨x31, x32, e33, h⟩ := cell_ts_ex h
      rw [e33] at hrow
      refine Req.of (Int.natCast_nonneg _) ?_
      refine Row.of _ hrow ?_
      conv => whnf
      refine Pick.no ?_
      conv => whnf
      obtain ⟨y34, e35, h⟩ := bind_ex h
      refine CallOk.of (spec_coName_ct e35) ?_
      conv => whnf
      refine spl (fun g36 => ?_) (fun g36 => ?_)
      · replace h := iteT h g36
        conv => whnf
        refine Pick.no ?_
        conv => whnf
        obtain ⟨y37, e38, h⟩ := bind_ex h
        refine CallOk.of (spec_suGood_ct e38) ?_
        conv => whnf
        refine spl (fun g39 => ?_) (fun g39 => ?_)
        · replace h := iteT h g39
          conv => whnf
          refine splD (fun g40 => ?_) (fun g40 => ?_)
          · replace h := iteP h g40
            conv => whnf
            obtain ⟨g44, x41, x42, e43, h⟩ := row_ts_ex h
            refine Req.of g44 ?_
            refine Row.of _ e43 ?_
            conv => whnf
            refine spl (fun g45 => ?_) (fun g45 => ?_)
            · replace h := iteT h g45
              conv => whnf
              refine CutK.norm [1, 6, 7, 8, 38] [64] ?_
              conv => whnf
              cases h
              exact Done.of [] [] rfl rfl ⟨⟨rfl, rfl⟩, ⟨rfl, trivial⟩, rfl, trivial⟩
            · replace h := iteF h g45
              conv => whnf
              refine CutK.norm [1, 6, 7, 8, 38] [64] ?_
              conv => whnf
              refine CutK.norm [1, 6, 7, 8] [64] ?_
              conv => whnf
              exact LoopOk.back (spec_coGood_l0_ct hx rest (v13n + 1)  hd1 h) [some 64] [] ⟨⟨rfl, rfl⟩, ⟨rfl, ⟨rfl, rfl, trivial⟩, trivial⟩, ⟨rfl, rfl⟩, rfl, rfl, i64eq (wrap_up hlt hx), trivial⟩
          · replace h := iteN h g40
            conv => whnf
            refine CutK.norm [1, 6, 7, 8, 38] [64] ?_
            conv => whnf
            refine CutK.norm [1, 6, 7, 8] [64] ?_
            conv => whnf
            exact LoopOk.back (spec_coGood_l0_ct hx rest (v13n + 1)  hd1 h) [some 64] [] ⟨⟨rfl, rfl⟩, ⟨rfl, ⟨rfl, rfl, trivial⟩, trivial⟩, ⟨rfl, rfl⟩, rfl, rfl, i64eq (wrap_up hlt hx), trivial⟩
        · replace h := iteF h g39
          conv => whnf
          refine CutK.norm [1, 6, 7, 8, 38] [64] ?_
          conv => whnf
          cases h
          exact Done.of [] [] rfl rfl ⟨⟨rfl, rfl⟩, ⟨rfl, trivial⟩, rfl, trivial⟩
      · replace h := iteF h g36
        conv => whnf
        refine CutK.norm [1, 6, 7, 8, 38] [64] ?_
        conv => whnf
        cases h
        exact Done.of [] [] rfl rfl ⟨⟨rfl, rfl⟩, ⟨rfl, trivial⟩, rfl, trivial⟩
def spec_coGood (k : Nat) (a1 : Rw) : Option Bool :=
  (if a1.length ≤ cap then (spec_coGood_l0 k a1 (if (a1.length : Int) ≤ (12 : Int) then some true else some false) a1 0) else none)
set_option maxHeartbeats 4000000 in
set_option maxRecDepth 100000 in
theorem spec_coGood_ct {k : Nat} {a1 : Rw} {r : Bool} (h : spec_coGood k a1 = some r) : Ct prog 90 [.agg [.d (D.sl a1)]] (⟨[], []⟩) (.d (D.bool r)) (⟨[], []⟩) := by
  rw [spec_coGood] at h
  refine Ct.of (c := _) mixed func90 ⟨rfl, rfl, rfl⟩ ?_ rfl
  conv => whnf
  obtain ⟨g46, h⟩ := req_ex h
  refine LoopOk.into (spec_coGood_l0_ct  g46 _ _  rfl h) [some 64] [] ⟨⟨rfl, rfl⟩, ⟨rfl, ⟨rfl, rfl, trivial⟩, trivial⟩, ⟨rfl, rfl⟩, rfl, rfl, rfl, trivial⟩ ?_ (fun _ hs => hs)
  rintro i ts os ⟨rfl, h, rfl, rfl⟩
  conv => whnf
  refine CutK.norm [1] [64] ?_
  conv => whnf
  refine splD (fun g47 => ?_) (fun g47 => ?_)
  · replace h := iteP h g47
    conv => whnf
    cases h
    exact Done.of [] [] rfl rfl ⟨⟨rfl, rfl⟩, ⟨rfl, trivial⟩, rfl, trivial⟩
  · replace h := iteN h g47
    conv => whnf
    cases h
    exact Done.of [] [] rfl rfl ⟨⟨rfl, rfl⟩, ⟨rfl, trivial⟩, rfl, trivial⟩

def spec_coDrop_l0 (a1 : Rw) (a2 : ByteArray) (K0 : Rw → Option Rw) : Rw → Rw → Option Rw
  | [], v10 => (K0 v10)
  | cs :: rest, v10 => (cell_ts cs fun x26 x27 => (if (!(x26.toList == a2.toList)) = true then (if v10.length + 1 ≤ cap then (spec_coDrop_l0 a1 a2 K0 rest (v10 ++ ([[D.str x26, D.sl x27]]))) else none) else (spec_coDrop_l0 a1 a2 K0 rest v10)))
set_option maxHeartbeats 4000000 in
set_option maxRecDepth 100000 in
theorem spec_coDrop_l0_ct {a1 : Rw} {a2 : ByteArray} {K0 : Rw → Option Rw} {r : Rw} (hx : a1.length ≤ cap) : ∀ (rest : Rw) (v9n : Nat) (v10 : Rw), a1.drop v9n = rest → spec_coDrop_l0 a1 a2 K0 rest v10 = some r → LoopOk prog 0 (lp f92 0) (mk 28 [(1, .d (D.str a2)), (4, .ptr 256 0), (5, .ptr 320 0), (10, .d (D.sl a1)), (11, .d (D.int .i64 (a1.length : Int))), (12, .d (D.int .i64 (v9n : Int)))] [(256, .box 71 [.es]), (320, .box 71 [.os 64000 v10.length]), (64000, .arr 132 false v10)]) (LoopEnd prog f92 0 28 (.agg [.os 8 r.length]) (⟨[], [(132, false, r)]⟩) (fun i ts os => (i = 0 ∧ ∃ v18 : Rw, K0 v18 = some r ∧ ts = [(4, .ptr 256 0), (5, .ptr 320 0)] ∧ os = [(256, .box 71 [.es]), (320, .box 71 [.os 67001 v18.length]), (67001, .arr 132 false v18)])))
  | [], v9n, v10, hd, h => by
      rw [spec_coDrop_l0] at h
      have hn := drop_nil hd
      refine LoopOk.step ?_
      conv => whnf
      refine splD (fun g => absurd g hn) (fun _ => ?_)
      conv => whnf
      exact ⟨_, _, [some 256, some 320, some 64000], [], ⟨rfl, _, h, rfl, rfl⟩, ⟨⟨rfl, rfl⟩, ⟨rfl, ⟨rfl, trivial, trivial⟩, ⟨rfl, ⟨rfl, rfl⟩, trivial⟩, ⟨rfl, rfl, rows_same⟩, trivial⟩, ⟨rfl, rfl⟩, ⟨rfl, rfl⟩, trivial⟩⟩
  | cs :: rest, v9n, v10, hd, h => by
      rw [spec_coDrop_l0] at h
      obtain ⟨hrow, hd1, hlt⟩ := drop_cons hd
      refine LoopOk.step ?_
      conv => whnf
      refine splD (fun _ => ?_) (fun g => absurd hlt g)
      conv => whnf
      obtain ⟨x26, x27, e28, h⟩ := cell_ts_ex h
      rw [e28] at hrow
      refine Req.of (Int.natCast_nonneg _) ?_
      refine Row.of _ hrow ?_
      conv => whnf
      refine spl (fun g29 => ?_) (fun g29 => ?_)
      · replace h := iteT h g29
        conv => whnf
        refine Take.all (rfl) ?_
        conv => whnf
        refine Take.all (by first | rfl | exact List.length_append.symm | (simp; done) | omega | (dsimp only; omega)) ?_
        conv => whnf
        obtain ⟨g30, h⟩ := req_ex h
        refine Req.of (room (b := 40) (by decide) g30 (wide1 rfl wide0)) ?_
        conv => whnf
        exact LoopOk.back (spec_coDrop_l0_ct hx rest (v9n + 1) _ hd1 h) [some 256, some 320, some 1536] [] ⟨⟨rfl, rfl⟩, ⟨rfl, ⟨rfl, trivial, trivial⟩, ⟨rfl, ⟨(by first | rfl | exact List.length_append.symm | (simp; done) | omega | (dsimp only; omega)), rfl⟩, trivial⟩, ⟨rfl, rfl, rows_same⟩, trivial⟩, rfl, ⟨rfl, rfl⟩, ⟨rfl, rfl⟩, rfl, rfl, i64eq (wrap_up hlt hx), trivial⟩
      · replace h := iteF h g29
        conv => whnf
        exact LoopOk.back (spec_coDrop_l0_ct hx rest (v9n + 1) _ hd1 h) [some 256, some 320, some 64000] [] ⟨⟨rfl, rfl⟩, ⟨rfl, ⟨rfl, trivial, trivial⟩, ⟨rfl, ⟨rfl, rfl⟩, trivial⟩, ⟨rfl, rfl, rows_same⟩, trivial⟩, rfl, ⟨rfl, rfl⟩, ⟨rfl, rfl⟩, rfl, rfl, i64eq (wrap_up hlt hx), trivial⟩
def spec_coDrop  (a1 : Rw) (a2 : ByteArray) : Option Rw :=
  (if a1.length ≤ cap then (spec_coDrop_l0 a1 a2 (fun (v18 : Rw) => some v18) a1 ([] : Rw)) else none)
set_option maxHeartbeats 4000000 in
set_option maxRecDepth 100000 in
theorem spec_coDrop_ct  {a1 : Rw} {a2 : ByteArray} {r : Rw} (h : spec_coDrop a1 a2 = some r) : Ct prog 92 [.agg [.d (D.sl a1)], .d (D.str a2)] (⟨[], []⟩) (.agg [.os 8 r.length]) (⟨[], [(132, false, r)]⟩) := by
  rw [spec_coDrop] at h
  refine Ct.of (c := _) mixed func92 ⟨rfl, rfl, rfl⟩ ?_ rfl
  conv => whnf
  obtain ⟨g31, h⟩ := req_ex h
  refine LoopOk.into (spec_coDrop_l0_ct  g31 _ _ _ rfl h) [some 256, some 320, none] [] ⟨⟨rfl, rfl⟩, ⟨rfl, ⟨rfl, trivial, trivial⟩, ⟨rfl, ⟨rfl, rfl⟩, trivial⟩, rfl, trivial⟩, rfl, ⟨rfl, rfl⟩, ⟨rfl, rfl⟩, rfl, rfl, rfl, trivial⟩ ?_ (fun _ hs => hs)
  rintro i ts os ⟨rfl, v18, h, rfl, rfl⟩
  conv => whnf
  refine CutK.go ?_
  conv => whnf
  cases h
  exact Done.of [some 67001] [] rfl rfl ⟨⟨rfl, rfl⟩, ⟨rfl, ⟨rfl, rfl, rows_same⟩, trivial⟩, ⟨⟨rfl, rfl⟩, trivial⟩, trivial⟩

def spec_suOwn_l0 (rec_spec_suOwn : Rw → Option Rw) (a1 : Rw) (K0 : Rw → Option Rw) : Rw → Rw → Option Rw
  | [], v11 => (K0 v11)
  | cs :: rest, v11 => (cell_sii cs fun x31 x32 x33 => ((rec_spec_suOwn x31).bind fun y35 => (if v11.length + 1 ≤ cap then (spec_suOwn_l0 rec_spec_suOwn a1 K0 rest (v11 ++ ([[D.sl y35, D.int .i64 x32, D.int .i64 x33]]))) else none)))
set_option maxHeartbeats 4000000 in
set_option maxRecDepth 100000 in
theorem spec_suOwn_l0_ct {rec_spec_suOwn : Rw → Option Rw} {a1 : Rw} {K0 : Rw → Option Rw} (hrec_spec_suOwn : ∀ (a1 : Rw) (r : Rw), rec_spec_suOwn a1 = some r → Ct prog 152 [.agg [.d (D.sl a1)]] (⟨[], []⟩) (.agg [.os 8 r.length]) (⟨[], [(109, true, r)]⟩)) {r : Rw} (hx : a1.length ≤ cap) : ∀ (rest : Rw) (v10n : Nat) (v11 : Rw), a1.drop v10n = rest → spec_suOwn_l0 rec_spec_suOwn a1 K0 rest v11 = some r → LoopOk prog 0 (lp f152 0) (mk 27 [(2, .ptr 128 0), (3, .ptr 192 0), (8, .d (D.sl a1)), (9, .d (D.int .i64 (a1.length : Int))), (10, .d (D.int .i64 (v10n : Int)))] [(128, .box 38 [.es]), (192, .box 38 [.os 64000 v11.length]), (64000, .arr 109 true v11)]) (LoopEnd prog f152 0 27 (.agg [.os 8 r.length]) (⟨[], [(109, true, r)]⟩) (fun i ts os => (i = 0 ∧ ∃ v21 : Rw, K0 v21 = some r ∧ ts = [(2, .ptr 128 0), (3, .ptr 192 0)] ∧ os = [(128, .box 38 [.es]), (192, .box 38 [.os 67001 v21.length]), (67001, .arr 109 true v21)])))
  | [], v10n, v11, hd, h => by
      rw [spec_suOwn_l0] at h
      have hn := drop_nil hd
      refine LoopOk.step ?_
      conv => whnf
      refine splD (fun g => absurd g hn) (fun _ => ?_)
      conv => whnf
      exact ⟨_, _, [some 128, some 192, some 64000], [], ⟨rfl, _, h, rfl, rfl⟩, ⟨⟨rfl, rfl⟩, ⟨rfl, ⟨rfl, trivial, trivial⟩, ⟨rfl, ⟨rfl, rfl⟩, trivial⟩, ⟨rfl, rfl, rows_same⟩, trivial⟩, ⟨rfl, rfl⟩, ⟨rfl, rfl⟩, trivial⟩⟩
  | cs :: rest, v10n, v11, hd, h => by
      rw [spec_suOwn_l0] at h
      obtain ⟨hrow, hd1, hlt⟩ := drop_cons hd
      refine LoopOk.step ?_
      conv => whnf
      refine splD (fun _ => ?_) (fun g => absurd hlt g)
      conv => whnf
      obtain ⟨x31, x32, x33, e34, h⟩ := cell_sii_ex h
      rw [e34] at hrow
      refine Req.of (Int.natCast_nonneg _) ?_
      refine Row.of _ hrow ?_
      conv => whnf
      refine Pick.no ?_
      conv => whnf
      obtain ⟨y35, e36, h⟩ := bind_ex h
      refine CallOk.of (hrec_spec_suOwn _ _ e36) ?_
      conv => whnf
      refine Take.all (rfl) ?_
      conv => whnf
      refine Take.all (rfl) ?_
      conv => whnf
      refine Take.all (by first | rfl | exact List.length_append.symm | (simp; done) | omega | (dsimp only; omega)) ?_
      conv => whnf
      obtain ⟨g37, h⟩ := req_ex h
      refine Req.of (room (b := 40) (by decide) g37 (wide1 rfl wide0)) ?_
      conv => whnf
      refine CutK.go ?_
      conv => whnf
      exact LoopOk.back (spec_suOwn_l0_ct hrec_spec_suOwn hx rest (v10n + 1) _ hd1 h) [some 128, some 192, some 1472] [] ⟨⟨rfl, rfl⟩, ⟨rfl, ⟨rfl, trivial, trivial⟩, ⟨rfl, ⟨(by first | rfl | exact List.length_append.symm | (simp; done) | omega | (dsimp only; omega)), rfl⟩, trivial⟩, ⟨rfl, rfl, rows_same⟩, trivial⟩, ⟨rfl, rfl⟩, ⟨rfl, rfl⟩, rfl, rfl, i64eq (wrap_up hlt hx), trivial⟩
def spec_suOwn_b (rec_spec_suOwn : Rw → Option Rw) (a1 : Rw) : Option Rw :=
  (if a1.length ≤ cap then (spec_suOwn_l0 rec_spec_suOwn a1 (fun (v21 : Rw) => some v21) a1 ([] : Rw)) else none)
set_option maxHeartbeats 4000000 in
set_option maxRecDepth 100000 in
theorem spec_suOwn_b_ct {rec_spec_suOwn : Rw → Option Rw} (hrec_spec_suOwn : ∀ (a1 : Rw) (r : Rw), rec_spec_suOwn a1 = some r → Ct prog 152 [.agg [.d (D.sl a1)]] (⟨[], []⟩) (.agg [.os 8 r.length]) (⟨[], [(109, true, r)]⟩)) {a1 : Rw} {r : Rw} (h : spec_suOwn_b rec_spec_suOwn a1 = some r) : Ct prog 152 [.agg [.d (D.sl a1)]] (⟨[], []⟩) (.agg [.os 8 r.length]) (⟨[], [(109, true, r)]⟩) := by
  rw [spec_suOwn_b] at h
  refine Ct.of (c := _) mixed func152 ⟨rfl, rfl, rfl⟩ ?_ rfl
  conv => whnf
  obtain ⟨g38, h⟩ := req_ex h
  refine LoopOk.into (spec_suOwn_l0_ct hrec_spec_suOwn g38 _ _ _ rfl h) [some 128, some 192, none] [] ⟨⟨rfl, rfl⟩, ⟨rfl, ⟨rfl, trivial, trivial⟩, ⟨rfl, ⟨rfl, rfl⟩, trivial⟩, rfl, trivial⟩, ⟨rfl, rfl⟩, ⟨rfl, rfl⟩, rfl, rfl, rfl, trivial⟩ ?_ (fun _ hs => hs)
  rintro i ts os ⟨rfl, v21, h, rfl, rfl⟩
  conv => whnf
  refine CutK.go ?_
  conv => whnf
  cases h
  exact Done.of [some 67001] [] rfl rfl ⟨⟨rfl, rfl⟩, ⟨rfl, ⟨rfl, rfl, rows_same⟩, trivial⟩, ⟨⟨rfl, rfl⟩, trivial⟩, trivial⟩
def spec_suOwn : Nat → Rw → Option Rw
  | 0, _ => none
  | k + 1, a1 => spec_suOwn_b (spec_suOwn k) a1
theorem spec_suOwn_ct' : ∀ (k : Nat) (a1 : Rw) (r : Rw), spec_suOwn k a1 = some r → Ct prog 152 [.agg [.d (D.sl a1)]] (⟨[], []⟩) (.agg [.os 8 r.length]) (⟨[], [(109, true, r)]⟩)
  | 0, _, _, h => by rw [spec_suOwn] at h; cases h
  | k + 1, _, _, h => by rw [spec_suOwn] at h; exact spec_suOwn_b_ct (spec_suOwn_ct' k) h
theorem spec_suOwn_ct {k : Nat} {a1 : Rw} {r : Rw} (h : spec_suOwn k a1 = some r) : Ct prog 152 [.agg [.d (D.sl a1)]] (⟨[], []⟩) (.agg [.os 8 r.length]) (⟨[], [(109, true, r)]⟩) := spec_suOwn_ct' k _ _ h

def spec_coOwn_l0 (k : Nat) (a1 : Rw) (K0 : Rw → Option Rw) : Rw → Rw → Option Rw
  | [], v10 => (K0 v10)
  | cs :: rest, v10 => (cell_ts cs fun x28 x29 => ((spec_suOwn k x29).bind fun y31 => (if v10.length + 1 ≤ cap then (spec_coOwn_l0 k a1 K0 rest (v10 ++ ([[D.str x28, D.sl y31]]))) else none)))
set_option maxHeartbeats 4000000 in
set_option maxRecDepth 100000 in
theorem spec_coOwn_l0_ct {k : Nat} {a1 : Rw} {K0 : Rw → Option Rw} {r : Rw} (hx : a1.length ≤ cap) : ∀ (rest : Rw) (v9n : Nat) (v10 : Rw), a1.drop v9n = rest → spec_coOwn_l0 k a1 K0 rest v10 = some r → LoopOk prog 0 (lp f91 0) (mk 27 [(2, .ptr 128 0), (3, .ptr 192 0), (8, .d (D.sl a1)), (9, .d (D.int .i64 (a1.length : Int))), (10, .d (D.int .i64 (v9n : Int)))] [(128, .box 71 [.es]), (192, .box 71 [.os 64000 v10.length]), (64000, .arr 132 true v10)]) (LoopEnd prog f91 0 27 (.agg [.os 8 r.length]) (⟨[], [(132, true, r)]⟩) (fun i ts os => (i = 0 ∧ ∃ v19 : Rw, K0 v19 = some r ∧ ts = [(2, .ptr 128 0), (3, .ptr 192 0)] ∧ os = [(128, .box 71 [.es]), (192, .box 71 [.os 67001 v19.length]), (67001, .arr 132 true v19)])))
  | [], v9n, v10, hd, h => by
      rw [spec_coOwn_l0] at h
      have hn := drop_nil hd
      refine LoopOk.step ?_
      conv => whnf
      refine splD (fun g => absurd g hn) (fun _ => ?_)
      conv => whnf
      exact ⟨_, _, [some 128, some 192, some 64000], [], ⟨rfl, _, h, rfl, rfl⟩, ⟨⟨rfl, rfl⟩, ⟨rfl, ⟨rfl, trivial, trivial⟩, ⟨rfl, ⟨rfl, rfl⟩, trivial⟩, ⟨rfl, rfl, rows_same⟩, trivial⟩, ⟨rfl, rfl⟩, ⟨rfl, rfl⟩, trivial⟩⟩
  | cs :: rest, v9n, v10, hd, h => by
      rw [spec_coOwn_l0] at h
      obtain ⟨hrow, hd1, hlt⟩ := drop_cons hd
      refine LoopOk.step ?_
      conv => whnf
      refine splD (fun _ => ?_) (fun g => absurd hlt g)
      conv => whnf
      obtain ⟨x28, x29, e30, h⟩ := cell_ts_ex h
      rw [e30] at hrow
      refine Req.of (Int.natCast_nonneg _) ?_
      refine Row.of _ hrow ?_
      conv => whnf
      refine Pick.no ?_
      conv => whnf
      obtain ⟨y31, e32, h⟩ := bind_ex h
      refine CallOk.of (spec_suOwn_ct e32) ?_
      conv => whnf
      refine Take.all (rfl) ?_
      conv => whnf
      refine Take.all (rfl) ?_
      conv => whnf
      refine Take.all (by first | rfl | exact List.length_append.symm | (simp; done) | omega | (dsimp only; omega)) ?_
      conv => whnf
      obtain ⟨g33, h⟩ := req_ex h
      refine Req.of (room (b := 40) (by decide) g33 (wide1 rfl wide0)) ?_
      conv => whnf
      refine CutK.go ?_
      conv => whnf
      exact LoopOk.back (spec_coOwn_l0_ct hx rest (v9n + 1) _ hd1 h) [some 128, some 192, some 1472] [] ⟨⟨rfl, rfl⟩, ⟨rfl, ⟨rfl, trivial, trivial⟩, ⟨rfl, ⟨(by first | rfl | exact List.length_append.symm | (simp; done) | omega | (dsimp only; omega)), rfl⟩, trivial⟩, ⟨rfl, rfl, rows_same⟩, trivial⟩, ⟨rfl, rfl⟩, ⟨rfl, rfl⟩, rfl, rfl, i64eq (wrap_up hlt hx), trivial⟩
def spec_coOwn (k : Nat) (a1 : Rw) : Option Rw :=
  (if a1.length ≤ cap then (spec_coOwn_l0 k a1 (fun (v19 : Rw) => some v19) a1 ([] : Rw)) else none)
set_option maxHeartbeats 4000000 in
set_option maxRecDepth 100000 in
theorem spec_coOwn_ct {k : Nat} {a1 : Rw} {r : Rw} (h : spec_coOwn k a1 = some r) : Ct prog 91 [.agg [.d (D.sl a1)]] (⟨[], []⟩) (.agg [.os 8 r.length]) (⟨[], [(132, true, r)]⟩) := by
  rw [spec_coOwn] at h
  refine Ct.of (c := _) mixed func91 ⟨rfl, rfl, rfl⟩ ?_ rfl
  conv => whnf
  obtain ⟨g34, h⟩ := req_ex h
  refine LoopOk.into (spec_coOwn_l0_ct  g34 _ _ _ rfl h) [some 128, some 192, none] [] ⟨⟨rfl, rfl⟩, ⟨rfl, ⟨rfl, trivial, trivial⟩, ⟨rfl, ⟨rfl, rfl⟩, trivial⟩, rfl, trivial⟩, ⟨rfl, rfl⟩, ⟨rfl, rfl⟩, rfl, rfl, rfl, trivial⟩ ?_ (fun _ hs => hs)
  rintro i ts os ⟨rfl, v19, h, rfl, rfl⟩
  conv => whnf
  refine CutK.go ?_
  conv => whnf
  cases h
  exact Done.of [some 67001] [] rfl rfl ⟨⟨rfl, rfl⟩, ⟨rfl, ⟨rfl, rfl, rows_same⟩, trivial⟩, ⟨⟨rfl, rfl⟩, trivial⟩, trivial⟩

def spec_DropEntry (k : Nat) (a1 : Rw) (a2 : ByteArray) : Option (Rw × Bool) :=
  ((spec_coGet a1 a2).bind fun y3 => (if y3.2 = true then ((spec_coGood k a1).bind fun y6 => (if y6 = true then ((spec_coDrop a1 a2).bind fun y9 => ((spec_coOwn k y9).bind fun y11 => some (y11, true))) else some (([] : Rw), false))) else ((spec_coGood k a1).bind fun y13 => (if y13 = true then some (([] : Rw), false) else some (([] : Rw), false)))))
set_option maxHeartbeats 4000000 in
set_option maxRecDepth 100000 in
theorem spec_DropEntry_ct {k : Nat} {a1 : Rw} {a2 : ByteArray} {r : Rw × Bool} (h : spec_DropEntry k a1 a2 = some r) : Ct prog 32 [.agg [.d (D.sl a1)], .d (D.str a2)] (⟨[], []⟩) (.tup [.agg [.os 8 r.1.length], .d (D.bool r.2)]) (⟨[], [(132, true, r.1)]⟩) := by
  rw [spec_DropEntry] at h
  refine Ct.of (c := _) mixed func32 ⟨rfl, rfl, rfl⟩ ?_ rfl
  conv => whnf
  refine Pick.no ?_
  conv => whnf
  obtain ⟨y3, e4, h⟩ := bind_ex h
  refine CallOk.of (spec_coGet_ct e4) ?_
  conv => whnf
  refine spl (fun g5 => ?_) (fun g5 => ?_)
  · replace h := iteT h g5
    conv => whnf
    refine CutK.go ?_
    conv => whnf
    refine Pick.no ?_
    conv => whnf
    obtain ⟨y6, e7, h⟩ := bind_ex h
    refine CallOk.of (spec_coGood_ct e7) ?_
    conv => whnf
    refine spl (fun g8 => ?_) (fun g8 => ?_)
    · replace h := iteT h g8
      conv => whnf
      refine CutK.go ?_
      conv => whnf
      refine CutK.go ?_
      conv => whnf
      refine Pick.no ?_
      conv => whnf
      obtain ⟨y9, e10, h⟩ := bind_ex h
      refine CallOk.of (spec_coDrop_ct e10) ?_
      conv => whnf
      refine Pick.no ?_
      conv => whnf
      refine Take.all (rfl) ?_
      conv => whnf
      obtain ⟨y11, e12, h⟩ := bind_ex h
      refine CallOk.of (spec_coOwn_ct e12) ?_
      conv => whnf
      refine CutK.go ?_
      conv => whnf
      cases h
      exact Done.of [some 1600] [] rfl rfl ⟨⟨rfl, rfl⟩, ⟨rfl, ⟨rfl, rfl, rows_same⟩, trivial⟩, ⟨⟨⟨rfl, rfl⟩, trivial⟩, rfl, trivial⟩, trivial⟩
    · replace h := iteF h g8
      conv => whnf
      refine CutK.go ?_
      conv => whnf
      cases h
      exact Done.of [none] [] rfl rfl ⟨⟨rfl, rfl⟩, ⟨rfl, rfl, trivial⟩, ⟨⟨⟨rfl, rfl⟩, trivial⟩, rfl, trivial⟩, trivial⟩
  · replace h := iteF h g5
    conv => whnf
    refine CutK.go ?_
    conv => whnf
    refine Pick.no ?_
    conv => whnf
    obtain ⟨y13, e14, h⟩ := bind_ex h
    refine CallOk.of (spec_coGood_ct e14) ?_
    conv => whnf
    refine spl (fun g15 => ?_) (fun g15 => ?_)
    · replace h := iteT h g15
      conv => whnf
      refine CutK.go ?_
      conv => whnf
      cases h
      exact Done.of [none] [] rfl rfl ⟨⟨rfl, rfl⟩, ⟨rfl, rfl, trivial⟩, ⟨⟨⟨rfl, rfl⟩, trivial⟩, rfl, trivial⟩, trivial⟩
    · replace h := iteF h g15
      conv => whnf
      refine CutK.go ?_
      conv => whnf
      cases h
      exact Done.of [none] [] rfl rfl ⟨⟨rfl, rfl⟩, ⟨rfl, rfl, trivial⟩, ⟨⟨⟨rfl, rfl⟩, trivial⟩, rfl, trivial⟩, trivial⟩

def laws_szSurrealTerm (rec_laws_szSurreal : Rw → Int → Option Int) (a1 : Rw) (a2 : Int) (a3 : Int) (a4 : Int) : Option Int :=
  ((rec_laws_szSurreal a1 a4).bind fun y5 => (if y5 < (0 : Int) then some (-1) else some y5))
set_option maxHeartbeats 4000000 in
set_option maxRecDepth 100000 in
theorem laws_szSurrealTerm_ct {rec_laws_szSurreal : Rw → Int → Option Int} (hrec_laws_szSurreal : ∀ (a1 : Rw) (a2 : Int) (r : Int), rec_laws_szSurreal a1 a2 = some r → Ct prog 181 [.agg [.d (D.sl a1)], .d (D.int .i64 a2)] (⟨[], []⟩) (.d (D.int .i64 r)) (⟨[], []⟩)) {a1 : Rw} {a2 : Int} {a3 : Int} {a4 : Int} {r : Int} (h : laws_szSurrealTerm rec_laws_szSurreal a1 a2 a3 a4 = some r) : Ct prog 193 [.agg [.d (D.sl a1), .d (D.int .i64 a2), .d (D.int .i64 a3)], .d (D.int .i64 a4)] (⟨[], []⟩) (.d (D.int .i64 r)) (⟨[], []⟩) := by
  rw [laws_szSurrealTerm] at h
  refine Ct.of (c := _) mixed func193 ⟨rfl, rfl, rfl⟩ ?_ rfl
  conv => whnf
  refine Pick.no ?_
  conv => whnf
  obtain ⟨y5, e6, h⟩ := bind_ex h
  refine CallOk.of (hrec_laws_szSurreal _ _ _ e6) ?_
  conv => whnf
  refine CutK.go ?_
  conv => whnf
  refine splD (fun g7 => ?_) (fun g7 => ?_)
  · replace h := iteP h g7
    conv => whnf
    cases h
    exact Done.of [] [] rfl rfl ⟨⟨rfl, rfl⟩, ⟨rfl, trivial⟩, rfl, trivial⟩
  · replace h := iteN h g7
    conv => whnf
    cases h
    exact Done.of [] [] rfl rfl ⟨⟨rfl, rfl⟩, ⟨rfl, trivial⟩, rfl, trivial⟩

def laws_szSurrealTermS_l0 (rec_laws_szSurreal : Rw → Int → Option Int) (a1 : Rw) (K0 : Int → Option Int) : Rw → Int → Option Int
  | [], v13 => (K0 v13)
  | cs :: rest, v13 => (cell_sii cs fun x34 x35 x36 => ((laws_szSurrealTerm rec_laws_szSurreal x34 x35 x36 v13).bind fun y38 => (if y38 < (0 : Int) then some (-1) else (laws_szSurrealTermS_l0 rec_laws_szSurreal a1 K0 rest y38))))
set_option maxHeartbeats 4000000 in
set_option maxRecDepth 100000 in
theorem laws_szSurrealTermS_l0_ct {rec_laws_szSurreal : Rw → Int → Option Int} {a1 : Rw} {K0 : Int → Option Int} (hrec_laws_szSurreal : ∀ (a1 : Rw) (a2 : Int) (r : Int), rec_laws_szSurreal a1 a2 = some r → Ct prog 181 [.agg [.d (D.sl a1)], .d (D.int .i64 a2)] (⟨[], []⟩) (.d (D.int .i64 r)) (⟨[], []⟩)) {r : Int} (hx : a1.length ≤ cap) : ∀ (rest : Rw) (v14n : Nat) (v13 : Int), a1.drop v14n = rest → laws_szSurrealTermS_l0 rec_laws_szSurreal a1 K0 rest v13 = some r → LoopOk prog 0 (lp f188 0) (mk 27 [(0, .d (D.sl a1)), (1, .d (D.int .i64 v13)), (5, .d (D.int .i64 (v14n : Int)))] []) (LoopEnd prog f188 0 27 (.d (D.int .i64 r)) (⟨[], []⟩) (fun i ts os => (i = 0 ∧ ∃ v24 : Int, K0 v24 = some r ∧ ts = [(1, .d (D.int .i64 v24))] ∧ os = [])))
  | [], v14n, v13, hd, h => by
      rw [laws_szSurrealTermS_l0] at h
      have hn := drop_nil hd
      refine LoopOk.step ?_
      conv => whnf
      refine splD (fun g => absurd g hn) (fun _ => ?_)
      conv => whnf
      exact ⟨_, _, [], [], ⟨rfl, _, h, rfl, rfl⟩, ⟨⟨rfl, rfl⟩, ⟨rfl, trivial⟩, rfl, trivial⟩⟩
  | cs :: rest, v14n, v13, hd, h => by
      rw [laws_szSurrealTermS_l0] at h
      obtain ⟨hrow, hd1, hlt⟩ := drop_cons hd
      refine LoopOk.step ?_
      conv => whnf
      refine splD (fun _ => ?_) (fun g => absurd hlt g)
      conv => whnf
      obtain ⟨x34, x35, x36, e37, h⟩ := cell_sii_ex h
      rw [e37] at hrow
      refine Req.of (Int.natCast_nonneg _) ?_
      refine Row.of _ hrow ?_
      conv => whnf
      refine Pick.no ?_
      conv => whnf
      obtain ⟨y38, e39, h⟩ := bind_ex h
      refine CallOk.of (laws_szSurrealTerm_ct hrec_laws_szSurreal e39) ?_
      conv => whnf
      refine CutK.go ?_
      conv => whnf
      refine splD (fun g40 => ?_) (fun g40 => ?_)
      · replace h := iteP h g40
        conv => whnf
        cases h
        exact Done.of [] [] rfl rfl ⟨⟨rfl, rfl⟩, ⟨rfl, trivial⟩, rfl, trivial⟩
      · replace h := iteN h g40
        conv => whnf
        refine CutK.go ?_
        conv => whnf
        exact LoopOk.back (laws_szSurrealTermS_l0_ct hrec_laws_szSurreal hx rest (v14n + 1) _ hd1 h) [] [] ⟨⟨rfl, rfl⟩, ⟨rfl, trivial⟩, rfl, rfl, i64eq (wrap_up hlt hx), trivial⟩
def laws_szSurrealTermS (rec_laws_szSurreal : Rw → Int → Option Int) (a1 : Rw) (a2 : Int) : Option Int :=
  (if (IntKind.i64.wrap (a2 - (a1.length : Int))) < (0 : Int) then some (-1) else (if a1.length ≤ cap then (laws_szSurrealTermS_l0 rec_laws_szSurreal a1 (fun (v24 : Int) => some v24) a1 (IntKind.i64.wrap (a2 - (a1.length : Int)))) else none))
set_option maxHeartbeats 4000000 in
set_option maxRecDepth 100000 in
theorem laws_szSurrealTermS_ct {rec_laws_szSurreal : Rw → Int → Option Int} (hrec_laws_szSurreal : ∀ (a1 : Rw) (a2 : Int) (r : Int), rec_laws_szSurreal a1 a2 = some r → Ct prog 181 [.agg [.d (D.sl a1)], .d (D.int .i64 a2)] (⟨[], []⟩) (.d (D.int .i64 r)) (⟨[], []⟩)) {a1 : Rw} {a2 : Int} {r : Int} (h : laws_szSurrealTermS rec_laws_szSurreal a1 a2 = some r) : Ct prog 188 [.d (D.sl a1), .d (D.int .i64 a2)] (⟨[], []⟩) (.d (D.int .i64 r)) (⟨[], []⟩) := by
  rw [laws_szSurrealTermS] at h
  refine Ct.of (c := _) mixed func188 ⟨rfl, rfl, rfl⟩ ?_ rfl
  conv => whnf
  refine splD (fun g3 => ?_) (fun g3 => ?_)
  · replace h := iteP h g3
    conv => whnf
    cases h
    exact Done.of [] [] rfl rfl ⟨⟨rfl, rfl⟩, ⟨rfl, trivial⟩, rfl, trivial⟩
  · replace h := iteN h g3
    conv => whnf
    obtain ⟨g41, h⟩ := req_ex h
    refine LoopOk.into (laws_szSurrealTermS_l0_ct hrec_laws_szSurreal g41 _ _ _ rfl h) [] [] ⟨⟨rfl, rfl⟩, ⟨rfl, trivial⟩, rfl, rfl, rfl, trivial⟩ ?_ (fun _ hs => hs)
    rintro i ts os ⟨rfl, v24, h, rfl, rfl⟩
    conv => whnf
    refine CutK.go ?_
    conv => whnf
    cases h
    exact Done.of [] [] rfl rfl ⟨⟨rfl, rfl⟩, ⟨rfl, trivial⟩, rfl, trivial⟩

def laws_szSurreal_b (rec_laws_szSurreal : Rw → Int → Option Int) (a1 : Rw) (a2 : Int) : Option Int :=
  ((laws_szSurrealTermS rec_laws_szSurreal a1 a2).bind fun y3 => (if y3 < (0 : Int) then some (-1) else some y3))
set_option maxHeartbeats 4000000 in
set_option maxRecDepth 100000 in
theorem laws_szSurreal_b_ct {rec_laws_szSurreal : Rw → Int → Option Int} (hrec_laws_szSurreal : ∀ (a1 : Rw) (a2 : Int) (r : Int), rec_laws_szSurreal a1 a2 = some r → Ct prog 181 [.agg [.d (D.sl a1)], .d (D.int .i64 a2)] (⟨[], []⟩) (.d (D.int .i64 r)) (⟨[], []⟩)) {a1 : Rw} {a2 : Int} {r : Int} (h : laws_szSurreal_b rec_laws_szSurreal a1 a2 = some r) : Ct prog 181 [.agg [.d (D.sl a1)], .d (D.int .i64 a2)] (⟨[], []⟩) (.d (D.int .i64 r)) (⟨[], []⟩) := by
  rw [laws_szSurreal_b] at h
  refine Ct.of (c := _) mixed func181 ⟨rfl, rfl, rfl⟩ ?_ rfl
  conv => whnf
  refine Pick.no ?_
  conv => whnf
  obtain ⟨y3, e4, h⟩ := bind_ex h
  refine CallOk.of (laws_szSurrealTermS_ct hrec_laws_szSurreal e4) ?_
  conv => whnf
  refine CutK.go ?_
  conv => whnf
  refine splD (fun g5 => ?_) (fun g5 => ?_)
  · replace h := iteP h g5
    conv => whnf
    cases h
    exact Done.of [] [] rfl rfl ⟨⟨rfl, rfl⟩, ⟨rfl, trivial⟩, rfl, trivial⟩
  · replace h := iteN h g5
    conv => whnf
    cases h
    exact Done.of [] [] rfl rfl ⟨⟨rfl, rfl⟩, ⟨rfl, trivial⟩, rfl, trivial⟩
def laws_szSurreal : Nat → Rw → Int → Option Int
  | 0, _, _ => none
  | k + 1, a1, a2 => laws_szSurreal_b (laws_szSurreal k) a1 a2
theorem laws_szSurreal_ct' : ∀ (k : Nat) (a1 : Rw) (a2 : Int) (r : Int), laws_szSurreal k a1 a2 = some r → Ct prog 181 [.agg [.d (D.sl a1)], .d (D.int .i64 a2)] (⟨[], []⟩) (.d (D.int .i64 r)) (⟨[], []⟩)
  | 0, _, _, _, h => by rw [laws_szSurreal] at h; cases h
  | k + 1, _, _, _, h => by rw [laws_szSurreal] at h; exact laws_szSurreal_b_ct (laws_szSurreal_ct' k) h
theorem laws_szSurreal_ct {k : Nat} {a1 : Rw} {a2 : Int} {r : Int} (h : laws_szSurreal k a1 a2 = some r) : Ct prog 181 [.agg [.d (D.sl a1)], .d (D.int .i64 a2)] (⟨[], []⟩) (.d (D.int .i64 r)) (⟨[], []⟩) := laws_szSurreal_ct' k _ _ _ h

def laws_szEntry (k : Nat) (a1 : ByteArray) (a2 : Rw) (a3 : Int) : Option Int :=
  (if (IntKind.i64.wrap (a3 - (a1.size : Int))) < (0 : Int) then some (-1) else ((laws_szSurreal k a2 (IntKind.i64.wrap (a3 - (a1.size : Int)))).bind fun y5 => (if y5 < (0 : Int) then some (-1) else some y5)))
set_option maxHeartbeats 4000000 in
set_option maxRecDepth 100000 in
theorem laws_szEntry_ct {k : Nat} {a1 : ByteArray} {a2 : Rw} {a3 : Int} {r : Int} (h : laws_szEntry k a1 a2 a3 = some r) : Ct prog 150 [.agg [.d (D.str a1), .d (D.sl a2)], .d (D.int .i64 a3)] (⟨[], []⟩) (.d (D.int .i64 r)) (⟨[], []⟩) := by
  rw [laws_szEntry] at h
  refine Ct.of (c := _) mixed func150 ⟨rfl, rfl, rfl⟩ ?_ rfl
  conv => whnf
  refine splD (fun g4 => ?_) (fun g4 => ?_)
  · replace h := iteP h g4
    conv => whnf
    cases h
    exact Done.of [] [] rfl rfl ⟨⟨rfl, rfl⟩, ⟨rfl, trivial⟩, rfl, trivial⟩
  · replace h := iteN h g4
    conv => whnf
    refine Pick.no ?_
    conv => whnf
    obtain ⟨y5, e6, h⟩ := bind_ex h
    refine CallOk.of (laws_szSurreal_ct e6) ?_
    conv => whnf
    refine CutK.go ?_
    conv => whnf
    refine splD (fun g7 => ?_) (fun g7 => ?_)
    · replace h := iteP h g7
      conv => whnf
      cases h
      exact Done.of [] [] rfl rfl ⟨⟨rfl, rfl⟩, ⟨rfl, trivial⟩, rfl, trivial⟩
    · replace h := iteN h g7
      conv => whnf
      cases h
      exact Done.of [] [] rfl rfl ⟨⟨rfl, rfl⟩, ⟨rfl, trivial⟩, rfl, trivial⟩

def laws_szEntryS_l0 (k : Nat) (a1 : Rw) (K0 : Int → Option Int) : Rw → Int → Option Int
  | [], v12 => (K0 v12)
  | cs :: rest, v12 => (cell_ts cs fun x31 x32 => ((laws_szEntry k x31 x32 v12).bind fun y34 => (if y34 < (0 : Int) then some (-1) else (laws_szEntryS_l0 k a1 K0 rest y34))))
set_option maxHeartbeats 4000000 in
set_option maxRecDepth 100000 in
theorem laws_szEntryS_l0_ct {k : Nat} {a1 : Rw} {K0 : Int → Option Int} {r : Int} (hx : a1.length ≤ cap) : ∀ (rest : Rw) (v13n : Nat) (v12 : Int), a1.drop v13n = rest → laws_szEntryS_l0 k a1 K0 rest v12 = some r → LoopOk prog 0 (lp f88 0) (mk 27 [(0, .d (D.sl a1)), (1, .d (D.int .i64 v12)), (5, .d (D.int .i64 (v13n : Int)))] []) (LoopEnd prog f88 0 27 (.d (D.int .i64 r)) (⟨[], []⟩) (fun i ts os => (i = 0 ∧ ∃ v22 : Int, K0 v22 = some r ∧ ts = [(1, .d (D.int .i64 v22))] ∧ os = [])))
  | [], v13n, v12, hd, h => by
      rw [laws_szEntryS_l0] at h
      have hn := drop_nil hd
      refine LoopOk.step ?_
      conv => whnf
      refine splD (fun g => absurd g hn) (fun _ => ?_)
      conv => whnf
      exact ⟨_, _, [], [], ⟨rfl, _, h, rfl, rfl⟩, ⟨⟨rfl, rfl⟩, ⟨rfl, trivial⟩, rfl, trivial⟩⟩
  | cs :: rest, v13n, v12, hd, h => by
      rw [laws_szEntryS_l0] at h
      obtain ⟨hrow, hd1, hlt⟩ := drop_cons hd
      refine LoopOk.step ?_
      conv => whnf
      refine splD (fun _ => ?_) (fun g => absurd hlt g)
      conv => whnf
      obtain ⟨x31, x32, e33, h⟩ := cell_ts_ex h
      rw [e33] at hrow
      refine Req.of (Int.natCast_nonneg _) ?_
      refine Row.of _ hrow ?_
      conv => whnf
      refine Pick.no ?_
      conv => whnf
      obtain ⟨y34, e35, h⟩ := bind_ex h
      refine CallOk.of (laws_szEntry_ct e35) ?_
      conv => whnf
      refine CutK.go ?_
      conv => whnf
      refine splD (fun g36 => ?_) (fun g36 => ?_)
      · replace h := iteP h g36
        conv => whnf
        cases h
        exact Done.of [] [] rfl rfl ⟨⟨rfl, rfl⟩, ⟨rfl, trivial⟩, rfl, trivial⟩
      · replace h := iteN h g36
        conv => whnf
        refine CutK.go ?_
        conv => whnf
        exact LoopOk.back (laws_szEntryS_l0_ct hx rest (v13n + 1) _ hd1 h) [] [] ⟨⟨rfl, rfl⟩, ⟨rfl, trivial⟩, rfl, rfl, i64eq (wrap_up hlt hx), trivial⟩
def laws_szEntryS (k : Nat) (a1 : Rw) (a2 : Int) : Option Int :=
  (if (IntKind.i64.wrap (a2 - (a1.length : Int))) < (0 : Int) then some (-1) else (if a1.length ≤ cap then (laws_szEntryS_l0 k a1 (fun (v22 : Int) => some v22) a1 (IntKind.i64.wrap (a2 - (a1.length : Int)))) else none))
set_option maxHeartbeats 4000000 in
set_option maxRecDepth 100000 in
theorem laws_szEntryS_ct {k : Nat} {a1 : Rw} {a2 : Int} {r : Int} (h : laws_szEntryS k a1 a2 = some r) : Ct prog 88 [.d (D.sl a1), .d (D.int .i64 a2)] (⟨[], []⟩) (.d (D.int .i64 r)) (⟨[], []⟩) := by
  rw [laws_szEntryS] at h
  refine Ct.of (c := _) mixed func88 ⟨rfl, rfl, rfl⟩ ?_ rfl
  conv => whnf
  refine splD (fun g3 => ?_) (fun g3 => ?_)
  · replace h := iteP h g3
    conv => whnf
    cases h
    exact Done.of [] [] rfl rfl ⟨⟨rfl, rfl⟩, ⟨rfl, trivial⟩, rfl, trivial⟩
  · replace h := iteN h g3
    conv => whnf
    obtain ⟨g37, h⟩ := req_ex h
    refine LoopOk.into (laws_szEntryS_l0_ct  g37 _ _ _ rfl h) [] [] ⟨⟨rfl, rfl⟩, ⟨rfl, trivial⟩, rfl, rfl, rfl, trivial⟩ ?_ (fun _ hs => hs)
    rintro i ts os ⟨rfl, v22, h, rfl, rfl⟩
    conv => whnf
    refine CutK.go ?_
    conv => whnf
    cases h
    exact Done.of [] [] rfl rfl ⟨⟨rfl, rfl⟩, ⟨rfl, trivial⟩, rfl, trivial⟩

def laws_szNotebook (k : Nat) (a1 : Rw) (a2 : Int) : Option Int :=
  ((laws_szEntryS k a1 a2).bind fun y3 => (if y3 < (0 : Int) then some (-1) else some y3))
set_option maxHeartbeats 4000000 in
set_option maxRecDepth 100000 in
theorem laws_szNotebook_ct {k : Nat} {a1 : Rw} {a2 : Int} {r : Int} (h : laws_szNotebook k a1 a2 = some r) : Ct prog 31 [.agg [.d (D.sl a1)], .d (D.int .i64 a2)] (⟨[], []⟩) (.d (D.int .i64 r)) (⟨[], []⟩) := by
  rw [laws_szNotebook] at h
  refine Ct.of (c := _) mixed func31 ⟨rfl, rfl, rfl⟩ ?_ rfl
  conv => whnf
  refine Pick.no ?_
  conv => whnf
  obtain ⟨y3, e4, h⟩ := bind_ex h
  refine CallOk.of (laws_szEntryS_ct e4) ?_
  conv => whnf
  refine CutK.go ?_
  conv => whnf
  refine splD (fun g5 => ?_) (fun g5 => ?_)
  · replace h := iteP h g5
    conv => whnf
    cases h
    exact Done.of [] [] rfl rfl ⟨⟨rfl, rfl⟩, ⟨rfl, trivial⟩, rfl, trivial⟩
  · replace h := iteN h g5
    conv => whnf
    cases h
    exact Done.of [] [] rfl rfl ⟨⟨rfl, rfl⟩, ⟨rfl, trivial⟩, rfl, trivial⟩
end
end Go.Proofs.Try
