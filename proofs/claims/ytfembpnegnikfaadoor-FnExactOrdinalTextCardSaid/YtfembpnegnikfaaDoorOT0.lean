/- Printed by program (axgen): pure functions, and that the Go functions compute them. -/
import Derived.Test.YtfembpnegnikfaaDoorProg
import Derived.Test.YtfembpnegnikfaaDoorAxC
import Derived.KernelRfl
import Derived.Test.YtfembpnegnikfaaDoorShelf
set_option linter.unusedVariables false
set_option linter.unusedSimpArgs false
namespace Go.Proofs.Tryd
open Go Go.AX
theorem mixed : prog.follows .mixedOrders = true := by kernel_rfl
def cell_si {α : Type} (cs : List D) (K : Rw → Int → Option α) : Option α := match cs with | [.sl a0, .int .i64 a1] => K a0 a1 | _ => none
def row_si {α : Type} (es : Rw) (i : Int) (K : Rw → Int → Option α) : Option α := if 0 ≤ i then (match es[i.toNat]? with | some cs => cell_si cs K | none => none) else none
theorem cell_si_ex {α : Type} {cs : List D} {K : Rw → Int → Option α} {r : α} (h : cell_si cs K = some r) : ∃ a0 a1, cs = [.sl a0, .int .i64 a1] ∧ K a0 a1 = some r := by
  unfold cell_si at h
  split at h
  · exact ⟨_, _, rfl, h⟩
  · cases h
theorem row_si_ex {α : Type} {es : Rw} {i : Int} {K : Rw → Int → Option α} {r : α} (h : row_si es i K = some r) : 0 ≤ i ∧ ∃ a0 a1, es[i.toNat]? = some [.sl a0, .int .i64 a1] ∧ K a0 a1 = some r := by
  unfold row_si at h
  obtain ⟨g, h⟩ := req_ex h
  split at h
  · rename_i cs e
    obtain ⟨a0, a1, rfl, h⟩ := cell_si_ex h
    exact ⟨g, a0, a1, e, h⟩
  · cases h
noncomputable section
def laws_szOrdinalTerm (rec_laws_szOrdinal : Rw → Int → Option Int) (a1 : Rw) (a2 : Int) (a3 : Int) : Option Int :=
  ((rec_laws_szOrdinal a1 a3).bind fun y4 => (if y4 < (0 : Int) then some (-1) else some y4))
set_option maxHeartbeats 4000000 in
set_option maxRecDepth 100000 in
theorem laws_szOrdinalTerm_ct {rec_laws_szOrdinal : Rw → Int → Option Int} (hrec_laws_szOrdinal : ∀ (a1 : Rw) (a2 : Int) (r : Int), rec_laws_szOrdinal a1 a2 = some r → Ct prog 9 [.agg [.d (D.sl a1)], .d (D.int .i64 a2)] (⟨[], []⟩) (.d (D.int .i64 r)) (⟨[], []⟩)) {a1 : Rw} {a2 : Int} {a3 : Int} {r : Int} (h : laws_szOrdinalTerm rec_laws_szOrdinal a1 a2 a3 = some r) : Ct prog 57 [.agg [.d (D.sl a1), .d (D.int .i64 a2)], .d (D.int .i64 a3)] (⟨[], []⟩) (.d (D.int .i64 r)) (⟨[], []⟩) := by
  rw [laws_szOrdinalTerm] at h
  refine Ct.of (c := _) mixed func57 ⟨rfl, rfl, rfl⟩ ?_ rfl
  conv => whnf
  refine Pick.no ?_
  conv => whnf
  obtain ⟨y4, e5, h⟩ := bind_ex h
  refine CallOk.of (hrec_laws_szOrdinal _ _ _ e5) ?_
  conv => whnf
  refine CutK.go ?_
  conv => whnf
  refine splD (fun g6 => ?_) (fun g6 => ?_)
  · replace h := iteP h g6
    conv => whnf
    cases h
    exact Done.of [] [] rfl rfl ⟨⟨rfl, rfl⟩, ⟨rfl, trivial⟩, rfl, trivial⟩
  · replace h := iteN h g6
    conv => whnf
    cases h
    exact Done.of [] [] rfl rfl ⟨⟨rfl, rfl⟩, ⟨rfl, trivial⟩, rfl, trivial⟩

def laws_szOrdinalTermS_l0 (rec_laws_szOrdinal : Rw → Int → Option Int) (a1 : Rw) (K0 : Int → Option Int) : Rw → Int → Option Int
  | [], v12 => (K0 v12)
  | cs :: rest, v12 => (cell_si cs fun x31 x32 => ((laws_szOrdinalTerm rec_laws_szOrdinal x31 x32 v12).bind fun y34 => (if y34 < (0 : Int) then some (-1) else (laws_szOrdinalTermS_l0 rec_laws_szOrdinal a1 K0 rest y34))))
set_option maxRecDepth 100000 in
theorem laws_szOrdinalTermS_l0_ct {rec_laws_szOrdinal : Rw → Int → Option Int} {a1 : Rw} {K0 : Int → Option Int} (hrec_laws_szOrdinal : ∀ (a1 : Rw) (a2 : Int) (r : Int), rec_laws_szOrdinal a1 a2 = some r → Ct prog 9 [.agg [.d (D.sl a1)], .d (D.int .i64 a2)] (⟨[], []⟩) (.d (D.int .i64 r)) (⟨[], []⟩)) {r : Int} (hx : a1.length ≤ cap) : ∀ (rest : Rw) (v13n : Nat) (v12 : Int), a1.drop v13n = rest → laws_szOrdinalTermS_l0 rec_laws_szOrdinal a1 K0 rest v12 = some r → LoopOk prog 0 (lp f31 0) (mk 27 [(0, .d (D.sl a1)), (1, .d (D.int .i64 v12)), (5, .d (D.int .i64 (v13n : Int)))] []) (LoopEnd prog f31 0 27 (.d (D.int .i64 r)) (⟨[], []⟩) (fun i ts os => (i = 0 ∧ ∃ v22 : Int, K0 v22 = some r ∧ ts = [(1, .d (D.int .i64 v22))] ∧ os = [])))
  | [], v13n, v12, hd, h => by
      rw [laws_szOrdinalTermS_l0] at h
      have hn := drop_nil hd
      refine LoopOk.step ?_
      conv => whnf
      refine splD (fun g => absurd g hn) (fun _ => ?_)
      conv => whnf
      exact ⟨_, _, [], [], ⟨rfl, _, h, rfl, rfl⟩, ⟨⟨rfl, rfl⟩, ⟨rfl, trivial⟩, rfl, trivial⟩⟩
  | cs :: rest, v13n, v12, hd, h => by
      rw [laws_szOrdinalTermS_l0] at h
      obtain ⟨hrow, hd1, hlt⟩ := drop_cons hd
      refine LoopOk.step ?_
      conv => whnf
      refine splD (fun _ => ?_) (fun g => absurd hlt g)
      conv => whnf
      obtain ⟨x31, x32, e33, h⟩ := cell_si_ex h
      rw [e33] at hrow
      refine Req.of (Int.natCast_nonneg _) ?_
      refine Row.of _ hrow ?_
      conv => whnf
      refine Pick.no ?_
      conv => whnf
      obtain ⟨y34, e35, h⟩ := bind_ex h
      refine CallOk.of (laws_szOrdinalTerm_ct hrec_laws_szOrdinal e35) ?_
      conv => whnf
      refine CutK.go ?_
      conv => whnf
      refine splD (fun g36 => ?_) (fun g36 => ?_)
      · replace h := iteP h g36
        conv => whnf
        cases h
        exact Done.of [] [] rfl rfl ⟨⟨rfl, rfl⟩, ⟨rfl, trivial⟩, rfl, trivial⟩
      · replace h := iteN h g36
        conv => whnf
        refine CutK.go ?_
        conv => whnf
        exact LoopOk.back (laws_szOrdinalTermS_l0_ct hrec_laws_szOrdinal hx rest (v13n + 1) _ hd1 h) [] [] ⟨⟨rfl, rfl⟩, ⟨rfl, trivial⟩, rfl, rfl, i64eq (wrap_up hlt hx), trivial⟩
def laws_szOrdinalTermS (rec_laws_szOrdinal : Rw → Int → Option Int) (a1 : Rw) (a2 : Int) : Option Int :=
  (if (IntKind.i64.wrap (a2 - (a1.length : Int))) < (0 : Int) then some (-1) else (if a1.length ≤ cap then (laws_szOrdinalTermS_l0 rec_laws_szOrdinal a1 (fun (v22 : Int) => some v22) a1 (IntKind.i64.wrap (a2 - (a1.length : Int)))) else none))
set_option maxHeartbeats 4000000 in
set_option maxRecDepth 100000 in
theorem laws_szOrdinalTermS_ct {rec_laws_szOrdinal : Rw → Int → Option Int} (hrec_laws_szOrdinal : ∀ (a1 : Rw) (a2 : Int) (r : Int), rec_laws_szOrdinal a1 a2 = some r → Ct prog 9 [.agg [.d (D.sl a1)], .d (D.int .i64 a2)] (⟨[], []⟩) (.d (D.int .i64 r)) (⟨[], []⟩)) {a1 : Rw} {a2 : Int} {r : Int} (h : laws_szOrdinalTermS rec_laws_szOrdinal a1 a2 = some r) : Ct prog 31 [.d (D.sl a1), .d (D.int .i64 a2)] (⟨[], []⟩) (.d (D.int .i64 r)) (⟨[], []⟩) := by
  rw [laws_szOrdinalTermS] at h
  refine Ct.of (c := _) mixed func31 ⟨rfl, rfl, rfl⟩ ?_ rfl
  conv => whnf
  refine splD (fun g3 => ?_) (fun g3 => ?_)
  · replace h := iteP h g3
    conv => whnf
    cases h
    exact Done.of [] [] rfl rfl ⟨⟨rfl, rfl⟩, ⟨rfl, trivial⟩, rfl, trivial⟩
  · replace h := iteN h g3
    conv => whnf
    obtain ⟨g37, h⟩ := req_ex h
    refine LoopOk.into (laws_szOrdinalTermS_l0_ct hrec_laws_szOrdinal g37 _ _ _ rfl h) [] [] ⟨⟨rfl, rfl⟩, ⟨rfl, trivial⟩, rfl, rfl, rfl, trivial⟩ ?_ (fun _ hs => hs)
    rintro i ts os ⟨rfl, v22, h, rfl, rfl⟩
    conv => whnf
    refine CutK.go ?_
    conv => whnf
    cases h
    exact Done.of [] [] rfl rfl ⟨⟨rfl, rfl⟩, ⟨rfl, trivial⟩, rfl, trivial⟩

def laws_szOrdinal_b (rec_laws_szOrdinal : Rw → Int → Option Int) (a1 : Rw) (a2 : Int) : Option Int :=
  ((laws_szOrdinalTermS rec_laws_szOrdinal a1 a2).bind fun y3 => (if y3 < (0 : Int) then some (-1) else some y3))
set_option maxHeartbeats 4000000 in
set_option maxRecDepth 100000 in
theorem laws_szOrdinal_b_ct {rec_laws_szOrdinal : Rw → Int → Option Int} (hrec_laws_szOrdinal : ∀ (a1 : Rw) (a2 : Int) (r : Int), rec_laws_szOrdinal a1 a2 = some r → Ct prog 9 [.agg [.d (D.sl a1)], .d (D.int .i64 a2)] (⟨[], []⟩) (.d (D.int .i64 r)) (⟨[], []⟩)) {a1 : Rw} {a2 : Int} {r : Int} (h : laws_szOrdinal_b rec_laws_szOrdinal a1 a2 = some r) : Ct prog 9 [.agg [.d (D.sl a1)], .d (D.int .i64 a2)] (⟨[], []⟩) (.d (D.int .i64 r)) (⟨[], []⟩) := by
  rw [laws_szOrdinal_b] at h
  refine Ct.of (c := _) mixed func9 ⟨rfl, rfl, rfl⟩ ?_ rfl
  conv => whnf
  refine Pick.no ?_
  conv => whnf
  obtain ⟨y3, e4, h⟩ := bind_ex h
  refine CallOk.of (laws_szOrdinalTermS_ct hrec_laws_szOrdinal e4) ?_
  conv => whnf
  refine CutK.go ?_
  conv => whnf
  refine splD (fun g5 => ?_) (fun g5 => ?_)
  · replace h := iteP h g5
    conv => whnf
    cases h
    exact Done.of [] [] rfl rfl ⟨⟨rfl, rfl⟩, ⟨rfl, trivial⟩, rfl, trivial⟩
  · replace h := iteN h g5
    conv => whnf
    cases h
    exact Done.of [] [] rfl rfl ⟨⟨rfl, rfl⟩, ⟨rfl, trivial⟩, rfl, trivial⟩
def laws_szOrdinal : Nat → Rw → Int → Option Int
  | 0, _, _ => none
  | k + 1, a1, a2 => laws_szOrdinal_b (laws_szOrdinal k) a1 a2
theorem laws_szOrdinal_ct' : ∀ (k : Nat) (a1 : Rw) (a2 : Int) (r : Int), laws_szOrdinal k a1 a2 = some r → Ct prog 9 [.agg [.d (D.sl a1)], .d (D.int .i64 a2)] (⟨[], []⟩) (.d (D.int .i64 r)) (⟨[], []⟩)
  | 0, _, _, _, h => by rw [laws_szOrdinal] at h; cases h
  | k + 1, _, _, _, h => by rw [laws_szOrdinal] at h; exact laws_szOrdinal_b_ct (laws_szOrdinal_ct' k) h
theorem laws_szOrdinal_ct {k : Nat} {a1 : Rw} {a2 : Int} {r : Int} (h : laws_szOrdinal k a1 a2 = some r) : Ct prog 9 [.agg [.d (D.sl a1)], .d (D.int .i64 a2)] (⟨[], []⟩) (.d (D.int .i64 r)) (⟨[], []⟩) := laws_szOrdinal_ct' k _ _ _ h

def laws_toOrdinalTerm (rec_laws_toOrdinal : Rw → Option Rw) (a1 : Rw) (a2 : Int) : Option (Rw × Int) :=
  ((rec_laws_toOrdinal a1).bind fun y3 => some (y3, a2))
set_option maxHeartbeats 4000000 in
set_option maxRecDepth 100000 in
theorem laws_toOrdinalTerm_ct {rec_laws_toOrdinal : Rw → Option Rw} (hrec_laws_toOrdinal : ∀ (a1 : Rw) (r : Rw), rec_laws_toOrdinal a1 = some r → Ct prog 11 [.agg [.d (D.sl a1)]] (⟨[], []⟩) (.agg [.os 8 r.length]) (⟨[], [(75, true, r)]⟩)) {a1 : Rw} {a2 : Int} {r : Rw × Int} (h : laws_toOrdinalTerm rec_laws_toOrdinal a1 a2 = some r) : Ct prog 60 [.agg [.d (D.sl a1), .d (D.int .i64 a2)]] (⟨[], []⟩) (.agg [.os 8 r.1.length, .d (D.int .i64 r.2)]) (⟨[], [(75, true, r.1)]⟩) := by
  rw [laws_toOrdinalTerm] at h
  refine Ct.of (c := _) mixed func60 ⟨rfl, rfl, rfl⟩ ?_ rfl
  conv => whnf
  refine Pick.no ?_
  conv => whnf
  obtain ⟨y3, e4, h⟩ := bind_ex h
  refine CallOk.of (hrec_laws_toOrdinal _ _ e4) ?_
  conv => whnf
  refine CutK.go ?_
  conv => whnf
  cases h
  exact Done.of [some 384] [] rfl rfl ⟨⟨rfl, rfl⟩, ⟨rfl, ⟨rfl, rfl, rows_same⟩, trivial⟩, ⟨⟨rfl, rfl⟩, rfl, trivial⟩, trivial⟩

def laws_toOrdinalTermS_l0 (rec_laws_toOrdinal : Rw → Option Rw) (a1 : Rw) (K0 : Rw → Option Rw) : Rw → Nat → Rw → Option Rw
  | [], v16n, v15 => (K0 v15)
  | cs :: rest, v16n, v15 => (cell_si cs fun x42 x43 => ((laws_toOrdinalTerm rec_laws_toOrdinal x42 x43).bind fun y45 => (if 0 ≤ (v16n : Int) ∧ (v16n : Int) < (v15.length : Int) then (row_si v15 (v16n : Int) fun x48 x49 => (laws_toOrdinalTermS_l0 rec_laws_toOrdinal a1 K0 rest (v16n + 1) (v15.set (((v16n : Int) : Int).toNat) [D.sl y45.1, D.int .i64 y45.2]))) else none)))
set_option maxRecDepth 100000 in
theorem laws_toOrdinalTermS_l0_ct {rec_laws_toOrdinal : Rw → Option Rw} {a1 : Rw} {K0 : Rw → Option Rw} (hrec_laws_toOrdinal : ∀ (a1 : Rw) (r : Rw), rec_laws_toOrdinal a1 = some r → Ct prog 11 [.agg [.d (D.sl a1)]] (⟨[], []⟩) (.agg [.os 8 r.length]) (⟨[], [(75, true, r)]⟩)) {r : Rw} (hx : a1.length ≤ cap) : ∀ (rest : Rw) (v16n : Nat) (v15 : Rw), a1.drop v16n = rest → laws_toOrdinalTermS_l0 rec_laws_toOrdinal a1 K0 rest v16n v15 = some r → LoopOk prog 0 (lp f34 0) (mk 23 [(0, .d (D.sl a1)), (3, .os 64000 v15.length), (4, .d (D.int .i64 (v16n : Int)))] [(64000, .arr 75 true v15)]) (LoopEnd prog f34 0 23 (.os 8 r.length) (⟨[], [(75, true, r)]⟩) (fun i ts os => (i = 0 ∧ ∃ v29 : Rw, K0 v29 = some r ∧ ts = [(3, .os 67001 v29.length)] ∧ os = [(67001, .arr 75 true v29)])))
  | [], v16n, v15, hd, h => by
      rw [laws_toOrdinalTermS_l0] at h
      have hn := drop_nil hd
      refine LoopOk.step ?_
      conv => whnf
      refine splD (fun g => absurd g hn) (fun _ => ?_)
      conv => whnf
      exact ⟨_, _, [some 64000], [], ⟨rfl, _, h, rfl, rfl⟩, ⟨⟨rfl, rfl⟩, ⟨rfl, ⟨rfl, rfl, rows_same⟩, trivial⟩, ⟨rfl, rfl⟩, trivial⟩⟩
  | cs :: rest, v16n, v15, hd, h => by
      rw [laws_toOrdinalTermS_l0] at h
      obtain ⟨hrow, hd1, hlt⟩ := drop_cons hd
      refine LoopOk.step ?_
      conv => whnf
      refine splD (fun _ => ?_) (fun g => absurd hlt g)
      conv => whnf
      obtain ⟨x42, x43, e44, h⟩ := cell_si_ex h
      rw [e44] at hrow
      refine Req.of (Int.natCast_nonneg _) ?_
      refine Row.of _ hrow ?_
      conv => whnf
      refine Pick.no ?_
      conv => whnf
      obtain ⟨y45, e46, h⟩ := bind_ex h
      refine CallOk.of (laws_toOrdinalTerm_ct hrec_laws_toOrdinal e46) ?_
      conv => whnf
      obtain ⟨g47, h⟩ := req_ex h
      refine Req.of g47 ?_
      conv => whnf
      refine Take.all (rfl) ?_
      conv => whnf
      obtain ⟨g51, x48, x49, e50, h⟩ := row_si_ex h
      refine Row.of _ e50 ?_
      conv => whnf
      refine CutK.go ?_
      conv => whnf
      exact LoopOk.back (laws_toOrdinalTermS_l0_ct hrec_laws_toOrdinal hx rest (v16n + 1) _ hd1 h) [some 64000] [] ⟨⟨rfl, rfl⟩, ⟨rfl, ⟨rfl, rfl, rows_same⟩, trivial⟩, rfl, ⟨(by first | rfl | exact List.length_append.symm | (simp; done) | omega), rfl⟩, i64eq (wrap_up hlt hx), trivial⟩
def laws_toOrdinalTermS (rec_laws_toOrdinal : Rw → Option Rw) (a1 : Rw) : Option Rw :=
  (if 0 ≤ (a1.length : Int) ∧ (a1.length : Int) ≤ 1099511627776 then (if a1.length ≤ cap then (laws_toOrdinalTermS_l0 rec_laws_toOrdinal a1 (fun (v29 : Rw) => some v29) a1 0 (List.replicate ((a1.length : Int) : Int).toNat [D.sl ([]), D.int .i64 0] : Rw)) else none) else none)
set_option maxHeartbeats 4000000 in
set_option maxRecDepth 100000 in
theorem laws_toOrdinalTermS_ct {rec_laws_toOrdinal : Rw → Option Rw} (hrec_laws_toOrdinal : ∀ (a1 : Rw) (r : Rw), rec_laws_toOrdinal a1 = some r → Ct prog 11 [.agg [.d (D.sl a1)]] (⟨[], []⟩) (.agg [.os 8 r.length]) (⟨[], [(75, true, r)]⟩)) {a1 : Rw} {r : Rw} (h : laws_toOrdinalTermS rec_laws_toOrdinal a1 = some r) : Ct prog 34 [.d (D.sl a1)] (⟨[], []⟩) (.os 8 r.length) (⟨[], [(75, true, r)]⟩) := by
  rw [laws_toOrdinalTermS] at h
  refine Ct.of (c := _) mixed func34 ⟨rfl, rfl, rfl⟩ ?_ rfl
  conv => whnf
  obtain ⟨g2, h⟩ := req_ex h
  refine Req.of (makeRoom (b := 32) (by decide) g2) ?_
  conv => whnf
  obtain ⟨g52, h⟩ := req_ex h
  refine LoopOk.into (laws_toOrdinalTermS_l0_ct hrec_laws_toOrdinal g52 _ _ _ rfl h) [some 448] [] ⟨⟨rfl, rfl⟩, ⟨rfl, ⟨rfl, rfl, rows_same⟩, trivial⟩, rfl, ⟨(by first | rfl | exact List.length_append.symm | (simp; done) | omega), rfl⟩, rfl, trivial⟩ ?_ (fun _ hs => hs)
  rintro i ts os ⟨rfl, v29, h, rfl, rfl⟩
  conv => whnf
  refine CutK.go ?_
  conv => whnf
  cases h
  exact Done.of [some 67001] [] rfl rfl ⟨⟨rfl, rfl⟩, ⟨rfl, ⟨rfl, rfl, rows_same⟩, trivial⟩, ⟨rfl, rfl⟩, trivial⟩

def laws_toOrdinal_b (rec_laws_toOrdinal : Rw → Option Rw) (a1 : Rw) : Option Rw :=
  ((laws_toOrdinalTermS rec_laws_toOrdinal a1).bind fun y2 => some y2)
set_option maxHeartbeats 4000000 in
set_option maxRecDepth 100000 in
theorem laws_toOrdinal_b_ct {rec_laws_toOrdinal : Rw → Option Rw} (hrec_laws_toOrdinal : ∀ (a1 : Rw) (r : Rw), rec_laws_toOrdinal a1 = some r → Ct prog 11 [.agg [.d (D.sl a1)]] (⟨[], []⟩) (.agg [.os 8 r.length]) (⟨[], [(75, true, r)]⟩)) {a1 : Rw} {r : Rw} (h : laws_toOrdinal_b rec_laws_toOrdinal a1 = some r) : Ct prog 11 [.agg [.d (D.sl a1)]] (⟨[], []⟩) (.agg [.os 8 r.length]) (⟨[], [(75, true, r)]⟩) := by
  rw [laws_toOrdinal_b] at h
  refine Ct.of (c := _) mixed func11 ⟨rfl, rfl, rfl⟩ ?_ rfl
  conv => whnf
  refine Pick.no ?_
  conv => whnf
  obtain ⟨y2, e3, h⟩ := bind_ex h
  refine CallOk.of (laws_toOrdinalTermS_ct hrec_laws_toOrdinal e3) ?_
  conv => whnf
  refine CutK.go ?_
  conv => whnf
  cases h
  exact Done.of [some 384] [] rfl rfl ⟨⟨rfl, rfl⟩, ⟨rfl, ⟨rfl, rfl, rows_same⟩, trivial⟩, ⟨⟨rfl, rfl⟩, trivial⟩, trivial⟩
def laws_toOrdinal : Nat → Rw → Option Rw
  | 0, _ => none
  | k + 1, a1 => laws_toOrdinal_b (laws_toOrdinal k) a1
theorem laws_toOrdinal_ct' : ∀ (k : Nat) (a1 : Rw) (r : Rw), laws_toOrdinal k a1 = some r → Ct prog 11 [.agg [.d (D.sl a1)]] (⟨[], []⟩) (.agg [.os 8 r.length]) (⟨[], [(75, true, r)]⟩)
  | 0, _, _, h => by rw [laws_toOrdinal] at h; cases h
  | k + 1, _, _, h => by rw [laws_toOrdinal] at h; exact laws_toOrdinal_b_ct (laws_toOrdinal_ct' k) h
theorem laws_toOrdinal_ct {k : Nat} {a1 : Rw} {r : Rw} (h : laws_toOrdinal k a1 = some r) : Ct prog 11 [.agg [.d (D.sl a1)]] (⟨[], []⟩) (.agg [.os 8 r.length]) (⟨[], [(75, true, r)]⟩) := laws_toOrdinal_ct' k _ _ h

def spec_odLeft_l0 (rec_spec_odLeft : Rw → Int → Int → Option Int) (a1 : Rw) (a2 : Int) (K0 : Int → Option Int) : Rw → Int → Option Int
  | [], v13 => (K0 v13)
  | cs :: rest, v13 => (cell_si cs fun x34 x35 => (if v13 < (0 : Int) then some (-1) else (if a2 = (0 : Int) then some (-1) else ((rec_spec_odLeft x34 (IntKind.i64.wrap (a2 - 1)) (IntKind.i64.wrap (v13 - 1))).bind fun y39 => (spec_odLeft_l0 rec_spec_odLeft a1 a2 K0 rest y39)))))
set_option maxRecDepth 100000 in
theorem spec_odLeft_l0_ct {rec_spec_odLeft : Rw → Int → Int → Option Int} {a1 : Rw} {a2 : Int} {K0 : Int → Option Int} (hrec_spec_odLeft : ∀ (a1 : Rw) (a2 : Int) (a3 : Int) (r : Int), rec_spec_odLeft a1 a2 a3 = some r → Ct prog 58 [.agg [.d (D.sl a1)], .d (D.int .i64 a2), .d (D.int .i64 a3)] (⟨[], []⟩) (.d (D.int .i64 r)) (⟨[], []⟩)) {r : Int} (hx : a1.length ≤ cap) : ∀ (rest : Rw) (v14n : Nat) (v13 : Int), a1.drop v14n = rest → spec_odLeft_l0 rec_spec_odLeft a1 a2 K0 rest v13 = some r → LoopOk prog 0 (lp f58 0) (mk 33 [(1, .d (D.int .i64 a2)), (2, .d (D.int .i64 v13)), (12, .d (D.sl a1)), (13, .d (D.int .i64 (a1.length : Int))), (14, .d (D.int .i64 (v14n : Int)))] []) (LoopEnd prog f58 0 33 (.d (D.int .i64 r)) (⟨[], []⟩) (fun i ts os => (i = 0 ∧ ∃ v24 : Int, K0 v24 = some r ∧ ts = [(2, .d (D.int .i64 v24))] ∧ os = [])))
  | [], v14n, v13, hd, h => by
      rw [spec_odLeft_l0] at h
      have hn := drop_nil hd
      refine LoopOk.step ?_
      conv => whnf
      refine splD (fun g => absurd g hn) (fun _ => ?_)
      conv => whnf
      exact ⟨_, _, [], [], ⟨rfl, _, h, rfl, rfl⟩, ⟨⟨rfl, rfl⟩, ⟨rfl, trivial⟩, rfl, trivial⟩⟩
  | cs :: rest, v14n, v13, hd, h => by
      rw [spec_odLeft_l0] at h
      obtain ⟨hrow, hd1, hlt⟩ := drop_cons hd
      refine LoopOk.step ?_
      conv => whnf
      refine splD (fun _ => ?_) (fun g => absurd hlt g)
      conv => whnf
      obtain ⟨x34, x35, e36, h⟩ := cell_si_ex h
      rw [e36] at hrow
      refine Req.of (Int.natCast_nonneg _) ?_
      refine Row.of _ hrow ?_
      conv => whnf
      refine splD (fun g37 => ?_) (fun g37 => ?_)
      · replace h := iteP h g37
        conv => whnf
        cases h
        exact Done.of [] [] rfl rfl ⟨⟨rfl, rfl⟩, ⟨rfl, trivial⟩, rfl, trivial⟩
      · replace h := iteN h g37
        conv => whnf
        refine splD (fun g38 => ?_) (fun g38 => ?_)
        · replace h := iteP h g38
          conv => whnf
          cases h
          exact Done.of [] [] rfl rfl ⟨⟨rfl, rfl⟩, ⟨rfl, trivial⟩, rfl, trivial⟩
        · replace h := iteN h g38
          conv => whnf
          refine Pick.no ?_
          conv => whnf
          obtain ⟨y39, e40, h⟩ := bind_ex h
          refine CallOk.of (hrec_spec_odLeft _ _ _ _ e40) ?_
          conv => whnf
          refine CutK.norm [1, 2, 12, 13, 14] [] ?_
          conv => whnf
          exact LoopOk.back (spec_odLeft_l0_ct hrec_spec_odLeft hx rest (v14n + 1) _ hd1 h) [] [] ⟨⟨rfl, rfl⟩, ⟨rfl, trivial⟩, rfl, rfl, rfl, rfl, i64eq (wrap_up hlt hx), trivial⟩
def spec_odLeft_b (rec_spec_odLeft : Rw → Int → Int → Option Int) (a1 : Rw) (a2 : Int) (a3 : Int) : Option Int :=
  (if a1.length ≤ cap then (spec_odLeft_l0 rec_spec_odLeft a1 a2 (fun (v24 : Int) => some v24) a1 (IntKind.i64.wrap (a3 - 1))) else none)
set_option maxHeartbeats 4000000 in
set_option maxRecDepth 100000 in
theorem spec_odLeft_b_ct {rec_spec_odLeft : Rw → Int → Int → Option Int} (hrec_spec_odLeft : ∀ (a1 : Rw) (a2 : Int) (a3 : Int) (r : Int), rec_spec_odLeft a1 a2 a3 = some r → Ct prog 58 [.agg [.d (D.sl a1)], .d (D.int .i64 a2), .d (D.int .i64 a3)] (⟨[], []⟩) (.d (D.int .i64 r)) (⟨[], []⟩)) {a1 : Rw} {a2 : Int} {a3 : Int} {r : Int} (h : spec_odLeft_b rec_spec_odLeft a1 a2 a3 = some r) : Ct prog 58 [.agg [.d (D.sl a1)], .d (D.int .i64 a2), .d (D.int .i64 a3)] (⟨[], []⟩) (.d (D.int .i64 r)) (⟨[], []⟩) := by
  rw [spec_odLeft_b] at h
  refine Ct.of (c := _) mixed func58 ⟨rfl, rfl, rfl⟩ ?_ rfl
  conv => whnf
  obtain ⟨g41, h⟩ := req_ex h
  refine LoopOk.into (spec_odLeft_l0_ct hrec_spec_odLeft g41 _ _ _ rfl h) [] [] ⟨⟨rfl, rfl⟩, ⟨rfl, trivial⟩, rfl, rfl, rfl, rfl, rfl, trivial⟩ ?_ (fun _ hs => hs)
  rintro i ts os ⟨rfl, v24, h, rfl, rfl⟩
  conv => whnf
  refine CutK.norm [2] [] ?_
  conv => whnf
  cases h
  exact Done.of [] [] rfl rfl ⟨⟨rfl, rfl⟩, ⟨rfl, trivial⟩, rfl, trivial⟩
def spec_odLeft : Nat → Rw → Int → Int → Option Int
  | 0, _, _, _ => none
  | k + 1, a1, a2, a3 => spec_odLeft_b (spec_odLeft k) a1 a2 a3
theorem spec_odLeft_ct' : ∀ (k : Nat) (a1 : Rw) (a2 : Int) (a3 : Int) (r : Int), spec_odLeft k a1 a2 a3 = some r → Ct prog 58 [.agg [.d (D.sl a1)], .d (D.int .i64 a2), .d (D.int .i64 a3)] (⟨[], []⟩) (.d (D.int .i64 r)) (⟨[], []⟩)
  | 0, _, _, _, _, h => by rw [spec_odLeft] at h; cases h
  | k + 1, _, _, _, _, h => by rw [spec_odLeft] at h; exact spec_odLeft_b_ct (spec_odLeft_ct' k) h
theorem spec_odLeft_ct {k : Nat} {a1 : Rw} {a2 : Int} {a3 : Int} {r : Int} (h : spec_odLeft k a1 a2 a3 = some r) : Ct prog 58 [.agg [.d (D.sl a1)], .d (D.int .i64 a2), .d (D.int .i64 a3)] (⟨[], []⟩) (.d (D.int .i64 r)) (⟨[], []⟩) := spec_odLeft_ct' k _ _ _ _ h

def spec_l1In  (a1 : Int) (a2 : Int) (a3 : Int) : Option Bool :=
  (if a2 ≤ a1 then (if a1 ≤ a3 then some true else some false) else some false)
set_option maxHeartbeats 4000000 in
set_option maxRecDepth 100000 in
theorem spec_l1In_ct  {a1 : Int} {a2 : Int} {a3 : Int} {r : Bool} (h : spec_l1In a1 a2 a3 = some r) : Ct prog 47 [.d (D.int .i64 a1), .d (D.int .i64 a2), .d (D.int .i64 a3)] (⟨[], []⟩) (.d (D.bool r)) (⟨[], []⟩) := by
  rw [spec_l1In] at h
  refine Ct.of (c := _) mixed func47 ⟨rfl, rfl, rfl⟩ ?_ rfl
  conv => whnf
  refine splD (fun g4 => ?_) (fun g4 => ?_)
  · replace h := iteP h g4
    conv => whnf
    refine splD (fun g5 => ?_) (fun g5 => ?_)
    · replace h := iteP h g5
      conv => whnf
      cases h
      exact Done.of [] [] rfl rfl ⟨⟨rfl, rfl⟩, ⟨rfl, trivial⟩, rfl, trivial⟩
    · replace h := iteN h g5
      conv => whnf
      cases h
      exact Done.of [] [] rfl rfl ⟨⟨rfl, rfl⟩, ⟨rfl, trivial⟩, rfl, trivial⟩
  · replace h := iteN h g4
    conv => whnf
    cases h
    exact Done.of [] [] rfl rfl ⟨⟨rfl, rfl⟩, ⟨rfl, trivial⟩, rfl, trivial⟩

def spec_l1Sign  (a1 : Int) : Option Int :=
  (if (0 : Int) < a1 then some 1 else (if a1 < (0 : Int) then some (-1) else some 0))
set_option maxHeartbeats 4000000 in
set_option maxRecDepth 100000 in
theorem spec_l1Sign_ct  {a1 : Int} {r : Int} (h : spec_l1Sign a1 = some r) : Ct prog 78 [.d (D.int .i64 a1)] (⟨[], []⟩) (.d (D.int .i64 r)) (⟨[], []⟩) := by
  rw [spec_l1Sign] at h
  refine Ct.of (c := _) mixed func78 ⟨rfl, rfl, rfl⟩ ?_ rfl
  conv => whnf
  refine splD (fun g2 => ?_) (fun g2 => ?_)
  · replace h := iteP h g2
    conv => whnf
    cases h
    exact Done.of [] [] rfl rfl ⟨⟨rfl, rfl⟩, ⟨rfl, trivial⟩, rfl, trivial⟩
  · replace h := iteN h g2
    conv => whnf
    refine splD (fun g3 => ?_) (fun g3 => ?_)
    · replace h := iteP h g3
      conv => whnf
      cases h
      exact Done.of [] [] rfl rfl ⟨⟨rfl, rfl⟩, ⟨rfl, trivial⟩, rfl, trivial⟩
    · replace h := iteN h g3
      conv => whnf
      cases h
      exact Done.of [] [] rfl rfl ⟨⟨rfl, rfl⟩, ⟨rfl, trivial⟩, rfl, trivial⟩

def spec_odCmp_p2 (a1 : Rw) (a2 : Rw) : Option Int :=
  (if (a1.length : Int) < (a2.length : Int) then some (-1) else some 0)
set_option maxHeartbeats 4000000 in
set_option maxRecDepth 100000 in
theorem spec_odCmp_p2_ct {a1 : Rw} {a2 : Rw} {r : Int} (h : spec_odCmp_p2 a1 a2 = some r) : X prog 0 (tlF f49 2) (mk 60 [(2, .ptr 128 0), (3, .ptr 192 0)] [(128, .box 32 [.d (D.sl a1)]), (192, .box 32 [.d (D.sl a2)])]) (finK prog f49 0 (.d (D.int .i64 r)) (⟨[], []⟩)) := by
  rw [spec_odCmp_p2] at h
  conv => whnf
  refine splD (fun g37 => ?_) (fun g37 => ?_)
  · replace h := iteP h g37
    conv => whnf
    cases h
    exact Done.of [] [] rfl rfl ⟨⟨rfl, rfl⟩, ⟨rfl, trivial⟩, rfl, trivial⟩
  · replace h := iteN h g37
    conv => whnf
    cases h
    exact Done.of [] [] rfl rfl ⟨⟨rfl, rfl⟩, ⟨rfl, trivial⟩, rfl, trivial⟩
def spec_odCmp_l0 (rec_spec_odCmp : Rw → Rw → Option Int) (a1 : Rw) (a2 : Rw) (K0 : Option Int) : Rw → Nat → Option Int
  | [], v54n => (K0)
  | cs :: rest, v54n => (cell_si cs fun x71 x72 => (if (v54n : Int) = (a2.length : Int) then some 1 else (row_si a2 (v54n : Int) fun x75 x76 => ((rec_spec_odCmp x71 x75).bind fun y79 => (if y79 = (0 : Int) then (if x72 = x76 then (spec_odCmp_l0 rec_spec_odCmp a1 a2 K0 rest (v54n + 1)) else ((spec_l1Sign (IntKind.i64.wrap (x72 - x76))).bind fun y83 => some y83)) else some y79)))))
set_option maxRecDepth 100000 in
theorem spec_odCmp_l0_ct {rec_spec_odCmp : Rw → Rw → Option Int} {a1 : Rw} {a2 : Rw} {K0 : Option Int} (hrec_spec_odCmp : ∀ (a1 : Rw) (a2 : Rw) (r : Int), rec_spec_odCmp a1 a2 = some r → Ct prog 49 [.agg [.d (D.sl a1)], .agg [.d (D.sl a2)]] (⟨[], []⟩) (.d (D.int .i64 r)) (⟨[], []⟩)) {r : Int} (hx : a1.length ≤ cap) : ∀ (rest : Rw) (v54n : Nat), a1.drop v54n = rest → spec_odCmp_l0 rec_spec_odCmp a1 a2 K0 rest v54n = some r → LoopOk prog 0 (lp f49 0) (mk 60 [(2, .ptr 128 0), (3, .ptr 192 0), (9, .d (D.sl a1)), (10, .d (D.int .i64 (a1.length : Int))), (11, .d (D.int .i64 (v54n : Int)))] [(128, .box 32 [.d (D.sl a1)]), (192, .box 32 [.d (D.sl a2)])]) (LoopEnd prog f49 0 60 (.d (D.int .i64 r)) (⟨[], []⟩) (fun i ts os => (i = 0 ∧ K0 = some r ∧ ts = [(2, .ptr 128 0), (3, .ptr 192 0)] ∧ os = [(128, .box 32 [.d (D.sl a1)]), (192, .box 32 [.d (D.sl a2)])])))
  | [], v54n, hd, h => by
      rw [spec_odCmp_l0] at h
      have hn := drop_nil hd
      refine LoopOk.step ?_
      conv => whnf
      refine splD (fun g => absurd g hn) (fun _ => ?_)
      conv => whnf
      exact ⟨_, _, [some 128, some 192], [], ⟨rfl, h, rfl, rfl⟩, ⟨⟨rfl, rfl⟩, ⟨rfl, ⟨rfl, rfl, trivial⟩, ⟨rfl, rfl, trivial⟩, trivial⟩, ⟨rfl, rfl⟩, ⟨rfl, rfl⟩, trivial⟩⟩
  | cs :: rest, v54n, hd, h => by
      rw [spec_odCmp_l0] at h
      obtain ⟨hrow, hd1, hlt⟩ := drop_cons hd
      refine LoopOk.step ?_
      conv => whnf
      refine splD (fun _ => ?_) (fun g => absurd hlt g)
      conv => whnf
      obtain ⟨x71, x72, e73, h⟩ := cell_si_ex h
      rw [e73] at hrow
      refine Req.of (Int.natCast_nonneg _) ?_
      refine Row.of _ hrow ?_
      conv => whnf
      refine splD (fun g74 => ?_) (fun g74 => ?_)
      · replace h := iteP h g74
        conv => whnf
        cases h
        exact Done.of [] [] rfl rfl ⟨⟨rfl, rfl⟩, ⟨rfl, trivial⟩, rfl, trivial⟩
      · replace h := iteN h g74
        conv => whnf
        obtain ⟨g78, x75, x76, e77, h⟩ := row_si_ex h
        refine Req.of g78 ?_
        refine Row.of _ e77 ?_
        conv => whnf
        refine Pick.no ?_
        conv => whnf
        obtain ⟨y79, e80, h⟩ := bind_ex h
        refine CallOk.of (hrec_spec_odCmp _ _ _ e80) ?_
        conv => whnf
        refine CutK.norm [2, 3, 5, 6, 7, 9, 10, 11] [128, 192, 384] ?_
        conv => whnf
        refine splN (fun g81 => ?_) (fun g81 => ?_)
        · replace h := iteN h g81
          conv => whnf
          cases h
          exact Done.of [] [] rfl rfl ⟨⟨rfl, rfl⟩, ⟨rfl, trivial⟩, rfl, trivial⟩
        · replace h := iteP h g81
          conv => whnf
          refine CutK.norm [2, 3, 5, 6, 9, 10, 11] [128, 192, 384] ?_
          conv => whnf
          refine Req.of g78 ?_
          refine Row.of _ e77 ?_
          conv => whnf
          refine splN (fun g82 => ?_) (fun g82 => ?_)
          · replace h := iteN h g82
            conv => whnf
            refine Req.of g78 ?_
            refine Row.of _ e77 ?_
            conv => whnf
            refine Pick.no ?_
            conv => whnf
            obtain ⟨y83, e84, h⟩ := bind_ex h
            refine CallOk.of (spec_l1Sign_ct e84) ?_
            conv => whnf
            refine CutK.norm [4] [] ?_
            conv => whnf
            cases h
            exact Done.of [] [] rfl rfl ⟨⟨rfl, rfl⟩, ⟨rfl, trivial⟩, rfl, trivial⟩
          · replace h := iteP h g82
            conv => whnf
            refine CutK.norm [2, 3, 9, 10, 11] [128, 192] ?_
            conv => whnf
            exact LoopOk.back (spec_odCmp_l0_ct hrec_spec_odCmp hx rest (v54n + 1)  hd1 h) [some 128, some 192] [] ⟨⟨rfl, rfl⟩, ⟨rfl, ⟨rfl, rfl, trivial⟩, ⟨rfl, rfl, trivial⟩, trivial⟩, ⟨rfl, rfl⟩, ⟨rfl, rfl⟩, rfl, rfl, i64eq (wrap_up hlt hx), trivial⟩
def spec_odCmp_b (rec_spec_odCmp : Rw → Rw → Option Int) (a1 : Rw) (a2 : Rw) : Option Int :=
  (if a1.length ≤ cap then (spec_odCmp_l0 rec_spec_odCmp a1 a2 (spec_odCmp_p2 a1 a2) a1 0) else none)
set_option maxHeartbeats 4000000 in
set_option maxRecDepth 100000 in
theorem spec_odCmp_b_ct {rec_spec_odCmp : Rw → Rw → Option Int} (hrec_spec_odCmp : ∀ (a1 : Rw) (a2 : Rw) (r : Int), rec_spec_odCmp a1 a2 = some r → Ct prog 49 [.agg [.d (D.sl a1)], .agg [.d (D.sl a2)]] (⟨[], []⟩) (.d (D.int .i64 r)) (⟨[], []⟩)) {a1 : Rw} {a2 : Rw} {r : Int} (h : spec_odCmp_b rec_spec_odCmp a1 a2 = some r) : Ct prog 49 [.agg [.d (D.sl a1)], .agg [.d (D.sl a2)]] (⟨[], []⟩) (.d (D.int .i64 r)) (⟨[], []⟩) := by
  rw [spec_odCmp_b] at h
  refine Ct.of (c := _) mixed func49 ⟨rfl, rfl, rfl⟩ ?_ rfl
  conv => whnf
  obtain ⟨g85, h⟩ := req_ex h
  refine LoopOk.into (spec_odCmp_l0_ct hrec_spec_odCmp g85 _ _  rfl h) [some 128, some 192] [] ⟨⟨rfl, rfl⟩, ⟨rfl, ⟨rfl, rfl, trivial⟩, ⟨rfl, rfl, trivial⟩, trivial⟩, ⟨rfl, rfl⟩, ⟨rfl, rfl⟩, rfl, rfl, rfl, trivial⟩ ?_ (fun _ hs => hs)
  rintro i ts os ⟨rfl, h, rfl, rfl⟩
  conv => whnf
  exact CutK.piece (spec_odCmp_p2_ct  h) [some 128, some 192] [] ⟨⟨rfl, rfl⟩, ⟨rfl, ⟨rfl, rfl, trivial⟩, ⟨rfl, rfl, trivial⟩, trivial⟩, ⟨rfl, rfl⟩, ⟨rfl, rfl⟩, trivial⟩
def spec_odCmp : Nat → Rw → Rw → Option Int
  | 0, _, _ => none
  | k + 1, a1, a2 => spec_odCmp_b (spec_odCmp k) a1 a2
theorem spec_odCmp_ct' : ∀ (k : Nat) (a1 : Rw) (a2 : Rw) (r : Int), spec_odCmp k a1 a2 = some r → Ct prog 49 [.agg [.d (D.sl a1)], .agg [.d (D.sl a2)]] (⟨[], []⟩) (.d (D.int .i64 r)) (⟨[], []⟩)
  | 0, _, _, _, h => by rw [spec_odCmp] at h; cases h
  | k + 1, _, _, _, h => by rw [spec_odCmp] at h; exact spec_odCmp_b_ct (spec_odCmp_ct' k) h
theorem spec_odCmp_ct {k : Nat} {a1 : Rw} {a2 : Rw} {r : Int} (h : spec_odCmp k a1 a2 = some r) : Ct prog 49 [.agg [.d (D.sl a1)], .agg [.d (D.sl a2)]] (⟨[], []⟩) (.d (D.int .i64 r)) (⟨[], []⟩) := spec_odCmp_ct' k _ _ _ h

def spec_odForm_p3  : Option Bool :=
  some true
set_option maxHeartbeats 4000000 in
set_option maxRecDepth 100000 in
theorem spec_odForm_p3_ct  {r : Bool} (h : spec_odForm_p3 = some r) : X prog 0 (tlF f59 3) (mk 47 [] []) (finK prog f59 0 (.d (D.bool r)) (⟨[], []⟩)) := by
  rw [spec_odForm_p3] at h
  conv => whnf
  cases h
  exact Done.of [] [] rfl rfl ⟨⟨rfl, rfl⟩, ⟨rfl, trivial⟩, rfl, trivial⟩
def spec_odForm_l0 (k : Nat) (rec_spec_odForm : Rw → Int → Option Bool) (a1 : Rw) (a2 : Int) (K0 : Option Bool) : Rw → Nat → Option Bool
  | [], v47n => (K0)
  | cs :: rest, v47n => (cell_si cs fun x67 x68 => ((spec_l1In x68 1 1000000).bind fun y70 => (if y70 = true then ((rec_spec_odForm x67 (IntKind.i64.wrap (a2 - 1))).bind fun y73 => (if y73 = true then (if (0 : Int) < (v47n : Int) then (row_si a1 (IntKind.i64.wrap ((v47n : Int) - 1)) fun x77 x78 => ((spec_odCmp k x77 x67).bind fun y81 => (if y81 ≤ (0 : Int) then some false else (spec_odForm_l0 k rec_spec_odForm a1 a2 K0 rest (v47n + 1))))) else (spec_odForm_l0 k rec_spec_odForm a1 a2 K0 rest (v47n + 1))) else some false)) else some false)))
set_option maxRecDepth 100000 in
theorem spec_odForm_l0_ct {k : Nat} {rec_spec_odForm : Rw → Int → Option Bool} {a1 : Rw} {a2 : Int} {K0 : Option Bool} (hrec_spec_odForm : ∀ (a1 : Rw) (a2 : Int) (r : Bool), rec_spec_odForm a1 a2 = some r → Ct prog 59 [.agg [.d (D.sl a1)], .d (D.int .i64 a2)] (⟨[], []⟩) (.d (D.bool r)) (⟨[], []⟩)) {r : Bool} (hx : a1.length ≤ cap) : ∀ (rest : Rw) (v47n : Nat), a1.drop v47n = rest → spec_odForm_l0 k rec_spec_odForm a1 a2 K0 rest v47n = some r → LoopOk prog 0 (lp f59 0) (mk 47 [(1, .d (D.int .i64 a2)), (2, .ptr 128 0), (10, .d (D.sl a1)), (11, .d (D.int .i64 (a1.length : Int))), (12, .d (D.int .i64 (v47n : Int)))] [(128, .box 32 [.d (D.sl a1)])]) (LoopEnd prog f59 0 47 (.d (D.bool r)) (⟨[], []⟩) (fun i ts os => (i = 0 ∧ K0 = some r ∧ ts = [] ∧ os = [])))
  | [], v47n, hd, h => by
      rw [spec_odForm_l0] at h
      have hn := drop_nil hd
      refine LoopOk.step ?_
      conv => whnf
      refine splD (fun g => absurd g hn) (fun _ => ?_)
      conv => whnf
      exact ⟨_, _, [], [], ⟨rfl, h, rfl, rfl⟩, ⟨⟨rfl, rfl⟩, ⟨rfl, trivial⟩, trivial⟩⟩
  | cs :: rest, v47n, hd, h => by
      rw [spec_odForm_l0] at h
      obtain ⟨hrow, hd1, hlt⟩ := drop_cons hd
      refine LoopOk.step ?_
      conv => whnf
      refine splD (fun _ => ?_) (fun g => absurd hlt g)
      conv => whnf
      obtain ⟨x67, x68, e69, h⟩ := cell_si_ex h
      rw [e69] at hrow
      refine Req.of (Int.natCast_nonneg _) ?_
      refine Row.of _ hrow ?_
      conv => whnf
      refine Pick.no ?_
      conv => whnf
      obtain ⟨y70, e71, h⟩ := bind_ex h
      refine CallOk.of (spec_l1In_ct e71) ?_
      conv => whnf
      refine spl (fun g72 => ?_) (fun g72 => ?_)
      · replace h := iteT h g72
        conv => whnf
        refine Pick.no ?_
        conv => whnf
        obtain ⟨y73, e74, h⟩ := bind_ex h
        refine CallOk.of (hrec_spec_odForm _ _ _ e74) ?_
        conv => whnf
        refine spl (fun g75 => ?_) (fun g75 => ?_)
        · replace h := iteT h g75
          conv => whnf
          refine splD (fun g76 => ?_) (fun g76 => ?_)
          · replace h := iteP h g76
            conv => whnf
            obtain ⟨g80, x77, x78, e79, h⟩ := row_si_ex h
            refine Req.of g80 ?_
            refine Row.of _ e79 ?_
            conv => whnf
            refine Pick.no ?_
            conv => whnf
            obtain ⟨y81, e82, h⟩ := bind_ex h
            refine CallOk.of (spec_odCmp_ct e82) ?_
            conv => whnf
            refine splD (fun g83 => ?_) (fun g83 => ?_)
            · replace h := iteP h g83
              conv => whnf
              refine CutK.norm [1, 2, 10, 11, 12, 45] [128] ?_
              conv => whnf
              cases h
              exact Done.of [] [] rfl rfl ⟨⟨rfl, rfl⟩, ⟨rfl, trivial⟩, rfl, trivial⟩
            · replace h := iteN h g83
              conv => whnf
              refine CutK.norm [1, 2, 10, 11, 12, 45] [128] ?_
              conv => whnf
              refine CutK.norm [1, 2, 10, 11, 12] [128] ?_
              conv => whnf
              exact LoopOk.back (spec_odForm_l0_ct hrec_spec_odForm hx rest (v47n + 1)  hd1 h) [some 128] [] ⟨⟨rfl, rfl⟩, ⟨rfl, ⟨rfl, rfl, trivial⟩, trivial⟩, rfl, ⟨rfl, rfl⟩, rfl, rfl, i64eq (wrap_up hlt hx), trivial⟩
          · replace h := iteN h g76
            conv => whnf
            refine CutK.norm [1, 2, 10, 11, 12, 45] [128] ?_
            conv => whnf
            refine CutK.norm [1, 2, 10, 11, 12] [128] ?_
            conv => whnf
            exact LoopOk.back (spec_odForm_l0_ct hrec_spec_odForm hx rest (v47n + 1)  hd1 h) [some 128] [] ⟨⟨rfl, rfl⟩, ⟨rfl, ⟨rfl, rfl, trivial⟩, trivial⟩, rfl, ⟨rfl, rfl⟩, rfl, rfl, i64eq (wrap_up hlt hx), trivial⟩
        · replace h := iteF h g75
          conv => whnf
          refine CutK.norm [1, 2, 10, 11, 12, 45] [128] ?_
          conv => whnf
          cases h
          exact Done.of [] [] rfl rfl ⟨⟨rfl, rfl⟩, ⟨rfl, trivial⟩, rfl, trivial⟩
      · replace h := iteF h g72
        conv => whnf
        refine CutK.norm [1, 2, 10, 11, 12, 45] [128] ?_
        conv => whnf
        cases h
        exact Done.of [] [] rfl rfl ⟨⟨rfl, rfl⟩, ⟨rfl, trivial⟩, rfl, trivial⟩
def spec_odForm_b (k : Nat) (rec_spec_odForm : Rw → Int → Option Bool) (a1 : Rw) (a2 : Int) : Option Bool :=
  (if a2 < (0 : Int) then some false else (if a1.length ≤ cap then (spec_odForm_l0 k rec_spec_odForm a1 a2 (spec_odForm_p3) a1 0) else none))
set_option maxHeartbeats 4000000 in
set_option maxRecDepth 100000 in
theorem spec_odForm_b_ct {k : Nat} {rec_spec_odForm : Rw → Int → Option Bool} (hrec_spec_odForm : ∀ (a1 : Rw) (a2 : Int) (r : Bool), rec_spec_odForm a1 a2 = some r → Ct prog 59 [.agg [.d (D.sl a1)], .d (D.int .i64 a2)] (⟨[], []⟩) (.d (D.bool r)) (⟨[], []⟩)) {a1 : Rw} {a2 : Int} {r : Bool} (h : spec_odForm_b k rec_spec_odForm a1 a2 = some r) : Ct prog 59 [.agg [.d (D.sl a1)], .d (D.int .i64 a2)] (⟨[], []⟩) (.d (D.bool r)) (⟨[], []⟩) := by
  rw [spec_odForm_b] at h
  refine Ct.of (c := _) mixed func59 ⟨rfl, rfl, rfl⟩ ?_ rfl
  conv => whnf
  refine splD (fun g35 => ?_) (fun g35 => ?_)
  · replace h := iteP h g35
    conv => whnf
    cases h
    exact Done.of [] [] rfl rfl ⟨⟨rfl, rfl⟩, ⟨rfl, trivial⟩, rfl, trivial⟩
  · replace h := iteN h g35
    conv => whnf
    obtain ⟨g84, h⟩ := req_ex h
    refine LoopOk.into (spec_odForm_l0_ct hrec_spec_odForm g84 _ _  rfl h) [some 128] [] ⟨⟨rfl, rfl⟩, ⟨rfl, ⟨rfl, rfl, trivial⟩, trivial⟩, rfl, ⟨rfl, rfl⟩, rfl, rfl, rfl, trivial⟩ ?_ (fun _ hs => hs)
    rintro i ts os ⟨rfl, h, rfl, rfl⟩
    conv => whnf
    exact CutK.piece (spec_odForm_p3_ct  h) [] [] ⟨⟨rfl, rfl⟩, ⟨rfl, trivial⟩, trivial⟩
def spec_odForm : Nat → Rw → Int → Option Bool
  | 0, _, _ => none
  | k + 1, a1, a2 => spec_odForm_b k (spec_odForm k) a1 a2
theorem spec_odForm_ct' : ∀ (k : Nat) (a1 : Rw) (a2 : Int) (r : Bool), spec_odForm k a1 a2 = some r → Ct prog 59 [.agg [.d (D.sl a1)], .d (D.int .i64 a2)] (⟨[], []⟩) (.d (D.bool r)) (⟨[], []⟩)
  | 0, _, _, _, h => by rw [spec_odForm] at h; cases h
  | k + 1, _, _, _, h => by rw [spec_odForm] at h; exact spec_odForm_b_ct (spec_odForm_ct' k) h
theorem spec_odForm_ct {k : Nat} {a1 : Rw} {a2 : Int} {r : Bool} (h : spec_odForm k a1 a2 = some r) : Ct prog 59 [.agg [.d (D.sl a1)], .d (D.int .i64 a2)] (⟨[], []⟩) (.d (D.bool r)) (⟨[], []⟩) := spec_odForm_ct' k _ _ _ h

def spec_odGood (k : Nat) (a1 : Rw) : Option Bool :=
  ((spec_odLeft k a1 6 60).bind fun y2 => (if (0 : Int) ≤ y2 then ((spec_odForm k a1 6).bind fun y5 => (if y5 = true then some true else some false)) else some false))
set_option maxHeartbeats 4000000 in
set_option maxRecDepth 100000 in
theorem spec_odGood_ct {k : Nat} {a1 : Rw} {r : Bool} (h : spec_odGood k a1 = some r) : Ct prog 32 [.agg [.d (D.sl a1)]] (⟨[], []⟩) (.d (D.bool r)) (⟨[], []⟩) := by
  rw [spec_odGood] at h
  refine Ct.of (c := _) mixed func32 ⟨rfl, rfl, rfl⟩ ?_ rfl
  conv => whnf
  refine Pick.no ?_
  conv => whnf
  obtain ⟨y2, e3, h⟩ := bind_ex h
  refine CallOk.of (spec_odLeft_ct e3) ?_
  conv => whnf
  refine splD (fun g4 => ?_) (fun g4 => ?_)
  · replace h := iteP h g4
    conv => whnf
    refine Pick.no ?_
    conv => whnf
    obtain ⟨y5, e6, h⟩ := bind_ex h
    refine CallOk.of (spec_odForm_ct e6) ?_
    conv => whnf
    refine spl (fun g7 => ?_) (fun g7 => ?_)
    · replace h := iteT h g7
      conv => whnf
      refine CutK.go ?_
      conv => whnf
      cases h
      exact Done.of [] [] rfl rfl ⟨⟨rfl, rfl⟩, ⟨rfl, trivial⟩, rfl, trivial⟩
    · replace h := iteF h g7
      conv => whnf
      refine CutK.go ?_
      conv => whnf
      cases h
      exact Done.of [] [] rfl rfl ⟨⟨rfl, rfl⟩, ⟨rfl, trivial⟩, rfl, trivial⟩
  · replace h := iteN h g4
    conv => whnf
    refine CutK.go ?_
    conv => whnf
    cases h
    exact Done.of [] [] rfl rfl ⟨⟨rfl, rfl⟩, ⟨rfl, trivial⟩, rfl, trivial⟩

def spec_odZero  (a1 : Rw) : Option Bool :=
  (if (a1.length : Int) = (0 : Int) then some true else some false)
set_option maxHeartbeats 4000000 in
set_option maxRecDepth 100000 in
theorem spec_odZero_ct  {a1 : Rw} {r : Bool} (h : spec_odZero a1 = some r) : Ct prog 48 [.agg [.d (D.sl a1)]] (⟨[], []⟩) (.d (D.bool r)) (⟨[], []⟩) := by
  rw [spec_odZero] at h
  refine Ct.of (c := _) mixed func48 ⟨rfl, rfl, rfl⟩ ?_ rfl
  conv => whnf
  refine splD (fun g2 => ?_) (fun g2 => ?_)
  · replace h := iteP h g2
    conv => whnf
    cases h
    exact Done.of [] [] rfl rfl ⟨⟨rfl, rfl⟩, ⟨rfl, trivial⟩, rfl, trivial⟩
  · replace h := iteN h g2
    conv => whnf
    cases h
    exact Done.of [] [] rfl rfl ⟨⟨rfl, rfl⟩, ⟨rfl, trivial⟩, rfl, trivial⟩

def spec_l1Num_b (rec_spec_l1Num : Int → Option ByteArray) (a1 : Int) : Option ByteArray :=
  (if a1 < (10 : Int) then ((strD ([[D.int .u8 (IntKind.u8.wrap (IntKind.i64.wrap (48 + a1)))]] : Rw)).bind fun y3 => some y3) else ((rec_spec_l1Num (IntKind.i64.wrap (a1.tdiv 10))).bind fun y5 => ((strD ([[D.int .u8 (IntKind.u8.wrap (IntKind.i64.wrap (48 + (a1.tmod 10))))]] : Rw)).bind fun y7 => (if y5.size + y7.size ≤ 9223372036854775807 then some (y5 ++ y7) else none))))
set_option maxHeartbeats 4000000 in
set_option maxRecDepth 100000 in
theorem spec_l1Num_b_ct {rec_spec_l1Num : Int → Option ByteArray} (hrec_spec_l1Num : ∀ (a1 : Int) (r : ByteArray), rec_spec_l1Num a1 = some r → Ct prog 25 [.d (D.int .i64 a1)] (⟨[], []⟩) (.d (D.str r)) (⟨[], []⟩)) {a1 : Int} {r : ByteArray} (h : spec_l1Num_b rec_spec_l1Num a1 = some r) : Ct prog 25 [.d (D.int .i64 a1)] (⟨[], []⟩) (.d (D.str r)) (⟨[], []⟩) := by
  rw [spec_l1Num_b] at h
  refine Ct.of (c := _) mixed func25 ⟨rfl, rfl, rfl⟩ ?_ rfl
  conv => whnf
  refine splD (fun g2 => ?_) (fun g2 => ?_)
  · replace h := iteP h g2
    conv => whnf
    obtain ⟨y3, e4, h⟩ := bind_ex h
    refine StrOk.of e4 (by first | rfl | exact List.length_append.symm | (simp; done) | omega) ?_
    conv => whnf
    cases h
    exact Done.of [] [] rfl rfl ⟨⟨rfl, rfl⟩, ⟨rfl, trivial⟩, rfl, trivial⟩
  · replace h := iteN h g2
    conv => whnf
    refine Req.of (by decide) ?_
    conv => whnf
    refine Pick.no ?_
    conv => whnf
    obtain ⟨y5, e6, h⟩ := bind_ex h
    refine CallOk.of (hrec_spec_l1Num _ _ e6) ?_
    conv => whnf
    refine Req.of (by decide) ?_
    conv => whnf
    obtain ⟨y7, e8, h⟩ := bind_ex h
    refine StrOk.of e8 (by first | rfl | exact List.length_append.symm | (simp; done) | omega) ?_
    conv => whnf
    obtain ⟨g9, h⟩ := req_ex h
    refine Req.of g9 ?_
    conv => whnf
    refine CutK.go ?_
    conv => whnf
    cases h
    exact Done.of [] [] rfl rfl ⟨⟨rfl, rfl⟩, ⟨rfl, trivial⟩, rfl, trivial⟩
def spec_l1Num : Nat → Int → Option ByteArray
  | 0, _ => none
  | k + 1, a1 => spec_l1Num_b (spec_l1Num k) a1
theorem spec_l1Num_ct' : ∀ (k : Nat) (a1 : Int) (r : ByteArray), spec_l1Num k a1 = some r → Ct prog 25 [.d (D.int .i64 a1)] (⟨[], []⟩) (.d (D.str r)) (⟨[], []⟩)
  | 0, _, _, h => by rw [spec_l1Num] at h; cases h
  | k + 1, _, _, h => by rw [spec_l1Num] at h; exact spec_l1Num_b_ct (spec_l1Num_ct' k) h
theorem spec_l1Num_ct {k : Nat} {a1 : Int} {r : ByteArray} (h : spec_l1Num k a1 = some r) : Ct prog 25 [.d (D.int .i64 a1)] (⟨[], []⟩) (.d (D.str r)) (⟨[], []⟩) := spec_l1Num_ct' k _ _ h

def spec_odTerm  (a1 : Rw) (a2 : Int) : Option Rw :=
  (if a2 = (0 : Int) then some ([] : Rw) else some ([[D.sl a1, D.int .i64 a2]] : Rw))
set_option maxHeartbeats 4000000 in
set_option maxRecDepth 100000 in
theorem spec_odTerm_ct  {a1 : Rw} {a2 : Int} {r : Rw} (h : spec_odTerm a1 a2 = some r) : Ct prog 79 [.agg [.d (D.sl a1)], .d (D.int .i64 a2)] (⟨[], []⟩) (.agg [.os 8 r.length]) (⟨[], [(75, false, r)]⟩) := by
  rw [spec_odTerm] at h
  refine Ct.of (c := _) mixed func79 ⟨rfl, rfl, rfl⟩ ?_ rfl
  conv => whnf
  refine splD (fun g3 => ?_) (fun g3 => ?_)
  · replace h := iteP h g3
    conv => whnf
    cases h
    exact Done.of [none] [] rfl rfl ⟨⟨rfl, rfl⟩, ⟨rfl, rfl, trivial⟩, ⟨⟨rfl, rfl⟩, trivial⟩, trivial⟩
  · replace h := iteN h g3
    conv => whnf
    cases h
    exact Done.of [some 704] [] rfl rfl ⟨⟨rfl, rfl⟩, ⟨rfl, ⟨rfl, rfl, rows_same⟩, trivial⟩, ⟨⟨(by first | rfl | exact List.length_append.symm | (simp; done) | omega), rfl⟩, trivial⟩, trivial⟩

def spec_odInt  (a1 : Int) : Option Rw :=
  ((spec_odTerm ([] : Rw) a1).bind fun y2 => some y2)
set_option maxHeartbeats 4000000 in
set_option maxRecDepth 100000 in
theorem spec_odInt_ct  {a1 : Int} {r : Rw} (h : spec_odInt a1 = some r) : Ct prog 50 [.d (D.int .i64 a1)] (⟨[], []⟩) (.agg [.os 8 r.length]) (⟨[], [(75, false, r)]⟩) := by
  rw [spec_odInt] at h
  refine Ct.of (c := _) mixed func50 ⟨rfl, rfl, rfl⟩ ?_ rfl
  conv => whnf
  refine Pick.no ?_
  conv => whnf
  obtain ⟨y2, e3, h⟩ := bind_ex h
  refine CallOk.of (spec_odTerm_ct e3) ?_
  conv => whnf
  refine CutK.go ?_
  conv => whnf
  cases h
  exact Done.of [some 320] [] rfl rfl ⟨⟨rfl, rfl⟩, ⟨rfl, ⟨rfl, rfl, rows_same⟩, trivial⟩, ⟨⟨rfl, rfl⟩, trivial⟩, trivial⟩

def spec_odText_p3 (o159 : ByteArray) : Option ByteArray :=
  (if (o159.toList == (ByteArray.mk #[]).toList) = true then some (ByteArray.mk #[48]) else some o159)
set_option maxHeartbeats 4000000 in
set_option maxRecDepth 100000 in
theorem spec_odText_p3_ct {o159 : ByteArray} {r : ByteArray} (h : spec_odText_p3 o159 = some r) : X prog 0 (tlF f33 3) (mk 53 [(3, .d (D.str o159))] []) (finK prog f33 0 (.d (D.str r)) (⟨[], []⟩)) := by
  rw [spec_odText_p3] at h
  conv => whnf
  refine spl (fun g161 => ?_) (fun g161 => ?_)
  · replace h := iteT h g161
    conv => whnf
    cases h
    exact Done.of [] [] rfl rfl ⟨⟨rfl, rfl⟩, ⟨rfl, trivial⟩, rfl, trivial⟩
  · replace h := iteF h g161
    conv => whnf
    cases h
    exact Done.of [] [] rfl rfl ⟨⟨rfl, rfl⟩, ⟨rfl, trivial⟩, rfl, trivial⟩
def spec_odText_l0 (k : Nat) (rec_spec_odText : Rw → Option ByteArray) (a1 : Rw) (K0 : ByteArray → Option ByteArray) : Rw → Nat → ByteArray → Option ByteArray
  | [], v174n, v173 => (K0 v173)
  | cs :: rest, v174n, v173 => (cell_si cs fun x319 x320 => (if (0 : Int) < (v174n : Int) then (if v173.size + (ByteArray.mk #[43]).size ≤ 9223372036854775807 then ((spec_odZero x319).bind fun y324 => (if y324 = true then ((spec_l1Num k x320).bind fun y327 => (if (v173 ++ (ByteArray.mk #[43])).size + y327.size ≤ 9223372036854775807 then (spec_odText_l0 k rec_spec_odText a1 K0 rest (v174n + 1) ((v173 ++ (ByteArray.mk #[43])) ++ y327)) else none)) else (if (v173 ++ (ByteArray.mk #[43])).size + (ByteArray.mk #[119]).size ≤ 9223372036854775807 then ((spec_odInt 1).bind fun y331 => ((spec_odCmp k x319 y331).bind fun y333 => (if y333 = (0 : Int) then (if (1 : Int) < x320 then ((spec_l1Num k x320).bind fun y347 => (if (ByteArray.mk #[42]).size + y347.size ≤ 9223372036854775807 then (if ((v173 ++ (ByteArray.mk #[43])) ++ (ByteArray.mk #[119])).size + ((ByteArray.mk #[42]) ++ y347).size ≤ 9223372036854775807 then (spec_odText_l0 k rec_spec_odText a1 K0 rest (v174n + 1) (((v173 ++ (ByteArray.mk #[43])) ++ (ByteArray.mk #[119])) ++ ((ByteArray.mk #[42]) ++ y347))) else none) else none)) else (spec_odText_l0 k rec_spec_odText a1 K0 rest (v174n + 1) ((v173 ++ (ByteArray.mk #[43])) ++ (ByteArray.mk #[119])))) else ((rec_spec_odText x319).bind fun y336 => (if (ByteArray.mk #[94, 40]).size + y336.size ≤ 9223372036854775807 then (if ((ByteArray.mk #[94, 40]) ++ y336).size + (ByteArray.mk #[41]).size ≤ 9223372036854775807 then (if ((v173 ++ (ByteArray.mk #[43])) ++ (ByteArray.mk #[119])).size + (((ByteArray.mk #[94, 40]) ++ y336) ++ (ByteArray.mk #[41])).size ≤ 9223372036854775807 then (if (1 : Int) < x320 then ((spec_l1Num k x320).bind fun y342 => (if (ByteArray.mk #[42]).size + y342.size ≤ 9223372036854775807 then (if (((v173 ++ (ByteArray.mk #[43])) ++ (ByteArray.mk #[119])) ++ (((ByteArray.mk #[94, 40]) ++ y336) ++ (ByteArray.mk #[41]))).size + ((ByteArray.mk #[42]) ++ y342).size ≤ 9223372036854775807 then (spec_odText_l0 k rec_spec_odText a1 K0 rest (v174n + 1) ((((v173 ++ (ByteArray.mk #[43])) ++ (ByteArray.mk #[119])) ++ (((ByteArray.mk #[94, 40]) ++ y336) ++ (ByteArray.mk #[41]))) ++ ((ByteArray.mk #[42]) ++ y342))) else none) else none)) else (spec_odText_l0 k rec_spec_odText a1 K0 rest (v174n + 1) (((v173 ++ (ByteArray.mk #[43])) ++ (ByteArray.mk #[119])) ++ (((ByteArray.mk #[94, 40]) ++ y336) ++ (ByteArray.mk #[41]))))) else none) else none) else none))))) else none))) else none) else ((spec_odZero x319).bind fun y351 => (if y351 = true then ((spec_l1Num k x320).bind fun y354 => (if v173.size + y354.size ≤ 9223372036854775807 then (spec_odText_l0 k rec_spec_odText a1 K0 rest (v174n + 1) (v173 ++ y354)) else none)) else (if v173.size + (ByteArray.mk #[119]).size ≤ 9223372036854775807 then ((spec_odInt 1).bind fun y358 => ((spec_odCmp k x319 y358).bind fun y360 => (if y360 = (0 : Int) then (if (1 : Int) < x320 then ((spec_l1Num k x320).bind fun y374 => (if (ByteArray.mk #[42]).size + y374.size ≤ 9223372036854775807 then (if (v173 ++ (ByteArray.mk #[119])).size + ((ByteArray.mk #[42]) ++ y374).size ≤ 9223372036854775807 then (spec_odText_l0 k rec_spec_odText a1 K0 rest (v174n + 1) ((v173 ++ (ByteArray.mk #[119])) ++ ((ByteArray.mk #[42]) ++ y374))) else none) else none)) else (spec_odText_l0 k rec_spec_odText a1 K0 rest (v174n + 1) (v173 ++ (ByteArray.mk #[119])))) else ((rec_spec_odText x319).bind fun y363 => (if (ByteArray.mk #[94, 40]).size + y363.size ≤ 9223372036854775807 then (if ((ByteArray.mk #[94, 40]) ++ y363).size + (ByteArray.mk #[41]).size ≤ 9223372036854775807 then (if (v173 ++ (ByteArray.mk #[119])).size + (((ByteArray.mk #[94, 40]) ++ y363) ++ (ByteArray.mk #[41])).size ≤ 9223372036854775807 then (if (1 : Int) < x320 then ((spec_l1Num k x320).bind fun y369 => (if (ByteArray.mk #[42]).size + y369.size ≤ 9223372036854775807 then (if ((v173 ++ (ByteArray.mk #[119])) ++ (((ByteArray.mk #[94, 40]) ++ y363) ++ (ByteArray.mk #[41]))).size + ((ByteArray.mk #[42]) ++ y369).size ≤ 9223372036854775807 then (spec_odText_l0 k rec_spec_odText a1 K0 rest (v174n + 1) (((v173 ++ (ByteArray.mk #[119])) ++ (((ByteArray.mk #[94, 40]) ++ y363) ++ (ByteArray.mk #[41]))) ++ ((ByteArray.mk #[42]) ++ y369))) else none) else none)) else (spec_odText_l0 k rec_spec_odText a1 K0 rest (v174n + 1) ((v173 ++ (ByteArray.mk #[119])) ++ (((ByteArray.mk #[94, 40]) ++ y363) ++ (ByteArray.mk #[41]))))) else none) else none) else none))))) else none)))))
set_option maxRecDepth 100000 in
theorem spec_odText_l0_ct {k : Nat} {rec_spec_odText : Rw → Option ByteArray} {a1 : Rw} {K0 : ByteArray → Option ByteArray} (hrec_spec_odText : ∀ (a1 : Rw) (r : ByteArray), rec_spec_odText a1 = some r → Ct prog 33 [.agg [.d (D.sl a1)]] (⟨[], []⟩) (.d (D.str r)) (⟨[], []⟩)) {r : ByteArray} (hx : a1.length ≤ cap) : ∀ (rest : Rw) (v174n : Nat) (v173 : ByteArray), a1.drop v174n = rest → spec_odText_l0 k rec_spec_odText a1 K0 rest v174n v173 = some r → LoopOk prog 0 (lp f33 0) (mk 53 [(3, .d (D.str v173)), (7, .d (D.sl a1)), (8, .d (D.int .i64 (a1.length : Int))), (9, .d (D.int .i64 (v174n : Int)))] []) (LoopEnd prog f33 0 53 (.d (D.str r)) (⟨[], []⟩) (fun i ts os => (i = 0 ∧ ∃ v257 : ByteArray, K0 v257 = some r ∧ ts = [(3, .d (D.str v257))] ∧ os = [])))
  | [], v174n, v173, hd, h => by
      rw [spec_odText_l0] at h
      have hn := drop_nil hd
      refine LoopOk.step ?_
      conv => whnf
      refine splD (fun g => absurd g hn) (fun _ => ?_)
      conv => whnf
      exact ⟨_, _, [], [], ⟨rfl, _, h, rfl, rfl⟩, ⟨⟨rfl, rfl⟩, ⟨rfl, trivial⟩, rfl, trivial⟩⟩
  | cs :: rest, v174n, v173, hd, h => by
      rw [spec_odText_l0] at h
      obtain ⟨hrow, hd1, hlt⟩ := drop_cons hd
      refine LoopOk.step ?_
      conv => whnf
      refine splD (fun _ => ?_) (fun g => absurd hlt g)
      conv => whnf
      obtain ⟨x319, x320, e321, h⟩ := cell_si_ex h
      rw [e321] at hrow
      refine Req.of (Int.natCast_nonneg _) ?_
      refine Row.of _ hrow ?_
      conv => whnf
      refine splD (fun g322 => ?_) (fun g322 => ?_)
      · replace h := iteP h g322
        conv => whnf
        obtain ⟨g323, h⟩ := req_ex h
        refine Req.of g323 ?_
        conv => whnf
        refine Pick.no ?_
        conv => whnf
        obtain ⟨y324, e325, h⟩ := bind_ex h
        refine CallOk.of (spec_odZero_ct e325) ?_
        conv => whnf
        refine spl (fun g326 => ?_) (fun g326 => ?_)
        · replace h := iteT h g326
          conv => whnf
          refine CutK.norm [3, 5, 7, 8, 9, 20] [320] ?_
          conv => whnf
          refine Pick.no ?_
          conv => whnf
          obtain ⟨y327, e328, h⟩ := bind_ex h
          refine CallOk.of (spec_l1Num_ct e328) ?_
          conv => whnf
          obtain ⟨g329, h⟩ := req_ex h
          refine Req.of g329 ?_
          conv => whnf
          refine CutK.norm [3, 7, 8, 9] [] ?_
          conv => whnf
          refine CutK.norm [3, 7, 8, 9] [] ?_
          conv => whnf
          exact LoopOk.back (spec_odText_l0_ct hrec_spec_odText hx rest (v174n + 1) _ hd1 h) [] [] ⟨⟨rfl, rfl⟩, ⟨rfl, trivial⟩, rfl, rfl, rfl, i64eq (wrap_up hlt hx), trivial⟩
        · replace h := iteF h g326
          conv => whnf
          refine CutK.norm [3, 5, 7, 8, 9, 20] [320] ?_
          conv => whnf
          refine CutK.norm [3, 5, 7, 8, 9] [320] ?_
          conv => whnf
          obtain ⟨g330, h⟩ := req_ex h
          refine Req.of g330 ?_
          conv => whnf
          refine Pick.no ?_
          conv => whnf
          obtain ⟨y331, e332, h⟩ := bind_ex h
          refine CallOk.of (spec_odInt_ct e332) ?_
          conv => whnf
          refine Pick.no ?_
          conv => whnf
          refine Take.all (rfl) ?_
          conv => whnf
          obtain ⟨y333, e334, h⟩ := bind_ex h
          refine CallOk.of (spec_odCmp_ct e334) ?_
          conv => whnf
          refine splN (fun g335 => ?_) (fun g335 => ?_)
          · replace h := iteN h g335
            conv => whnf
            refine CutK.norm [3, 5, 7, 8, 9, 32] [320] ?_
            conv => whnf
            refine Pick.no ?_
            conv => whnf
            obtain ⟨y336, e337, h⟩ := bind_ex h
            refine CallOk.of (hrec_spec_odText _ _ e337) ?_
            conv => whnf
            obtain ⟨g338, h⟩ := req_ex h
            refine Req.of g338 ?_
            conv => whnf
            obtain ⟨g339, h⟩ := req_ex h
            refine Req.of g339 ?_
            conv => whnf
            obtain ⟨g340, h⟩ := req_ex h
            refine Req.of g340 ?_
            conv => whnf
            refine CutK.norm [3, 5, 7, 8, 9] [320] ?_
            conv => whnf
            refine splD (fun g341 => ?_) (fun g341 => ?_)
            · replace h := iteP h g341
              conv => whnf
              refine Pick.no ?_
              conv => whnf
              obtain ⟨y342, e343, h⟩ := bind_ex h
              refine CallOk.of (spec_l1Num_ct e343) ?_
              conv => whnf
              obtain ⟨g344, h⟩ := req_ex h
              refine Req.of g344 ?_
              conv => whnf
              obtain ⟨g345, h⟩ := req_ex h
              refine Req.of g345 ?_
              conv => whnf
              refine CutK.norm [3, 7, 8, 9] [] ?_
              conv => whnf
              exact LoopOk.back (spec_odText_l0_ct hrec_spec_odText hx rest (v174n + 1) _ hd1 h) [] [] ⟨⟨rfl, rfl⟩, ⟨rfl, trivial⟩, rfl, rfl, rfl, i64eq (wrap_up hlt hx), trivial⟩
            · replace h := iteN h g341
              conv => whnf
              refine CutK.norm [3, 7, 8, 9] [] ?_
              conv => whnf
              exact LoopOk.back (spec_odText_l0_ct hrec_spec_odText hx rest (v174n + 1) _ hd1 h) [] [] ⟨⟨rfl, rfl⟩, ⟨rfl, trivial⟩, rfl, rfl, rfl, i64eq (wrap_up hlt hx), trivial⟩
          · replace h := iteP h g335
            conv => whnf
            refine CutK.norm [3, 5, 7, 8, 9, 32] [320] ?_
            conv => whnf
            refine CutK.norm [3, 5, 7, 8, 9] [320] ?_
            conv => whnf
            refine splD (fun g346 => ?_) (fun g346 => ?_)
            · replace h := iteP h g346
              conv => whnf
              refine Pick.no ?_
              conv => whnf
              obtain ⟨y347, e348, h⟩ := bind_ex h
              refine CallOk.of (spec_l1Num_ct e348) ?_
              conv => whnf
              obtain ⟨g349, h⟩ := req_ex h
              refine Req.of g349 ?_
              conv => whnf
              obtain ⟨g350, h⟩ := req_ex h
              refine Req.of g350 ?_
              conv => whnf
              refine CutK.norm [3, 7, 8, 9] [] ?_
              conv => whnf
              exact LoopOk.back (spec_odText_l0_ct hrec_spec_odText hx rest (v174n + 1) _ hd1 h) [] [] ⟨⟨rfl, rfl⟩, ⟨rfl, trivial⟩, rfl, rfl, rfl, i64eq (wrap_up hlt hx), trivial⟩
            · replace h := iteN h g346
              conv => whnf
              refine CutK.norm [3, 7, 8, 9] [] ?_
              conv => whnf
              exact LoopOk.back (spec_odText_l0_ct hrec_spec_odText hx rest (v174n + 1) _ hd1 h) [] [] ⟨⟨rfl, rfl⟩, ⟨rfl, trivial⟩, rfl, rfl, rfl, i64eq (wrap_up hlt hx), trivial⟩
      · replace h := iteN h g322
        conv => whnf
        refine Pick.no ?_
        conv => whnf
        obtain ⟨y351, e352, h⟩ := bind_ex h
        refine CallOk.of (spec_odZero_ct e352) ?_
        conv => whnf
        refine spl (fun g353 => ?_) (fun g353 => ?_)
        · replace h := iteT h g353
          conv => whnf
          refine CutK.norm [3, 5, 7, 8, 9, 20] [320] ?_
          conv => whnf
          refine Pick.no ?_
          conv => whnf
          obtain ⟨y354, e355, h⟩ := bind_ex h
          refine CallOk.of (spec_l1Num_ct e355) ?_
          conv => whnf
          obtain ⟨g356, h⟩ := req_ex h
          refine Req.of g356 ?_
          conv => whnf
          refine CutK.norm [3, 7, 8, 9] [] ?_
          conv => whnf
          refine CutK.norm [3, 7, 8, 9] [] ?_
          conv => whnf
          exact LoopOk.back (spec_odText_l0_ct hrec_spec_odText hx rest (v174n + 1) _ hd1 h) [] [] ⟨⟨rfl, rfl⟩, ⟨rfl, trivial⟩, rfl, rfl, rfl, i64eq (wrap_up hlt hx), trivial⟩
        · replace h := iteF h g353
          conv => whnf
          refine CutK.norm [3, 5, 7, 8, 9, 20] [320] ?_
          conv => whnf
          refine CutK.norm [3, 5, 7, 8, 9] [320] ?_
          conv => whnf
          obtain ⟨g357, h⟩ := req_ex h
          refine Req.of g357 ?_
          conv => whnf
          refine Pick.no ?_
          conv => whnf
          obtain ⟨y358, e359, h⟩ := bind_ex h
          refine CallOk.of (spec_odInt_ct e359) ?_
          conv => whnf
          refine Pick.no ?_
          conv => whnf
          refine Take.all (rfl) ?_
          conv => whnf
          obtain ⟨y360, e361, h⟩ := bind_ex h
          refine CallOk.of (spec_odCmp_ct e361) ?_
          conv => whnf
          refine splN (fun g362 => ?_) (fun g362 => ?_)
          · replace h := iteN h g362
            conv => whnf
            refine CutK.norm [3, 5, 7, 8, 9, 32] [320] ?_
            conv => whnf
            refine Pick.no ?_
            conv => whnf
            obtain ⟨y363, e364, h⟩ := bind_ex h
            refine CallOk.of (hrec_spec_odText _ _ e364) ?_
            conv => whnf
            obtain ⟨g365, h⟩ := req_ex h
            refine Req.of g365 ?_
            conv => whnf
            obtain ⟨g366, h⟩ := req_ex h
            refine Req.of g366 ?_
            conv => whnf
            obtain ⟨g367, h⟩ := req_ex h
            refine Req.of g367 ?_
            conv => whnf
            refine CutK.norm [3, 5, 7, 8, 9] [320] ?_
            conv => whnf
            refine splD (fun g368 => ?_) (fun g368 => ?_)
            · replace h := iteP h g368
              conv => whnf
              refine Pick.no ?_
              conv => whnf
              obtain ⟨y369, e370, h⟩ := bind_ex h
              refine CallOk.of (spec_l1Num_ct e370) ?_
              conv => whnf
              obtain ⟨g371, h⟩ := req_ex h
              refine Req.of g371 ?_
              conv => whnf
              obtain ⟨g372, h⟩ := req_ex h
              refine Req.of g372 ?_
              conv => whnf
              refine CutK.norm [3, 7, 8, 9] [] ?_
              conv => whnf
              exact LoopOk.back (spec_odText_l0_ct hrec_spec_odText hx rest (v174n + 1) _ hd1 h) [] [] ⟨⟨rfl, rfl⟩, ⟨rfl, trivial⟩, rfl, rfl, rfl, i64eq (wrap_up hlt hx), trivial⟩
            · replace h := iteN h g368
              conv => whnf
              refine CutK.norm [3, 7, 8, 9] [] ?_
              conv => whnf
              exact LoopOk.back (spec_odText_l0_ct hrec_spec_odText hx rest (v174n + 1) _ hd1 h) [] [] ⟨⟨rfl, rfl⟩, ⟨rfl, trivial⟩, rfl, rfl, rfl, i64eq (wrap_up hlt hx), trivial⟩
          · replace h := iteP h g362
            conv => whnf
            refine CutK.norm [3, 5, 7, 8, 9, 32] [320] ?_
            conv => whnf
            refine CutK.norm [3, 5, 7, 8, 9] [320] ?_
            conv => whnf
            refine splD (fun g373 => ?_) (fun g373 => ?_)
            · replace h := iteP h g373
              conv => whnf
              refine Pick.no ?_
              conv => whnf
              obtain ⟨y374, e375, h⟩ := bind_ex h
              refine CallOk.of (spec_l1Num_ct e375) ?_
              conv => whnf
              obtain ⟨g376, h⟩ := req_ex h
              refine Req.of g376 ?_
              conv => whnf
              obtain ⟨g377, h⟩ := req_ex h
              refine Req.of g377 ?_
              conv => whnf
              refine CutK.norm [3, 7, 8, 9] [] ?_
              conv => whnf
              exact LoopOk.back (spec_odText_l0_ct hrec_spec_odText hx rest (v174n + 1) _ hd1 h) [] [] ⟨⟨rfl, rfl⟩, ⟨rfl, trivial⟩, rfl, rfl, rfl, i64eq (wrap_up hlt hx), trivial⟩
            · replace h := iteN h g373
              conv => whnf
              refine CutK.norm [3, 7, 8, 9] [] ?_
              conv => whnf
              exact LoopOk.back (spec_odText_l0_ct hrec_spec_odText hx rest (v174n + 1) _ hd1 h) [] [] ⟨⟨rfl, rfl⟩, ⟨rfl, trivial⟩, rfl, rfl, rfl, i64eq (wrap_up hlt hx), trivial⟩
def spec_odText_b (k : Nat) (rec_spec_odText : Rw → Option ByteArray) (a1 : Rw) : Option ByteArray :=
  (if a1.length ≤ cap then (spec_odText_l0 k rec_spec_odText a1 (fun (v257 : ByteArray) => (spec_odText_p3 v257)) a1 0 (ByteArray.mk #[])) else none)
set_option maxHeartbeats 4000000 in
set_option maxRecDepth 100000 in
theorem spec_odText_b_ct {k : Nat} {rec_spec_odText : Rw → Option ByteArray} (hrec_spec_odText : ∀ (a1 : Rw) (r : ByteArray), rec_spec_odText a1 = some r → Ct prog 33 [.agg [.d (D.sl a1)]] (⟨[], []⟩) (.d (D.str r)) (⟨[], []⟩)) {a1 : Rw} {r : ByteArray} (h : spec_odText_b k rec_spec_odText a1 = some r) : Ct prog 33 [.agg [.d (D.sl a1)]] (⟨[], []⟩) (.d (D.str r)) (⟨[], []⟩) := by
  rw [spec_odText_b] at h
  refine Ct.of (c := _) mixed func33 ⟨rfl, rfl, rfl⟩ ?_ rfl
  conv => whnf
  obtain ⟨g378, h⟩ := req_ex h
  refine LoopOk.into (spec_odText_l0_ct hrec_spec_odText g378 _ _ _ rfl h) [] [] ⟨⟨rfl, rfl⟩, ⟨rfl, trivial⟩, rfl, rfl, rfl, rfl, trivial⟩ ?_ (fun _ hs => hs)
  rintro i ts os ⟨rfl, v257, h, rfl, rfl⟩
  conv => whnf
  exact CutK.piece (spec_odText_p3_ct  h) [] [] ⟨⟨rfl, rfl⟩, ⟨rfl, trivial⟩, rfl, trivial⟩
def spec_odText : Nat → Rw → Option ByteArray
  | 0, _ => none
  | k + 1, a1 => spec_odText_b k (spec_odText k) a1
theorem spec_odText_ct' : ∀ (k : Nat) (a1 : Rw) (r : ByteArray), spec_odText k a1 = some r → Ct prog 33 [.agg [.d (D.sl a1)]] (⟨[], []⟩) (.d (D.str r)) (⟨[], []⟩)
  | 0, _, _, h => by rw [spec_odText] at h; cases h
  | k + 1, _, _, h => by rw [spec_odText] at h; exact spec_odText_b_ct (spec_odText_ct' k) h
theorem spec_odText_ct {k : Nat} {a1 : Rw} {r : ByteArray} (h : spec_odText k a1 = some r) : Ct prog 33 [.agg [.d (D.sl a1)]] (⟨[], []⟩) (.d (D.str r)) (⟨[], []⟩) := spec_odText_ct' k _ _ h

def spec_OrdinalText (k : Nat) (a1 : Rw) : Option (ByteArray × Bool) :=
  ((spec_odGood k a1).bind fun y2 => (if y2 = true then ((spec_odText k a1).bind fun y5 => some (y5, true)) else some ((ByteArray.mk #[]), false)))
set_option maxHeartbeats 4000000 in
set_option maxRecDepth 100000 in
theorem spec_OrdinalText_ct {k : Nat} {a1 : Rw} {r : ByteArray × Bool} (h : spec_OrdinalText k a1 = some r) : Ct prog 10 [.agg [.d (D.sl a1)]] (⟨[], []⟩) (.tup [.d (D.str r.1), .d (D.bool r.2)]) (⟨[], []⟩) := by
  rw [spec_OrdinalText] at h
  refine Ct.of (c := _) mixed func10 ⟨rfl, rfl, rfl⟩ ?_ rfl
  conv => whnf
  refine Pick.no ?_
  conv => whnf
  obtain ⟨y2, e3, h⟩ := bind_ex h
  refine CallOk.of (spec_odGood_ct e3) ?_
  conv => whnf
  refine spl (fun g4 => ?_) (fun g4 => ?_)
  · replace h := iteT h g4
    conv => whnf
    refine CutK.go ?_
    conv => whnf
    refine CutK.go ?_
    conv => whnf
    refine Pick.no ?_
    conv => whnf
    obtain ⟨y5, e6, h⟩ := bind_ex h
    refine CallOk.of (spec_odText_ct e6) ?_
    conv => whnf
    refine CutK.go ?_
    conv => whnf
    cases h
    exact Done.of [] [] rfl rfl ⟨⟨rfl, rfl⟩, ⟨rfl, trivial⟩, ⟨rfl, rfl, trivial⟩, trivial⟩
  · replace h := iteF h g4
    conv => whnf
    refine CutK.go ?_
    conv => whnf
    cases h
    exact Done.of [] [] rfl rfl ⟨⟨rfl, rfl⟩, ⟨rfl, trivial⟩, ⟨rfl, rfl, trivial⟩, trivial⟩

def impl_in  (a1 : Int) (a2 : Int) (a3 : Int) : Option Bool :=
  (if a2 ≤ a1 then (if a1 ≤ a3 then some true else some false) else some false)
set_option maxHeartbeats 4000000 in
set_option maxRecDepth 100000 in
theorem impl_in_ct  {a1 : Int} {a2 : Int} {a3 : Int} {r : Bool} (h : impl_in a1 a2 a3 = some r) : Ct prog 26 [.d (D.int .i64 a1), .d (D.int .i64 a2), .d (D.int .i64 a3)] (⟨[], []⟩) (.d (D.bool r)) (⟨[], []⟩) := by
  rw [impl_in] at h
  refine Ct.of (c := _) mixed func26 ⟨rfl, rfl, rfl⟩ ?_ rfl
  conv => whnf
  refine splD (fun g4 => ?_) (fun g4 => ?_)
  · replace h := iteP h g4
    conv => whnf
    refine splD (fun g5 => ?_) (fun g5 => ?_)
    · replace h := iteP h g5
      conv => whnf
      cases h
      exact Done.of [] [] rfl rfl ⟨⟨rfl, rfl⟩, ⟨rfl, trivial⟩, rfl, trivial⟩
    · replace h := iteN h g5
      conv => whnf
      cases h
      exact Done.of [] [] rfl rfl ⟨⟨rfl, rfl⟩, ⟨rfl, trivial⟩, rfl, trivial⟩
  · replace h := iteN h g4
    conv => whnf
    cases h
    exact Done.of [] [] rfl rfl ⟨⟨rfl, rfl⟩, ⟨rfl, trivial⟩, rfl, trivial⟩

def impl_compare  (a1 : Int) (a2 : Int) : Option Int :=
  (if a1 < a2 then some (-1) else (if a2 < a1 then some 1 else some 0))
set_option maxHeartbeats 4000000 in
set_option maxRecDepth 100000 in
theorem impl_compare_ct  {a1 : Int} {a2 : Int} {r : Int} (h : impl_compare a1 a2 = some r) : Ct prog 96 [.d (D.int .i64 a1), .d (D.int .i64 a2)] (⟨[], []⟩) (.d (D.int .i64 r)) (⟨[], []⟩) := by
  rw [impl_compare] at h
  refine Ct.of (c := _) mixed func96 ⟨rfl, rfl, rfl⟩ ?_ rfl
  conv => whnf
  refine splD (fun g3 => ?_) (fun g3 => ?_)
  · replace h := iteP h g3
    conv => whnf
    cases h
    exact Done.of [] [] rfl rfl ⟨⟨rfl, rfl⟩, ⟨rfl, trivial⟩, rfl, trivial⟩
  · replace h := iteN h g3
    conv => whnf
    refine splD (fun g4 => ?_) (fun g4 => ?_)
    · replace h := iteP h g4
      conv => whnf
      cases h
      exact Done.of [] [] rfl rfl ⟨⟨rfl, rfl⟩, ⟨rfl, trivial⟩, rfl, trivial⟩
    · replace h := iteN h g4
      conv => whnf
      cases h
      exact Done.of [] [] rfl rfl ⟨⟨rfl, rfl⟩, ⟨rfl, trivial⟩, rfl, trivial⟩

def impl_cmpTerms (rec_impl_cmp : Rw → Rw → Option Int) (a1 : Rw) (a2 : Int) (a3 : Rw) (a4 : Int) : Option Int :=
  ((rec_impl_cmp a1 a3).bind fun y5 => (if y5 = (0 : Int) then ((impl_compare a2 a4).bind fun y8 => some y8) else some y5))
set_option maxHeartbeats 4000000 in
set_option maxRecDepth 100000 in
theorem impl_cmpTerms_ct {rec_impl_cmp : Rw → Rw → Option Int} (hrec_impl_cmp : ∀ (a1 : Rw) (a2 : Rw) (r : Int), rec_impl_cmp a1 a2 = some r → Ct prog 52 [.agg [.d (D.sl a1)], .agg [.d (D.sl a2)]] (⟨[], []⟩) (.d (D.int .i64 r)) (⟨[], []⟩)) {a1 : Rw} {a2 : Int} {a3 : Rw} {a4 : Int} {r : Int} (h : impl_cmpTerms rec_impl_cmp a1 a2 a3 a4 = some r) : Ct prog 81 [.agg [.d (D.sl a1), .d (D.int .i64 a2)], .agg [.d (D.sl a3), .d (D.int .i64 a4)]] (⟨[], []⟩) (.d (D.int .i64 r)) (⟨[], []⟩) := by
  rw [impl_cmpTerms] at h
  refine Ct.of (c := _) mixed func81 ⟨rfl, rfl, rfl⟩ ?_ rfl
  conv => whnf
  refine Pick.no ?_
  conv => whnf
  obtain ⟨y5, e6, h⟩ := bind_ex h
  refine CallOk.of (hrec_impl_cmp _ _ _ e6) ?_
  conv => whnf
  refine CutK.go ?_
  conv => whnf
  refine splN (fun g7 => ?_) (fun g7 => ?_)
  · replace h := iteN h g7
    conv => whnf
    cases h
    exact Done.of [] [] rfl rfl ⟨⟨rfl, rfl⟩, ⟨rfl, trivial⟩, rfl, trivial⟩
  · replace h := iteP h g7
    conv => whnf
    refine CutK.go ?_
    conv => whnf
    refine Pick.no ?_
    conv => whnf
    obtain ⟨y8, e9, h⟩ := bind_ex h
    refine CallOk.of (impl_compare_ct e9) ?_
    conv => whnf
    refine CutK.go ?_
    conv => whnf
    cases h
    exact Done.of [] [] rfl rfl ⟨⟨rfl, rfl⟩, ⟨rfl, trivial⟩, rfl, trivial⟩

def slices_CompareFunc__cmpTerms_l0 (rec_impl_cmp : Rw → Rw → Option Int) (a1 : Rw) (a2 : Rw) (K0 : Option Int) : Rw → Nat → Option Int
  | [], v16n => (K0)
  | cs :: rest, v16n => (cell_si cs fun x30 x31 => (if (a2.length : Int) ≤ (v16n : Int) then some 1 else (row_si a2 (v16n : Int) fun x34 x35 => ((impl_cmpTerms rec_impl_cmp x30 x31 x34 x35).bind fun y38 => (if y38 = (0 : Int) then (slices_CompareFunc__cmpTerms_l0 rec_impl_cmp a1 a2 K0 rest (v16n + 1)) else some y38)))))
set_option maxRecDepth 100000 in
theorem slices_CompareFunc__cmpTerms_l0_ct {rec_impl_cmp : Rw → Rw → Option Int} {a1 : Rw} {a2 : Rw} {K0 : Option Int} (hrec_impl_cmp : ∀ (a1 : Rw) (a2 : Rw) (r : Int), rec_impl_cmp a1 a2 = some r → Ct prog 52 [.agg [.d (D.sl a1)], .agg [.d (D.sl a2)]] (⟨[], []⟩) (.d (D.int .i64 r)) (⟨[], []⟩)) {r : Int} (hx : a1.length ≤ cap) : ∀ (rest : Rw) (v16n : Nat), a1.drop v16n = rest → slices_CompareFunc__cmpTerms_l0 rec_impl_cmp a1 a2 K0 rest v16n = some r → LoopOk prog 0 (lp f80 0) (mk 39 [(0, .d (D.sl a1)), (1, .d (D.sl a2)), (2, .fn 81 []), (11, .d (D.sl a1)), (12, .d (D.int .i64 (a1.length : Int))), (13, .d (D.int .i64 (v16n : Int)))] []) (LoopEnd prog f80 0 39 (.d (D.int .i64 r)) (⟨[], []⟩) (fun i ts os => (i = 0 ∧ K0 = some r ∧ ts = [(0, .d (D.sl a1)), (1, .d (D.sl a2))] ∧ os = [])))
  | [], v16n, hd, h => by
      rw [slices_CompareFunc__cmpTerms_l0] at h
      have hn := drop_nil hd
      refine LoopOk.step ?_
      conv => whnf
      refine splD (fun g => absurd g hn) (fun _ => ?_)
      conv => whnf
      exact ⟨_, _, [], [], ⟨rfl, h, rfl, rfl⟩, ⟨⟨rfl, rfl⟩, ⟨rfl, trivial⟩, rfl, rfl, trivial⟩⟩
  | cs :: rest, v16n, hd, h => by
      rw [slices_CompareFunc__cmpTerms_l0] at h
      obtain ⟨hrow, hd1, hlt⟩ := drop_cons hd
      refine LoopOk.step ?_
      conv => whnf
      refine splD (fun _ => ?_) (fun g => absurd hlt g)
      conv => whnf
      obtain ⟨x30, x31, e32, h⟩ := cell_si_ex h
      rw [e32] at hrow
      refine Req.of (Int.natCast_nonneg _) ?_
      refine Row.of _ hrow ?_
      conv => whnf
      refine splD (fun g33 => ?_) (fun g33 => ?_)
      · replace h := iteP h g33
        conv => whnf
        cases h
        exact Done.of [] [] rfl rfl ⟨⟨rfl, rfl⟩, ⟨rfl, trivial⟩, rfl, trivial⟩
      · replace h := iteN h g33
        conv => whnf
        obtain ⟨g37, x34, x35, e36, h⟩ := row_si_ex h
        refine Req.of g37 ?_
        refine Row.of _ e36 ?_
        conv => whnf
        refine Pick.no ?_
        conv => whnf
        obtain ⟨y38, e39, h⟩ := bind_ex h
        refine CallOk.of (impl_cmpTerms_ct hrec_impl_cmp e39) ?_
        conv => whnf
        refine CutK.norm [0, 1, 2, 10, 11, 12, 13] [] ?_
        conv => whnf
        refine splN (fun g40 => ?_) (fun g40 => ?_)
        · replace h := iteN h g40
          conv => whnf
          cases h
          exact Done.of [] [] rfl rfl ⟨⟨rfl, rfl⟩, ⟨rfl, trivial⟩, rfl, trivial⟩
        · replace h := iteP h g40
          conv => whnf
          refine CutK.norm [0, 1, 2, 11, 12, 13] [] ?_
          conv => whnf
          exact LoopOk.back (slices_CompareFunc__cmpTerms_l0_ct hrec_impl_cmp hx rest (v16n + 1)  hd1 h) [] [] ⟨⟨rfl, rfl⟩, ⟨rfl, trivial⟩, rfl, rfl, ⟨rfl, trivial⟩, rfl, rfl, i64eq (wrap_up hlt hx), trivial⟩
def slices_CompareFunc__cmpTerms (rec_impl_cmp : Rw → Rw → Option Int) (a1 : Rw) (a2 : Rw) : Option Int :=
  (if a1.length ≤ cap then (slices_CompareFunc__cmpTerms_l0 rec_impl_cmp a1 a2 (if (a1.length : Int) < (a2.length : Int) then some (-1) else some 0) a1 0) else none)
set_option maxHeartbeats 4000000 in
set_option maxRecDepth 100000 in
theorem slices_CompareFunc__cmpTerms_ct {rec_impl_cmp : Rw → Rw → Option Int} (hrec_impl_cmp : ∀ (a1 : Rw) (a2 : Rw) (r : Int), rec_impl_cmp a1 a2 = some r → Ct prog 52 [.agg [.d (D.sl a1)], .agg [.d (D.sl a2)]] (⟨[], []⟩) (.d (D.int .i64 r)) (⟨[], []⟩)) {a1 : Rw} {a2 : Rw} {r : Int} (h : slices_CompareFunc__cmpTerms rec_impl_cmp a1 a2 = some r) : Ct prog 80 [.d (D.sl a1), .d (D.sl a2), .fn 81 []] (⟨[], []⟩) (.d (D.int .i64 r)) (⟨[], []⟩) := by
  rw [slices_CompareFunc__cmpTerms] at h
  refine Ct.of (c := _) mixed func80 ⟨rfl, rfl, rfl⟩ ?_ rfl
  conv => whnf
  obtain ⟨g41, h⟩ := req_ex h
  refine LoopOk.into (slices_CompareFunc__cmpTerms_l0_ct hrec_impl_cmp g41 _ _  rfl h) [] [] ⟨⟨rfl, rfl⟩, ⟨rfl, trivial⟩, rfl, rfl, ⟨rfl, trivial⟩, rfl, rfl, rfl, trivial⟩ ?_ (fun _ hs => hs)
  rintro i ts os ⟨rfl, h, rfl, rfl⟩
  conv => whnf
  refine CutK.norm [0, 1] [] ?_
  conv => whnf
  refine splD (fun g42 => ?_) (fun g42 => ?_)
  · replace h := iteP h g42
    conv => whnf
    cases h
    exact Done.of [] [] rfl rfl ⟨⟨rfl, rfl⟩, ⟨rfl, trivial⟩, rfl, trivial⟩
  · replace h := iteN h g42
    conv => whnf
    cases h
    exact Done.of [] [] rfl rfl ⟨⟨rfl, rfl⟩, ⟨rfl, trivial⟩, rfl, trivial⟩

def impl_cmp_b (rec_impl_cmp : Rw → Rw → Option Int) (a1 : Rw) (a2 : Rw) : Option Int :=
  ((slices_CompareFunc__cmpTerms rec_impl_cmp a1 a2).bind fun y3 => some y3)
set_option maxHeartbeats 4000000 in
set_option maxRecDepth 100000 in
theorem impl_cmp_b_ct {rec_impl_cmp : Rw → Rw → Option Int} (hrec_impl_cmp : ∀ (a1 : Rw) (a2 : Rw) (r : Int), rec_impl_cmp a1 a2 = some r → Ct prog 52 [.agg [.d (D.sl a1)], .agg [.d (D.sl a2)]] (⟨[], []⟩) (.d (D.int .i64 r)) (⟨[], []⟩)) {a1 : Rw} {a2 : Rw} {r : Int} (h : impl_cmp_b rec_impl_cmp a1 a2 = some r) : Ct prog 52 [.agg [.d (D.sl a1)], .agg [.d (D.sl a2)]] (⟨[], []⟩) (.d (D.int .i64 r)) (⟨[], []⟩) := by
  rw [impl_cmp_b] at h
  refine Ct.of (c := _) mixed func52 ⟨rfl, rfl, rfl⟩ ?_ rfl
  conv => whnf
  refine Pick.no ?_
  conv => whnf
  obtain ⟨y3, e4, h⟩ := bind_ex h
  refine CallOk.of (slices_CompareFunc__cmpTerms_ct hrec_impl_cmp e4) ?_
  conv => whnf
  refine CutK.go ?_
  conv => whnf
  cases h
  exact Done.of [] [] rfl rfl ⟨⟨rfl, rfl⟩, ⟨rfl, trivial⟩, rfl, trivial⟩
def impl_cmp : Nat → Rw → Rw → Option Int
  | 0, _, _ => none
  | k + 1, a1, a2 => impl_cmp_b (impl_cmp k) a1 a2
theorem impl_cmp_ct' : ∀ (k : Nat) (a1 : Rw) (a2 : Rw) (r : Int), impl_cmp k a1 a2 = some r → Ct prog 52 [.agg [.d (D.sl a1)], .agg [.d (D.sl a2)]] (⟨[], []⟩) (.d (D.int .i64 r)) (⟨[], []⟩)
  | 0, _, _, _, h => by rw [impl_cmp] at h; cases h
  | k + 1, _, _, _, h => by rw [impl_cmp] at h; exact impl_cmp_b_ct (impl_cmp_ct' k) h
theorem impl_cmp_ct {k : Nat} {a1 : Rw} {a2 : Rw} {r : Int} (h : impl_cmp k a1 a2 = some r) : Ct prog 52 [.agg [.d (D.sl a1)], .agg [.d (D.sl a2)]] (⟨[], []⟩) (.d (D.int .i64 r)) (⟨[], []⟩) := impl_cmp_ct' k _ _ _ h

def impl_ordinalAt_2_p3 (o62 : Int) : Option (Bool × Int) :=
  some (true, o62)
set_option maxHeartbeats 4000000 in
set_option maxRecDepth 100000 in
theorem impl_ordinalAt_2_p3_ct {o62 : Int} {r : Bool × Int} (h : impl_ordinalAt_2_p3 o62 = some r) : X prog 1 (tlF f61 3) (mk 83 [] [(0, .box 3 [.d (D.int .i64 o62)])]) (finK prog f61 1 (.d (D.bool r.1)) (⟨[(3, [.d (D.int .i64 r.2)])], []⟩)) := by
  rw [impl_ordinalAt_2_p3] at h
  conv => whnf
  cases h
  exact Done.of [some 0] [] rfl rfl ⟨⟨rfl, rfl⟩, ⟨rfl, ⟨rfl, rfl, trivial⟩, trivial⟩, rfl, trivial⟩
def impl_ordinalAt_2_l0 (k : Nat) (rec_impl_ordinalAt_2 : Rw → Int → Int → Int → Option (Bool × Int)) (a1 : Rw) (a2 : Int) (a3 : Int) (K0 : Int → Option (Bool × Int)) : Rw → Nat → Int → Option (Bool × Int)
  | [], v77n, v78 => (K0 v78)
  | cs :: rest, v77n, v78 => (cell_si cs fun x120 x121 => (if (60 : Int) < (IntKind.i64.wrap (v78 + 1)) then some (false, IntKind.i64.wrap (v78 + 1)) else ((impl_in x121 1 1000000).bind fun y124 => (if y124 = true then ((rec_impl_ordinalAt_2 x120 x121 (IntKind.i64.wrap (a3 + 1)) (IntKind.i64.wrap (v78 + 1))).bind fun y127 => (if y127.1 = true then (if (0 : Int) < (v77n : Int) then (row_si a1 (IntKind.i64.wrap ((v77n : Int) - 1)) fun x131 x132 => ((impl_cmp k x131 x120).bind fun y135 => (if y135 ≤ (0 : Int) then some (false, y127.2) else (impl_ordinalAt_2_l0 k rec_impl_ordinalAt_2 a1 a2 a3 K0 rest (v77n + 1) y127.2)))) else (impl_ordinalAt_2_l0 k rec_impl_ordinalAt_2 a1 a2 a3 K0 rest (v77n + 1) y127.2)) else some (false, y127.2))) else some (false, IntKind.i64.wrap (v78 + 1))))))
set_option maxRecDepth 100000 in
theorem impl_ordinalAt_2_l0_ct {k : Nat} {rec_impl_ordinalAt_2 : Rw → Int → Int → Int → Option (Bool × Int)} {a1 : Rw} {a2 : Int} {a3 : Int} {K0 : Int → Option (Bool × Int)} (hrec_impl_ordinalAt_2 : ∀ (a1 : Rw) (a2 : Int) (a3 : Int) (a4 : Int) (r : Bool × Int), rec_impl_ordinalAt_2 a1 a2 a3 a4 = some r → Ct prog 61 [.dp [D.sl a1, D.int .i64 a2], .d (D.int .i64 a3), .ptr 0 0] (⟨[(3, [.d (D.int .i64 a4)])], []⟩) (.d (D.bool r.1)) (⟨[(3, [.d (D.int .i64 r.2)])], []⟩)) {r : Bool × Int} (hx : a1.length ≤ cap) : ∀ (rest : Rw) (v77n : Nat) (v78 : Int), a1.drop v77n = rest → impl_ordinalAt_2_l0 k rec_impl_ordinalAt_2 a1 a2 a3 K0 rest v77n v78 = some r → LoopOk prog 1 (lp f61 0) (mk 83 [(0, .dp [D.sl a1, D.int .i64 a2]), (1, .d (D.int .i64 a3)), (2, .ptr 0 0), (26, .d (D.int .i64 (a1.length : Int))), (27, .d (D.int .i64 (v77n : Int)))] [(0, .box 3 [.d (D.int .i64 v78)])]) (LoopEnd prog f61 1 83 (.d (D.bool r.1)) (⟨[(3, [.d (D.int .i64 r.2)])], []⟩) (fun i ts os => (i = 0 ∧ ∃ v99 : Int, K0 v99 = some r ∧ ts = [] ∧ os = [(0, .box 3 [.d (D.int .i64 v99)])])))
  | [], v77n, v78, hd, h => by
      rw [impl_ordinalAt_2_l0] at h
      have hn := drop_nil hd
      refine LoopOk.step ?_
      conv => whnf
      refine splD (fun g => absurd g hn) (fun _ => ?_)
      conv => whnf
      exact ⟨_, _, [some 0], [], ⟨rfl, _, h, rfl, rfl⟩, ⟨⟨rfl, rfl⟩, ⟨rfl, ⟨rfl, rfl, trivial⟩, trivial⟩, trivial⟩⟩
  | cs :: rest, v77n, v78, hd, h => by
      rw [impl_ordinalAt_2_l0] at h
      obtain ⟨hrow, hd1, hlt⟩ := drop_cons hd
      refine LoopOk.step ?_
      conv => whnf
      refine splD (fun _ => ?_) (fun g => absurd hlt g)
      conv => whnf
      obtain ⟨x120, x121, e122, h⟩ := cell_si_ex h
      rw [e122] at hrow
      refine Req.of (Int.natCast_nonneg _) ?_
      refine Row.of _ hrow ?_
      conv => whnf
      refine splD (fun g123 => ?_) (fun g123 => ?_)
      · replace h := iteP h g123
        conv => whnf
        refine CutK.norm [0, 1, 2, 7, 8, 26, 27, 62] [0] ?_
        conv => whnf
        cases h
        exact Done.of [some 0] [] rfl rfl ⟨⟨rfl, rfl⟩, ⟨rfl, ⟨rfl, rfl, trivial⟩, trivial⟩, rfl, trivial⟩
      · replace h := iteN h g123
        conv => whnf
        refine Pick.no ?_
        conv => whnf
        obtain ⟨y124, e125, h⟩ := bind_ex h
        refine CallOk.of (impl_in_ct e125) ?_
        conv => whnf
        refine spl (fun g126 => ?_) (fun g126 => ?_)
        · replace h := iteT h g126
          conv => whnf
          refine Pick.no ?_
          conv => whnf
          obtain ⟨y127, e128, h⟩ := bind_ex h
          refine CallOk.of (hrec_impl_ordinalAt_2 _ _ _ _ _ e128) ?_
          conv => whnf
          refine spl (fun g129 => ?_) (fun g129 => ?_)
          · replace h := iteT h g129
            conv => whnf
            refine CutK.norm [0, 1, 2, 7, 8, 26, 27, 62] [0] ?_
            conv => whnf
            refine CutK.norm [0, 1, 2, 7, 8, 26, 27] [0] ?_
            conv => whnf
            refine splD (fun g130 => ?_) (fun g130 => ?_)
            · replace h := iteP h g130
              conv => whnf
              obtain ⟨g134, x131, x132, e133, h⟩ := row_si_ex h
              refine Req.of g134 ?_
              refine Row.of _ e133 ?_
              conv => whnf
              refine Pick.no ?_
              conv => whnf
              obtain ⟨y135, e136, h⟩ := bind_ex h
              refine CallOk.of (impl_cmp_ct e136) ?_
              conv => whnf
              refine splD (fun g137 => ?_) (fun g137 => ?_)
              · replace h := iteP h g137
                conv => whnf
                refine CutK.norm [0, 1, 2, 26, 27, 81] [0] ?_
                conv => whnf
                cases h
                exact Done.of [some 0] [] rfl rfl ⟨⟨rfl, rfl⟩, ⟨rfl, ⟨rfl, rfl, trivial⟩, trivial⟩, rfl, trivial⟩
              · replace h := iteN h g137
                conv => whnf
                refine CutK.norm [0, 1, 2, 26, 27, 81] [0] ?_
                conv => whnf
                refine CutK.norm [0, 1, 2, 26, 27] [0] ?_
                conv => whnf
                exact LoopOk.back (impl_ordinalAt_2_l0_ct hrec_impl_ordinalAt_2 hx rest (v77n + 1) _ hd1 h) [some 0] [] ⟨⟨rfl, rfl⟩, ⟨rfl, ⟨rfl, rfl, trivial⟩, trivial⟩, rfl, rfl, ⟨rfl, rfl⟩, rfl, i64eq (wrap_up hlt hx), trivial⟩
            · replace h := iteN h g130
              conv => whnf
              refine CutK.norm [0, 1, 2, 26, 27, 81] [0] ?_
              conv => whnf
              refine CutK.norm [0, 1, 2, 26, 27] [0] ?_
              conv => whnf
              exact LoopOk.back (impl_ordinalAt_2_l0_ct hrec_impl_ordinalAt_2 hx rest (v77n + 1) _ hd1 h) [some 0] [] ⟨⟨rfl, rfl⟩, ⟨rfl, ⟨rfl, rfl, trivial⟩, trivial⟩, rfl, rfl, ⟨rfl, rfl⟩, rfl, i64eq (wrap_up hlt hx), trivial⟩
          · replace h := iteF h g129
            conv => whnf
            refine CutK.norm [0, 1, 2, 7, 8, 26, 27, 62] [0] ?_
            conv => whnf
            cases h
            exact Done.of [some 0] [] rfl rfl ⟨⟨rfl, rfl⟩, ⟨rfl, ⟨rfl, rfl, trivial⟩, trivial⟩, rfl, trivial⟩
        · replace h := iteF h g126
          conv => whnf
          refine CutK.norm [0, 1, 2, 7, 8, 26, 27, 62] [0] ?_
          conv => whnf
          cases h
          exact Done.of [some 0] [] rfl rfl ⟨⟨rfl, rfl⟩, ⟨rfl, ⟨rfl, rfl, trivial⟩, trivial⟩, rfl, trivial⟩
def impl_ordinalAt_2_b (k : Nat) (rec_impl_ordinalAt_2 : Rw → Int → Int → Int → Option (Bool × Int)) (a1 : Rw) (a2 : Int) (a3 : Int) (a4 : Int) : Option (Bool × Int) :=
  (if (60 : Int) < (IntKind.i64.wrap (a4 + 1)) then some (false, IntKind.i64.wrap (a4 + 1)) else (if (6 : Int) < a3 then some (false, IntKind.i64.wrap (a4 + 1)) else (if a1.length ≤ cap then (impl_ordinalAt_2_l0 k rec_impl_ordinalAt_2 a1 a2 a3 (fun (v99 : Int) => (impl_ordinalAt_2_p3 v99)) a1 0 (IntKind.i64.wrap (a4 + 1))) else none)))
set_option maxHeartbeats 4000000 in
set_option maxRecDepth 100000 in
theorem impl_ordinalAt_2_b_ct {k : Nat} {rec_impl_ordinalAt_2 : Rw → Int → Int → Int → Option (Bool × Int)} (hrec_impl_ordinalAt_2 : ∀ (a1 : Rw) (a2 : Int) (a3 : Int) (a4 : Int) (r : Bool × Int), rec_impl_ordinalAt_2 a1 a2 a3 a4 = some r → Ct prog 61 [.dp [D.sl a1, D.int .i64 a2], .d (D.int .i64 a3), .ptr 0 0] (⟨[(3, [.d (D.int .i64 a4)])], []⟩) (.d (D.bool r.1)) (⟨[(3, [.d (D.int .i64 r.2)])], []⟩)) {a1 : Rw} {a2 : Int} {a3 : Int} {a4 : Int} {r : Bool × Int} (h : impl_ordinalAt_2_b k rec_impl_ordinalAt_2 a1 a2 a3 a4 = some r) : Ct prog 61 [.dp [D.sl a1, D.int .i64 a2], .d (D.int .i64 a3), .ptr 0 0] (⟨[(3, [.d (D.int .i64 a4)])], []⟩) (.d (D.bool r.1)) (⟨[(3, [.d (D.int .i64 r.2)])], []⟩) := by
  rw [impl_ordinalAt_2_b] at h
  refine Ct.of (c := _) mixed func61 ⟨rfl, rfl, rfl⟩ ?_ rfl
  conv => whnf
  refine splD (fun g63 => ?_) (fun g63 => ?_)
  · replace h := iteP h g63
    conv => whnf
    cases h
    exact Done.of [some 0] [] rfl rfl ⟨⟨rfl, rfl⟩, ⟨rfl, ⟨rfl, rfl, trivial⟩, trivial⟩, rfl, trivial⟩
  · replace h := iteN h g63
    conv => whnf
    refine splD (fun g64 => ?_) (fun g64 => ?_)
    · replace h := iteP h g64
      conv => whnf
      cases h
      exact Done.of [some 0] [] rfl rfl ⟨⟨rfl, rfl⟩, ⟨rfl, ⟨rfl, rfl, trivial⟩, trivial⟩, rfl, trivial⟩
    · replace h := iteN h g64
      conv => whnf
      obtain ⟨g138, h⟩ := req_ex h
      refine LoopOk.into (impl_ordinalAt_2_l0_ct hrec_impl_ordinalAt_2 g138 _ _ _ rfl h) [some 0] [] ⟨⟨rfl, rfl⟩, ⟨rfl, ⟨rfl, rfl, trivial⟩, trivial⟩, rfl, rfl, ⟨rfl, rfl⟩, rfl, rfl, trivial⟩ ?_ (fun _ hs => hs)
      rintro i ts os ⟨rfl, v99, h, rfl, rfl⟩
      conv => whnf
      exact CutK.piece (impl_ordinalAt_2_p3_ct  h) [some 0] [] ⟨⟨rfl, rfl⟩, ⟨rfl, ⟨rfl, rfl, trivial⟩, trivial⟩, trivial⟩
def impl_ordinalAt_2 : Nat → Rw → Int → Int → Int → Option (Bool × Int)
  | 0, _, _, _, _ => none
  | k + 1, a1, a2, a3, a4 => impl_ordinalAt_2_b k (impl_ordinalAt_2 k) a1 a2 a3 a4
theorem impl_ordinalAt_2_ct' : ∀ (k : Nat) (a1 : Rw) (a2 : Int) (a3 : Int) (a4 : Int) (r : Bool × Int), impl_ordinalAt_2 k a1 a2 a3 a4 = some r → Ct prog 61 [.dp [D.sl a1, D.int .i64 a2], .d (D.int .i64 a3), .ptr 0 0] (⟨[(3, [.d (D.int .i64 a4)])], []⟩) (.d (D.bool r.1)) (⟨[(3, [.d (D.int .i64 r.2)])], []⟩)
  | 0, _, _, _, _, _, h => by rw [impl_ordinalAt_2] at h; cases h
  | k + 1, _, _, _, _, _, h => by rw [impl_ordinalAt_2] at h; exact impl_ordinalAt_2_b_ct (impl_ordinalAt_2_ct' k) h
theorem impl_ordinalAt_2_ct {k : Nat} {a1 : Rw} {a2 : Int} {a3 : Int} {a4 : Int} {r : Bool × Int} (h : impl_ordinalAt_2 k a1 a2 a3 a4 = some r) : Ct prog 61 [.dp [D.sl a1, D.int .i64 a2], .d (D.int .i64 a3), .ptr 0 0] (⟨[(3, [.d (D.int .i64 a4)])], []⟩) (.d (D.bool r.1)) (⟨[(3, [.d (D.int .i64 r.2)])], []⟩) := impl_ordinalAt_2_ct' k _ _ _ _ _ h

def impl_ordinalAt_p3 (a1 : Rw) (o61 : Int) : Option (Bool × Rw × Int) :=
  some (true, a1, o61)
set_option maxHeartbeats 4000000 in
set_option maxRecDepth 100000 in
theorem impl_ordinalAt_p3_ct {a1 : Rw} {o61 : Int} {r : Bool × Rw × Int} (h : impl_ordinalAt_p3 a1 o61 = some r) : X prog 2 (tlF f61 3) (mk 83 [] [(0, .box 32 [.d (D.sl a1)]), (64, .box 3 [.d (D.int .i64 o61)])]) (finK prog f61 2 (.d (D.bool r.1)) (⟨[(32, [.d (D.sl r.2.1)]), (3, [.d (D.int .i64 r.2.2)])], []⟩)) := by
  rw [impl_ordinalAt_p3] at h
  conv => whnf
  cases h
  exact Done.of [some 0, some 64] [] rfl rfl ⟨⟨rfl, rfl⟩, ⟨rfl, ⟨rfl, rfl, trivial⟩, ⟨rfl, rfl, trivial⟩, trivial⟩, rfl, trivial⟩
def impl_ordinalAt_l0 (k : Nat) (a1 : Rw) (a2 : Int) (K0 : Int → Option (Bool × Rw × Int)) : Rw → Nat → Int → Option (Bool × Rw × Int)
  | [], v76n, v77 => (K0 v77)
  | cs :: rest, v76n, v77 => (cell_si cs fun x119 x120 => (if (60 : Int) < (IntKind.i64.wrap (v77 + 1)) then some (false, a1, IntKind.i64.wrap (v77 + 1)) else ((impl_in x120 1 1000000).bind fun y123 => (if y123 = true then ((impl_ordinalAt_2 k x119 x120 (IntKind.i64.wrap (a2 + 1)) (IntKind.i64.wrap (v77 + 1))).bind fun y126 => (if y126.1 = true then (if (0 : Int) < (v76n : Int) then (row_si a1 (IntKind.i64.wrap ((v76n : Int) - 1)) fun x130 x131 => ((impl_cmp k x130 x119).bind fun y134 => (if y134 ≤ (0 : Int) then some (false, a1, y126.2) else (impl_ordinalAt_l0 k a1 a2 K0 rest (v76n + 1) y126.2)))) else (impl_ordinalAt_l0 k a1 a2 K0 rest (v76n + 1) y126.2)) else some (false, a1, y126.2))) else some (false, a1, IntKind.i64.wrap (v77 + 1))))))
set_option maxRecDepth 100000 in
theorem impl_ordinalAt_l0_ct {k : Nat} {a1 : Rw} {a2 : Int} {K0 : Int → Option (Bool × Rw × Int)} {r : Bool × Rw × Int} (hx : a1.length ≤ cap) : ∀ (rest : Rw) (v76n : Nat) (v77 : Int), a1.drop v76n = rest → impl_ordinalAt_l0 k a1 a2 K0 rest v76n v77 = some r → LoopOk prog 2 (lp f61 0) (mk 83 [(0, .ptr 0 0), (1, .d (D.int .i64 a2)), (2, .ptr 64 0), (26, .d (D.int .i64 (a1.length : Int))), (27, .d (D.int .i64 (v76n : Int)))] [(0, .box 32 [.d (D.sl a1)]), (64, .box 3 [.d (D.int .i64 v77)])]) (LoopEnd prog f61 2 83 (.d (D.bool r.1)) (⟨[(32, [.d (D.sl r.2.1)]), (3, [.d (D.int .i64 r.2.2)])], []⟩) (fun i ts os => (i = 0 ∧ ∃ v98 : Int, K0 v98 = some r ∧ ts = [] ∧ os = [(0, .box 32 [.d (D.sl a1)]), (64, .box 3 [.d (D.int .i64 v98)])])))
  | [], v76n, v77, hd, h => by
      rw [impl_ordinalAt_l0] at h
      have hn := drop_nil hd
      refine LoopOk.step ?_
      conv => whnf
      refine splD (fun g => absurd g hn) (fun _ => ?_)
      conv => whnf
      exact ⟨_, _, [some 0, some 64], [], ⟨rfl, _, h, rfl, rfl⟩, ⟨⟨rfl, rfl⟩, ⟨rfl, ⟨rfl, rfl, trivial⟩, ⟨rfl, rfl, trivial⟩, trivial⟩, trivial⟩⟩
  | cs :: rest, v76n, v77, hd, h => by
      rw [impl_ordinalAt_l0] at h
      obtain ⟨hrow, hd1, hlt⟩ := drop_cons hd
      refine LoopOk.step ?_
      conv => whnf
      refine splD (fun _ => ?_) (fun g => absurd hlt g)
      conv => whnf
      obtain ⟨x119, x120, e121, h⟩ := cell_si_ex h
      rw [e121] at hrow
      refine Req.of (Int.natCast_nonneg _) ?_
      refine Row.of _ hrow ?_
      conv => whnf
      refine splD (fun g122 => ?_) (fun g122 => ?_)
      · replace h := iteP h g122
        conv => whnf
        refine CutK.norm [0, 1, 2, 7, 8, 26, 27, 62] [0, 64] ?_
        conv => whnf
        cases h
        exact Done.of [some 0, some 64] [] rfl rfl ⟨⟨rfl, rfl⟩, ⟨rfl, ⟨rfl, rfl, trivial⟩, ⟨rfl, rfl, trivial⟩, trivial⟩, rfl, trivial⟩
      · replace h := iteN h g122
        conv => whnf
        refine Pick.no ?_
        conv => whnf
        obtain ⟨y123, e124, h⟩ := bind_ex h
        refine CallOk.of (impl_in_ct e124) ?_
        conv => whnf
        refine spl (fun g125 => ?_) (fun g125 => ?_)
        · replace h := iteT h g125
          conv => whnf
          refine Pick.no ?_
          conv => whnf
          obtain ⟨y126, e127, h⟩ := bind_ex h
          refine CallOk.of (impl_ordinalAt_2_ct e127) ?_
          conv => whnf
          refine spl (fun g128 => ?_) (fun g128 => ?_)
          · replace h := iteT h g128
            conv => whnf
            refine CutK.norm [0, 1, 2, 7, 8, 26, 27, 62] [0, 64] ?_
            conv => whnf
            refine CutK.norm [0, 1, 2, 7, 8, 26, 27] [0, 64] ?_
            conv => whnf
            refine splD (fun g129 => ?_) (fun g129 => ?_)
            · replace h := iteP h g129
              conv => whnf
              obtain ⟨g133, x130, x131, e132, h⟩ := row_si_ex h
              refine Req.of g133 ?_
              refine Row.of _ e132 ?_
              conv => whnf
              refine Pick.no ?_
              conv => whnf
              obtain ⟨y134, e135, h⟩ := bind_ex h
              refine CallOk.of (impl_cmp_ct e135) ?_
              conv => whnf
              refine splD (fun g136 => ?_) (fun g136 => ?_)
              · replace h := iteP h g136
                conv => whnf
                refine CutK.norm [0, 1, 2, 26, 27, 81] [0, 64] ?_
                conv => whnf
                cases h
                exact Done.of [some 0, some 64] [] rfl rfl ⟨⟨rfl, rfl⟩, ⟨rfl, ⟨rfl, rfl, trivial⟩, ⟨rfl, rfl, trivial⟩, trivial⟩, rfl, trivial⟩
              · replace h := iteN h g136
                conv => whnf
                refine CutK.norm [0, 1, 2, 26, 27, 81] [0, 64] ?_
                conv => whnf
                refine CutK.norm [0, 1, 2, 26, 27] [0, 64] ?_
                conv => whnf
                exact LoopOk.back (impl_ordinalAt_l0_ct hx rest (v76n + 1) _ hd1 h) [some 0, some 64] [] ⟨⟨rfl, rfl⟩, ⟨rfl, ⟨rfl, rfl, trivial⟩, ⟨rfl, rfl, trivial⟩, trivial⟩, ⟨rfl, rfl⟩, rfl, ⟨rfl, rfl⟩, rfl, i64eq (wrap_up hlt hx), trivial⟩
            · replace h := iteN h g129
              conv => whnf
              refine CutK.norm [0, 1, 2, 26, 27, 81] [0, 64] ?_
              conv => whnf
              refine CutK.norm [0, 1, 2, 26, 27] [0, 64] ?_
              conv => whnf
              exact LoopOk.back (impl_ordinalAt_l0_ct hx rest (v76n + 1) _ hd1 h) [some 0, some 64] [] ⟨⟨rfl, rfl⟩, ⟨rfl, ⟨rfl, rfl, trivial⟩, ⟨rfl, rfl, trivial⟩, trivial⟩, ⟨rfl, rfl⟩, rfl, ⟨rfl, rfl⟩, rfl, i64eq (wrap_up hlt hx), trivial⟩
          · replace h := iteF h g128
            conv => whnf
            refine CutK.norm [0, 1, 2, 7, 8, 26, 27, 62] [0, 64] ?_
            conv => whnf
            cases h
            exact Done.of [some 0, some 64] [] rfl rfl ⟨⟨rfl, rfl⟩, ⟨rfl, ⟨rfl, rfl, trivial⟩, ⟨rfl, rfl, trivial⟩, trivial⟩, rfl, trivial⟩
        · replace h := iteF h g125
          conv => whnf
          refine CutK.norm [0, 1, 2, 7, 8, 26, 27, 62] [0, 64] ?_
          conv => whnf
          cases h
          exact Done.of [some 0, some 64] [] rfl rfl ⟨⟨rfl, rfl⟩, ⟨rfl, ⟨rfl, rfl, trivial⟩, ⟨rfl, rfl, trivial⟩, trivial⟩, rfl, trivial⟩
def impl_ordinalAt (k : Nat) (a1 : Rw) (a2 : Int) (a3 : Int) : Option (Bool × Rw × Int) :=
  (if (60 : Int) < (IntKind.i64.wrap (a3 + 1)) then some (false, a1, IntKind.i64.wrap (a3 + 1)) else (if (6 : Int) < a2 then some (false, a1, IntKind.i64.wrap (a3 + 1)) else (if a1.length ≤ cap then (impl_ordinalAt_l0 k a1 a2 (fun (v98 : Int) => (impl_ordinalAt_p3 a1 v98)) a1 0 (IntKind.i64.wrap (a3 + 1))) else none)))
set_option maxHeartbeats 4000000 in
set_option maxRecDepth 100000 in
theorem impl_ordinalAt_ct {k : Nat} {a1 : Rw} {a2 : Int} {a3 : Int} {r : Bool × Rw × Int} (h : impl_ordinalAt k a1 a2 a3 = some r) : Ct prog 61 [.ptr 0 0, .d (D.int .i64 a2), .ptr 64 0] (⟨[(32, [.d (D.sl a1)]), (3, [.d (D.int .i64 a3)])], []⟩) (.d (D.bool r.1)) (⟨[(32, [.d (D.sl r.2.1)]), (3, [.d (D.int .i64 r.2.2)])], []⟩) := by
  rw [impl_ordinalAt] at h
  refine Ct.of (c := _) mixed func61 ⟨rfl, rfl, rfl⟩ ?_ rfl
  conv => whnf
  refine splD (fun g62 => ?_) (fun g62 => ?_)
  · replace h := iteP h g62
    conv => whnf
    cases h
    exact Done.of [some 0, some 64] [] rfl rfl ⟨⟨rfl, rfl⟩, ⟨rfl, ⟨rfl, rfl, trivial⟩, ⟨rfl, rfl, trivial⟩, trivial⟩, rfl, trivial⟩
  · replace h := iteN h g62
    conv => whnf
    refine splD (fun g63 => ?_) (fun g63 => ?_)
    · replace h := iteP h g63
      conv => whnf
      cases h
      exact Done.of [some 0, some 64] [] rfl rfl ⟨⟨rfl, rfl⟩, ⟨rfl, ⟨rfl, rfl, trivial⟩, ⟨rfl, rfl, trivial⟩, trivial⟩, rfl, trivial⟩
    · replace h := iteN h g63
      conv => whnf
      obtain ⟨g137, h⟩ := req_ex h
      refine LoopOk.into (impl_ordinalAt_l0_ct  g137 _ _ _ rfl h) [some 0, some 64] [] ⟨⟨rfl, rfl⟩, ⟨rfl, ⟨rfl, rfl, trivial⟩, ⟨rfl, rfl, trivial⟩, trivial⟩, ⟨rfl, rfl⟩, rfl, ⟨rfl, rfl⟩, rfl, rfl, trivial⟩ ?_ (fun _ hs => hs)
      rintro i ts os ⟨rfl, v98, h, rfl, rfl⟩
      conv => whnf
      exact CutK.piece (impl_ordinalAt_p3_ct  h) [some 0, some 64] [] ⟨⟨rfl, rfl⟩, ⟨rfl, ⟨rfl, rfl, trivial⟩, ⟨rfl, rfl, trivial⟩, trivial⟩, trivial⟩

def impl_IsOrdinal (k : Nat) (a1 : Rw) : Option Bool :=
  ((impl_ordinalAt k a1 0 0).bind fun y2 => (if y2.1 = true then some true else some false))
set_option maxHeartbeats 4000000 in
set_option maxRecDepth 100000 in
theorem impl_IsOrdinal_ct {k : Nat} {a1 : Rw} {r : Bool} (h : impl_IsOrdinal k a1 = some r) : Ct prog 35 [.agg [.d (D.sl a1)]] (⟨[], []⟩) (.d (D.bool r)) (⟨[], []⟩) := by
  rw [impl_IsOrdinal] at h
  refine Ct.of (c := _) mixed func35 ⟨rfl, rfl, rfl⟩ ?_ rfl
  conv => whnf
  refine Pick.no ?_
  conv => whnf
  obtain ⟨y2, e3, h⟩ := bind_ex h
  refine CallOk.of (impl_ordinalAt_ct e3) ?_
  conv => whnf
  refine spl (fun g4 => ?_) (fun g4 => ?_)
  · replace h := iteT h g4
    conv => whnf
    refine CutK.go ?_
    conv => whnf
    cases h
    exact Done.of [] [] rfl rfl ⟨⟨rfl, rfl⟩, ⟨rfl, trivial⟩, rfl, trivial⟩
  · replace h := iteF h g4
    conv => whnf
    refine CutK.go ?_
    conv => whnf
    cases h
    exact Done.of [] [] rfl rfl ⟨⟨rfl, rfl⟩, ⟨rfl, trivial⟩, rfl, trivial⟩

def lib_Join (a1 : Rw) (a2 : ByteArray) : Option ByteArray := (strsD a1).bind fun l =>
  if l.length ≤ 140737488355328 ∧ (Lib.join (l.map (·.data.toList)) a2.data.toList).length ≤ 140737488355328 then some ⟨(Lib.join (l.map (·.data.toList)) a2.data.toList).toArray⟩ else none
theorem lib_Join_ct {a1 : Rw} {a2 r : ByteArray} (h : lib_Join a1 a2 = some r) : Ct prog 54 [.d (.sl a1), .d (.str a2)] ⟨[], []⟩ (.d (.str r)) ⟨[], []⟩ := by
  rw [lib_Join] at h
  obtain ⟨l, hl, h⟩ := bind_ex h
  obtain ⟨g, h⟩ := req_ex h
  cases h
  refine Ct.lib ⟨_, func54, rfl, rfl⟩ fun w M vs hs hr => ?_
  obtain ⟨v, u, rfl, hv, hu⟩ := repL_two hr
  rw [rep_str hu]
  rcases rep_strs hl hv hs.fz with ⟨rfl, a, c, rfl⟩ | ⟨bk, o, c, rfl, hc, hb, hn⟩
  · refine (strings_Join_none a c a2 w).mono ?_
    rintro e w' ⟨rfl, rfl⟩
    exact ⟨rfl, RowKit.Below.refl _ _⟩
  · exact (strings_Join bk o c l a2 w hc hb g.1 hn g.2).mono fun e w' h => h

def impl_isZero  (a1 : Rw) : Option Bool :=
  (if (a1.length : Int) = (0 : Int) then some true else some false)
set_option maxHeartbeats 4000000 in
set_option maxRecDepth 100000 in
theorem impl_isZero_ct  {a1 : Rw} {r : Bool} (h : impl_isZero a1 = some r) : Ct prog 51 [.agg [.d (D.sl a1)]] (⟨[], []⟩) (.d (D.bool r)) (⟨[], []⟩) := by
  rw [impl_isZero] at h
  refine Ct.of (c := _) mixed func51 ⟨rfl, rfl, rfl⟩ ?_ rfl
  conv => whnf
  refine splD (fun g2 => ?_) (fun g2 => ?_)
  · replace h := iteP h g2
    conv => whnf
    cases h
    exact Done.of [] [] rfl rfl ⟨⟨rfl, rfl⟩, ⟨rfl, trivial⟩, rfl, trivial⟩
  · replace h := iteN h g2
    conv => whnf
    cases h
    exact Done.of [] [] rfl rfl ⟨⟨rfl, rfl⟩, ⟨rfl, trivial⟩, rfl, trivial⟩

def lib_Itoa (a1 : Int) : Option ByteArray := if -9223372036854775808 ≤ a1 ∧ a1 ≤ 9223372036854775807 then some ⟨(Lib.itoa a1).toArray⟩ else none
theorem lib_Itoa_ct {a1 : Int} {r : ByteArray} (h : lib_Itoa a1 = some r) : Ct prog 30 [.d (.int .i64 a1)] ⟨[], []⟩ (.d (.str r)) ⟨[], []⟩ := by
  rw [lib_Itoa] at h
  obtain ⟨g, h⟩ := req_ex h
  cases h
  refine Ct.lib ⟨_, func30, rfl, rfl⟩ fun w M vs hs hr => ?_
  obtain ⟨v, rfl, hv⟩ := repL_oneD hr
  rw [rep_int hv]
  refine (strconv_Itoa a1 g.1 g.2 w (hs.tab.is (by kernel_rfl))).mono ?_
  rintro e w' ⟨rfl, k, os, rfl⟩
  exact ⟨rfl, Lib.below_grow _ _ (Nat.le_refl _) _ _⟩

def impl_finite  (a1 : Int) : Option Rw :=
  (if a1 = (0 : Int) then some ([] : Rw) else some ([[D.sl ([]), D.int .i64 a1]] : Rw))
set_option maxHeartbeats 4000000 in
set_option maxRecDepth 100000 in
theorem impl_finite_ct  {a1 : Int} {r : Rw} (h : impl_finite a1 = some r) : Ct prog 53 [.d (D.int .i64 a1)] (⟨[], []⟩) (.agg [.os 8 r.length]) (⟨[], [(75, true, r)]⟩) := by
  rw [impl_finite] at h
  refine Ct.of (c := _) mixed func53 ⟨rfl, rfl, rfl⟩ ?_ rfl
  conv => whnf
  refine splD (fun g2 => ?_) (fun g2 => ?_)
  · replace h := iteP h g2
    conv => whnf
    cases h
    exact Done.of [none] [] rfl rfl ⟨⟨rfl, rfl⟩, ⟨rfl, rfl, trivial⟩, ⟨⟨rfl, rfl⟩, trivial⟩, trivial⟩
  · replace h := iteN h g2
    conv => whnf
    cases h
    exact Done.of [some 512] [] rfl rfl ⟨⟨rfl, rfl⟩, ⟨rfl, ⟨rfl, rfl, rows_same⟩, trivial⟩, ⟨⟨(by first | rfl | exact List.length_append.symm | (simp; done) | omega), rfl⟩, trivial⟩, trivial⟩

def impl_ordinalText_p5 (o110 : ByteArray) : Option ByteArray :=
  some o110
set_option maxHeartbeats 4000000 in
set_option maxRecDepth 100000 in
theorem impl_ordinalText_p5_ct {o110 : ByteArray} {r : ByteArray} (h : impl_ordinalText_p5 o110 = some r) : X prog 0 (tlF f28 5) (mk 61 [(4, .d (D.str o110))] []) (finK prog f28 0 (.d (D.str r)) (⟨[], []⟩)) := by
  rw [impl_ordinalText_p5] at h
  conv => whnf
  cases h
  exact Done.of [] [] rfl rfl ⟨⟨rfl, rfl⟩, ⟨rfl, trivial⟩, rfl, trivial⟩
def impl_ordinalText_p3 (o106 : Rw) : Option ByteArray :=
  (if (o106.length : Int) = (0 : Int) then some (ByteArray.mk #[48]) else ((lib_Join o106 (ByteArray.mk #[43])).bind fun y112 => (impl_ordinalText_p5 y112)))
set_option maxHeartbeats 4000000 in
set_option maxRecDepth 100000 in
theorem impl_ordinalText_p3_ct {o106 : Rw} {r : ByteArray} (h : impl_ordinalText_p3 o106 = some r) : X prog 0 (tlF f28 3) (mk 61 [(5, .os 1079000 o106.length)] [(1079000, .arr 9 true o106)]) (finK prog f28 0 (.d (D.str r)) (⟨[], []⟩)) := by
  rw [impl_ordinalText_p3] at h
  conv => whnf
  refine splD (fun g111 => ?_) (fun g111 => ?_)
  · replace h := iteP h g111
    conv => whnf
    cases h
    exact Done.of [] [] rfl rfl ⟨⟨rfl, rfl⟩, ⟨rfl, trivial⟩, rfl, trivial⟩
  · replace h := iteN h g111
    conv => whnf
    refine Pick.no ?_
    conv => whnf
    refine Take.all (rfl) ?_
    conv => whnf
    obtain ⟨y112, e113, h⟩ := bind_ex h
    refine CallOk.of (lib_Join_ct e113) ?_
    conv => whnf
    exact CutK.piece (impl_ordinalText_p5_ct  h) [] [] ⟨⟨rfl, rfl⟩, ⟨rfl, trivial⟩, rfl, trivial⟩
def impl_ordinalText_l0 (k : Nat) (rec_impl_ordinalText : Rw → ByteArray → Option ByteArray) (a1 : Rw) (a2 : ByteArray) (K0 : Rw → Option ByteArray) : Rw → Rw → Option ByteArray
  | [], v124 => (K0 v124)
  | cs :: rest, v124 => (cell_si cs fun x217 x218 => ((impl_isZero x217).bind fun y220 => (if y220 = true then ((lib_Itoa x218).bind fun y223 => (if v124.length + 1 ≤ cap then (impl_ordinalText_l0 k rec_impl_ordinalText a1 a2 K0 rest (v124 ++ ([[D.str y223]]))) else none)) else ((impl_finite 1).bind fun y226 => ((impl_cmp k x217 y226).bind fun y228 => (if y228 = (0 : Int) then (if x218 = (1 : Int) then (if v124.length + 1 ≤ cap then (impl_ordinalText_l0 k rec_impl_ordinalText a1 a2 K0 rest (v124 ++ ([[D.str a2]]))) else none) else ((lib_Itoa x218).bind fun y244 => (if (ByteArray.mk #[42]).size + y244.size ≤ 9223372036854775807 then (if a2.size + ((ByteArray.mk #[42]) ++ y244).size ≤ 9223372036854775807 then (if v124.length + 1 ≤ cap then (impl_ordinalText_l0 k rec_impl_ordinalText a1 a2 K0 rest (v124 ++ ([[D.str (a2 ++ ((ByteArray.mk #[42]) ++ y244))]]))) else none) else none) else none))) else ((rec_impl_ordinalText x217 a2).bind fun y231 => (if (ByteArray.mk #[94, 40]).size + y231.size ≤ 9223372036854775807 then (if ((ByteArray.mk #[94, 40]) ++ y231).size + (ByteArray.mk #[41]).size ≤ 9223372036854775807 then (if a2.size + (((ByteArray.mk #[94, 40]) ++ y231) ++ (ByteArray.mk #[41])).size ≤ 9223372036854775807 then (if x218 = (1 : Int) then (if v124.length + 1 ≤ cap then (impl_ordinalText_l0 k rec_impl_ordinalText a1 a2 K0 rest (v124 ++ ([[D.str (a2 ++ (((ByteArray.mk #[94, 40]) ++ y231) ++ (ByteArray.mk #[41])))]]))) else none) else ((lib_Itoa x218).bind fun y237 => (if (ByteArray.mk #[42]).size + y237.size ≤ 9223372036854775807 then (if (a2 ++ (((ByteArray.mk #[94, 40]) ++ y231) ++ (ByteArray.mk #[41]))).size + ((ByteArray.mk #[42]) ++ y237).size ≤ 9223372036854775807 then (if v124.length + 1 ≤ cap then (impl_ordinalText_l0 k rec_impl_ordinalText a1 a2 K0 rest (v124 ++ ([[D.str ((a2 ++ (((ByteArray.mk #[94, 40]) ++ y231) ++ (ByteArray.mk #[41]))) ++ ((ByteArray.mk #[42]) ++ y237))]]))) else none) else none) else none))) else none) else none) else none))))))))
set_option maxRecDepth 100000 in
theorem impl_ordinalText_l0_ct {k : Nat} {rec_impl_ordinalText : Rw → ByteArray → Option ByteArray} {a1 : Rw} {a2 : ByteArray} {K0 : Rw → Option ByteArray} (hrec_impl_ordinalText : ∀ (a1 : Rw) (a2 : ByteArray) (r : ByteArray), rec_impl_ordinalText a1 a2 = some r → Ct prog 28 [.agg [.d (D.sl a1)], .d (D.str a2)] (⟨[], []⟩) (.d (D.str r)) (⟨[], []⟩)) {r : ByteArray} (hx : a1.length ≤ cap) : ∀ (rest : Rw) (v125n : Nat) (v124 : Rw), a1.drop v125n = rest → impl_ordinalText_l0 k rec_impl_ordinalText a1 a2 K0 rest v124 = some r → LoopOk prog 0 (lp f28 0) (mk 61 [(1, .d (D.str a2)), (5, .os 64000 v124.length), (11, .d (D.sl a1)), (12, .d (D.int .i64 (a1.length : Int))), (13, .d (D.int .i64 (v125n : Int)))] [(64000, .arr 9 true v124)]) (LoopEnd prog f28 0 61 (.d (D.str r)) (⟨[], []⟩) (fun i ts os => (i = 0 ∧ ∃ v181 : Rw, K0 v181 = some r ∧ ts = [(5, .os 67001 v181.length)] ∧ os = [(67001, .arr 9 true v181)])))
  | [], v125n, v124, hd, h => by
      rw [impl_ordinalText_l0] at h
      have hn := drop_nil hd
      refine LoopOk.step ?_
      conv => whnf
      refine splD (fun g => absurd g hn) (fun _ => ?_)
      conv => whnf
      exact ⟨_, _, [some 64000], [], ⟨rfl, _, h, rfl, rfl⟩, ⟨⟨rfl, rfl⟩, ⟨rfl, ⟨rfl, rfl, rows_same⟩, trivial⟩, ⟨rfl, rfl⟩, trivial⟩⟩
  | cs :: rest, v125n, v124, hd, h => by
      rw [impl_ordinalText_l0] at h
      obtain ⟨hrow, hd1, hlt⟩ := drop_cons hd
      refine LoopOk.step ?_
      conv => whnf
      refine splD (fun _ => ?_) (fun g => absurd hlt g)
      conv => whnf
      obtain ⟨x217, x218, e219, h⟩ := cell_si_ex h
      rw [e219] at hrow
      refine Req.of (Int.natCast_nonneg _) ?_
      refine Row.of _ hrow ?_
      conv => whnf
      refine Pick.no ?_
      conv => whnf
      obtain ⟨y220, e221, h⟩ := bind_ex h
      refine CallOk.of (impl_isZero_ct e221) ?_
      conv => whnf
      refine spl (fun g222 => ?_) (fun g222 => ?_)
      · replace h := iteT h g222
        conv => whnf
        refine CutK.norm [1, 5, 7, 8, 11, 12, 13, 18] [448, 64000] ?_
        conv => whnf
        refine Pick.no ?_
        conv => whnf
        obtain ⟨y223, e224, h⟩ := bind_ex h
        refine CallOk.of (lib_Itoa_ct e224) ?_
        conv => whnf
        refine Take.all (rfl) ?_
        conv => whnf
        refine Take.all (by first | rfl | exact List.length_append.symm | (simp; done) | omega) ?_
        conv => whnf
        obtain ⟨g225, h⟩ := req_ex h
        refine Req.of (room (b := 16) (by decide) g225 (wide1 rfl wide0)) ?_
        conv => whnf
        refine CutK.norm [1, 5, 11, 12, 13] [1728] ?_
        conv => whnf
        refine CutK.norm [1, 5, 11, 12, 13] [1728] ?_
        conv => whnf
        exact LoopOk.back (impl_ordinalText_l0_ct hrec_impl_ordinalText hx rest (v125n + 1) _ hd1 h) [some 1728] [] ⟨⟨rfl, rfl⟩, ⟨rfl, ⟨rfl, rfl, rows_same⟩, trivial⟩, rfl, ⟨(by first | rfl | exact List.length_append.symm | (simp; done) | omega), rfl⟩, rfl, rfl, i64eq (wrap_up hlt hx), trivial⟩
      · replace h := iteF h g222
        conv => whnf
        refine CutK.norm [1, 5, 7, 8, 11, 12, 13, 18] [448, 64000] ?_
        conv => whnf
        refine Pick.no ?_
        conv => whnf
        obtain ⟨y226, e227, h⟩ := bind_ex h
        refine CallOk.of (impl_finite_ct e227) ?_
        conv => whnf
        refine Pick.no ?_
        conv => whnf
        refine Take.all (rfl) ?_
        conv => whnf
        obtain ⟨y228, e229, h⟩ := bind_ex h
        refine CallOk.of (impl_cmp_ct e229) ?_
        conv => whnf
        refine splN (fun g230 => ?_) (fun g230 => ?_)
        · replace h := iteN h g230
          conv => whnf
          refine CutK.norm [1, 5, 7, 8, 11, 12, 13, 28] [448, 64000] ?_
          conv => whnf
          refine Pick.no ?_
          conv => whnf
          obtain ⟨y231, e232, h⟩ := bind_ex h
          refine CallOk.of (hrec_impl_ordinalText _ _ _ e232) ?_
          conv => whnf
          obtain ⟨g233, h⟩ := req_ex h
          refine Req.of g233 ?_
          conv => whnf
          obtain ⟨g234, h⟩ := req_ex h
          refine Req.of g234 ?_
          conv => whnf
          obtain ⟨g235, h⟩ := req_ex h
          refine Req.of g235 ?_
          conv => whnf
          refine CutK.norm [1, 5, 7, 8, 11, 12, 13] [448, 64000] ?_
          conv => whnf
          refine splN (fun g236 => ?_) (fun g236 => ?_)
          · replace h := iteN h g236
            conv => whnf
            refine Pick.no ?_
            conv => whnf
            obtain ⟨y237, e238, h⟩ := bind_ex h
            refine CallOk.of (lib_Itoa_ct e238) ?_
            conv => whnf
            obtain ⟨g239, h⟩ := req_ex h
            refine Req.of g239 ?_
            conv => whnf
            obtain ⟨g240, h⟩ := req_ex h
            refine Req.of g240 ?_
            conv => whnf
            refine CutK.norm [1, 5, 8, 11, 12, 13] [64000] ?_
            conv => whnf
            refine Take.all (rfl) ?_
            conv => whnf
            refine Take.all (by first | rfl | exact List.length_append.symm | (simp; done) | omega) ?_
            conv => whnf
            obtain ⟨g241, h⟩ := req_ex h
            refine Req.of (room (b := 16) (by decide) g241 (wide1 rfl wide0)) ?_
            conv => whnf
            refine CutK.norm [1, 5, 11, 12, 13] [3456] ?_
            conv => whnf
            exact LoopOk.back (impl_ordinalText_l0_ct hrec_impl_ordinalText hx rest (v125n + 1) _ hd1 h) [some 3456] [] ⟨⟨rfl, rfl⟩, ⟨rfl, ⟨rfl, rfl, rows_same⟩, trivial⟩, rfl, ⟨(by first | rfl | exact List.length_append.symm | (simp; done) | omega), rfl⟩, rfl, rfl, i64eq (wrap_up hlt hx), trivial⟩
          · replace h := iteP h g236
            conv => whnf
            refine CutK.norm [1, 5, 8, 11, 12, 13] [64000] ?_
            conv => whnf
            refine Take.all (rfl) ?_
            conv => whnf
            refine Take.all (by first | rfl | exact List.length_append.symm | (simp; done) | omega) ?_
            conv => whnf
            obtain ⟨g242, h⟩ := req_ex h
            refine Req.of (room (b := 16) (by decide) g242 (wide1 rfl wide0)) ?_
            conv => whnf
            refine CutK.norm [1, 5, 11, 12, 13] [3456] ?_
            conv => whnf
            exact LoopOk.back (impl_ordinalText_l0_ct hrec_impl_ordinalText hx rest (v125n + 1) _ hd1 h) [some 3456] [] ⟨⟨rfl, rfl⟩, ⟨rfl, ⟨rfl, rfl, rows_same⟩, trivial⟩, rfl, ⟨(by first | rfl | exact List.length_append.symm | (simp; done) | omega), rfl⟩, rfl, rfl, i64eq (wrap_up hlt hx), trivial⟩
        · replace h := iteP h g230
          conv => whnf
          refine CutK.norm [1, 5, 7, 8, 11, 12, 13, 28] [448, 64000] ?_
          conv => whnf
          refine CutK.norm [1, 5, 7, 8, 11, 12, 13] [448, 64000] ?_
          conv => whnf
          refine splN (fun g243 => ?_) (fun g243 => ?_)
          · replace h := iteN h g243
            conv => whnf
            refine Pick.no ?_
            conv => whnf
            obtain ⟨y244, e245, h⟩ := bind_ex h
            refine CallOk.of (lib_Itoa_ct e245) ?_
            conv => whnf
            obtain ⟨g246, h⟩ := req_ex h
            refine Req.of g246 ?_
            conv => whnf
            obtain ⟨g247, h⟩ := req_ex h
            refine Req.of g247 ?_
            conv => whnf
            refine CutK.norm [1, 5, 8, 11, 12, 13] [64000] ?_
            conv => whnf
            refine Take.all (rfl) ?_
            conv => whnf
            refine Take.all (by first | rfl | exact List.length_append.symm | (simp; done) | omega) ?_
            conv => whnf
            obtain ⟨g248, h⟩ := req_ex h
            refine Req.of (room (b := 16) (by decide) g248 (wide1 rfl wide0)) ?_
            conv => whnf
            refine CutK.norm [1, 5, 11, 12, 13] [3456] ?_
            conv => whnf
            exact LoopOk.back (impl_ordinalText_l0_ct hrec_impl_ordinalText hx rest (v125n + 1) _ hd1 h) [some 3456] [] ⟨⟨rfl, rfl⟩, ⟨rfl, ⟨rfl, rfl, rows_same⟩, trivial⟩, rfl, ⟨(by first | rfl | exact List.length_append.symm | (simp; done) | omega), rfl⟩, rfl, rfl, i64eq (wrap_up hlt hx), trivial⟩
          · replace h := iteP h g243
            conv => whnf
            refine CutK.norm [1, 5, 8, 11, 12, 13] [64000] ?_
            conv => whnf
            refine Take.all (rfl) ?_
            conv => whnf
            refine Take.all (by first | rfl | exact List.length_append.symm | (simp; done) | omega) ?_
            conv => whnf
            obtain ⟨g249, h⟩ := req_ex h
            refine Req.of (room (b := 16) (by decide) g249 (wide1 rfl wide0)) ?_
            conv => whnf
            refine CutK.norm [1, 5, 11, 12, 13] [3456] ?_
            conv => whnf
            exact LoopOk.back (impl_ordinalText_l0_ct hrec_impl_ordinalText hx rest (v125n + 1) _ hd1 h) [some 3456] [] ⟨⟨rfl, rfl⟩, ⟨rfl, ⟨rfl, rfl, rows_same⟩, trivial⟩, rfl, ⟨(by first | rfl | exact List.length_append.symm | (simp; done) | omega), rfl⟩, rfl, rfl, i64eq (wrap_up hlt hx), trivial⟩
def impl_ordinalText_b (k : Nat) (rec_impl_ordinalText : Rw → ByteArray → Option ByteArray) (a1 : Rw) (a2 : ByteArray) : Option ByteArray :=
  (if a1.length ≤ cap then (impl_ordinalText_l0 k rec_impl_ordinalText a1 a2 (fun (v181 : Rw) => (impl_ordinalText_p3 v181)) a1 ([] : Rw)) else none)
set_option maxHeartbeats 4000000 in
set_option maxRecDepth 100000 in
theorem impl_ordinalText_b_ct {k : Nat} {rec_impl_ordinalText : Rw → ByteArray → Option ByteArray} (hrec_impl_ordinalText : ∀ (a1 : Rw) (a2 : ByteArray) (r : ByteArray), rec_impl_ordinalText a1 a2 = some r → Ct prog 28 [.agg [.d (D.sl a1)], .d (D.str a2)] (⟨[], []⟩) (.d (D.str r)) (⟨[], []⟩)) {a1 : Rw} {a2 : ByteArray} {r : ByteArray} (h : impl_ordinalText_b k rec_impl_ordinalText a1 a2 = some r) : Ct prog 28 [.agg [.d (D.sl a1)], .d (D.str a2)] (⟨[], []⟩) (.d (D.str r)) (⟨[], []⟩) := by
  rw [impl_ordinalText_b] at h
  refine Ct.of (c := _) mixed func28 ⟨rfl, rfl, rfl⟩ ?_ rfl
  conv => whnf
  obtain ⟨g250, h⟩ := req_ex h
  refine LoopOk.into (impl_ordinalText_l0_ct hrec_impl_ordinalText g250 _ _ _ rfl h) [some 576] [] ⟨⟨rfl, rfl⟩, ⟨rfl, ⟨rfl, rfl, rows_same⟩, trivial⟩, rfl, ⟨(by first | rfl | exact List.length_append.symm | (simp; done) | omega), rfl⟩, rfl, rfl, rfl, trivial⟩ ?_ (fun _ hs => hs)
  rintro i ts os ⟨rfl, v181, h, rfl, rfl⟩
  conv => whnf
  exact CutK.piece (impl_ordinalText_p3_ct  h) [some 67001] [] ⟨⟨rfl, rfl⟩, ⟨rfl, ⟨rfl, rfl, rows_same⟩, trivial⟩, ⟨rfl, rfl⟩, trivial⟩
def impl_ordinalText : Nat → Rw → ByteArray → Option ByteArray
  | 0, _, _ => none
  | k + 1, a1, a2 => impl_ordinalText_b k (impl_ordinalText k) a1 a2
theorem impl_ordinalText_ct' : ∀ (k : Nat) (a1 : Rw) (a2 : ByteArray) (r : ByteArray), impl_ordinalText k a1 a2 = some r → Ct prog 28 [.agg [.d (D.sl a1)], .d (D.str a2)] (⟨[], []⟩) (.d (D.str r)) (⟨[], []⟩)
  | 0, _, _, _, h => by rw [impl_ordinalText] at h; cases h
  | k + 1, _, _, _, h => by rw [impl_ordinalText] at h; exact impl_ordinalText_b_ct (impl_ordinalText_ct' k) h
theorem impl_ordinalText_ct {k : Nat} {a1 : Rw} {a2 : ByteArray} {r : ByteArray} (h : impl_ordinalText k a1 a2 = some r) : Ct prog 28 [.agg [.d (D.sl a1)], .d (D.str a2)] (⟨[], []⟩) (.d (D.str r)) (⟨[], []⟩) := impl_ordinalText_ct' k _ _ _ h

def impl_OrdinalText (k : Nat) (a1 : Rw) : Option (ByteArray × Bool) :=
  ((impl_IsOrdinal k a1).bind fun y2 => (if y2 = true then ((impl_ordinalText k a1 (ByteArray.mk #[119])).bind fun y5 => some (y5, true)) else some ((ByteArray.mk #[]), false)))
set_option maxHeartbeats 4000000 in
set_option maxRecDepth 100000 in
theorem impl_OrdinalText_ct {k : Nat} {a1 : Rw} {r : ByteArray × Bool} (h : impl_OrdinalText k a1 = some r) : Ct prog 12 [.agg [.d (D.sl a1)]] (⟨[], []⟩) (.tup [.d (D.str r.1), .d (D.bool r.2)]) (⟨[], []⟩) := by
  rw [impl_OrdinalText] at h
  refine Ct.of (c := _) mixed func12 ⟨rfl, rfl, rfl⟩ ?_ rfl
  conv => whnf
  refine Pick.no ?_
  conv => whnf
  obtain ⟨y2, e3, h⟩ := bind_ex h
  refine CallOk.of (impl_IsOrdinal_ct e3) ?_
  conv => whnf
  refine spl (fun g4 => ?_) (fun g4 => ?_)
  · replace h := iteT h g4
    conv => whnf
    refine CutK.go ?_
    conv => whnf
    refine CutK.go ?_
    conv => whnf
    refine Pick.no ?_
    conv => whnf
    obtain ⟨y5, e6, h⟩ := bind_ex h
    refine CallOk.of (impl_ordinalText_ct e6) ?_
    conv => whnf
    refine CutK.go ?_
    conv => whnf
    cases h
    exact Done.of [] [] rfl rfl ⟨⟨rfl, rfl⟩, ⟨rfl, trivial⟩, ⟨rfl, rfl, trivial⟩, trivial⟩
  · replace h := iteF h g4
    conv => whnf
    refine CutK.go ?_
    conv => whnf
    cases h
    exact Done.of [] [] rfl rfl ⟨⟨rfl, rfl⟩, ⟨rfl, trivial⟩, ⟨rfl, rfl, trivial⟩, trivial⟩

def laws_eqOrdinalTerm (rec_laws_eqOrdinal : Rw → Rw → Option Bool) (a1 : Rw) (a2 : Int) (a3 : Rw) (a4 : Int) : Option Bool :=
  ((rec_laws_eqOrdinal a1 a3).bind fun y5 => (if y5 = true then (if a2 = a4 then some true else some false) else some false))
set_option maxHeartbeats 4000000 in
set_option maxRecDepth 100000 in
theorem laws_eqOrdinalTerm_ct {rec_laws_eqOrdinal : Rw → Rw → Option Bool} (hrec_laws_eqOrdinal : ∀ (a1 : Rw) (a2 : Rw) (r : Bool), rec_laws_eqOrdinal a1 a2 = some r → Ct prog 13 [.agg [.d (D.sl a1)], .agg [.d (D.sl a2)]] (⟨[], []⟩) (.d (D.bool r)) (⟨[], []⟩)) {a1 : Rw} {a2 : Int} {a3 : Rw} {a4 : Int} {r : Bool} (h : laws_eqOrdinalTerm rec_laws_eqOrdinal a1 a2 a3 a4 = some r) : Ct prog 62 [.agg [.d (D.sl a1), .d (D.int .i64 a2)], .agg [.d (D.sl a3), .d (D.int .i64 a4)]] (⟨[], []⟩) (.d (D.bool r)) (⟨[], []⟩) := by
  rw [laws_eqOrdinalTerm] at h
  refine Ct.of (c := _) mixed func62 ⟨rfl, rfl, rfl⟩ ?_ rfl
  conv => whnf
  refine Pick.no ?_
  conv => whnf
  obtain ⟨y5, e6, h⟩ := bind_ex h
  refine CallOk.of (hrec_laws_eqOrdinal _ _ _ e6) ?_
  conv => whnf
  refine spl (fun g7 => ?_) (fun g7 => ?_)
  · replace h := iteT h g7
    conv => whnf
    refine CutK.go ?_
    conv => whnf
    refine CutK.go ?_
    conv => whnf
    refine splN (fun g8 => ?_) (fun g8 => ?_)
    · replace h := iteN h g8
      conv => whnf
      cases h
      exact Done.of [] [] rfl rfl ⟨⟨rfl, rfl⟩, ⟨rfl, trivial⟩, rfl, trivial⟩
    · replace h := iteP h g8
      conv => whnf
      cases h
      exact Done.of [] [] rfl rfl ⟨⟨rfl, rfl⟩, ⟨rfl, trivial⟩, rfl, trivial⟩
  · replace h := iteF h g7
    conv => whnf
    refine CutK.go ?_
    conv => whnf
    cases h
    exact Done.of [] [] rfl rfl ⟨⟨rfl, rfl⟩, ⟨rfl, trivial⟩, rfl, trivial⟩

def laws_eqOrdinalTermS_l0 (rec_laws_eqOrdinal : Rw → Rw → Option Bool) (a1 : Rw) (a2 : Rw) (K0 : Option Bool) : Rw → Nat → Option Bool
  | [], v16n => (K0)
  | cs :: rest, v16n => (cell_si cs fun x29 x30 => (row_si a2 (v16n : Int) fun x32 x33 => ((laws_eqOrdinalTerm rec_laws_eqOrdinal x29 x30 x32 x33).bind fun y36 => (if y36 = true then (laws_eqOrdinalTermS_l0 rec_laws_eqOrdinal a1 a2 K0 rest (v16n + 1)) else some false))))
set_option maxRecDepth 100000 in
theorem laws_eqOrdinalTermS_l0_ct {rec_laws_eqOrdinal : Rw → Rw → Option Bool} {a1 : Rw} {a2 : Rw} {K0 : Option Bool} (hrec_laws_eqOrdinal : ∀ (a1 : Rw) (a2 : Rw) (r : Bool), rec_laws_eqOrdinal a1 a2 = some r → Ct prog 13 [.agg [.d (D.sl a1)], .agg [.d (D.sl a2)]] (⟨[], []⟩) (.d (D.bool r)) (⟨[], []⟩)) {r : Bool} (hx : a1.length ≤ cap) : ∀ (rest : Rw) (v16n : Nat), a1.drop v16n = rest → laws_eqOrdinalTermS_l0 rec_laws_eqOrdinal a1 a2 K0 rest v16n = some r → LoopOk prog 0 (lp f36 0) (mk 27 [(0, .d (D.sl a1)), (1, .d (D.sl a2)), (5, .d (D.int .i64 (v16n : Int)))] []) (LoopEnd prog f36 0 27 (.d (D.bool r)) (⟨[], []⟩) (fun i ts os => (i = 0 ∧ K0 = some r ∧ ts = [] ∧ os = [])))
  | [], v16n, hd, h => by
      rw [laws_eqOrdinalTermS_l0] at h
      have hn := drop_nil hd
      refine LoopOk.step ?_
      conv => whnf
      refine splD (fun g => absurd g hn) (fun _ => ?_)
      conv => whnf
      exact ⟨_, _, [], [], ⟨rfl, h, rfl, rfl⟩, ⟨⟨rfl, rfl⟩, ⟨rfl, trivial⟩, trivial⟩⟩
  | cs :: rest, v16n, hd, h => by
      rw [laws_eqOrdinalTermS_l0] at h
      obtain ⟨hrow, hd1, hlt⟩ := drop_cons hd
      refine LoopOk.step ?_
      conv => whnf
      refine splD (fun _ => ?_) (fun g => absurd hlt g)
      conv => whnf
      obtain ⟨x29, x30, e31, h⟩ := cell_si_ex h
      rw [e31] at hrow
      refine Req.of (Int.natCast_nonneg _) ?_
      refine Row.of _ hrow ?_
      conv => whnf
      obtain ⟨g35, x32, x33, e34, h⟩ := row_si_ex h
      refine Req.of g35 ?_
      refine Row.of _ e34 ?_
      conv => whnf
      refine Pick.no ?_
      conv => whnf
      obtain ⟨y36, e37, h⟩ := bind_ex h
      refine CallOk.of (laws_eqOrdinalTerm_ct hrec_laws_eqOrdinal e37) ?_
      conv => whnf
      refine spl (fun g38 => ?_) (fun g38 => ?_)
      · replace h := iteT h g38
        conv => whnf
        refine CutK.go ?_
        conv => whnf
        refine CutK.go ?_
        conv => whnf
        exact LoopOk.back (laws_eqOrdinalTermS_l0_ct hrec_laws_eqOrdinal hx rest (v16n + 1)  hd1 h) [] [] ⟨⟨rfl, rfl⟩, ⟨rfl, trivial⟩, rfl, rfl, i64eq (wrap_up hlt hx), trivial⟩
      · replace h := iteF h g38
        conv => whnf
        refine CutK.go ?_
        conv => whnf
        cases h
        exact Done.of [] [] rfl rfl ⟨⟨rfl, rfl⟩, ⟨rfl, trivial⟩, rfl, trivial⟩
def laws_eqOrdinalTermS (rec_laws_eqOrdinal : Rw → Rw → Option Bool) (a1 : Rw) (a2 : Rw) : Option Bool :=
  (if (a1.length : Int) = (a2.length : Int) then (if a1.length ≤ cap then (laws_eqOrdinalTermS_l0 rec_laws_eqOrdinal a1 a2 (some true) a1 0) else none) else some false)
set_option maxHeartbeats 4000000 in
set_option maxRecDepth 100000 in
theorem laws_eqOrdinalTermS_ct {rec_laws_eqOrdinal : Rw → Rw → Option Bool} (hrec_laws_eqOrdinal : ∀ (a1 : Rw) (a2 : Rw) (r : Bool), rec_laws_eqOrdinal a1 a2 = some r → Ct prog 13 [.agg [.d (D.sl a1)], .agg [.d (D.sl a2)]] (⟨[], []⟩) (.d (D.bool r)) (⟨[], []⟩)) {a1 : Rw} {a2 : Rw} {r : Bool} (h : laws_eqOrdinalTermS rec_laws_eqOrdinal a1 a2 = some r) : Ct prog 36 [.d (D.sl a1), .d (D.sl a2)] (⟨[], []⟩) (.d (D.bool r)) (⟨[], []⟩) := by
  rw [laws_eqOrdinalTermS] at h
  refine Ct.of (c := _) mixed func36 ⟨rfl, rfl, rfl⟩ ?_ rfl
  conv => whnf
  refine splN (fun g3 => ?_) (fun g3 => ?_)
  · replace h := iteN h g3
    conv => whnf
    cases h
    exact Done.of [] [] rfl rfl ⟨⟨rfl, rfl⟩, ⟨rfl, trivial⟩, rfl, trivial⟩
  · replace h := iteP h g3
    conv => whnf
    obtain ⟨g39, h⟩ := req_ex h
    refine LoopOk.into (laws_eqOrdinalTermS_l0_ct hrec_laws_eqOrdinal g39 _ _  rfl h) [] [] ⟨⟨rfl, rfl⟩, ⟨rfl, trivial⟩, rfl, rfl, rfl, trivial⟩ ?_ (fun _ hs => hs)
    rintro i ts os ⟨rfl, h, rfl, rfl⟩
    conv => whnf
    refine CutK.go ?_
    conv => whnf
    cases h
    exact Done.of [] [] rfl rfl ⟨⟨rfl, rfl⟩, ⟨rfl, trivial⟩, rfl, trivial⟩

def laws_eqOrdinal_b (rec_laws_eqOrdinal : Rw → Rw → Option Bool) (a1 : Rw) (a2 : Rw) : Option Bool :=
  ((laws_eqOrdinalTermS rec_laws_eqOrdinal a1 a2).bind fun y3 => (if y3 = true then some true else some false))
set_option maxHeartbeats 4000000 in
set_option maxRecDepth 100000 in
theorem laws_eqOrdinal_b_ct {rec_laws_eqOrdinal : Rw → Rw → Option Bool} (hrec_laws_eqOrdinal : ∀ (a1 : Rw) (a2 : Rw) (r : Bool), rec_laws_eqOrdinal a1 a2 = some r → Ct prog 13 [.agg [.d (D.sl a1)], .agg [.d (D.sl a2)]] (⟨[], []⟩) (.d (D.bool r)) (⟨[], []⟩)) {a1 : Rw} {a2 : Rw} {r : Bool} (h : laws_eqOrdinal_b rec_laws_eqOrdinal a1 a2 = some r) : Ct prog 13 [.agg [.d (D.sl a1)], .agg [.d (D.sl a2)]] (⟨[], []⟩) (.d (D.bool r)) (⟨[], []⟩) := by
  rw [laws_eqOrdinal_b] at h
  refine Ct.of (c := _) mixed func13 ⟨rfl, rfl, rfl⟩ ?_ rfl
  conv => whnf
  refine Pick.no ?_
  conv => whnf
  obtain ⟨y3, e4, h⟩ := bind_ex h
  refine CallOk.of (laws_eqOrdinalTermS_ct hrec_laws_eqOrdinal e4) ?_
  conv => whnf
  refine spl (fun g5 => ?_) (fun g5 => ?_)
  · replace h := iteT h g5
    conv => whnf
    refine CutK.go ?_
    conv => whnf
    refine CutK.go ?_
    conv => whnf
    cases h
    exact Done.of [] [] rfl rfl ⟨⟨rfl, rfl⟩, ⟨rfl, trivial⟩, rfl, trivial⟩
  · replace h := iteF h g5
    conv => whnf
    refine CutK.go ?_
    conv => whnf
    cases h
    exact Done.of [] [] rfl rfl ⟨⟨rfl, rfl⟩, ⟨rfl, trivial⟩, rfl, trivial⟩
def laws_eqOrdinal : Nat → Rw → Rw → Option Bool
  | 0, _, _ => none
  | k + 1, a1, a2 => laws_eqOrdinal_b (laws_eqOrdinal k) a1 a2
theorem laws_eqOrdinal_ct' : ∀ (k : Nat) (a1 : Rw) (a2 : Rw) (r : Bool), laws_eqOrdinal k a1 a2 = some r → Ct prog 13 [.agg [.d (D.sl a1)], .agg [.d (D.sl a2)]] (⟨[], []⟩) (.d (D.bool r)) (⟨[], []⟩)
  | 0, _, _, _, h => by rw [laws_eqOrdinal] at h; cases h
  | k + 1, _, _, _, h => by rw [laws_eqOrdinal] at h; exact laws_eqOrdinal_b_ct (laws_eqOrdinal_ct' k) h
theorem laws_eqOrdinal_ct {k : Nat} {a1 : Rw} {a2 : Rw} {r : Bool} (h : laws_eqOrdinal k a1 a2 = some r) : Ct prog 13 [.agg [.d (D.sl a1)], .agg [.d (D.sl a2)]] (⟨[], []⟩) (.d (D.bool r)) (⟨[], []⟩) := laws_eqOrdinal_ct' k _ _ _ h

def laws_FnExactOrdinalText (k : Nat) (a1 : Rw) : Option Bool :=
  ((laws_szOrdinal k a1 1048576).bind fun y2 => (if y2 < (0 : Int) then some true else ((laws_toOrdinal k a1).bind fun y5 => ((spec_OrdinalText k y5).bind fun y7 => (if y7.2 = true then ((laws_toOrdinal k a1).bind fun y10 => ((impl_OrdinalText k y10).bind fun y12 => (if y12.2 = true then (if (!(y12.1.toList == y7.1.toList)) = true then some false else ((laws_toOrdinal k a1).bind fun y16 => ((laws_eqOrdinal k y10 y16).bind fun y18 => (if y18 = true then some true else some false)))) else (if (!(y12.1.toList == y7.1.toList)) = true then some false else some false)))) else ((laws_toOrdinal k a1).bind fun y22 => ((impl_OrdinalText k y22).bind fun y24 => (if y24.2 = true then (if (!(y24.1.toList == y7.1.toList)) = true then some false else some false) else (if (!(y24.1.toList == y7.1.toList)) = true then some false else ((laws_toOrdinal k a1).bind fun y29 => ((laws_eqOrdinal k y22 y29).bind fun y31 => (if y31 = true then some true else some false))))))))))))
set_option maxHeartbeats 4000000 in
set_option maxRecDepth 100000 in
theorem laws_FnExactOrdinalText_ct {k : Nat} {a1 : Rw} {r : Bool} (h : laws_FnExactOrdinalText k a1 = some r) : Ct prog 4 [.agg [.d (D.sl a1)]] (⟨[], []⟩) (.d (D.bool r)) (⟨[], []⟩) := by
  rw [laws_FnExactOrdinalText] at h
  refine Ct.of (c := _) mixed func4 ⟨rfl, rfl, rfl⟩ ?_ rfl
  conv => whnf
  refine Pick.no ?_
  conv => whnf
  obtain ⟨y2, e3, h⟩ := bind_ex h
  refine CallOk.of (laws_szOrdinal_ct e3) ?_
  conv => whnf
  refine CutK.norm [1, 3] [64] ?_
  conv => whnf
  refine splD (fun g4 => ?_) (fun g4 => ?_)
  · replace h := iteP h g4
    conv => whnf
    cases h
    exact Done.of [] [] rfl rfl ⟨⟨rfl, rfl⟩, ⟨rfl, trivial⟩, rfl, trivial⟩
  · replace h := iteN h g4
    conv => whnf
    refine Pick.no ?_
    conv => whnf
    obtain ⟨y5, e6, h⟩ := bind_ex h
    refine CallOk.of (laws_toOrdinal_ct e6) ?_
    conv => whnf
    refine Pick.no ?_
    conv => whnf
    refine Take.all (rfl) ?_
    conv => whnf
    obtain ⟨y7, e8, h⟩ := bind_ex h
    refine CallOk.of (spec_OrdinalText_ct e8) ?_
    conv => whnf
    refine spl (fun g9 => ?_) (fun g9 => ?_)
    · replace h := iteT h g9
      conv => whnf
      refine CutK.norm [1, 4, 5] [64] ?_
      conv => whnf
      refine Pick.no ?_
      conv => whnf
      obtain ⟨y10, e11, h⟩ := bind_ex h
      refine CallOk.of (laws_toOrdinal_ct e11) ?_
      conv => whnf
      refine CutK.norm [1, 4, 5, 6] [64, 384, 1344] ?_
      conv => whnf
      refine Pick.no ?_
      conv => whnf
      refine Take.all (rfl) ?_
      conv => whnf
      obtain ⟨y12, e13, h⟩ := bind_ex h
      refine CallOk.of (impl_OrdinalText_ct e13) ?_
      conv => whnf
      refine spl (fun g14 => ?_) (fun g14 => ?_)
      · replace h := iteT h g14
        conv => whnf
        refine CutK.norm [1, 4, 5, 6, 7, 8] [64, 384, 1344] ?_
        conv => whnf
        refine spl (fun g15 => ?_) (fun g15 => ?_)
        · replace h := iteT h g15
          conv => whnf
          cases h
          exact Done.of [] [] rfl rfl ⟨⟨rfl, rfl⟩, ⟨rfl, trivial⟩, rfl, trivial⟩
        · replace h := iteF h g15
          conv => whnf
          refine splF ?_
          conv => whnf
          refine Pick.no ?_
          conv => whnf
          obtain ⟨y16, e17, h⟩ := bind_ex h
          refine CallOk.of (laws_toOrdinal_ct e17) ?_
          conv => whnf
          refine Pick.no ?_
          conv => whnf
          refine Take.all (rfl) ?_
          conv => whnf
          refine Take.all (rfl) ?_
          conv => whnf
          obtain ⟨y18, e19, h⟩ := bind_ex h
          refine CallOk.of (laws_eqOrdinal_ct e19) ?_
          conv => whnf
          refine spl (fun g20 => ?_) (fun g20 => ?_)
          · replace h := iteT h g20
            conv => whnf
            refine CutK.norm [39] [] ?_
            conv => whnf
            refine CutK.norm [] [] ?_
            conv => whnf
            cases h
            exact Done.of [] [] rfl rfl ⟨⟨rfl, rfl⟩, ⟨rfl, trivial⟩, rfl, trivial⟩
          · replace h := iteF h g20
            conv => whnf
            refine CutK.norm [39] [] ?_
            conv => whnf
            cases h
            exact Done.of [] [] rfl rfl ⟨⟨rfl, rfl⟩, ⟨rfl, trivial⟩, rfl, trivial⟩
      · replace h := iteF h g14
        conv => whnf
        refine CutK.norm [1, 4, 5, 6, 7, 8] [64, 384, 1344] ?_
        conv => whnf
        refine spl (fun g21 => ?_) (fun g21 => ?_)
        · replace h := iteT h g21
          conv => whnf
          cases h
          exact Done.of [] [] rfl rfl ⟨⟨rfl, rfl⟩, ⟨rfl, trivial⟩, rfl, trivial⟩
        · replace h := iteF h g21
          conv => whnf
          refine splT ?_
          conv => whnf
          cases h
          exact Done.of [] [] rfl rfl ⟨⟨rfl, rfl⟩, ⟨rfl, trivial⟩, rfl, trivial⟩
    · replace h := iteF h g9
      conv => whnf
      refine CutK.norm [1, 4, 5] [64] ?_
      conv => whnf
      refine Pick.no ?_
      conv => whnf
      obtain ⟨y22, e23, h⟩ := bind_ex h
      refine CallOk.of (laws_toOrdinal_ct e23) ?_
      conv => whnf
      refine CutK.norm [1, 4, 5, 6] [64, 384, 1344] ?_
      conv => whnf
      refine Pick.no ?_
      conv => whnf
      refine Take.all (rfl) ?_
      conv => whnf
      obtain ⟨y24, e25, h⟩ := bind_ex h
      refine CallOk.of (impl_OrdinalText_ct e25) ?_
      conv => whnf
      refine spl (fun g26 => ?_) (fun g26 => ?_)
      · replace h := iteT h g26
        conv => whnf
        refine CutK.norm [1, 4, 5, 6, 7, 8] [64, 384, 1344] ?_
        conv => whnf
        refine spl (fun g27 => ?_) (fun g27 => ?_)
        · replace h := iteT h g27
          conv => whnf
          cases h
          exact Done.of [] [] rfl rfl ⟨⟨rfl, rfl⟩, ⟨rfl, trivial⟩, rfl, trivial⟩
        · replace h := iteF h g27
          conv => whnf
          refine splT ?_
          conv => whnf
          cases h
          exact Done.of [] [] rfl rfl ⟨⟨rfl, rfl⟩, ⟨rfl, trivial⟩, rfl, trivial⟩
      · replace h := iteF h g26
        conv => whnf
        refine CutK.norm [1, 4, 5, 6, 7, 8] [64, 384, 1344] ?_
        conv => whnf
        refine spl (fun g28 => ?_) (fun g28 => ?_)
        · replace h := iteT h g28
          conv => whnf
          cases h
          exact Done.of [] [] rfl rfl ⟨⟨rfl, rfl⟩, ⟨rfl, trivial⟩, rfl, trivial⟩
        · replace h := iteF h g28
          conv => whnf
          refine splF ?_
          conv => whnf
          refine Pick.no ?_
          conv => whnf
          obtain ⟨y29, e30, h⟩ := bind_ex h
          refine CallOk.of (laws_toOrdinal_ct e30) ?_
          conv => whnf
          refine Pick.no ?_
          conv => whnf
          refine Take.all (rfl) ?_
          conv => whnf
          refine Take.all (rfl) ?_
          conv => whnf
          obtain ⟨y31, e32, h⟩ := bind_ex h
          refine CallOk.of (laws_eqOrdinal_ct e32) ?_
          conv => whnf
          refine spl (fun g33 => ?_) (fun g33 => ?_)
          · replace h := iteT h g33
            conv => whnf
            refine CutK.norm [39] [] ?_
            conv => whnf
            refine CutK.norm [] [] ?_
            conv => whnf
            cases h
            exact Done.of [] [] rfl rfl ⟨⟨rfl, rfl⟩, ⟨rfl, trivial⟩, rfl, trivial⟩
          · replace h := iteF h g33
            conv => whnf
            refine CutK.norm [39] [] ?_
            conv => whnf
            cases h
            exact Done.of [] [] rfl rfl ⟨⟨rfl, rfl⟩, ⟨rfl, trivial⟩, rfl, trivial⟩
end
end Go.Proofs.Tryd
