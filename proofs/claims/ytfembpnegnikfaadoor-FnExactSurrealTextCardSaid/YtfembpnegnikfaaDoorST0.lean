/- Printed by program (axgen): pure functions, and that the Go functions compute them. -/
import Derived.Test.YtfembpnegnikfaaDoorProg
import Derived.Test.YtfembpnegnikfaaDoorAxC
import Derived.KernelRfl
import Derived.Test.YtfembpnegnikfaaDoorShelf
set_option linter.unusedVariables false
set_option linter.unusedSimpArgs false
namespace Go.Proofs.Tryd
open Go Go.AX
theorem mixed : prog.follows .mixedOrders = true := by kernel_rfl
def cell_sii {α : Type} (cs : List D) (K : Rw → Int → Int → Option α) : Option α := match cs with | [.sl a0, .int .i64 a1, .int .i64 a2] => K a0 a1 a2 | _ => none
def row_sii {α : Type} (es : Rw) (i : Int) (K : Rw → Int → Int → Option α) : Option α := if 0 ≤ i then (match es[i.toNat]? with | some cs => cell_sii cs K | none => none) else none
theorem cell_sii_ex {α : Type} {cs : List D} {K : Rw → Int → Int → Option α} {r : α} (h : cell_sii cs K = some r) : ∃ a0 a1 a2, cs = [.sl a0, .int .i64 a1, .int .i64 a2] ∧ K a0 a1 a2 = some r := by
  unfold cell_sii at h
  split at h
  · exact ⟨_, _, _, rfl, h⟩
  · cases h
theorem row_sii_ex {α : Type} {es : Rw} {i : Int} {K : Rw → Int → Int → Option α} {r : α} (h : row_sii es i K = some r) : 0 ≤ i ∧ ∃ a0 a1 a2, es[i.toNat]? = some [.sl a0, .int .i64 a1, .int .i64 a2] ∧ K a0 a1 a2 = some r := by
  unfold row_sii at h
  obtain ⟨g, h⟩ := req_ex h
  split at h
  · rename_i cs e
    obtain ⟨a0, a1, a2, rfl, h⟩ := cell_sii_ex h
    exact ⟨g, a0, a1, a2, e, h⟩
  · cases h
noncomputable section
def laws_szSurrealTerm (rec_laws_szSurreal : Rw → Int → Option Int) (a1 : Rw) (a2 : Int) (a3 : Int) (a4 : Int) : Option Int :=
  ((rec_laws_szSurreal a1 a4).bind fun y5 => (if y5 < (0 : Int) then some (-1) else some y5))
set_option maxHeartbeats 4000000 in
set_option maxRecDepth 100000 in
theorem laws_szSurrealTerm_ct {rec_laws_szSurreal : Rw → Int → Option Int} (hrec_laws_szSurreal : ∀ (a1 : Rw) (a2 : Int) (r : Int), rec_laws_szSurreal a1 a2 = some r → Ct prog 14 [.agg [.d (D.sl a1)], .d (D.int .i64 a2)] (⟨[], []⟩) (.d (D.int .i64 r)) (⟨[], []⟩)) {a1 : Rw} {a2 : Int} {a3 : Int} {a4 : Int} {r : Int} (h : laws_szSurrealTerm rec_laws_szSurreal a1 a2 a3 a4 = some r) : Ct prog 63 [.agg [.d (D.sl a1), .d (D.int .i64 a2), .d (D.int .i64 a3)], .d (D.int .i64 a4)] (⟨[], []⟩) (.d (D.int .i64 r)) (⟨[], []⟩) := by
  rw [laws_szSurrealTerm] at h
  refine Ct.of (c := _) mixed func63 ⟨rfl, rfl, rfl⟩ ?_ rfl
  conv => whnf
  refine Pick.no ?_
  conv => whnf
  obtain ⟨y5, e6, h⟩ := bind_ex h
  refine CallOk.of (hrec_laws_szSurreal _ _ _ e6) ?_
  conv => whnf
  refine CutK.go ?_
  conv => whnf
  refine splD (fun g7 => ?_) (fun g7 => ?_)
  · replace h := iteP h g7
    conv => whnf
    cases h
    exact Done.of [] [] rfl rfl ⟨⟨rfl, rfl⟩, ⟨rfl, trivial⟩, rfl, trivial⟩
  · replace h := iteN h g7
    conv => whnf
    cases h
    exact Done.of [] [] rfl rfl ⟨⟨rfl, rfl⟩, ⟨rfl, trivial⟩, rfl, trivial⟩

def laws_szSurrealTermS_l0 (rec_laws_szSurreal : Rw → Int → Option Int) (a1 : Rw) (K0 : Int → Option Int) : Rw → Int → Option Int
  | [], v13 => (K0 v13)
  | cs :: rest, v13 => (cell_sii cs fun x34 x35 x36 => ((laws_szSurrealTerm rec_laws_szSurreal x34 x35 x36 v13).bind fun y38 => (if y38 < (0 : Int) then some (-1) else (laws_szSurrealTermS_l0 rec_laws_szSurreal a1 K0 rest y38))))
set_option maxRecDepth 100000 in
theorem laws_szSurrealTermS_l0_ct {rec_laws_szSurreal : Rw → Int → Option Int} {a1 : Rw} {K0 : Int → Option Int} (hrec_laws_szSurreal : ∀ (a1 : Rw) (a2 : Int) (r : Int), rec_laws_szSurreal a1 a2 = some r → Ct prog 14 [.agg [.d (D.sl a1)], .d (D.int .i64 a2)] (⟨[], []⟩) (.d (D.int .i64 r)) (⟨[], []⟩)) {r : Int} (hx : a1.length ≤ cap) : ∀ (rest : Rw) (v14n : Nat) (v13 : Int), a1.drop v14n = rest → laws_szSurrealTermS_l0 rec_laws_szSurreal a1 K0 rest v13 = some r → LoopOk prog 0 (lp f37 0) (mk 27 [(0, .d (D.sl a1)), (1, .d (D.int .i64 v13)), (5, .d (D.int .i64 (v14n : Int)))] []) (LoopEnd prog f37 0 27 (.d (D.int .i64 r)) (⟨[], []⟩) (fun i ts os => (i = 0 ∧ ∃ v24 : Int, K0 v24 = some r ∧ ts = [(1, .d (D.int .i64 v24))] ∧ os = [])))
  | [], v14n, v13, hd, h => by
      rw [laws_szSurrealTermS_l0] at h
      have hn := drop_nil hd
      refine LoopOk.step ?_
      conv => whnf
      refine splD (fun g => absurd g hn) (fun _ => ?_)
      conv => whnf
      exact ⟨_, _, [], [], ⟨rfl, _, h, rfl, rfl⟩, ⟨⟨rfl, rfl⟩, ⟨rfl, trivial⟩, rfl, trivial⟩⟩
  | cs :: rest, v14n, v13, hd, h => by
      rw [laws_szSurrealTermS_l0] at h
      obtain ⟨hrow, hd1, hlt⟩ := drop_cons hd
      refine LoopOk.step ?_
      conv => whnf
      refine splD (fun _ => ?_) (fun g => absurd hlt g)
      conv => whnf
      obtain ⟨x34, x35, x36, e37, h⟩ := cell_sii_ex h
      rw [e37] at hrow
      refine Req.of (Int.natCast_nonneg _) ?_
      refine Row.of _ hrow ?_
      conv => whnf
      refine Pick.no ?_
      conv => whnf
      obtain ⟨y38, e39, h⟩ := bind_ex h
      refine CallOk.of (laws_szSurrealTerm_ct hrec_laws_szSurreal e39) ?_
      conv => whnf
      refine CutK.go ?_
      conv => whnf
      refine splD (fun g40 => ?_) (fun g40 => ?_)
      · replace h := iteP h g40
        conv => whnf
        cases h
        exact Done.of [] [] rfl rfl ⟨⟨rfl, rfl⟩, ⟨rfl, trivial⟩, rfl, trivial⟩
      · replace h := iteN h g40
        conv => whnf
        refine CutK.go ?_
        conv => whnf
        exact LoopOk.back (laws_szSurrealTermS_l0_ct hrec_laws_szSurreal hx rest (v14n + 1) _ hd1 h) [] [] ⟨⟨rfl, rfl⟩, ⟨rfl, trivial⟩, rfl, rfl, i64eq (wrap_up hlt hx), trivial⟩
def laws_szSurrealTermS (rec_laws_szSurreal : Rw → Int → Option Int) (a1 : Rw) (a2 : Int) : Option Int :=
  (if (IntKind.i64.wrap (a2 - (a1.length : Int))) < (0 : Int) then some (-1) else (if a1.length ≤ cap then (laws_szSurrealTermS_l0 rec_laws_szSurreal a1 (fun (v24 : Int) => some v24) a1 (IntKind.i64.wrap (a2 - (a1.length : Int)))) else none))
set_option maxHeartbeats 4000000 in
set_option maxRecDepth 100000 in
theorem laws_szSurrealTermS_ct {rec_laws_szSurreal : Rw → Int → Option Int} (hrec_laws_szSurreal : ∀ (a1 : Rw) (a2 : Int) (r : Int), rec_laws_szSurreal a1 a2 = some r → Ct prog 14 [.agg [.d (D.sl a1)], .d (D.int .i64 a2)] (⟨[], []⟩) (.d (D.int .i64 r)) (⟨[], []⟩)) {a1 : Rw} {a2 : Int} {r : Int} (h : laws_szSurrealTermS rec_laws_szSurreal a1 a2 = some r) : Ct prog 37 [.d (D.sl a1), .d (D.int .i64 a2)] (⟨[], []⟩) (.d (D.int .i64 r)) (⟨[], []⟩) := by
  rw [laws_szSurrealTermS] at h
  refine Ct.of (c := _) mixed func37 ⟨rfl, rfl, rfl⟩ ?_ rfl
  conv => whnf
  refine splD (fun g3 => ?_) (fun g3 => ?_)
  · replace h := iteP h g3
    conv => whnf
    cases h
    exact Done.of [] [] rfl rfl ⟨⟨rfl, rfl⟩, ⟨rfl, trivial⟩, rfl, trivial⟩
  · replace h := iteN h g3
    conv => whnf
    obtain ⟨g41, h⟩ := req_ex h
    refine LoopOk.into (laws_szSurrealTermS_l0_ct hrec_laws_szSurreal g41 _ _ _ rfl h) [] [] ⟨⟨rfl, rfl⟩, ⟨rfl, trivial⟩, rfl, rfl, rfl, trivial⟩ ?_ (fun _ hs => hs)
    rintro i ts os ⟨rfl, v24, h, rfl, rfl⟩
    conv => whnf
    refine CutK.go ?_
    conv => whnf
    cases h
    exact Done.of [] [] rfl rfl ⟨⟨rfl, rfl⟩, ⟨rfl, trivial⟩, rfl, trivial⟩

def laws_szSurreal_b (rec_laws_szSurreal : Rw → Int → Option Int) (a1 : Rw) (a2 : Int) : Option Int :=
  ((laws_szSurrealTermS rec_laws_szSurreal a1 a2).bind fun y3 => (if y3 < (0 : Int) then some (-1) else some y3))
set_option maxHeartbeats 4000000 in
set_option maxRecDepth 100000 in
theorem laws_szSurreal_b_ct {rec_laws_szSurreal : Rw → Int → Option Int} (hrec_laws_szSurreal : ∀ (a1 : Rw) (a2 : Int) (r : Int), rec_laws_szSurreal a1 a2 = some r → Ct prog 14 [.agg [.d (D.sl a1)], .d (D.int .i64 a2)] (⟨[], []⟩) (.d (D.int .i64 r)) (⟨[], []⟩)) {a1 : Rw} {a2 : Int} {r : Int} (h : laws_szSurreal_b rec_laws_szSurreal a1 a2 = some r) : Ct prog 14 [.agg [.d (D.sl a1)], .d (D.int .i64 a2)] (⟨[], []⟩) (.d (D.int .i64 r)) (⟨[], []⟩) := by
  rw [laws_szSurreal_b] at h
  refine Ct.of (c := _) mixed func14 ⟨rfl, rfl, rfl⟩ ?_ rfl
  conv => whnf
  refine Pick.no ?_
  conv => whnf
  obtain ⟨y3, e4, h⟩ := bind_ex h
  refine CallOk.of (laws_szSurrealTermS_ct hrec_laws_szSurreal e4) ?_
  conv => whnf
  refine CutK.go ?_
  conv => whnf
  refine splD (fun g5 => ?_) (fun g5 => ?_)
  · replace h := iteP h g5
    conv => whnf
    cases h
    exact Done.of [] [] rfl rfl ⟨⟨rfl, rfl⟩, ⟨rfl, trivial⟩, rfl, trivial⟩
  · replace h := iteN h g5
    conv => whnf
    cases h
    exact Done.of [] [] rfl rfl ⟨⟨rfl, rfl⟩, ⟨rfl, trivial⟩, rfl, trivial⟩
def laws_szSurreal : Nat → Rw → Int → Option Int
  | 0, _, _ => none
  | k + 1, a1, a2 => laws_szSurreal_b (laws_szSurreal k) a1 a2
theorem laws_szSurreal_ct' : ∀ (k : Nat) (a1 : Rw) (a2 : Int) (r : Int), laws_szSurreal k a1 a2 = some r → Ct prog 14 [.agg [.d (D.sl a1)], .d (D.int .i64 a2)] (⟨[], []⟩) (.d (D.int .i64 r)) (⟨[], []⟩)
  | 0, _, _, _, h => by rw [laws_szSurreal] at h; cases h
  | k + 1, _, _, _, h => by rw [laws_szSurreal] at h; exact laws_szSurreal_b_ct (laws_szSurreal_ct' k) h
theorem laws_szSurreal_ct {k : Nat} {a1 : Rw} {a2 : Int} {r : Int} (h : laws_szSurreal k a1 a2 = some r) : Ct prog 14 [.agg [.d (D.sl a1)], .d (D.int .i64 a2)] (⟨[], []⟩) (.d (D.int .i64 r)) (⟨[], []⟩) := laws_szSurreal_ct' k _ _ _ h

def laws_toFraction  (a1 : Int) (a2 : Int) : Option (Int × Int) :=
  some (a1, a2)
set_option maxHeartbeats 4000000 in
set_option maxRecDepth 100000 in
theorem laws_toFraction_ct  {a1 : Int} {a2 : Int} {r : Int × Int} (h : laws_toFraction a1 a2 = some r) : Ct prog 94 [.agg [.d (D.int .i64 a1), .d (D.int .i64 a2)]] (⟨[], []⟩) (.agg [.d (D.int .i64 r.1), .d (D.int .i64 r.2)]) (⟨[], []⟩) := by
  rw [laws_toFraction] at h
  refine Ct.of (c := _) mixed func94 ⟨rfl, rfl, rfl⟩ ?_ rfl
  conv => whnf
  cases h
  exact Done.of [] [] rfl rfl ⟨⟨rfl, rfl⟩, ⟨rfl, trivial⟩, ⟨rfl, rfl, trivial⟩, trivial⟩

def laws_toSurrealTerm (rec_laws_toSurreal : Rw → Option Rw) (a1 : Rw) (a2 : Int) (a3 : Int) : Option (Rw × Int × Int) :=
  ((rec_laws_toSurreal a1).bind fun y4 => ((laws_toFraction a2 a3).bind fun y6 => some (y4, y6.1, y6.2)))
set_option maxHeartbeats 4000000 in
set_option maxRecDepth 100000 in
theorem laws_toSurrealTerm_ct {rec_laws_toSurreal : Rw → Option Rw} (hrec_laws_toSurreal : ∀ (a1 : Rw) (r : Rw), rec_laws_toSurreal a1 = some r → Ct prog 16 [.agg [.d (D.sl a1)]] (⟨[], []⟩) (.agg [.os 8 r.length]) (⟨[], [(103, true, r)]⟩)) {a1 : Rw} {a2 : Int} {a3 : Int} {r : Rw × Int × Int} (h : laws_toSurrealTerm rec_laws_toSurreal a1 a2 a3 = some r) : Ct prog 67 [.agg [.d (D.sl a1), .d (D.int .i64 a2), .d (D.int .i64 a3)]] (⟨[], []⟩) (.agg [.os 8 r.1.length, .d (D.int .i64 r.2.1), .d (D.int .i64 r.2.2)]) (⟨[], [(103, true, r.1)]⟩) := by
  rw [laws_toSurrealTerm] at h
  refine Ct.of (c := _) mixed func67 ⟨rfl, rfl, rfl⟩ ?_ rfl
  conv => whnf
  refine Pick.no ?_
  conv => whnf
  obtain ⟨y4, e5, h⟩ := bind_ex h
  refine CallOk.of (hrec_laws_toSurreal _ _ e5) ?_
  conv => whnf
  refine CutK.go ?_
  conv => whnf
  refine Pick.no ?_
  conv => whnf
  obtain ⟨y6, e7, h⟩ := bind_ex h
  refine CallOk.of (laws_toFraction_ct e7) ?_
  conv => whnf
  refine CutK.go ?_
  conv => whnf
  cases h
  exact Done.of [some 384] [] rfl rfl ⟨⟨rfl, rfl⟩, ⟨rfl, ⟨rfl, rfl, rows_same⟩, trivial⟩, ⟨⟨rfl, rfl⟩, rfl, rfl, trivial⟩, trivial⟩

def laws_toSurrealTermS_l0 (rec_laws_toSurreal : Rw → Option Rw) (a1 : Rw) (K0 : Rw → Option Rw) : Rw → Nat → Rw → Option Rw
  | [], v18n, v17 => (K0 v17)
  | cs :: rest, v18n, v17 => (cell_sii cs fun x48 x49 x50 => ((laws_toSurrealTerm rec_laws_toSurreal x48 x49 x50).bind fun y52 => (if 0 ≤ (v18n : Int) ∧ (v18n : Int) < (v17.length : Int) then (row_sii v17 (v18n : Int) fun x55 x56 x57 => (laws_toSurrealTermS_l0 rec_laws_toSurreal a1 K0 rest (v18n + 1) (v17.set (((v18n : Int) : Int).toNat) [D.sl y52.1, D.int .i64 y52.2.1, D.int .i64 y52.2.2]))) else none)))
set_option maxRecDepth 100000 in
theorem laws_toSurrealTermS_l0_ct {rec_laws_toSurreal : Rw → Option Rw} {a1 : Rw} {K0 : Rw → Option Rw} (hrec_laws_toSurreal : ∀ (a1 : Rw) (r : Rw), rec_laws_toSurreal a1 = some r → Ct prog 16 [.agg [.d (D.sl a1)]] (⟨[], []⟩) (.agg [.os 8 r.length]) (⟨[], [(103, true, r)]⟩)) {r : Rw} (hx : a1.length ≤ cap) : ∀ (rest : Rw) (v18n : Nat) (v17 : Rw), a1.drop v18n = rest → laws_toSurrealTermS_l0 rec_laws_toSurreal a1 K0 rest v18n v17 = some r → LoopOk prog 0 (lp f40 0) (mk 23 [(0, .d (D.sl a1)), (3, .os 64000 v17.length), (4, .d (D.int .i64 (v18n : Int)))] [(64000, .arr 103 true v17)]) (LoopEnd prog f40 0 23 (.os 8 r.length) (⟨[], [(103, true, r)]⟩) (fun i ts os => (i = 0 ∧ ∃ v33 : Rw, K0 v33 = some r ∧ ts = [(3, .os 67001 v33.length)] ∧ os = [(67001, .arr 103 true v33)])))
  | [], v18n, v17, hd, h => by
      rw [laws_toSurrealTermS_l0] at h
      have hn := drop_nil hd
      refine LoopOk.step ?_
      conv => whnf
      refine splD (fun g => absurd g hn) (fun _ => ?_)
      conv => whnf
      exact ⟨_, _, [some 64000], [], ⟨rfl, _, h, rfl, rfl⟩, ⟨⟨rfl, rfl⟩, ⟨rfl, ⟨rfl, rfl, rows_same⟩, trivial⟩, ⟨rfl, rfl⟩, trivial⟩⟩
  | cs :: rest, v18n, v17, hd, h => by
      rw [laws_toSurrealTermS_l0] at h
      obtain ⟨hrow, hd1, hlt⟩ := drop_cons hd
      refine LoopOk.step ?_
      conv => whnf
      refine splD (fun _ => ?_) (fun g => absurd hlt g)
      conv => whnf
      obtain ⟨x48, x49, x50, e51, h⟩ := cell_sii_ex h
      rw [e51] at hrow
      refine Req.of (Int.natCast_nonneg _) ?_
      refine Row.of _ hrow ?_
      conv => whnf
      refine Pick.no ?_
      conv => whnf
      obtain ⟨y52, e53, h⟩ := bind_ex h
      refine CallOk.of (laws_toSurrealTerm_ct hrec_laws_toSurreal e53) ?_
      conv => whnf
      obtain ⟨g54, h⟩ := req_ex h
      refine Req.of g54 ?_
      conv => whnf
      refine Take.all (rfl) ?_
      conv => whnf
      obtain ⟨g59, x55, x56, x57, e58, h⟩ := row_sii_ex h
      refine Row.of _ e58 ?_
      conv => whnf
      refine CutK.go ?_
      conv => whnf
      exact LoopOk.back (laws_toSurrealTermS_l0_ct hrec_laws_toSurreal hx rest (v18n + 1) _ hd1 h) [some 64000] [] ⟨⟨rfl, rfl⟩, ⟨rfl, ⟨rfl, rfl, rows_same⟩, trivial⟩, rfl, ⟨(by first | rfl | exact List.length_append.symm | (simp; done) | omega), rfl⟩, i64eq (wrap_up hlt hx), trivial⟩
def laws_toSurrealTermS (rec_laws_toSurreal : Rw → Option Rw) (a1 : Rw) : Option Rw :=
  (if 0 ≤ (a1.length : Int) ∧ (a1.length : Int) ≤ 1099511627776 then (if a1.length ≤ cap then (laws_toSurrealTermS_l0 rec_laws_toSurreal a1 (fun (v33 : Rw) => some v33) a1 0 (List.replicate ((a1.length : Int) : Int).toNat [D.sl ([]), D.int .i64 0, D.int .i64 0] : Rw)) else none) else none)
set_option maxHeartbeats 4000000 in
set_option maxRecDepth 100000 in
theorem laws_toSurrealTermS_ct {rec_laws_toSurreal : Rw → Option Rw} (hrec_laws_toSurreal : ∀ (a1 : Rw) (r : Rw), rec_laws_toSurreal a1 = some r → Ct prog 16 [.agg [.d (D.sl a1)]] (⟨[], []⟩) (.agg [.os 8 r.length]) (⟨[], [(103, true, r)]⟩)) {a1 : Rw} {r : Rw} (h : laws_toSurrealTermS rec_laws_toSurreal a1 = some r) : Ct prog 40 [.d (D.sl a1)] (⟨[], []⟩) (.os 8 r.length) (⟨[], [(103, true, r)]⟩) := by
  rw [laws_toSurrealTermS] at h
  refine Ct.of (c := _) mixed func40 ⟨rfl, rfl, rfl⟩ ?_ rfl
  conv => whnf
  obtain ⟨g2, h⟩ := req_ex h
  refine Req.of (makeRoom (b := 40) (by decide) g2) ?_
  conv => whnf
  obtain ⟨g60, h⟩ := req_ex h
  refine LoopOk.into (laws_toSurrealTermS_l0_ct hrec_laws_toSurreal g60 _ _ _ rfl h) [some 448] [] ⟨⟨rfl, rfl⟩, ⟨rfl, ⟨rfl, rfl, rows_same⟩, trivial⟩, rfl, ⟨(by first | rfl | exact List.length_append.symm | (simp; done) | omega), rfl⟩, rfl, trivial⟩ ?_ (fun _ hs => hs)
  rintro i ts os ⟨rfl, v33, h, rfl, rfl⟩
  conv => whnf
  refine CutK.go ?_
  conv => whnf
  cases h
  exact Done.of [some 67001] [] rfl rfl ⟨⟨rfl, rfl⟩, ⟨rfl, ⟨rfl, rfl, rows_same⟩, trivial⟩, ⟨rfl, rfl⟩, trivial⟩

def laws_toSurreal_b (rec_laws_toSurreal : Rw → Option Rw) (a1 : Rw) : Option Rw :=
  ((laws_toSurrealTermS rec_laws_toSurreal a1).bind fun y2 => some y2)
set_option maxHeartbeats 4000000 in
set_option maxRecDepth 100000 in
theorem laws_toSurreal_b_ct {rec_laws_toSurreal : Rw → Option Rw} (hrec_laws_toSurreal : ∀ (a1 : Rw) (r : Rw), rec_laws_toSurreal a1 = some r → Ct prog 16 [.agg [.d (D.sl a1)]] (⟨[], []⟩) (.agg [.os 8 r.length]) (⟨[], [(103, true, r)]⟩)) {a1 : Rw} {r : Rw} (h : laws_toSurreal_b rec_laws_toSurreal a1 = some r) : Ct prog 16 [.agg [.d (D.sl a1)]] (⟨[], []⟩) (.agg [.os 8 r.length]) (⟨[], [(103, true, r)]⟩) := by
  rw [laws_toSurreal_b] at h
  refine Ct.of (c := _) mixed func16 ⟨rfl, rfl, rfl⟩ ?_ rfl
  conv => whnf
  refine Pick.no ?_
  conv => whnf
  obtain ⟨y2, e3, h⟩ := bind_ex h
  refine CallOk.of (laws_toSurrealTermS_ct hrec_laws_toSurreal e3) ?_
  conv => whnf
  refine CutK.go ?_
  conv => whnf
  cases h
  exact Done.of [some 384] [] rfl rfl ⟨⟨rfl, rfl⟩, ⟨rfl, ⟨rfl, rfl, rows_same⟩, trivial⟩, ⟨⟨rfl, rfl⟩, trivial⟩, trivial⟩
def laws_toSurreal : Nat → Rw → Option Rw
  | 0, _ => none
  | k + 1, a1 => laws_toSurreal_b (laws_toSurreal k) a1
theorem laws_toSurreal_ct' : ∀ (k : Nat) (a1 : Rw) (r : Rw), laws_toSurreal k a1 = some r → Ct prog 16 [.agg [.d (D.sl a1)]] (⟨[], []⟩) (.agg [.os 8 r.length]) (⟨[], [(103, true, r)]⟩)
  | 0, _, _, h => by rw [laws_toSurreal] at h; cases h
  | k + 1, _, _, h => by rw [laws_toSurreal] at h; exact laws_toSurreal_b_ct (laws_toSurreal_ct' k) h
theorem laws_toSurreal_ct {k : Nat} {a1 : Rw} {r : Rw} (h : laws_toSurreal k a1 = some r) : Ct prog 16 [.agg [.d (D.sl a1)]] (⟨[], []⟩) (.agg [.os 8 r.length]) (⟨[], [(103, true, r)]⟩) := laws_toSurreal_ct' k _ _ h

def spec_suLeft_l0 (rec_spec_suLeft : Rw → Int → Int → Option Int) (a1 : Rw) (a2 : Int) (K0 : Int → Option Int) : Rw → Int → Option Int
  | [], v14 => (K0 v14)
  | cs :: rest, v14 => (cell_sii cs fun x37 x38 x39 => (if v14 < (0 : Int) then some (-1) else (if a2 = (0 : Int) then some (-1) else ((rec_spec_suLeft x37 (IntKind.i64.wrap (a2 - 1)) (IntKind.i64.wrap (v14 - 1))).bind fun y43 => (spec_suLeft_l0 rec_spec_suLeft a1 a2 K0 rest y43)))))
set_option maxRecDepth 100000 in
theorem spec_suLeft_l0_ct {rec_spec_suLeft : Rw → Int → Int → Option Int} {a1 : Rw} {a2 : Int} {K0 : Int → Option Int} (hrec_spec_suLeft : ∀ (a1 : Rw) (a2 : Int) (a3 : Int) (r : Int), rec_spec_suLeft a1 a2 a3 = some r → Ct prog 64 [.agg [.d (D.sl a1)], .d (D.int .i64 a2), .d (D.int .i64 a3)] (⟨[], []⟩) (.d (D.int .i64 r)) (⟨[], []⟩)) {r : Int} (hx : a1.length ≤ cap) : ∀ (rest : Rw) (v15n : Nat) (v14 : Int), a1.drop v15n = rest → spec_suLeft_l0 rec_spec_suLeft a1 a2 K0 rest v14 = some r → LoopOk prog 0 (lp f64 0) (mk 33 [(1, .d (D.int .i64 a2)), (2, .d (D.int .i64 v14)), (12, .d (D.sl a1)), (13, .d (D.int .i64 (a1.length : Int))), (14, .d (D.int .i64 (v15n : Int)))] []) (LoopEnd prog f64 0 33 (.d (D.int .i64 r)) (⟨[], []⟩) (fun i ts os => (i = 0 ∧ ∃ v26 : Int, K0 v26 = some r ∧ ts = [(2, .d (D.int .i64 v26))] ∧ os = [])))
  | [], v15n, v14, hd, h => by
      rw [spec_suLeft_l0] at h
      have hn := drop_nil hd
      refine LoopOk.step ?_
      conv => whnf
      refine splD (fun g => absurd g hn) (fun _ => ?_)
      conv => whnf
      exact ⟨_, _, [], [], ⟨rfl, _, h, rfl, rfl⟩, ⟨⟨rfl, rfl⟩, ⟨rfl, trivial⟩, rfl, trivial⟩⟩
  | cs :: rest, v15n, v14, hd, h => by
      rw [spec_suLeft_l0] at h
      obtain ⟨hrow, hd1, hlt⟩ := drop_cons hd
      refine LoopOk.step ?_
      conv => whnf
      refine splD (fun _ => ?_) (fun g => absurd hlt g)
      conv => whnf
      obtain ⟨x37, x38, x39, e40, h⟩ := cell_sii_ex h
      rw [e40] at hrow
      refine Req.of (Int.natCast_nonneg _) ?_
      refine Row.of _ hrow ?_
      conv => whnf
      refine splD (fun g41 => ?_) (fun g41 => ?_)
      · replace h := iteP h g41
        conv => whnf
        cases h
        exact Done.of [] [] rfl rfl ⟨⟨rfl, rfl⟩, ⟨rfl, trivial⟩, rfl, trivial⟩
      · replace h := iteN h g41
        conv => whnf
        refine splD (fun g42 => ?_) (fun g42 => ?_)
        · replace h := iteP h g42
          conv => whnf
          cases h
          exact Done.of [] [] rfl rfl ⟨⟨rfl, rfl⟩, ⟨rfl, trivial⟩, rfl, trivial⟩
        · replace h := iteN h g42
          conv => whnf
          refine Pick.no ?_
          conv => whnf
          obtain ⟨y43, e44, h⟩ := bind_ex h
          refine CallOk.of (hrec_spec_suLeft _ _ _ _ e44) ?_
          conv => whnf
          refine CutK.norm [1, 2, 12, 13, 14] [] ?_
          conv => whnf
          exact LoopOk.back (spec_suLeft_l0_ct hrec_spec_suLeft hx rest (v15n + 1) _ hd1 h) [] [] ⟨⟨rfl, rfl⟩, ⟨rfl, trivial⟩, rfl, rfl, rfl, rfl, i64eq (wrap_up hlt hx), trivial⟩
def spec_suLeft_b (rec_spec_suLeft : Rw → Int → Int → Option Int) (a1 : Rw) (a2 : Int) (a3 : Int) : Option Int :=
  (if a1.length ≤ cap then (spec_suLeft_l0 rec_spec_suLeft a1 a2 (fun (v26 : Int) => some v26) a1 (IntKind.i64.wrap (a3 - 1))) else none)
set_option maxHeartbeats 4000000 in
set_option maxRecDepth 100000 in
theorem spec_suLeft_b_ct {rec_spec_suLeft : Rw → Int → Int → Option Int} (hrec_spec_suLeft : ∀ (a1 : Rw) (a2 : Int) (a3 : Int) (r : Int), rec_spec_suLeft a1 a2 a3 = some r → Ct prog 64 [.agg [.d (D.sl a1)], .d (D.int .i64 a2), .d (D.int .i64 a3)] (⟨[], []⟩) (.d (D.int .i64 r)) (⟨[], []⟩)) {a1 : Rw} {a2 : Int} {a3 : Int} {r : Int} (h : spec_suLeft_b rec_spec_suLeft a1 a2 a3 = some r) : Ct prog 64 [.agg [.d (D.sl a1)], .d (D.int .i64 a2), .d (D.int .i64 a3)] (⟨[], []⟩) (.d (D.int .i64 r)) (⟨[], []⟩) := by
  rw [spec_suLeft_b] at h
  refine Ct.of (c := _) mixed func64 ⟨rfl, rfl, rfl⟩ ?_ rfl
  conv => whnf
  obtain ⟨g45, h⟩ := req_ex h
  refine LoopOk.into (spec_suLeft_l0_ct hrec_spec_suLeft g45 _ _ _ rfl h) [] [] ⟨⟨rfl, rfl⟩, ⟨rfl, trivial⟩, rfl, rfl, rfl, rfl, rfl, trivial⟩ ?_ (fun _ hs => hs)
  rintro i ts os ⟨rfl, v26, h, rfl, rfl⟩
  conv => whnf
  refine CutK.norm [2] [] ?_
  conv => whnf
  cases h
  exact Done.of [] [] rfl rfl ⟨⟨rfl, rfl⟩, ⟨rfl, trivial⟩, rfl, trivial⟩
def spec_suLeft : Nat → Rw → Int → Int → Option Int
  | 0, _, _, _ => none
  | k + 1, a1, a2, a3 => spec_suLeft_b (spec_suLeft k) a1 a2 a3
theorem spec_suLeft_ct' : ∀ (k : Nat) (a1 : Rw) (a2 : Int) (a3 : Int) (r : Int), spec_suLeft k a1 a2 a3 = some r → Ct prog 64 [.agg [.d (D.sl a1)], .d (D.int .i64 a2), .d (D.int .i64 a3)] (⟨[], []⟩) (.d (D.int .i64 r)) (⟨[], []⟩)
  | 0, _, _, _, _, h => by rw [spec_suLeft] at h; cases h
  | k + 1, _, _, _, _, h => by rw [spec_suLeft] at h; exact spec_suLeft_b_ct (spec_suLeft_ct' k) h
theorem spec_suLeft_ct {k : Nat} {a1 : Rw} {a2 : Int} {a3 : Int} {r : Int} (h : spec_suLeft k a1 a2 a3 = some r) : Ct prog 64 [.agg [.d (D.sl a1)], .d (D.int .i64 a2), .d (D.int .i64 a3)] (⟨[], []⟩) (.d (D.int .i64 r)) (⟨[], []⟩) := spec_suLeft_ct' k _ _ _ _ h

def spec_l1In  (a1 : Int) (a2 : Int) (a3 : Int) : Option Bool :=
  (if a2 ≤ a1 then (if a1 ≤ a3 then some true else some false) else some false)
set_option maxHeartbeats 4000000 in
set_option maxRecDepth 100000 in
theorem spec_l1In_ct  {a1 : Int} {a2 : Int} {a3 : Int} {r : Bool} (h : spec_l1In a1 a2 a3 = some r) : Ct prog 47 [.d (D.int .i64 a1), .d (D.int .i64 a2), .d (D.int .i64 a3)] (⟨[], []⟩) (.d (D.bool r)) (⟨[], []⟩) := by
  rw [spec_l1In] at h
  refine Ct.of (c := _) mixed func47 ⟨rfl, rfl, rfl⟩ ?_ rfl
  conv => whnf
  refine splD (fun g4 => ?_) (fun g4 => ?_)
  · replace h := iteP h g4
    conv => whnf
    refine splD (fun g5 => ?_) (fun g5 => ?_)
    · replace h := iteP h g5
      conv => whnf
      cases h
      exact Done.of [] [] rfl rfl ⟨⟨rfl, rfl⟩, ⟨rfl, trivial⟩, rfl, trivial⟩
    · replace h := iteN h g5
      conv => whnf
      cases h
      exact Done.of [] [] rfl rfl ⟨⟨rfl, rfl⟩, ⟨rfl, trivial⟩, rfl, trivial⟩
  · replace h := iteN h g4
    conv => whnf
    cases h
    exact Done.of [] [] rfl rfl ⟨⟨rfl, rfl⟩, ⟨rfl, trivial⟩, rfl, trivial⟩

def spec_l1Most  (a1 : Int) (a2 : Int) : Option Int :=
  (if a2 < a1 then some a1 else some a2)
set_option maxHeartbeats 4000000 in
set_option maxRecDepth 100000 in
theorem spec_l1Most_ct  {a1 : Int} {a2 : Int} {r : Int} (h : spec_l1Most a1 a2 = some r) : Ct prog 110 [.d (D.int .i64 a1), .d (D.int .i64 a2)] (⟨[], []⟩) (.d (D.int .i64 r)) (⟨[], []⟩) := by
  rw [spec_l1Most] at h
  refine Ct.of (c := _) mixed func110 ⟨rfl, rfl, rfl⟩ ?_ rfl
  conv => whnf
  refine splD (fun g3 => ?_) (fun g3 => ?_)
  · replace h := iteP h g3
    conv => whnf
    cases h
    exact Done.of [] [] rfl rfl ⟨⟨rfl, rfl⟩, ⟨rfl, trivial⟩, rfl, trivial⟩
  · replace h := iteN h g3
    conv => whnf
    cases h
    exact Done.of [] [] rfl rfl ⟨⟨rfl, rfl⟩, ⟨rfl, trivial⟩, rfl, trivial⟩

def spec_l1Abs  (a1 : Int) : Option Int :=
  ((spec_l1Most a1 (IntKind.i64.wrap (0 - a1))).bind fun y2 => some y2)
set_option maxHeartbeats 4000000 in
set_option maxRecDepth 100000 in
theorem spec_l1Abs_ct  {a1 : Int} {r : Int} (h : spec_l1Abs a1 = some r) : Ct prog 89 [.d (D.int .i64 a1)] (⟨[], []⟩) (.d (D.int .i64 r)) (⟨[], []⟩) := by
  rw [spec_l1Abs] at h
  refine Ct.of (c := _) mixed func89 ⟨rfl, rfl, rfl⟩ ?_ rfl
  conv => whnf
  refine Pick.no ?_
  conv => whnf
  obtain ⟨y2, e3, h⟩ := bind_ex h
  refine CallOk.of (spec_l1Most_ct e3) ?_
  conv => whnf
  refine CutK.go ?_
  conv => whnf
  cases h
  exact Done.of [] [] rfl rfl ⟨⟨rfl, rfl⟩, ⟨rfl, trivial⟩, rfl, trivial⟩

def spec_shGcd_l0 (K0 : Int → Option Int) : Nat → Int → Int → Option Int
  | 0, _, _ => none
  | n + 1, v5, v6 => (if v6 = (0 : Int) then (K0 v5) else (if v6 ≠ 0 then (spec_shGcd_l0 K0 n v6 (v5.tmod v6)) else none))
set_option maxRecDepth 100000 in
theorem spec_shGcd_l0_ct {K0 : Int → Option Int} {r : Int} : ∀ (n : Nat) (v5 : Int) (v6 : Int), spec_shGcd_l0 K0 n v5 v6 = some r → LoopOk prog 0 (lp f107 0) (mk 13 [(0, .d (D.int .i64 v5)), (1, .d (D.int .i64 v6))] []) (LoopEnd prog f107 0 13 (.d (D.int .i64 r)) (⟨[], []⟩) (fun i ts os => (i = 0 ∧ ∃ v9 : Int, K0 v9 = some r ∧ ts = [(0, .d (D.int .i64 v9))] ∧ os = [])))
  | 0, _, _, h => by
      rw [spec_shGcd_l0] at h; cases h
  | n + 1, v5, v6, h => by
      rw [spec_shGcd_l0] at h
      refine LoopOk.step ?_
      conv => whnf
      refine splN (fun g12 => ?_) (fun g12 => ?_)
      · replace h := iteN h g12
        conv => whnf
        obtain ⟨g13, h⟩ := req_ex h
        refine Req.of g13 ?_
        conv => whnf
        exact LoopOk.back (spec_shGcd_l0_ct  n _ _ h) [] [] ⟨⟨rfl, rfl⟩, ⟨rfl, trivial⟩, rfl, rfl, trivial⟩
      · replace h := iteP h g12
        conv => whnf
        exact ⟨_, _, [], [], ⟨rfl, _, h, rfl, rfl⟩, ⟨⟨rfl, rfl⟩, ⟨rfl, trivial⟩, rfl, trivial⟩⟩
def spec_shGcd (k : Nat) (a1 : Int) (a2 : Int) : Option Int :=
  (spec_shGcd_l0 (fun (v9 : Int) => ((spec_l1Abs v9).bind fun y14 => some y14)) k a1 a2)
set_option maxHeartbeats 4000000 in
set_option maxRecDepth 100000 in
theorem spec_shGcd_ct {k : Nat} {a1 : Int} {a2 : Int} {r : Int} (h : spec_shGcd k a1 a2 = some r) : Ct prog 107 [.d (D.int .i64 a1), .d (D.int .i64 a2)] (⟨[], []⟩) (.d (D.int .i64 r)) (⟨[], []⟩) := by
  rw [spec_shGcd] at h
  refine Ct.of (c := _) mixed func107 ⟨rfl, rfl, rfl⟩ ?_ rfl
  conv => whnf
  refine LoopOk.into (spec_shGcd_l0_ct  _ _ _ h) [] [] ⟨⟨rfl, rfl⟩, ⟨rfl, trivial⟩, rfl, rfl, trivial⟩ ?_ (fun _ hs => hs)
  rintro i ts os ⟨rfl, v9, h, rfl, rfl⟩
  conv => whnf
  refine CutK.go ?_
  conv => whnf
  refine Pick.no ?_
  conv => whnf
  obtain ⟨y14, e15, h⟩ := bind_ex h
  refine CallOk.of (spec_l1Abs_ct e15) ?_
  conv => whnf
  refine CutK.go ?_
  conv => whnf
  cases h
  exact Done.of [] [] rfl rfl ⟨⟨rfl, rfl⟩, ⟨rfl, trivial⟩, rfl, trivial⟩

def spec_shGood (k : Nat) (a1 : Int) (a2 : Int) : Option Bool :=
  ((spec_l1In a2 1 1000000).bind fun y3 => (if y3 = true then ((spec_l1In a1 (-1000000) 1000000).bind fun y6 => (if y6 = true then ((spec_shGcd k a1 a2).bind fun y9 => (if y9 = (1 : Int) then some true else some false)) else some false)) else some false))
set_option maxHeartbeats 4000000 in
set_option maxRecDepth 100000 in
theorem spec_shGood_ct {k : Nat} {a1 : Int} {a2 : Int} {r : Bool} (h : spec_shGood k a1 a2 = some r) : Ct prog 87 [.agg [.d (D.int .i64 a1), .d (D.int .i64 a2)]] (⟨[], []⟩) (.d (D.bool r)) (⟨[], []⟩) := by
  rw [spec_shGood] at h
  refine Ct.of (c := _) mixed func87 ⟨rfl, rfl, rfl⟩ ?_ rfl
  conv => whnf
  refine Pick.no ?_
  conv => whnf
  obtain ⟨y3, e4, h⟩ := bind_ex h
  refine CallOk.of (spec_l1In_ct e4) ?_
  conv => whnf
  refine spl (fun g5 => ?_) (fun g5 => ?_)
  · replace h := iteT h g5
    conv => whnf
    refine Pick.no ?_
    conv => whnf
    obtain ⟨y6, e7, h⟩ := bind_ex h
    refine CallOk.of (spec_l1In_ct e7) ?_
    conv => whnf
    refine spl (fun g8 => ?_) (fun g8 => ?_)
    · replace h := iteT h g8
      conv => whnf
      refine Pick.no ?_
      conv => whnf
      obtain ⟨y9, e10, h⟩ := bind_ex h
      refine CallOk.of (spec_shGcd_ct e10) ?_
      conv => whnf
      refine splD (fun g11 => ?_) (fun g11 => ?_)
      · replace h := iteP h g11
        conv => whnf
        refine CutK.go ?_
        conv => whnf
        cases h
        exact Done.of [] [] rfl rfl ⟨⟨rfl, rfl⟩, ⟨rfl, trivial⟩, rfl, trivial⟩
      · replace h := iteN h g11
        conv => whnf
        refine CutK.go ?_
        conv => whnf
        cases h
        exact Done.of [] [] rfl rfl ⟨⟨rfl, rfl⟩, ⟨rfl, trivial⟩, rfl, trivial⟩
    · replace h := iteF h g8
      conv => whnf
      refine CutK.go ?_
      conv => whnf
      cases h
      exact Done.of [] [] rfl rfl ⟨⟨rfl, rfl⟩, ⟨rfl, trivial⟩, rfl, trivial⟩
  · replace h := iteF h g5
    conv => whnf
    refine CutK.go ?_
    conv => whnf
    cases h
    exact Done.of [] [] rfl rfl ⟨⟨rfl, rfl⟩, ⟨rfl, trivial⟩, rfl, trivial⟩

def spec_l1Sign  (a1 : Int) : Option Int :=
  (if (0 : Int) < a1 then some 1 else (if a1 < (0 : Int) then some (-1) else some 0))
set_option maxHeartbeats 4000000 in
set_option maxRecDepth 100000 in
theorem spec_l1Sign_ct  {a1 : Int} {r : Int} (h : spec_l1Sign a1 = some r) : Ct prog 78 [.d (D.int .i64 a1)] (⟨[], []⟩) (.d (D.int .i64 r)) (⟨[], []⟩) := by
  rw [spec_l1Sign] at h
  refine Ct.of (c := _) mixed func78 ⟨rfl, rfl, rfl⟩ ?_ rfl
  conv => whnf
  refine splD (fun g2 => ?_) (fun g2 => ?_)
  · replace h := iteP h g2
    conv => whnf
    cases h
    exact Done.of [] [] rfl rfl ⟨⟨rfl, rfl⟩, ⟨rfl, trivial⟩, rfl, trivial⟩
  · replace h := iteN h g2
    conv => whnf
    refine splD (fun g3 => ?_) (fun g3 => ?_)
    · replace h := iteP h g3
      conv => whnf
      cases h
      exact Done.of [] [] rfl rfl ⟨⟨rfl, rfl⟩, ⟨rfl, trivial⟩, rfl, trivial⟩
    · replace h := iteN h g3
      conv => whnf
      cases h
      exact Done.of [] [] rfl rfl ⟨⟨rfl, rfl⟩, ⟨rfl, trivial⟩, rfl, trivial⟩

def spec_suSign  (a1 : Rw) : Option Int :=
  (if (a1.length : Int) = (0 : Int) then some 0 else (row_sii a1 0 fun x3 x4 x5 => ((spec_l1Sign x4).bind fun y8 => some y8)))
set_option maxHeartbeats 4000000 in
set_option maxRecDepth 100000 in
theorem spec_suSign_ct  {a1 : Rw} {r : Int} (h : spec_suSign a1 = some r) : Ct prog 109 [.d (D.sl a1)] (⟨[], []⟩) (.d (D.int .i64 r)) (⟨[], []⟩) := by
  rw [spec_suSign] at h
  refine Ct.of (c := _) mixed func109 ⟨rfl, rfl, rfl⟩ ?_ rfl
  conv => whnf
  refine splD (fun g2 => ?_) (fun g2 => ?_)
  · replace h := iteP h g2
    conv => whnf
    cases h
    exact Done.of [] [] rfl rfl ⟨⟨rfl, rfl⟩, ⟨rfl, trivial⟩, rfl, trivial⟩
  · replace h := iteN h g2
    conv => whnf
    obtain ⟨g7, x3, x4, x5, e6, h⟩ := row_sii_ex h
    refine Req.of g7 ?_
    refine Row.of _ e6 ?_
    conv => whnf
    refine Pick.no ?_
    conv => whnf
    obtain ⟨y8, e9, h⟩ := bind_ex h
    refine CallOk.of (spec_l1Sign_ct e9) ?_
    conv => whnf
    refine CutK.go ?_
    conv => whnf
    cases h
    exact Done.of [] [] rfl rfl ⟨⟨rfl, rfl⟩, ⟨rfl, trivial⟩, rfl, trivial⟩

def spec_shCmp  (a1 : Int) (a2 : Int) (a3 : Int) (a4 : Int) : Option Int :=
  ((spec_l1Sign (IntKind.i64.wrap ((IntKind.i64.wrap (a1 * a4)) - (IntKind.i64.wrap (a3 * a2))))).bind fun y5 => some y5)
set_option maxHeartbeats 4000000 in
set_option maxRecDepth 100000 in
theorem spec_shCmp_ct  {a1 : Int} {a2 : Int} {a3 : Int} {a4 : Int} {r : Int} (h : spec_shCmp a1 a2 a3 a4 = some r) : Ct prog 108 [.agg [.d (D.int .i64 a1), .d (D.int .i64 a2)], .agg [.d (D.int .i64 a3), .d (D.int .i64 a4)]] (⟨[], []⟩) (.d (D.int .i64 r)) (⟨[], []⟩) := by
  rw [spec_shCmp] at h
  refine Ct.of (c := _) mixed func108 ⟨rfl, rfl, rfl⟩ ?_ rfl
  conv => whnf
  refine Pick.no ?_
  conv => whnf
  obtain ⟨y5, e6, h⟩ := bind_ex h
  refine CallOk.of (spec_l1Sign_ct e6) ?_
  conv => whnf
  refine CutK.go ?_
  conv => whnf
  cases h
  exact Done.of [] [] rfl rfl ⟨⟨rfl, rfl⟩, ⟨rfl, trivial⟩, rfl, trivial⟩

def spec_suCmp_p3 (o57 : Int) : Option Int :=
  some o57
set_option maxHeartbeats 4000000 in
set_option maxRecDepth 100000 in
theorem spec_suCmp_p3_ct {o57 : Int} {r : Int} (h : spec_suCmp_p3 o57 = some r) : X prog 0 (tlF f88 3) (mk 71 [(4, .d (D.int .i64 o57))] []) (finK prog f88 0 (.d (D.int .i64 r)) (⟨[], []⟩)) := by
  rw [spec_suCmp_p3] at h
  conv => whnf
  cases h
  exact Done.of [] [] rfl rfl ⟨⟨rfl, rfl⟩, ⟨rfl, trivial⟩, rfl, trivial⟩
def spec_suCmp_p2 (a1 : Rw) (a2 : Rw) : Option Int :=
  (if 0 ≤ (a1.length : Int) ∧ (a1.length : Int) ≤ (a2.length : Int) ∧ (∀ cs ∈ a2, cs.length = 3) then ((spec_suSign (a2.drop ((a1.length : Int) : Int).toNat)).bind fun y59 => (spec_suCmp_p3 (IntKind.i64.wrap (0 - y59)))) else none)
set_option maxHeartbeats 4000000 in
set_option maxRecDepth 100000 in
theorem spec_suCmp_p2_ct {a1 : Rw} {a2 : Rw} {r : Int} (h : spec_suCmp_p2 a1 a2 = some r) : X prog 0 (tlF f88 2) (mk 71 [(2, .ptr 128 0), (3, .ptr 192 0)] [(128, .box 43 [.d (D.sl a1)]), (192, .box 43 [.d (D.sl a2)])]) (finK prog f88 0 (.d (D.int .i64 r)) (⟨[], []⟩)) := by
  rw [spec_suCmp_p2] at h
  conv => whnf
  obtain ⟨g58, h⟩ := req_ex h
  refine Req.of g58 ?_
  conv => whnf
  refine Pick.no ?_
  conv => whnf
  obtain ⟨y59, e60, h⟩ := bind_ex h
  refine CallOk.of (spec_suSign_ct e60) ?_
  conv => whnf
  exact CutK.piece (spec_suCmp_p3_ct  h) [] [] ⟨⟨rfl, rfl⟩, ⟨rfl, trivial⟩, rfl, trivial⟩
def spec_suCmp_l0 (rec_spec_suCmp : Rw → Rw → Option Int) (a1 : Rw) (a2 : Rw) (K0 : Option Int) : Rw → Nat → Option Int
  | [], v86n => (K0)
  | cs :: rest, v86n => (cell_sii cs fun x112 x113 x114 => (if (v86n : Int) = (a2.length : Int) then ((spec_l1Sign x113).bind fun y117 => some y117) else (row_sii a2 (v86n : Int) fun x119 x120 x121 => ((rec_spec_suCmp x112 x119).bind fun y124 => (if (0 : Int) < y124 then ((spec_l1Sign x113).bind fun y127 => some y127) else (if y124 < (0 : Int) then ((spec_l1Sign x120).bind fun y130 => some (IntKind.i64.wrap (0 - y130))) else (if (!(decide (x113 = x120) && (decide (x114 = x121) && true))) = true then ((spec_shCmp x113 x114 x120 x121).bind fun y133 => some y133) else (spec_suCmp_l0 rec_spec_suCmp a1 a2 K0 rest (v86n + 1)))))))))
set_option maxRecDepth 100000 in
theorem spec_suCmp_l0_ct {rec_spec_suCmp : Rw → Rw → Option Int} {a1 : Rw} {a2 : Rw} {K0 : Option Int} (hrec_spec_suCmp : ∀ (a1 : Rw) (a2 : Rw) (r : Int), rec_spec_suCmp a1 a2 = some r → Ct prog 88 [.agg [.d (D.sl a1)], .agg [.d (D.sl a2)]] (⟨[], []⟩) (.d (D.int .i64 r)) (⟨[], []⟩)) {r : Int} (hx : a1.length ≤ cap) : ∀ (rest : Rw) (v86n : Nat), a1.drop v86n = rest → spec_suCmp_l0 rec_spec_suCmp a1 a2 K0 rest v86n = some r → LoopOk prog 0 (lp f88 0) (mk 71 [(2, .ptr 128 0), (3, .ptr 192 0), (10, .d (D.sl a1)), (11, .d (D.int .i64 (a1.length : Int))), (12, .d (D.int .i64 (v86n : Int)))] [(128, .box 43 [.d (D.sl a1)]), (192, .box 43 [.d (D.sl a2)])]) (LoopEnd prog f88 0 71 (.d (D.int .i64 r)) (⟨[], []⟩) (fun i ts os => (i = 0 ∧ K0 = some r ∧ ts = [(2, .ptr 128 0), (3, .ptr 192 0)] ∧ os = [(128, .box 43 [.d (D.sl a1)]), (192, .box 43 [.d (D.sl a2)])])))
  | [], v86n, hd, h => by
      rw [spec_suCmp_l0] at h
      have hn := drop_nil hd
      refine LoopOk.step ?_
      conv => whnf
      refine splD (fun g => absurd g hn) (fun _ => ?_)
      conv => whnf
      exact ⟨_, _, [some 128, some 192], [], ⟨rfl, h, rfl, rfl⟩, ⟨⟨rfl, rfl⟩, ⟨rfl, ⟨rfl, rfl, trivial⟩, ⟨rfl, rfl, trivial⟩, trivial⟩, ⟨rfl, rfl⟩, ⟨rfl, rfl⟩, trivial⟩⟩
  | cs :: rest, v86n, hd, h => by
      rw [spec_suCmp_l0] at h
      obtain ⟨hrow, hd1, hlt⟩ := drop_cons hd
      refine LoopOk.step ?_
      conv => whnf
      refine splD (fun _ => ?_) (fun g => absurd hlt g)
      conv => whnf
      obtain ⟨x112, x113, x114, e115, h⟩ := cell_sii_ex h
      rw [e115] at hrow
      refine Req.of (Int.natCast_nonneg _) ?_
      refine Row.of _ hrow ?_
      conv => whnf
      refine splD (fun g116 => ?_) (fun g116 => ?_)
      · replace h := iteP h g116
        conv => whnf
        refine Pick.no ?_
        conv => whnf
        obtain ⟨y117, e118, h⟩ := bind_ex h
        refine CallOk.of (spec_l1Sign_ct e118) ?_
        conv => whnf
        refine CutK.norm [4] [] ?_
        conv => whnf
        cases h
        exact Done.of [] [] rfl rfl ⟨⟨rfl, rfl⟩, ⟨rfl, trivial⟩, rfl, trivial⟩
      · replace h := iteN h g116
        conv => whnf
        refine CutK.norm [2, 3, 5, 6, 10, 11, 12] [128, 192, 384] ?_
        conv => whnf
        obtain ⟨g123, x119, x120, x121, e122, h⟩ := row_sii_ex h
        refine Req.of g123 ?_
        refine Row.of _ e122 ?_
        conv => whnf
        refine Pick.no ?_
        conv => whnf
        obtain ⟨y124, e125, h⟩ := bind_ex h
        refine CallOk.of (hrec_spec_suCmp _ _ _ e125) ?_
        conv => whnf
        refine CutK.norm [2, 3, 6, 7, 8, 10, 11, 12] [128, 192, 384, 448] ?_
        conv => whnf
        refine splD (fun g126 => ?_) (fun g126 => ?_)
        · replace h := iteP h g126
          conv => whnf
          refine Pick.no ?_
          conv => whnf
          obtain ⟨y127, e128, h⟩ := bind_ex h
          refine CallOk.of (spec_l1Sign_ct e128) ?_
          conv => whnf
          refine CutK.norm [4] [] ?_
          conv => whnf
          cases h
          exact Done.of [] [] rfl rfl ⟨⟨rfl, rfl⟩, ⟨rfl, trivial⟩, rfl, trivial⟩
        · replace h := iteN h g126
          conv => whnf
          refine splD (fun g129 => ?_) (fun g129 => ?_)
          · replace h := iteP h g129
            conv => whnf
            refine Pick.no ?_
            conv => whnf
            obtain ⟨y130, e131, h⟩ := bind_ex h
            refine CallOk.of (spec_l1Sign_ct e131) ?_
            conv => whnf
            refine CutK.norm [4] [] ?_
            conv => whnf
            cases h
            exact Done.of [] [] rfl rfl ⟨⟨rfl, rfl⟩, ⟨rfl, trivial⟩, rfl, trivial⟩
          · replace h := iteN h g129
            conv => whnf
            refine Req.of ⟨by kernel_rfl, by kernel_rfl⟩ ?_
            conv => whnf
            refine spl (fun g132 => ?_) (fun g132 => ?_)
            · replace h := iteT h g132
              conv => whnf
              refine Pick.no ?_
              conv => whnf
              obtain ⟨y133, e134, h⟩ := bind_ex h
              refine CallOk.of (spec_shCmp_ct e134) ?_
              conv => whnf
              refine CutK.norm [4] [] ?_
              conv => whnf
              cases h
              exact Done.of [] [] rfl rfl ⟨⟨rfl, rfl⟩, ⟨rfl, trivial⟩, rfl, trivial⟩
            · replace h := iteF h g132
              conv => whnf
              refine CutK.norm [2, 3, 10, 11, 12] [128, 192] ?_
              conv => whnf
              exact LoopOk.back (spec_suCmp_l0_ct hrec_spec_suCmp hx rest (v86n + 1)  hd1 h) [some 128, some 192] [] ⟨⟨rfl, rfl⟩, ⟨rfl, ⟨rfl, rfl, trivial⟩, ⟨rfl, rfl, trivial⟩, trivial⟩, ⟨rfl, rfl⟩, ⟨rfl, rfl⟩, rfl, rfl, i64eq (wrap_up hlt hx), trivial⟩
def spec_suCmp_b (rec_spec_suCmp : Rw → Rw → Option Int) (a1 : Rw) (a2 : Rw) : Option Int :=
  (if a1.length ≤ cap then (spec_suCmp_l0 rec_spec_suCmp a1 a2 (spec_suCmp_p2 a1 a2) a1 0) else none)
set_option maxHeartbeats 4000000 in
set_option maxRecDepth 100000 in
theorem spec_suCmp_b_ct {rec_spec_suCmp : Rw → Rw → Option Int} (hrec_spec_suCmp : ∀ (a1 : Rw) (a2 : Rw) (r : Int), rec_spec_suCmp a1 a2 = some r → Ct prog 88 [.agg [.d (D.sl a1)], .agg [.d (D.sl a2)]] (⟨[], []⟩) (.d (D.int .i64 r)) (⟨[], []⟩)) {a1 : Rw} {a2 : Rw} {r : Int} (h : spec_suCmp_b rec_spec_suCmp a1 a2 = some r) : Ct prog 88 [.agg [.d (D.sl a1)], .agg [.d (D.sl a2)]] (⟨[], []⟩) (.d (D.int .i64 r)) (⟨[], []⟩) := by
  rw [spec_suCmp_b] at h
  refine Ct.of (c := _) mixed func88 ⟨rfl, rfl, rfl⟩ ?_ rfl
  conv => whnf
  obtain ⟨g135, h⟩ := req_ex h
  refine LoopOk.into (spec_suCmp_l0_ct hrec_spec_suCmp g135 _ _  rfl h) [some 128, some 192] [] ⟨⟨rfl, rfl⟩, ⟨rfl, ⟨rfl, rfl, trivial⟩, ⟨rfl, rfl, trivial⟩, trivial⟩, ⟨rfl, rfl⟩, ⟨rfl, rfl⟩, rfl, rfl, rfl, trivial⟩ ?_ (fun _ hs => hs)
  rintro i ts os ⟨rfl, h, rfl, rfl⟩
  conv => whnf
  exact CutK.piece (spec_suCmp_p2_ct  h) [some 128, some 192] [] ⟨⟨rfl, rfl⟩, ⟨rfl, ⟨rfl, rfl, trivial⟩, ⟨rfl, rfl, trivial⟩, trivial⟩, ⟨rfl, rfl⟩, ⟨rfl, rfl⟩, trivial⟩
def spec_suCmp : Nat → Rw → Rw → Option Int
  | 0, _, _ => none
  | k + 1, a1, a2 => spec_suCmp_b (spec_suCmp k) a1 a2
theorem spec_suCmp_ct' : ∀ (k : Nat) (a1 : Rw) (a2 : Rw) (r : Int), spec_suCmp k a1 a2 = some r → Ct prog 88 [.agg [.d (D.sl a1)], .agg [.d (D.sl a2)]] (⟨[], []⟩) (.d (D.int .i64 r)) (⟨[], []⟩)
  | 0, _, _, _, h => by rw [spec_suCmp] at h; cases h
  | k + 1, _, _, _, h => by rw [spec_suCmp] at h; exact spec_suCmp_b_ct (spec_suCmp_ct' k) h
theorem spec_suCmp_ct {k : Nat} {a1 : Rw} {a2 : Rw} {r : Int} (h : spec_suCmp k a1 a2 = some r) : Ct prog 88 [.agg [.d (D.sl a1)], .agg [.d (D.sl a2)]] (⟨[], []⟩) (.d (D.int .i64 r)) (⟨[], []⟩) := spec_suCmp_ct' k _ _ _ h

def spec_suForm_p3  : Option Bool :=
  some true
set_option maxHeartbeats 4000000 in
set_option maxRecDepth 100000 in
theorem spec_suForm_p3_ct  {r : Bool} (h : spec_suForm_p3 = some r) : X prog 0 (tlF f65 3) (mk 53 [] []) (finK prog f65 0 (.d (D.bool r)) (⟨[], []⟩)) := by
  rw [spec_suForm_p3] at h
  conv => whnf
  cases h
  exact Done.of [] [] rfl rfl ⟨⟨rfl, rfl⟩, ⟨rfl, trivial⟩, rfl, trivial⟩
def spec_suForm_l0 (k : Nat) (rec_spec_suForm : Rw → Int → Option Bool) (a1 : Rw) (a2 : Int) (K0 : Option Bool) : Rw → Nat → Option Bool
  | [], v54n => (K0)
  | cs :: rest, v54n => (cell_sii cs fun x77 x78 x79 => ((spec_shGood k x78 x79).bind fun y81 => (if y81 = true then (if x78 = (0 : Int) then some false else ((rec_spec_suForm x77 (IntKind.i64.wrap (a2 - 1))).bind fun y85 => (if y85 = true then (if (0 : Int) < (v54n : Int) then (row_sii a1 (IntKind.i64.wrap ((v54n : Int) - 1)) fun x89 x90 x91 => ((spec_suCmp k x89 x77).bind fun y94 => (if y94 ≤ (0 : Int) then some false else (spec_suForm_l0 k rec_spec_suForm a1 a2 K0 rest (v54n + 1))))) else (spec_suForm_l0 k rec_spec_suForm a1 a2 K0 rest (v54n + 1))) else some false))) else some false)))
set_option maxRecDepth 100000 in
theorem spec_suForm_l0_ct {k : Nat} {rec_spec_suForm : Rw → Int → Option Bool} {a1 : Rw} {a2 : Int} {K0 : Option Bool} (hrec_spec_suForm : ∀ (a1 : Rw) (a2 : Int) (r : Bool), rec_spec_suForm a1 a2 = some r → Ct prog 65 [.agg [.d (D.sl a1)], .d (D.int .i64 a2)] (⟨[], []⟩) (.d (D.bool r)) (⟨[], []⟩)) {r : Bool} (hx : a1.length ≤ cap) : ∀ (rest : Rw) (v54n : Nat), a1.drop v54n = rest → spec_suForm_l0 k rec_spec_suForm a1 a2 K0 rest v54n = some r → LoopOk prog 0 (lp f65 0) (mk 53 [(1, .d (D.int .i64 a2)), (2, .ptr 128 0), (10, .d (D.sl a1)), (11, .d (D.int .i64 (a1.length : Int))), (12, .d (D.int .i64 (v54n : Int)))] [(128, .box 43 [.d (D.sl a1)])]) (LoopEnd prog f65 0 53 (.d (D.bool r)) (⟨[], []⟩) (fun i ts os => (i = 0 ∧ K0 = some r ∧ ts = [] ∧ os = [])))
  | [], v54n, hd, h => by
      rw [spec_suForm_l0] at h
      have hn := drop_nil hd
      refine LoopOk.step ?_
      conv => whnf
      refine splD (fun g => absurd g hn) (fun _ => ?_)
      conv => whnf
      exact ⟨_, _, [], [], ⟨rfl, h, rfl, rfl⟩, ⟨⟨rfl, rfl⟩, ⟨rfl, trivial⟩, trivial⟩⟩
  | cs :: rest, v54n, hd, h => by
      rw [spec_suForm_l0] at h
      obtain ⟨hrow, hd1, hlt⟩ := drop_cons hd
      refine LoopOk.step ?_
      conv => whnf
      refine splD (fun _ => ?_) (fun g => absurd hlt g)
      conv => whnf
      obtain ⟨x77, x78, x79, e80, h⟩ := cell_sii_ex h
      rw [e80] at hrow
      refine Req.of (Int.natCast_nonneg _) ?_
      refine Row.of _ hrow ?_
      conv => whnf
      refine Pick.no ?_
      conv => whnf
      obtain ⟨y81, e82, h⟩ := bind_ex h
      refine CallOk.of (spec_shGood_ct e82) ?_
      conv => whnf
      refine spl (fun g83 => ?_) (fun g83 => ?_)
      · replace h := iteT h g83
        conv => whnf
        refine splD (fun g84 => ?_) (fun g84 => ?_)
        · replace h := iteP h g84
          conv => whnf
          refine CutK.norm [1, 2, 10, 11, 12, 51] [128] ?_
          conv => whnf
          cases h
          exact Done.of [] [] rfl rfl ⟨⟨rfl, rfl⟩, ⟨rfl, trivial⟩, rfl, trivial⟩
        · replace h := iteN h g84
          conv => whnf
          refine Pick.no ?_
          conv => whnf
          obtain ⟨y85, e86, h⟩ := bind_ex h
          refine CallOk.of (hrec_spec_suForm _ _ _ e86) ?_
          conv => whnf
          refine spl (fun g87 => ?_) (fun g87 => ?_)
          · replace h := iteT h g87
            conv => whnf
            refine splD (fun g88 => ?_) (fun g88 => ?_)
            · replace h := iteP h g88
              conv => whnf
              obtain ⟨g93, x89, x90, x91, e92, h⟩ := row_sii_ex h
              refine Req.of g93 ?_
              refine Row.of _ e92 ?_
              conv => whnf
              refine Pick.no ?_
              conv => whnf
              obtain ⟨y94, e95, h⟩ := bind_ex h
              refine CallOk.of (spec_suCmp_ct e95) ?_
              conv => whnf
              refine splD (fun g96 => ?_) (fun g96 => ?_)
              · replace h := iteP h g96
                conv => whnf
                refine CutK.norm [1, 2, 10, 11, 12, 51] [128] ?_
                conv => whnf
                cases h
                exact Done.of [] [] rfl rfl ⟨⟨rfl, rfl⟩, ⟨rfl, trivial⟩, rfl, trivial⟩
              · replace h := iteN h g96
                conv => whnf
                refine CutK.norm [1, 2, 10, 11, 12, 51] [128] ?_
                conv => whnf
                refine CutK.norm [1, 2, 10, 11, 12] [128] ?_
                conv => whnf
                exact LoopOk.back (spec_suForm_l0_ct hrec_spec_suForm hx rest (v54n + 1)  hd1 h) [some 128] [] ⟨⟨rfl, rfl⟩, ⟨rfl, ⟨rfl, rfl, trivial⟩, trivial⟩, rfl, ⟨rfl, rfl⟩, rfl, rfl, i64eq (wrap_up hlt hx), trivial⟩
            · replace h := iteN h g88
              conv => whnf
              refine CutK.norm [1, 2, 10, 11, 12, 51] [128] ?_
              conv => whnf
              refine CutK.norm [1, 2, 10, 11, 12] [128] ?_
              conv => whnf
              exact LoopOk.back (spec_suForm_l0_ct hrec_spec_suForm hx rest (v54n + 1)  hd1 h) [some 128] [] ⟨⟨rfl, rfl⟩, ⟨rfl, ⟨rfl, rfl, trivial⟩, trivial⟩, rfl, ⟨rfl, rfl⟩, rfl, rfl, i64eq (wrap_up hlt hx), trivial⟩
          · replace h := iteF h g87
            conv => whnf
            refine CutK.norm [1, 2, 10, 11, 12, 51] [128] ?_
            conv => whnf
            cases h
            exact Done.of [] [] rfl rfl ⟨⟨rfl, rfl⟩, ⟨rfl, trivial⟩, rfl, trivial⟩
      · replace h := iteF h g83
        conv => whnf
        refine CutK.norm [1, 2, 10, 11, 12, 51] [128] ?_
        conv => whnf
        cases h
        exact Done.of [] [] rfl rfl ⟨⟨rfl, rfl⟩, ⟨rfl, trivial⟩, rfl, trivial⟩
def spec_suForm_b (k : Nat) (rec_spec_suForm : Rw → Int → Option Bool) (a1 : Rw) (a2 : Int) : Option Bool :=
  (if a2 < (0 : Int) then some false else (if a1.length ≤ cap then (spec_suForm_l0 k rec_spec_suForm a1 a2 (spec_suForm_p3) a1 0) else none))
set_option maxHeartbeats 4000000 in
set_option maxRecDepth 100000 in
theorem spec_suForm_b_ct {k : Nat} {rec_spec_suForm : Rw → Int → Option Bool} (hrec_spec_suForm : ∀ (a1 : Rw) (a2 : Int) (r : Bool), rec_spec_suForm a1 a2 = some r → Ct prog 65 [.agg [.d (D.sl a1)], .d (D.int .i64 a2)] (⟨[], []⟩) (.d (D.bool r)) (⟨[], []⟩)) {a1 : Rw} {a2 : Int} {r : Bool} (h : spec_suForm_b k rec_spec_suForm a1 a2 = some r) : Ct prog 65 [.agg [.d (D.sl a1)], .d (D.int .i64 a2)] (⟨[], []⟩) (.d (D.bool r)) (⟨[], []⟩) := by
  rw [spec_suForm_b] at h
  refine Ct.of (c := _) mixed func65 ⟨rfl, rfl, rfl⟩ ?_ rfl
  conv => whnf
  refine splD (fun g40 => ?_) (fun g40 => ?_)
  · replace h := iteP h g40
    conv => whnf
    cases h
    exact Done.of [] [] rfl rfl ⟨⟨rfl, rfl⟩, ⟨rfl, trivial⟩, rfl, trivial⟩
  · replace h := iteN h g40
    conv => whnf
    obtain ⟨g97, h⟩ := req_ex h
    refine LoopOk.into (spec_suForm_l0_ct hrec_spec_suForm g97 _ _  rfl h) [some 128] [] ⟨⟨rfl, rfl⟩, ⟨rfl, ⟨rfl, rfl, trivial⟩, trivial⟩, rfl, ⟨rfl, rfl⟩, rfl, rfl, rfl, trivial⟩ ?_ (fun _ hs => hs)
    rintro i ts os ⟨rfl, h, rfl, rfl⟩
    conv => whnf
    exact CutK.piece (spec_suForm_p3_ct  h) [] [] ⟨⟨rfl, rfl⟩, ⟨rfl, trivial⟩, trivial⟩
def spec_suForm : Nat → Rw → Int → Option Bool
  | 0, _, _ => none
  | k + 1, a1, a2 => spec_suForm_b k (spec_suForm k) a1 a2
theorem spec_suForm_ct' : ∀ (k : Nat) (a1 : Rw) (a2 : Int) (r : Bool), spec_suForm k a1 a2 = some r → Ct prog 65 [.agg [.d (D.sl a1)], .d (D.int .i64 a2)] (⟨[], []⟩) (.d (D.bool r)) (⟨[], []⟩)
  | 0, _, _, _, h => by rw [spec_suForm] at h; cases h
  | k + 1, _, _, _, h => by rw [spec_suForm] at h; exact spec_suForm_b_ct (spec_suForm_ct' k) h
theorem spec_suForm_ct {k : Nat} {a1 : Rw} {a2 : Int} {r : Bool} (h : spec_suForm k a1 a2 = some r) : Ct prog 65 [.agg [.d (D.sl a1)], .d (D.int .i64 a2)] (⟨[], []⟩) (.d (D.bool r)) (⟨[], []⟩) := spec_suForm_ct' k _ _ _ h

def spec_suGood (k : Nat) (a1 : Rw) : Option Bool :=
  ((spec_suLeft k a1 6 60).bind fun y2 => (if (0 : Int) ≤ y2 then ((spec_suForm k a1 6).bind fun y5 => (if y5 = true then some true else some false)) else some false))
set_option maxHeartbeats 4000000 in
set_option maxRecDepth 100000 in
theorem spec_suGood_ct {k : Nat} {a1 : Rw} {r : Bool} (h : spec_suGood k a1 = some r) : Ct prog 38 [.agg [.d (D.sl a1)]] (⟨[], []⟩) (.d (D.bool r)) (⟨[], []⟩) := by
  rw [spec_suGood] at h
  refine Ct.of (c := _) mixed func38 ⟨rfl, rfl, rfl⟩ ?_ rfl
  conv => whnf
  refine Pick.no ?_
  conv => whnf
  obtain ⟨y2, e3, h⟩ := bind_ex h
  refine CallOk.of (spec_suLeft_ct e3) ?_
  conv => whnf
  refine splD (fun g4 => ?_) (fun g4 => ?_)
  · replace h := iteP h g4
    conv => whnf
    refine Pick.no ?_
    conv => whnf
    obtain ⟨y5, e6, h⟩ := bind_ex h
    refine CallOk.of (spec_suForm_ct e6) ?_
    conv => whnf
    refine spl (fun g7 => ?_) (fun g7 => ?_)
    · replace h := iteT h g7
      conv => whnf
      refine CutK.go ?_
      conv => whnf
      cases h
      exact Done.of [] [] rfl rfl ⟨⟨rfl, rfl⟩, ⟨rfl, trivial⟩, rfl, trivial⟩
    · replace h := iteF h g7
      conv => whnf
      refine CutK.go ?_
      conv => whnf
      cases h
      exact Done.of [] [] rfl rfl ⟨⟨rfl, rfl⟩, ⟨rfl, trivial⟩, rfl, trivial⟩
  · replace h := iteN h g4
    conv => whnf
    refine CutK.go ?_
    conv => whnf
    cases h
    exact Done.of [] [] rfl rfl ⟨⟨rfl, rfl⟩, ⟨rfl, trivial⟩, rfl, trivial⟩

def spec_suZero  (a1 : Rw) : Option Bool :=
  (if (a1.length : Int) = (0 : Int) then some true else some false)
set_option maxHeartbeats 4000000 in
set_option maxRecDepth 100000 in
theorem spec_suZero_ct  {a1 : Rw} {r : Bool} (h : spec_suZero a1 = some r) : Ct prog 90 [.agg [.d (D.sl a1)]] (⟨[], []⟩) (.d (D.bool r)) (⟨[], []⟩) := by
  rw [spec_suZero] at h
  refine Ct.of (c := _) mixed func90 ⟨rfl, rfl, rfl⟩ ?_ rfl
  conv => whnf
  refine splD (fun g2 => ?_) (fun g2 => ?_)
  · replace h := iteP h g2
    conv => whnf
    cases h
    exact Done.of [] [] rfl rfl ⟨⟨rfl, rfl⟩, ⟨rfl, trivial⟩, rfl, trivial⟩
  · replace h := iteN h g2
    conv => whnf
    cases h
    exact Done.of [] [] rfl rfl ⟨⟨rfl, rfl⟩, ⟨rfl, trivial⟩, rfl, trivial⟩

def spec_l1Num_b (rec_spec_l1Num : Int → Option ByteArray) (a1 : Int) : Option ByteArray :=
  (if a1 < (10 : Int) then ((strD ([[D.int .u8 (IntKind.u8.wrap (IntKind.i64.wrap (48 + a1)))]] : Rw)).bind fun y3 => some y3) else ((rec_spec_l1Num (IntKind.i64.wrap (a1.tdiv 10))).bind fun y5 => ((strD ([[D.int .u8 (IntKind.u8.wrap (IntKind.i64.wrap (48 + (a1.tmod 10))))]] : Rw)).bind fun y7 => (if y5.size + y7.size ≤ 9223372036854775807 then some (y5 ++ y7) else none))))
set_option maxHeartbeats 4000000 in
set_option maxRecDepth 100000 in
theorem spec_l1Num_b_ct {rec_spec_l1Num : Int → Option ByteArray} (hrec_spec_l1Num : ∀ (a1 : Int) (r : ByteArray), rec_spec_l1Num a1 = some r → Ct prog 25 [.d (D.int .i64 a1)] (⟨[], []⟩) (.d (D.str r)) (⟨[], []⟩)) {a1 : Int} {r : ByteArray} (h : spec_l1Num_b rec_spec_l1Num a1 = some r) : Ct prog 25 [.d (D.int .i64 a1)] (⟨[], []⟩) (.d (D.str r)) (⟨[], []⟩) := by
  rw [spec_l1Num_b] at h
  refine Ct.of (c := _) mixed func25 ⟨rfl, rfl, rfl⟩ ?_ rfl
  conv => whnf
  refine splD (fun g2 => ?_) (fun g2 => ?_)
  · replace h := iteP h g2
    conv => whnf
    obtain ⟨y3, e4, h⟩ := bind_ex h
    refine StrOk.of e4 (by first | rfl | exact List.length_append.symm | (simp; done) | omega) ?_
    conv => whnf
    cases h
    exact Done.of [] [] rfl rfl ⟨⟨rfl, rfl⟩, ⟨rfl, trivial⟩, rfl, trivial⟩
  · replace h := iteN h g2
    conv => whnf
    refine Req.of (by decide) ?_
    conv => whnf
    refine Pick.no ?_
    conv => whnf
    obtain ⟨y5, e6, h⟩ := bind_ex h
    refine CallOk.of (hrec_spec_l1Num _ _ e6) ?_
    conv => whnf
    refine Req.of (by decide) ?_
    conv => whnf
    obtain ⟨y7, e8, h⟩ := bind_ex h
    refine StrOk.of e8 (by first | rfl | exact List.length_append.symm | (simp; done) | omega) ?_
    conv => whnf
    obtain ⟨g9, h⟩ := req_ex h
    refine Req.of g9 ?_
    conv => whnf
    refine CutK.go ?_
    conv => whnf
    cases h
    exact Done.of [] [] rfl rfl ⟨⟨rfl, rfl⟩, ⟨rfl, trivial⟩, rfl, trivial⟩
def spec_l1Num : Nat → Int → Option ByteArray
  | 0, _ => none
  | k + 1, a1 => spec_l1Num_b (spec_l1Num k) a1
theorem spec_l1Num_ct' : ∀ (k : Nat) (a1 : Int) (r : ByteArray), spec_l1Num k a1 = some r → Ct prog 25 [.d (D.int .i64 a1)] (⟨[], []⟩) (.d (D.str r)) (⟨[], []⟩)
  | 0, _, _, h => by rw [spec_l1Num] at h; cases h
  | k + 1, _, _, h => by rw [spec_l1Num] at h; exact spec_l1Num_b_ct (spec_l1Num_ct' k) h
theorem spec_l1Num_ct {k : Nat} {a1 : Int} {r : ByteArray} (h : spec_l1Num k a1 = some r) : Ct prog 25 [.d (D.int .i64 a1)] (⟨[], []⟩) (.d (D.str r)) (⟨[], []⟩) := spec_l1Num_ct' k _ _ h

def spec_l1Int (k : Nat) (a1 : Int) : Option ByteArray :=
  (if a1 < (0 : Int) then ((spec_l1Num k (IntKind.i64.wrap (0 - a1))).bind fun y3 => (if (ByteArray.mk #[45]).size + y3.size ≤ 9223372036854775807 then some ((ByteArray.mk #[45]) ++ y3) else none)) else ((spec_l1Num k a1).bind fun y6 => some y6))
set_option maxHeartbeats 4000000 in
set_option maxRecDepth 100000 in
theorem spec_l1Int_ct {k : Nat} {a1 : Int} {r : ByteArray} (h : spec_l1Int k a1 = some r) : Ct prog 111 [.d (D.int .i64 a1)] (⟨[], []⟩) (.d (D.str r)) (⟨[], []⟩) := by
  rw [spec_l1Int] at h
  refine Ct.of (c := _) mixed func111 ⟨rfl, rfl, rfl⟩ ?_ rfl
  conv => whnf
  refine splD (fun g2 => ?_) (fun g2 => ?_)
  · replace h := iteP h g2
    conv => whnf
    refine Pick.no ?_
    conv => whnf
    obtain ⟨y3, e4, h⟩ := bind_ex h
    refine CallOk.of (spec_l1Num_ct e4) ?_
    conv => whnf
    obtain ⟨g5, h⟩ := req_ex h
    refine Req.of g5 ?_
    conv => whnf
    refine CutK.go ?_
    conv => whnf
    cases h
    exact Done.of [] [] rfl rfl ⟨⟨rfl, rfl⟩, ⟨rfl, trivial⟩, rfl, trivial⟩
  · replace h := iteN h g2
    conv => whnf
    refine CutK.go ?_
    conv => whnf
    refine Pick.no ?_
    conv => whnf
    obtain ⟨y6, e7, h⟩ := bind_ex h
    refine CallOk.of (spec_l1Num_ct e7) ?_
    conv => whnf
    refine CutK.go ?_
    conv => whnf
    cases h
    exact Done.of [] [] rfl rfl ⟨⟨rfl, rfl⟩, ⟨rfl, trivial⟩, rfl, trivial⟩

def spec_shText (k : Nat) (a1 : Int) (a2 : Int) : Option ByteArray :=
  (if a2 = (1 : Int) then ((spec_l1Int k a1).bind fun y4 => some y4) else ((spec_l1Int k a1).bind fun y6 => (if y6.size + (ByteArray.mk #[47]).size ≤ 9223372036854775807 then ((spec_l1Num k a2).bind fun y9 => (if (y6 ++ (ByteArray.mk #[47])).size + y9.size ≤ 9223372036854775807 then some ((y6 ++ (ByteArray.mk #[47])) ++ y9) else none)) else none)))
set_option maxHeartbeats 4000000 in
set_option maxRecDepth 100000 in
theorem spec_shText_ct {k : Nat} {a1 : Int} {a2 : Int} {r : ByteArray} (h : spec_shText k a1 a2 = some r) : Ct prog 91 [.agg [.d (D.int .i64 a1), .d (D.int .i64 a2)]] (⟨[], []⟩) (.d (D.str r)) (⟨[], []⟩) := by
  rw [spec_shText] at h
  refine Ct.of (c := _) mixed func91 ⟨rfl, rfl, rfl⟩ ?_ rfl
  conv => whnf
  refine splD (fun g3 => ?_) (fun g3 => ?_)
  · replace h := iteP h g3
    conv => whnf
    refine Pick.no ?_
    conv => whnf
    obtain ⟨y4, e5, h⟩ := bind_ex h
    refine CallOk.of (spec_l1Int_ct e5) ?_
    conv => whnf
    refine CutK.go ?_
    conv => whnf
    cases h
    exact Done.of [] [] rfl rfl ⟨⟨rfl, rfl⟩, ⟨rfl, trivial⟩, rfl, trivial⟩
  · replace h := iteN h g3
    conv => whnf
    refine CutK.go ?_
    conv => whnf
    refine Pick.no ?_
    conv => whnf
    obtain ⟨y6, e7, h⟩ := bind_ex h
    refine CallOk.of (spec_l1Int_ct e7) ?_
    conv => whnf
    obtain ⟨g8, h⟩ := req_ex h
    refine Req.of g8 ?_
    conv => whnf
    refine Pick.no ?_
    conv => whnf
    obtain ⟨y9, e10, h⟩ := bind_ex h
    refine CallOk.of (spec_l1Num_ct e10) ?_
    conv => whnf
    obtain ⟨g11, h⟩ := req_ex h
    refine Req.of g11 ?_
    conv => whnf
    refine CutK.go ?_
    conv => whnf
    cases h
    exact Done.of [] [] rfl rfl ⟨⟨rfl, rfl⟩, ⟨rfl, trivial⟩, rfl, trivial⟩

def spec_shInt  (a1 : Int) : Option (Int × Int) :=
  some (a1, 1)
set_option maxHeartbeats 4000000 in
set_option maxRecDepth 100000 in
theorem spec_shInt_ct  {a1 : Int} {r : Int × Int} (h : spec_shInt a1 = some r) : Ct prog 93 [.d (D.int .i64 a1)] (⟨[], []⟩) (.agg [.d (D.int .i64 r.1), .d (D.int .i64 r.2)]) (⟨[], []⟩) := by
  rw [spec_shInt] at h
  refine Ct.of (c := _) mixed func93 ⟨rfl, rfl, rfl⟩ ?_ rfl
  conv => whnf
  cases h
  exact Done.of [] [] rfl rfl ⟨⟨rfl, rfl⟩, ⟨rfl, trivial⟩, ⟨rfl, rfl, trivial⟩, trivial⟩

def spec_suTerm  (a1 : Rw) (a2 : Int) (a3 : Int) : Option Rw :=
  (if a2 = (0 : Int) then some ([] : Rw) else some ([[D.sl a1, D.int .i64 a2, D.int .i64 a3]] : Rw))
set_option maxHeartbeats 4000000 in
set_option maxRecDepth 100000 in
theorem spec_suTerm_ct  {a1 : Rw} {a2 : Int} {a3 : Int} {r : Rw} (h : spec_suTerm a1 a2 a3 = some r) : Ct prog 121 [.agg [.d (D.sl a1)], .agg [.d (D.int .i64 a2), .d (D.int .i64 a3)]] (⟨[], []⟩) (.agg [.os 8 r.length]) (⟨[], [(103, false, r)]⟩) := by
  rw [spec_suTerm] at h
  refine Ct.of (c := _) mixed func121 ⟨rfl, rfl, rfl⟩ ?_ rfl
  conv => whnf
  refine splD (fun g4 => ?_) (fun g4 => ?_)
  · replace h := iteP h g4
    conv => whnf
    cases h
    exact Done.of [none] [] rfl rfl ⟨⟨rfl, rfl⟩, ⟨rfl, rfl, trivial⟩, ⟨⟨rfl, rfl⟩, trivial⟩, trivial⟩
  · replace h := iteN h g4
    conv => whnf
    cases h
    exact Done.of [some 768] [] rfl rfl ⟨⟨rfl, rfl⟩, ⟨rfl, ⟨rfl, rfl, rows_same⟩, trivial⟩, ⟨⟨(by first | rfl | exact List.length_append.symm | (simp; done) | omega), rfl⟩, trivial⟩, trivial⟩

def spec_suReal  (a1 : Int) (a2 : Int) : Option Rw :=
  ((spec_suTerm ([] : Rw) a1 a2).bind fun y3 => some y3)
set_option maxHeartbeats 4000000 in
set_option maxRecDepth 100000 in
theorem spec_suReal_ct  {a1 : Int} {a2 : Int} {r : Rw} (h : spec_suReal a1 a2 = some r) : Ct prog 112 [.agg [.d (D.int .i64 a1), .d (D.int .i64 a2)]] (⟨[], []⟩) (.agg [.os 8 r.length]) (⟨[], [(103, false, r)]⟩) := by
  rw [spec_suReal] at h
  refine Ct.of (c := _) mixed func112 ⟨rfl, rfl, rfl⟩ ?_ rfl
  conv => whnf
  refine Pick.no ?_
  conv => whnf
  obtain ⟨y3, e4, h⟩ := bind_ex h
  refine CallOk.of (spec_suTerm_ct e4) ?_
  conv => whnf
  refine CutK.go ?_
  conv => whnf
  cases h
  exact Done.of [some 320] [] rfl rfl ⟨⟨rfl, rfl⟩, ⟨rfl, ⟨rfl, rfl, rows_same⟩, trivial⟩, ⟨⟨rfl, rfl⟩, trivial⟩, trivial⟩

def spec_suInt  (a1 : Int) : Option Rw :=
  ((spec_shInt a1).bind fun y2 => ((spec_suReal y2.1 y2.2).bind fun y4 => some y4))
set_option maxHeartbeats 4000000 in
set_option maxRecDepth 100000 in
theorem spec_suInt_ct  {a1 : Int} {r : Rw} (h : spec_suInt a1 = some r) : Ct prog 92 [.d (D.int .i64 a1)] (⟨[], []⟩) (.agg [.os 8 r.length]) (⟨[], [(103, false, r)]⟩) := by
  rw [spec_suInt] at h
  refine Ct.of (c := _) mixed func92 ⟨rfl, rfl, rfl⟩ ?_ rfl
  conv => whnf
  refine Pick.no ?_
  conv => whnf
  obtain ⟨y2, e3, h⟩ := bind_ex h
  refine CallOk.of (spec_shInt_ct e3) ?_
  conv => whnf
  refine Pick.no ?_
  conv => whnf
  obtain ⟨y4, e5, h⟩ := bind_ex h
  refine CallOk.of (spec_suReal_ct e5) ?_
  conv => whnf
  refine CutK.go ?_
  conv => whnf
  cases h
  exact Done.of [some 320] [] rfl rfl ⟨⟨rfl, rfl⟩, ⟨rfl, ⟨rfl, rfl, rows_same⟩, trivial⟩, ⟨⟨rfl, rfl⟩, trivial⟩, trivial⟩

def spec_suTermText (k : Nat) (rec_spec_suText : Rw → Option ByteArray) (a1 : Rw) (a2 : Int) (a3 : Int) : Option ByteArray :=
  ((spec_l1Abs a2).bind fun y4 => ((spec_suZero a1).bind fun y6 => (if y6 = true then ((spec_shText k y4 a3).bind fun y9 => some y9) else ((spec_suInt 1).bind fun y11 => ((spec_suCmp k a1 y11).bind fun y13 => (if y13 = (0 : Int) then ((spec_shInt 1).bind fun y28 => (if (!(decide (y4 = y28.1) && (decide (a3 = y28.2) && true))) = true then ((spec_shText k y4 a3).bind fun y31 => (if (ByteArray.mk #[42]).size + y31.size ≤ 9223372036854775807 then (if (ByteArray.mk #[119]).size + ((ByteArray.mk #[42]) ++ y31).size ≤ 9223372036854775807 then some ((ByteArray.mk #[119]) ++ ((ByteArray.mk #[42]) ++ y31)) else none) else none)) else some (ByteArray.mk #[119]))) else ((rec_spec_suText a1).bind fun y16 => (if (ByteArray.mk #[94, 40]).size + y16.size ≤ 9223372036854775807 then (if ((ByteArray.mk #[94, 40]) ++ y16).size + (ByteArray.mk #[41]).size ≤ 9223372036854775807 then (if (ByteArray.mk #[119]).size + (((ByteArray.mk #[94, 40]) ++ y16) ++ (ByteArray.mk #[41])).size ≤ 9223372036854775807 then ((spec_shInt 1).bind fun y21 => (if (!(decide (y4 = y21.1) && (decide (a3 = y21.2) && true))) = true then ((spec_shText k y4 a3).bind fun y24 => (if (ByteArray.mk #[42]).size + y24.size ≤ 9223372036854775807 then (if ((ByteArray.mk #[119]) ++ (((ByteArray.mk #[94, 40]) ++ y16) ++ (ByteArray.mk #[41]))).size + ((ByteArray.mk #[42]) ++ y24).size ≤ 9223372036854775807 then some (((ByteArray.mk #[119]) ++ (((ByteArray.mk #[94, 40]) ++ y16) ++ (ByteArray.mk #[41]))) ++ ((ByteArray.mk #[42]) ++ y24)) else none) else none)) else some ((ByteArray.mk #[119]) ++ (((ByteArray.mk #[94, 40]) ++ y16) ++ (ByteArray.mk #[41]))))) else none) else none) else none))))))))
set_option maxHeartbeats 4000000 in
set_option maxRecDepth 100000 in
theorem spec_suTermText_ct {k : Nat} {rec_spec_suText : Rw → Option ByteArray} (hrec_spec_suText : ∀ (a1 : Rw) (r : ByteArray), rec_spec_suText a1 = some r → Ct prog 39 [.agg [.d (D.sl a1)]] (⟨[], []⟩) (.d (D.str r)) (⟨[], []⟩)) {a1 : Rw} {a2 : Int} {a3 : Int} {r : ByteArray} (h : spec_suTermText k rec_spec_suText a1 a2 a3 = some r) : Ct prog 66 [.agg [.d (D.sl a1), .d (D.int .i64 a2), .d (D.int .i64 a3)]] (⟨[], []⟩) (.d (D.str r)) (⟨[], []⟩) := by
  rw [spec_suTermText] at h
  refine Ct.of (c := _) mixed func66 ⟨rfl, rfl, rfl⟩ ?_ rfl
  conv => whnf
  refine Pick.no ?_
  conv => whnf
  obtain ⟨y4, e5, h⟩ := bind_ex h
  refine CallOk.of (spec_l1Abs_ct e5) ?_
  conv => whnf
  refine CutK.norm [1, 3] [64, 192] ?_
  conv => whnf
  refine Pick.no ?_
  conv => whnf
  obtain ⟨y6, e7, h⟩ := bind_ex h
  refine CallOk.of (spec_suZero_ct e7) ?_
  conv => whnf
  refine spl (fun g8 => ?_) (fun g8 => ?_)
  · replace h := iteT h g8
    conv => whnf
    refine CutK.norm [1, 3, 13] [64, 192] ?_
    conv => whnf
    refine Pick.no ?_
    conv => whnf
    obtain ⟨y9, e10, h⟩ := bind_ex h
    refine CallOk.of (spec_shText_ct e10) ?_
    conv => whnf
    refine CutK.norm [2] [] ?_
    conv => whnf
    cases h
    exact Done.of [] [] rfl rfl ⟨⟨rfl, rfl⟩, ⟨rfl, trivial⟩, rfl, trivial⟩
  · replace h := iteF h g8
    conv => whnf
    refine CutK.norm [1, 3, 13] [64, 192] ?_
    conv => whnf
    refine CutK.norm [1, 3] [64, 192] ?_
    conv => whnf
    refine Pick.no ?_
    conv => whnf
    obtain ⟨y11, e12, h⟩ := bind_ex h
    refine CallOk.of (spec_suInt_ct e12) ?_
    conv => whnf
    refine Pick.no ?_
    conv => whnf
    refine Take.all (rfl) ?_
    conv => whnf
    obtain ⟨y13, e14, h⟩ := bind_ex h
    refine CallOk.of (spec_suCmp_ct e14) ?_
    conv => whnf
    refine splN (fun g15 => ?_) (fun g15 => ?_)
    · replace h := iteN h g15
      conv => whnf
      refine CutK.norm [1, 3, 4, 20] [64, 192] ?_
      conv => whnf
      refine Pick.no ?_
      conv => whnf
      obtain ⟨y16, e17, h⟩ := bind_ex h
      refine CallOk.of (hrec_spec_suText _ _ e17) ?_
      conv => whnf
      obtain ⟨g18, h⟩ := req_ex h
      refine Req.of g18 ?_
      conv => whnf
      obtain ⟨g19, h⟩ := req_ex h
      refine Req.of g19 ?_
      conv => whnf
      obtain ⟨g20, h⟩ := req_ex h
      refine Req.of g20 ?_
      conv => whnf
      refine CutK.norm [3, 4] [192] ?_
      conv => whnf
      refine Pick.no ?_
      conv => whnf
      obtain ⟨y21, e22, h⟩ := bind_ex h
      refine CallOk.of (spec_shInt_ct e22) ?_
      conv => whnf
      refine Req.of ⟨by kernel_rfl, by kernel_rfl⟩ ?_
      conv => whnf
      refine spl (fun g23 => ?_) (fun g23 => ?_)
      · replace h := iteT h g23
        conv => whnf
        refine CutK.norm [3, 4, 30] [192] ?_
        conv => whnf
        refine Pick.no ?_
        conv => whnf
        obtain ⟨y24, e25, h⟩ := bind_ex h
        refine CallOk.of (spec_shText_ct e25) ?_
        conv => whnf
        obtain ⟨g26, h⟩ := req_ex h
        refine Req.of g26 ?_
        conv => whnf
        obtain ⟨g27, h⟩ := req_ex h
        refine Req.of g27 ?_
        conv => whnf
        refine CutK.norm [4] [] ?_
        conv => whnf
        cases h
        exact Done.of [] [] rfl rfl ⟨⟨rfl, rfl⟩, ⟨rfl, trivial⟩, rfl, trivial⟩
      · replace h := iteF h g23
        conv => whnf
        refine CutK.norm [3, 4, 30] [192] ?_
        conv => whnf
        refine CutK.norm [4] [] ?_
        conv => whnf
        cases h
        exact Done.of [] [] rfl rfl ⟨⟨rfl, rfl⟩, ⟨rfl, trivial⟩, rfl, trivial⟩
    · replace h := iteP h g15
      conv => whnf
      refine CutK.norm [1, 3, 4, 20] [64, 192] ?_
      conv => whnf
      refine CutK.norm [3, 4] [192] ?_
      conv => whnf
      refine Pick.no ?_
      conv => whnf
      obtain ⟨y28, e29, h⟩ := bind_ex h
      refine CallOk.of (spec_shInt_ct e29) ?_
      conv => whnf
      refine Req.of ⟨by kernel_rfl, by kernel_rfl⟩ ?_
      conv => whnf
      refine spl (fun g30 => ?_) (fun g30 => ?_)
      · replace h := iteT h g30
        conv => whnf
        refine CutK.norm [3, 4, 30] [192] ?_
        conv => whnf
        refine Pick.no ?_
        conv => whnf
        obtain ⟨y31, e32, h⟩ := bind_ex h
        refine CallOk.of (spec_shText_ct e32) ?_
        conv => whnf
        obtain ⟨g33, h⟩ := req_ex h
        refine Req.of g33 ?_
        conv => whnf
        obtain ⟨g34, h⟩ := req_ex h
        refine Req.of g34 ?_
        conv => whnf
        refine CutK.norm [4] [] ?_
        conv => whnf
        cases h
        exact Done.of [] [] rfl rfl ⟨⟨rfl, rfl⟩, ⟨rfl, trivial⟩, rfl, trivial⟩
      · replace h := iteF h g30
        conv => whnf
        refine CutK.norm [3, 4, 30] [192] ?_
        conv => whnf
        refine CutK.norm [4] [] ?_
        conv => whnf
        cases h
        exact Done.of [] [] rfl rfl ⟨⟨rfl, rfl⟩, ⟨rfl, trivial⟩, rfl, trivial⟩

def spec_suText_l0 (k : Nat) (rec_spec_suText : Rw → Option ByteArray) (a1 : Rw) (K0 : ByteArray → Option ByteArray) : Rw → Nat → ByteArray → Option ByteArray
  | [], v14n, v13 => (K0 v13)
  | cs :: rest, v14n, v13 => (cell_sii cs fun x57 x58 x59 => (if x58 < (0 : Int) then (if v13.size + (ByteArray.mk #[45]).size ≤ 9223372036854775807 then ((spec_suTermText k rec_spec_suText x57 x58 x59).bind fun y63 => (if (v13 ++ (ByteArray.mk #[45])).size + y63.size ≤ 9223372036854775807 then (spec_suText_l0 k rec_spec_suText a1 K0 rest (v14n + 1) ((v13 ++ (ByteArray.mk #[45])) ++ y63)) else none)) else none) else (if (0 : Int) < (v14n : Int) then (if v13.size + (ByteArray.mk #[43]).size ≤ 9223372036854775807 then ((spec_suTermText k rec_spec_suText x57 x58 x59).bind fun y68 => (if (v13 ++ (ByteArray.mk #[43])).size + y68.size ≤ 9223372036854775807 then (spec_suText_l0 k rec_spec_suText a1 K0 rest (v14n + 1) ((v13 ++ (ByteArray.mk #[43])) ++ y68)) else none)) else none) else ((spec_suTermText k rec_spec_suText x57 x58 x59).bind fun y71 => (if v13.size + y71.size ≤ 9223372036854775807 then (spec_suText_l0 k rec_spec_suText a1 K0 rest (v14n + 1) (v13 ++ y71)) else none)))))
set_option maxRecDepth 100000 in
theorem spec_suText_l0_ct {k : Nat} {rec_spec_suText : Rw → Option ByteArray} {a1 : Rw} {K0 : ByteArray → Option ByteArray} (hrec_spec_suText : ∀ (a1 : Rw) (r : ByteArray), rec_spec_suText a1 = some r → Ct prog 39 [.agg [.d (D.sl a1)]] (⟨[], []⟩) (.d (D.str r)) (⟨[], []⟩)) {r : ByteArray} (hx : a1.length ≤ cap) : ∀ (rest : Rw) (v14n : Nat) (v13 : ByteArray), a1.drop v14n = rest → spec_suText_l0 k rec_spec_suText a1 K0 rest v14n v13 = some r → LoopOk prog 0 (lp f39 0) (mk 34 [(3, .d (D.str v13)), (7, .d (D.sl a1)), (8, .d (D.int .i64 (a1.length : Int))), (9, .d (D.int .i64 (v14n : Int)))] []) (LoopEnd prog f39 0 34 (.d (D.str r)) (⟨[], []⟩) (fun i ts os => (i = 0 ∧ ∃ v37 : ByteArray, K0 v37 = some r ∧ ts = [(3, .d (D.str v37))] ∧ os = [])))
  | [], v14n, v13, hd, h => by
      rw [spec_suText_l0] at h
      have hn := drop_nil hd
      refine LoopOk.step ?_
      conv => whnf
      refine splD (fun g => absurd g hn) (fun _ => ?_)
      conv => whnf
      exact ⟨_, _, [], [], ⟨rfl, _, h, rfl, rfl⟩, ⟨⟨rfl, rfl⟩, ⟨rfl, trivial⟩, rfl, trivial⟩⟩
  | cs :: rest, v14n, v13, hd, h => by
      rw [spec_suText_l0] at h
      obtain ⟨hrow, hd1, hlt⟩ := drop_cons hd
      refine LoopOk.step ?_
      conv => whnf
      refine splD (fun _ => ?_) (fun g => absurd hlt g)
      conv => whnf
      obtain ⟨x57, x58, x59, e60, h⟩ := cell_sii_ex h
      rw [e60] at hrow
      refine Req.of (Int.natCast_nonneg _) ?_
      refine Row.of _ hrow ?_
      conv => whnf
      refine splD (fun g61 => ?_) (fun g61 => ?_)
      · replace h := iteP h g61
        conv => whnf
        obtain ⟨g62, h⟩ := req_ex h
        refine Req.of g62 ?_
        conv => whnf
        refine Pick.no ?_
        conv => whnf
        obtain ⟨y63, e64, h⟩ := bind_ex h
        refine CallOk.of (spec_suTermText_ct hrec_spec_suText e64) ?_
        conv => whnf
        obtain ⟨g65, h⟩ := req_ex h
        refine Req.of g65 ?_
        conv => whnf
        refine CutK.norm [3, 7, 8, 9] [] ?_
        conv => whnf
        exact LoopOk.back (spec_suText_l0_ct hrec_spec_suText hx rest (v14n + 1) _ hd1 h) [] [] ⟨⟨rfl, rfl⟩, ⟨rfl, trivial⟩, rfl, rfl, rfl, i64eq (wrap_up hlt hx), trivial⟩
      · replace h := iteN h g61
        conv => whnf
        refine splD (fun g66 => ?_) (fun g66 => ?_)
        · replace h := iteP h g66
          conv => whnf
          obtain ⟨g67, h⟩ := req_ex h
          refine Req.of g67 ?_
          conv => whnf
          refine Pick.no ?_
          conv => whnf
          obtain ⟨y68, e69, h⟩ := bind_ex h
          refine CallOk.of (spec_suTermText_ct hrec_spec_suText e69) ?_
          conv => whnf
          obtain ⟨g70, h⟩ := req_ex h
          refine Req.of g70 ?_
          conv => whnf
          refine CutK.norm [3, 7, 8, 9] [] ?_
          conv => whnf
          exact LoopOk.back (spec_suText_l0_ct hrec_spec_suText hx rest (v14n + 1) _ hd1 h) [] [] ⟨⟨rfl, rfl⟩, ⟨rfl, trivial⟩, rfl, rfl, rfl, i64eq (wrap_up hlt hx), trivial⟩
        · replace h := iteN h g66
          conv => whnf
          refine Pick.no ?_
          conv => whnf
          obtain ⟨y71, e72, h⟩ := bind_ex h
          refine CallOk.of (spec_suTermText_ct hrec_spec_suText e72) ?_
          conv => whnf
          obtain ⟨g73, h⟩ := req_ex h
          refine Req.of g73 ?_
          conv => whnf
          refine CutK.norm [3, 7, 8, 9] [] ?_
          conv => whnf
          exact LoopOk.back (spec_suText_l0_ct hrec_spec_suText hx rest (v14n + 1) _ hd1 h) [] [] ⟨⟨rfl, rfl⟩, ⟨rfl, trivial⟩, rfl, rfl, rfl, i64eq (wrap_up hlt hx), trivial⟩
def spec_suText_b (k : Nat) (rec_spec_suText : Rw → Option ByteArray) (a1 : Rw) : Option ByteArray :=
  (if a1.length ≤ cap then (spec_suText_l0 k rec_spec_suText a1 (fun (v37 : ByteArray) => (if (v37.toList == (ByteArray.mk #[]).toList) = true then some (ByteArray.mk #[48]) else some v37)) a1 0 (ByteArray.mk #[])) else none)
set_option maxHeartbeats 4000000 in
set_option maxRecDepth 100000 in
theorem spec_suText_b_ct {k : Nat} {rec_spec_suText : Rw → Option ByteArray} (hrec_spec_suText : ∀ (a1 : Rw) (r : ByteArray), rec_spec_suText a1 = some r → Ct prog 39 [.agg [.d (D.sl a1)]] (⟨[], []⟩) (.d (D.str r)) (⟨[], []⟩)) {a1 : Rw} {r : ByteArray} (h : spec_suText_b k rec_spec_suText a1 = some r) : Ct prog 39 [.agg [.d (D.sl a1)]] (⟨[], []⟩) (.d (D.str r)) (⟨[], []⟩) := by
  rw [spec_suText_b] at h
  refine Ct.of (c := _) mixed func39 ⟨rfl, rfl, rfl⟩ ?_ rfl
  conv => whnf
  obtain ⟨g74, h⟩ := req_ex h
  refine LoopOk.into (spec_suText_l0_ct hrec_spec_suText g74 _ _ _ rfl h) [] [] ⟨⟨rfl, rfl⟩, ⟨rfl, trivial⟩, rfl, rfl, rfl, rfl, trivial⟩ ?_ (fun _ hs => hs)
  rintro i ts os ⟨rfl, v37, h, rfl, rfl⟩
  conv => whnf
  refine CutK.norm [3] [] ?_
  conv => whnf
  refine spl (fun g75 => ?_) (fun g75 => ?_)
  · replace h := iteT h g75
    conv => whnf
    cases h
    exact Done.of [] [] rfl rfl ⟨⟨rfl, rfl⟩, ⟨rfl, trivial⟩, rfl, trivial⟩
  · replace h := iteF h g75
    conv => whnf
    cases h
    exact Done.of [] [] rfl rfl ⟨⟨rfl, rfl⟩, ⟨rfl, trivial⟩, rfl, trivial⟩
def spec_suText : Nat → Rw → Option ByteArray
  | 0, _ => none
  | k + 1, a1 => spec_suText_b k (spec_suText k) a1
theorem spec_suText_ct' : ∀ (k : Nat) (a1 : Rw) (r : ByteArray), spec_suText k a1 = some r → Ct prog 39 [.agg [.d (D.sl a1)]] (⟨[], []⟩) (.d (D.str r)) (⟨[], []⟩)
  | 0, _, _, h => by rw [spec_suText] at h; cases h
  | k + 1, _, _, h => by rw [spec_suText] at h; exact spec_suText_b_ct (spec_suText_ct' k) h
theorem spec_suText_ct {k : Nat} {a1 : Rw} {r : ByteArray} (h : spec_suText k a1 = some r) : Ct prog 39 [.agg [.d (D.sl a1)]] (⟨[], []⟩) (.d (D.str r)) (⟨[], []⟩) := spec_suText_ct' k _ _ h

def spec_SurrealText (k : Nat) (a1 : Rw) : Option (ByteArray × Bool) :=
  ((spec_suGood k a1).bind fun y2 => (if y2 = true then ((spec_suText k a1).bind fun y5 => some (y5, true)) else some ((ByteArray.mk #[]), false)))
set_option maxHeartbeats 4000000 in
set_option maxRecDepth 100000 in
theorem spec_SurrealText_ct {k : Nat} {a1 : Rw} {r : ByteArray × Bool} (h : spec_SurrealText k a1 = some r) : Ct prog 15 [.agg [.d (D.sl a1)]] (⟨[], []⟩) (.tup [.d (D.str r.1), .d (D.bool r.2)]) (⟨[], []⟩) := by
  rw [spec_SurrealText] at h
  refine Ct.of (c := _) mixed func15 ⟨rfl, rfl, rfl⟩ ?_ rfl
  conv => whnf
  refine Pick.no ?_
  conv => whnf
  obtain ⟨y2, e3, h⟩ := bind_ex h
  refine CallOk.of (spec_suGood_ct e3) ?_
  conv => whnf
  refine spl (fun g4 => ?_) (fun g4 => ?_)
  · replace h := iteT h g4
    conv => whnf
    refine CutK.go ?_
    conv => whnf
    refine CutK.go ?_
    conv => whnf
    refine Pick.no ?_
    conv => whnf
    obtain ⟨y5, e6, h⟩ := bind_ex h
    refine CallOk.of (spec_suText_ct e6) ?_
    conv => whnf
    refine CutK.go ?_
    conv => whnf
    cases h
    exact Done.of [] [] rfl rfl ⟨⟨rfl, rfl⟩, ⟨rfl, trivial⟩, ⟨rfl, rfl, trivial⟩, trivial⟩
  · replace h := iteF h g4
    conv => whnf
    refine CutK.go ?_
    conv => whnf
    cases h
    exact Done.of [] [] rfl rfl ⟨⟨rfl, rfl⟩, ⟨rfl, trivial⟩, ⟨rfl, rfl, trivial⟩, trivial⟩

def impl_in  (a1 : Int) (a2 : Int) (a3 : Int) : Option Bool :=
  (if a2 ≤ a1 then (if a1 ≤ a3 then some true else some false) else some false)
set_option maxHeartbeats 4000000 in
set_option maxRecDepth 100000 in
theorem impl_in_ct  {a1 : Int} {a2 : Int} {a3 : Int} {r : Bool} (h : impl_in a1 a2 a3 = some r) : Ct prog 26 [.d (D.int .i64 a1), .d (D.int .i64 a2), .d (D.int .i64 a3)] (⟨[], []⟩) (.d (D.bool r)) (⟨[], []⟩) := by
  rw [impl_in] at h
  refine Ct.of (c := _) mixed func26 ⟨rfl, rfl, rfl⟩ ?_ rfl
  conv => whnf
  refine splD (fun g4 => ?_) (fun g4 => ?_)
  · replace h := iteP h g4
    conv => whnf
    refine splD (fun g5 => ?_) (fun g5 => ?_)
    · replace h := iteP h g5
      conv => whnf
      cases h
      exact Done.of [] [] rfl rfl ⟨⟨rfl, rfl⟩, ⟨rfl, trivial⟩, rfl, trivial⟩
    · replace h := iteN h g5
      conv => whnf
      cases h
      exact Done.of [] [] rfl rfl ⟨⟨rfl, rfl⟩, ⟨rfl, trivial⟩, rfl, trivial⟩
  · replace h := iteN h g4
    conv => whnf
    cases h
    exact Done.of [] [] rfl rfl ⟨⟨rfl, rfl⟩, ⟨rfl, trivial⟩, rfl, trivial⟩

def impl_size  (a1 : Int) : Option Int :=
  some (if a1 < (IntKind.i64.wrap (0 - a1)) then IntKind.i64.wrap (0 - a1) else a1)
set_option maxHeartbeats 4000000 in
set_option maxRecDepth 100000 in
theorem impl_size_ct  {a1 : Int} {r : Int} (h : impl_size a1 = some r) : Ct prog 122 [.d (D.int .i64 a1)] (⟨[], []⟩) (.d (D.int .i64 r)) (⟨[], []⟩) := by
  rw [impl_size] at h
  refine Ct.of (c := _) mixed func122 ⟨rfl, rfl, rfl⟩ ?_ rfl
  conv => whnf
  cases h
  exact Done.of [] [] rfl rfl ⟨⟨rfl, rfl⟩, ⟨rfl, trivial⟩, rfl, trivial⟩

def impl_gcd_l0 (K0 : Int → Option Int) : Nat → Int → Int → Option Int
  | 0, _, _ => none
  | n + 1, v5, v6 => (if v6 = (0 : Int) then (K0 v5) else (if v6 ≠ 0 then (impl_gcd_l0 K0 n v6 (v5.tmod v6)) else none))
set_option maxRecDepth 100000 in
theorem impl_gcd_l0_ct {K0 : Int → Option Int} {r : Int} : ∀ (n : Nat) (v5 : Int) (v6 : Int), impl_gcd_l0 K0 n v5 v6 = some r → LoopOk prog 0 (lp f113 0) (mk 13 [(0, .d (D.int .i64 v5)), (1, .d (D.int .i64 v6))] []) (LoopEnd prog f113 0 13 (.d (D.int .i64 r)) (⟨[], []⟩) (fun i ts os => (i = 0 ∧ ∃ v9 : Int, K0 v9 = some r ∧ ts = [(0, .d (D.int .i64 v9))] ∧ os = [])))
  | 0, _, _, h => by
      rw [impl_gcd_l0] at h; cases h
  | n + 1, v5, v6, h => by
      rw [impl_gcd_l0] at h
      refine LoopOk.step ?_
      conv => whnf
      refine splN (fun g12 => ?_) (fun g12 => ?_)
      · replace h := iteN h g12
        conv => whnf
        obtain ⟨g13, h⟩ := req_ex h
        refine Req.of g13 ?_
        conv => whnf
        exact LoopOk.back (impl_gcd_l0_ct  n _ _ h) [] [] ⟨⟨rfl, rfl⟩, ⟨rfl, trivial⟩, rfl, rfl, trivial⟩
      · replace h := iteP h g12
        conv => whnf
        exact ⟨_, _, [], [], ⟨rfl, _, h, rfl, rfl⟩, ⟨⟨rfl, rfl⟩, ⟨rfl, trivial⟩, rfl, trivial⟩⟩
def impl_gcd (k : Nat) (a1 : Int) (a2 : Int) : Option Int :=
  (impl_gcd_l0 (fun (v9 : Int) => ((impl_size v9).bind fun y14 => some y14)) k a1 a2)
set_option maxHeartbeats 4000000 in
set_option maxRecDepth 100000 in
theorem impl_gcd_ct {k : Nat} {a1 : Int} {a2 : Int} {r : Int} (h : impl_gcd k a1 a2 = some r) : Ct prog 113 [.d (D.int .i64 a1), .d (D.int .i64 a2)] (⟨[], []⟩) (.d (D.int .i64 r)) (⟨[], []⟩) := by
  rw [impl_gcd] at h
  refine Ct.of (c := _) mixed func113 ⟨rfl, rfl, rfl⟩ ?_ rfl
  conv => whnf
  refine LoopOk.into (impl_gcd_l0_ct  _ _ _ h) [] [] ⟨⟨rfl, rfl⟩, ⟨rfl, trivial⟩, rfl, rfl, trivial⟩ ?_ (fun _ hs => hs)
  rintro i ts os ⟨rfl, v9, h, rfl, rfl⟩
  conv => whnf
  refine CutK.go ?_
  conv => whnf
  refine Pick.no ?_
  conv => whnf
  obtain ⟨y14, e15, h⟩ := bind_ex h
  refine CallOk.of (impl_size_ct e15) ?_
  conv => whnf
  refine CutK.go ?_
  conv => whnf
  cases h
  exact Done.of [] [] rfl rfl ⟨⟨rfl, rfl⟩, ⟨rfl, trivial⟩, rfl, trivial⟩

def impl_IsFraction (k : Nat) (a1 : Int) (a2 : Int) : Option Bool :=
  ((impl_in a2 1 1000000).bind fun y3 => (if y3 = true then ((impl_in a1 (-1000000) 1000000).bind fun y6 => (if y6 = true then ((impl_gcd k a1 a2).bind fun y9 => (if y9 = (1 : Int) then some true else some false)) else some false)) else some false))
set_option maxHeartbeats 4000000 in
set_option maxRecDepth 100000 in
theorem impl_IsFraction_ct {k : Nat} {a1 : Int} {a2 : Int} {r : Bool} (h : impl_IsFraction k a1 a2 = some r) : Ct prog 95 [.agg [.d (D.int .i64 a1), .d (D.int .i64 a2)]] (⟨[], []⟩) (.d (D.bool r)) (⟨[], []⟩) := by
  rw [impl_IsFraction] at h
  refine Ct.of (c := _) mixed func95 ⟨rfl, rfl, rfl⟩ ?_ rfl
  conv => whnf
  refine Pick.no ?_
  conv => whnf
  obtain ⟨y3, e4, h⟩ := bind_ex h
  refine CallOk.of (impl_in_ct e4) ?_
  conv => whnf
  refine spl (fun g5 => ?_) (fun g5 => ?_)
  · replace h := iteT h g5
    conv => whnf
    refine Pick.no ?_
    conv => whnf
    obtain ⟨y6, e7, h⟩ := bind_ex h
    refine CallOk.of (impl_in_ct e7) ?_
    conv => whnf
    refine spl (fun g8 => ?_) (fun g8 => ?_)
    · replace h := iteT h g8
      conv => whnf
      refine Pick.no ?_
      conv => whnf
      obtain ⟨y9, e10, h⟩ := bind_ex h
      refine CallOk.of (impl_gcd_ct e10) ?_
      conv => whnf
      refine splD (fun g11 => ?_) (fun g11 => ?_)
      · replace h := iteP h g11
        conv => whnf
        refine CutK.go ?_
        conv => whnf
        cases h
        exact Done.of [] [] rfl rfl ⟨⟨rfl, rfl⟩, ⟨rfl, trivial⟩, rfl, trivial⟩
      · replace h := iteN h g11
        conv => whnf
        refine CutK.go ?_
        conv => whnf
        cases h
        exact Done.of [] [] rfl rfl ⟨⟨rfl, rfl⟩, ⟨rfl, trivial⟩, rfl, trivial⟩
    · replace h := iteF h g8
      conv => whnf
      refine CutK.go ?_
      conv => whnf
      cases h
      exact Done.of [] [] rfl rfl ⟨⟨rfl, rfl⟩, ⟨rfl, trivial⟩, rfl, trivial⟩
  · replace h := iteF h g5
    conv => whnf
    refine CutK.go ?_
    conv => whnf
    cases h
    exact Done.of [] [] rfl rfl ⟨⟨rfl, rfl⟩, ⟨rfl, trivial⟩, rfl, trivial⟩

def impl_compare  (a1 : Int) (a2 : Int) : Option Int :=
  (if a1 < a2 then some (-1) else (if a2 < a1 then some 1 else some 0))
set_option maxHeartbeats 4000000 in
set_option maxRecDepth 100000 in
theorem impl_compare_ct  {a1 : Int} {a2 : Int} {r : Int} (h : impl_compare a1 a2 = some r) : Ct prog 96 [.d (D.int .i64 a1), .d (D.int .i64 a2)] (⟨[], []⟩) (.d (D.int .i64 r)) (⟨[], []⟩) := by
  rw [impl_compare] at h
  refine Ct.of (c := _) mixed func96 ⟨rfl, rfl, rfl⟩ ?_ rfl
  conv => whnf
  refine splD (fun g3 => ?_) (fun g3 => ?_)
  · replace h := iteP h g3
    conv => whnf
    cases h
    exact Done.of [] [] rfl rfl ⟨⟨rfl, rfl⟩, ⟨rfl, trivial⟩, rfl, trivial⟩
  · replace h := iteN h g3
    conv => whnf
    refine splD (fun g4 => ?_) (fun g4 => ?_)
    · replace h := iteP h g4
      conv => whnf
      cases h
      exact Done.of [] [] rfl rfl ⟨⟨rfl, rfl⟩, ⟨rfl, trivial⟩, rfl, trivial⟩
    · replace h := iteN h g4
      conv => whnf
      cases h
      exact Done.of [] [] rfl rfl ⟨⟨rfl, rfl⟩, ⟨rfl, trivial⟩, rfl, trivial⟩

def impl_cmpFractions  (a1 : Int) (a2 : Int) (a3 : Int) (a4 : Int) : Option Int :=
  ((impl_compare (IntKind.i64.wrap (a1 * a4)) (IntKind.i64.wrap (a3 * a2))).bind fun y5 => some y5)
set_option maxHeartbeats 4000000 in
set_option maxRecDepth 100000 in
theorem impl_cmpFractions_ct  {a1 : Int} {a2 : Int} {a3 : Int} {a4 : Int} {r : Int} (h : impl_cmpFractions a1 a2 a3 a4 = some r) : Ct prog 97 [.agg [.d (D.int .i64 a1), .d (D.int .i64 a2)], .agg [.d (D.int .i64 a3), .d (D.int .i64 a4)]] (⟨[], []⟩) (.d (D.int .i64 r)) (⟨[], []⟩) := by
  rw [impl_cmpFractions] at h
  refine Ct.of (c := _) mixed func97 ⟨rfl, rfl, rfl⟩ ?_ rfl
  conv => whnf
  refine Pick.no ?_
  conv => whnf
  obtain ⟨y5, e6, h⟩ := bind_ex h
  refine CallOk.of (impl_compare_ct e6) ?_
  conv => whnf
  refine CutK.go ?_
  conv => whnf
  cases h
  exact Done.of [] [] rfl rfl ⟨⟨rfl, rfl⟩, ⟨rfl, trivial⟩, rfl, trivial⟩

def impl_order_p2  : Option Int :=
  some 0
set_option maxHeartbeats 4000000 in
set_option maxRecDepth 100000 in
theorem impl_order_p2_ct  {r : Int} (h : impl_order_p2 = some r) : X prog 0 (tlF f70 2) (mk 86 [] []) (finK prog f70 0 (.d (D.int .i64 r)) (⟨[], []⟩)) := by
  rw [impl_order_p2] at h
  conv => whnf
  cases h
  exact Done.of [] [] rfl rfl ⟨⟨rfl, rfl⟩, ⟨rfl, trivial⟩, rfl, trivial⟩
def impl_order_l0 (rec_impl_order : Rw → Rw → Option Int) (a1 : Rw) (a2 : Rw) (K0 : Option Int) : Nat → Int → Option Int
  | 0, _ => none
  | n + 1, v211 => (if v211 < (a1.length : Int) then (if v211 = (a1.length : Int) then (row_sii a2 v211 fun x359 x360 x361 => ((impl_compare x360 0).bind fun y364 => some (IntKind.i64.wrap (0 - y364)))) else (if v211 = (a2.length : Int) then (row_sii a1 v211 fun x367 x368 x369 => ((impl_compare x368 0).bind fun y372 => some y372)) else (row_sii a1 v211 fun x374 x375 x376 => (row_sii a2 v211 fun x379 x380 x381 => ((rec_impl_order x374 x379).bind fun y384 => (if y384 = (1 : Int) then ((impl_compare x375 0).bind fun y387 => some y387) else (if y384 = ((-1) : Int) then ((impl_compare x380 0).bind fun y390 => some (IntKind.i64.wrap (0 - y390))) else ((impl_cmpFractions x375 x376 x380 x381).bind fun y392 => (if y392 = (0 : Int) then (impl_order_l0 rec_impl_order a1 a2 K0 n (IntKind.i64.wrap (v211 + 1))) else some y392))))))))) else (if v211 < (a2.length : Int) then (if v211 = (a1.length : Int) then (row_sii a2 v211 fun x397 x398 x399 => ((impl_compare x398 0).bind fun y402 => some (IntKind.i64.wrap (0 - y402)))) else (if v211 = (a2.length : Int) then (row_sii a1 v211 fun x405 x406 x407 => ((impl_compare x406 0).bind fun y410 => some y410)) else (row_sii a1 v211 fun x412 x413 x414 => (row_sii a2 v211 fun x417 x418 x419 => ((rec_impl_order x412 x417).bind fun y422 => (if y422 = (1 : Int) then ((impl_compare x413 0).bind fun y425 => some y425) else (if y422 = ((-1) : Int) then ((impl_compare x418 0).bind fun y428 => some (IntKind.i64.wrap (0 - y428))) else ((impl_cmpFractions x413 x414 x418 x419).bind fun y430 => (if y430 = (0 : Int) then (impl_order_l0 rec_impl_order a1 a2 K0 n (IntKind.i64.wrap (v211 + 1))) else some y430))))))))) else (K0)))
set_option maxRecDepth 100000 in
theorem impl_order_l0_ct {rec_impl_order : Rw → Rw → Option Int} {a1 : Rw} {a2 : Rw} {K0 : Option Int} (hrec_impl_order : ∀ (a1 : Rw) (a2 : Rw) (r : Int), rec_impl_order a1 a2 = some r → Ct prog 70 [.agg [.d (D.sl a1)], .agg [.d (D.sl a2)]] (⟨[], []⟩) (.d (D.int .i64 r)) (⟨[], []⟩)) {r : Int} : ∀ (n : Nat) (v211 : Int), impl_order_l0 rec_impl_order a1 a2 K0 n v211 = some r → LoopOk prog 0 (lp f70 0) (mk 86 [(2, .ptr 128 0), (3, .ptr 192 0), (5, .d (D.int .i64 v211))] [(128, .box 43 [.d (D.sl a1)]), (192, .box 43 [.d (D.sl a2)])]) (LoopEnd prog f70 0 86 (.d (D.int .i64 r)) (⟨[], []⟩) (fun i ts os => (i = 0 ∧ K0 = some r ∧ ts = [] ∧ os = [])))
  | 0, _, h => by
      rw [impl_order_l0] at h; cases h
  | n + 1, v211, h => by
      rw [impl_order_l0] at h
      refine LoopOk.step ?_
      conv => whnf
      refine splD (fun g357 => ?_) (fun g357 => ?_)
      · replace h := iteP h g357
        conv => whnf
        refine splD (fun g358 => ?_) (fun g358 => ?_)
        · replace h := iteP h g358
          conv => whnf
          obtain ⟨g363, x359, x360, x361, e362, h⟩ := row_sii_ex h
          refine Req.of g363 ?_
          refine Row.of _ e362 ?_
          conv => whnf
          refine Pick.no ?_
          conv => whnf
          obtain ⟨y364, e365, h⟩ := bind_ex h
          refine CallOk.of (impl_compare_ct e365) ?_
          conv => whnf
          refine CutK.norm [4] [] ?_
          conv => whnf
          cases h
          exact Done.of [] [] rfl rfl ⟨⟨rfl, rfl⟩, ⟨rfl, trivial⟩, rfl, trivial⟩
        · replace h := iteN h g358
          conv => whnf
          refine CutK.norm [2, 3, 5] [128, 192] ?_
          conv => whnf
          refine splD (fun g366 => ?_) (fun g366 => ?_)
          · replace h := iteP h g366
            conv => whnf
            obtain ⟨g371, x367, x368, x369, e370, h⟩ := row_sii_ex h
            refine Req.of g371 ?_
            refine Row.of _ e370 ?_
            conv => whnf
            refine Pick.no ?_
            conv => whnf
            obtain ⟨y372, e373, h⟩ := bind_ex h
            refine CallOk.of (impl_compare_ct e373) ?_
            conv => whnf
            refine CutK.norm [4] [] ?_
            conv => whnf
            cases h
            exact Done.of [] [] rfl rfl ⟨⟨rfl, rfl⟩, ⟨rfl, trivial⟩, rfl, trivial⟩
          · replace h := iteN h g366
            conv => whnf
            refine CutK.norm [2, 3, 5] [128, 192] ?_
            conv => whnf
            obtain ⟨g378, x374, x375, x376, e377, h⟩ := row_sii_ex h
            refine Req.of g378 ?_
            refine Row.of _ e377 ?_
            conv => whnf
            obtain ⟨g383, x379, x380, x381, e382, h⟩ := row_sii_ex h
            refine Req.of g383 ?_
            refine Row.of _ e382 ?_
            conv => whnf
            refine Pick.no ?_
            conv => whnf
            obtain ⟨y384, e385, h⟩ := bind_ex h
            refine CallOk.of (hrec_impl_order _ _ _ e385) ?_
            conv => whnf
            refine CutK.norm [2, 3, 5, 6, 7, 64] [128, 192, 384, 448] ?_
            conv => whnf
            refine splD (fun g386 => ?_) (fun g386 => ?_)
            · replace h := iteP h g386
              conv => whnf
              refine Pick.no ?_
              conv => whnf
              obtain ⟨y387, e388, h⟩ := bind_ex h
              refine CallOk.of (impl_compare_ct e388) ?_
              conv => whnf
              refine CutK.norm [4] [] ?_
              conv => whnf
              cases h
              exact Done.of [] [] rfl rfl ⟨⟨rfl, rfl⟩, ⟨rfl, trivial⟩, rfl, trivial⟩
            · replace h := iteN h g386
              conv => whnf
              refine splD (fun g389 => ?_) (fun g389 => ?_)
              · replace h := iteP h g389
                conv => whnf
                refine Pick.no ?_
                conv => whnf
                obtain ⟨y390, e391, h⟩ := bind_ex h
                refine CallOk.of (impl_compare_ct e391) ?_
                conv => whnf
                refine CutK.norm [4] [] ?_
                conv => whnf
                cases h
                exact Done.of [] [] rfl rfl ⟨⟨rfl, rfl⟩, ⟨rfl, trivial⟩, rfl, trivial⟩
              · replace h := iteN h g389
                conv => whnf
                refine CutK.norm [2, 3, 5, 6, 7] [128, 192, 384, 448] ?_
                conv => whnf
                refine Pick.no ?_
                conv => whnf
                obtain ⟨y392, e393, h⟩ := bind_ex h
                refine CallOk.of (impl_cmpFractions_ct e393) ?_
                conv => whnf
                refine CutK.norm [2, 3, 5, 8] [128, 192] ?_
                conv => whnf
                refine splN (fun g394 => ?_) (fun g394 => ?_)
                · replace h := iteN h g394
                  conv => whnf
                  cases h
                  exact Done.of [] [] rfl rfl ⟨⟨rfl, rfl⟩, ⟨rfl, trivial⟩, rfl, trivial⟩
                · replace h := iteP h g394
                  conv => whnf
                  refine CutK.norm [2, 3, 5] [128, 192] ?_
                  conv => whnf
                  exact LoopOk.back (impl_order_l0_ct hrec_impl_order n _ h) [some 128, some 192] [] ⟨⟨rfl, rfl⟩, ⟨rfl, ⟨rfl, rfl, trivial⟩, ⟨rfl, rfl, trivial⟩, trivial⟩, ⟨rfl, rfl⟩, ⟨rfl, rfl⟩, rfl, trivial⟩
      · replace h := iteN h g357
        conv => whnf
        refine splD (fun g395 => ?_) (fun g395 => ?_)
        · replace h := iteP h g395
          conv => whnf
          refine splD (fun g396 => ?_) (fun g396 => ?_)
          · replace h := iteP h g396
            conv => whnf
            obtain ⟨g401, x397, x398, x399, e400, h⟩ := row_sii_ex h
            refine Req.of g401 ?_
            refine Row.of _ e400 ?_
            conv => whnf
            refine Pick.no ?_
            conv => whnf
            obtain ⟨y402, e403, h⟩ := bind_ex h
            refine CallOk.of (impl_compare_ct e403) ?_
            conv => whnf
            refine CutK.norm [4] [] ?_
            conv => whnf
            cases h
            exact Done.of [] [] rfl rfl ⟨⟨rfl, rfl⟩, ⟨rfl, trivial⟩, rfl, trivial⟩
          · replace h := iteN h g396
            conv => whnf
            refine CutK.norm [2, 3, 5] [128, 192] ?_
            conv => whnf
            refine splD (fun g404 => ?_) (fun g404 => ?_)
            · replace h := iteP h g404
              conv => whnf
              obtain ⟨g409, x405, x406, x407, e408, h⟩ := row_sii_ex h
              refine Req.of g409 ?_
              refine Row.of _ e408 ?_
              conv => whnf
              refine Pick.no ?_
              conv => whnf
              obtain ⟨y410, e411, h⟩ := bind_ex h
              refine CallOk.of (impl_compare_ct e411) ?_
              conv => whnf
              refine CutK.norm [4] [] ?_
              conv => whnf
              cases h
              exact Done.of [] [] rfl rfl ⟨⟨rfl, rfl⟩, ⟨rfl, trivial⟩, rfl, trivial⟩
            · replace h := iteN h g404
              conv => whnf
              refine CutK.norm [2, 3, 5] [128, 192] ?_
              conv => whnf
              obtain ⟨g416, x412, x413, x414, e415, h⟩ := row_sii_ex h
              refine Req.of g416 ?_
              refine Row.of _ e415 ?_
              conv => whnf
              obtain ⟨g421, x417, x418, x419, e420, h⟩ := row_sii_ex h
              refine Req.of g421 ?_
              refine Row.of _ e420 ?_
              conv => whnf
              refine Pick.no ?_
              conv => whnf
              obtain ⟨y422, e423, h⟩ := bind_ex h
              refine CallOk.of (hrec_impl_order _ _ _ e423) ?_
              conv => whnf
              refine CutK.norm [2, 3, 5, 6, 7, 64] [128, 192, 384, 448] ?_
              conv => whnf
              refine splD (fun g424 => ?_) (fun g424 => ?_)
              · replace h := iteP h g424
                conv => whnf
                refine Pick.no ?_
                conv => whnf
                obtain ⟨y425, e426, h⟩ := bind_ex h
                refine CallOk.of (impl_compare_ct e426) ?_
                conv => whnf
                refine CutK.norm [4] [] ?_
                conv => whnf
                cases h
                exact Done.of [] [] rfl rfl ⟨⟨rfl, rfl⟩, ⟨rfl, trivial⟩, rfl, trivial⟩
              · replace h := iteN h g424
                conv => whnf
                refine splD (fun g427 => ?_) (fun g427 => ?_)
                · replace h := iteP h g427
                  conv => whnf
                  refine Pick.no ?_
                  conv => whnf
                  obtain ⟨y428, e429, h⟩ := bind_ex h
                  refine CallOk.of (impl_compare_ct e429) ?_
                  conv => whnf
                  refine CutK.norm [4] [] ?_
                  conv => whnf
                  cases h
                  exact Done.of [] [] rfl rfl ⟨⟨rfl, rfl⟩, ⟨rfl, trivial⟩, rfl, trivial⟩
                · replace h := iteN h g427
                  conv => whnf
                  refine CutK.norm [2, 3, 5, 6, 7] [128, 192, 384, 448] ?_
                  conv => whnf
                  refine Pick.no ?_
                  conv => whnf
                  obtain ⟨y430, e431, h⟩ := bind_ex h
                  refine CallOk.of (impl_cmpFractions_ct e431) ?_
                  conv => whnf
                  refine CutK.norm [2, 3, 5, 8] [128, 192] ?_
                  conv => whnf
                  refine splN (fun g432 => ?_) (fun g432 => ?_)
                  · replace h := iteN h g432
                    conv => whnf
                    cases h
                    exact Done.of [] [] rfl rfl ⟨⟨rfl, rfl⟩, ⟨rfl, trivial⟩, rfl, trivial⟩
                  · replace h := iteP h g432
                    conv => whnf
                    refine CutK.norm [2, 3, 5] [128, 192] ?_
                    conv => whnf
                    exact LoopOk.back (impl_order_l0_ct hrec_impl_order n _ h) [some 128, some 192] [] ⟨⟨rfl, rfl⟩, ⟨rfl, ⟨rfl, rfl, trivial⟩, ⟨rfl, rfl, trivial⟩, trivial⟩, ⟨rfl, rfl⟩, ⟨rfl, rfl⟩, rfl, trivial⟩
        · replace h := iteN h g395
          conv => whnf
          exact ⟨_, _, [], [], ⟨rfl, h, rfl, rfl⟩, ⟨⟨rfl, rfl⟩, ⟨rfl, trivial⟩, trivial⟩⟩
def impl_order_b (k : Nat) (rec_impl_order : Rw → Rw → Option Int) (a1 : Rw) (a2 : Rw) : Option Int :=
  (impl_order_l0 rec_impl_order a1 a2 (impl_order_p2) k 0)
set_option maxHeartbeats 4000000 in
set_option maxRecDepth 100000 in
theorem impl_order_b_ct {k : Nat} {rec_impl_order : Rw → Rw → Option Int} (hrec_impl_order : ∀ (a1 : Rw) (a2 : Rw) (r : Int), rec_impl_order a1 a2 = some r → Ct prog 70 [.agg [.d (D.sl a1)], .agg [.d (D.sl a2)]] (⟨[], []⟩) (.d (D.int .i64 r)) (⟨[], []⟩)) {a1 : Rw} {a2 : Rw} {r : Int} (h : impl_order_b k rec_impl_order a1 a2 = some r) : Ct prog 70 [.agg [.d (D.sl a1)], .agg [.d (D.sl a2)]] (⟨[], []⟩) (.d (D.int .i64 r)) (⟨[], []⟩) := by
  rw [impl_order_b] at h
  refine Ct.of (c := _) mixed func70 ⟨rfl, rfl, rfl⟩ ?_ rfl
  conv => whnf
  refine LoopOk.into (impl_order_l0_ct hrec_impl_order _ _ h) [some 128, some 192] [] ⟨⟨rfl, rfl⟩, ⟨rfl, ⟨rfl, rfl, trivial⟩, ⟨rfl, rfl, trivial⟩, trivial⟩, ⟨rfl, rfl⟩, ⟨rfl, rfl⟩, rfl, trivial⟩ ?_ (fun _ hs => hs)
  rintro i ts os ⟨rfl, h, rfl, rfl⟩
  conv => whnf
  exact CutK.piece (impl_order_p2_ct  h) [] [] ⟨⟨rfl, rfl⟩, ⟨rfl, trivial⟩, trivial⟩
def impl_order : Nat → Rw → Rw → Option Int
  | 0, _, _ => none
  | k + 1, a1, a2 => impl_order_b k (impl_order k) a1 a2
theorem impl_order_ct' : ∀ (k : Nat) (a1 : Rw) (a2 : Rw) (r : Int), impl_order k a1 a2 = some r → Ct prog 70 [.agg [.d (D.sl a1)], .agg [.d (D.sl a2)]] (⟨[], []⟩) (.d (D.int .i64 r)) (⟨[], []⟩)
  | 0, _, _, _, h => by rw [impl_order] at h; cases h
  | k + 1, _, _, _, h => by rw [impl_order] at h; exact impl_order_b_ct (impl_order_ct' k) h
theorem impl_order_ct {k : Nat} {a1 : Rw} {a2 : Rw} {r : Int} (h : impl_order k a1 a2 = some r) : Ct prog 70 [.agg [.d (D.sl a1)], .agg [.d (D.sl a2)]] (⟨[], []⟩) (.d (D.int .i64 r)) (⟨[], []⟩) := impl_order_ct' k _ _ _ h

def impl_surrealAt_2_p3 (o71 : Int) : Option (Bool × Int) :=
  some (true, o71)
set_option maxHeartbeats 4000000 in
set_option maxRecDepth 100000 in
theorem impl_surrealAt_2_p3_ct {o71 : Int} {r : Bool × Int} (h : impl_surrealAt_2_p3 o71 = some r) : X prog 1 (tlF f68 3) (mk 91 [] [(0, .box 3 [.d (D.int .i64 o71)])]) (finK prog f68 1 (.d (D.bool r.1)) (⟨[(3, [.d (D.int .i64 r.2)])], []⟩)) := by
  rw [impl_surrealAt_2_p3] at h
  conv => whnf
  cases h
  exact Done.of [some 0] [] rfl rfl ⟨⟨rfl, rfl⟩, ⟨rfl, ⟨rfl, rfl, trivial⟩, trivial⟩, rfl, trivial⟩
def impl_surrealAt_2_l0 (k : Nat) (rec_impl_surrealAt_2 : Rw → Int → Int → Int → Int → Option (Bool × Int)) (a1 : Rw) (a2 : Int) (a3 : Int) (a4 : Int) (K0 : Int → Option (Bool × Int)) : Rw → Nat → Int → Option (Bool × Int)
  | [], v88n, v89 => (K0 v89)
  | cs :: rest, v88n, v89 => (cell_sii cs fun x137 x138 x139 => (if (60 : Int) < (IntKind.i64.wrap (v89 + 1)) then some (false, IntKind.i64.wrap (v89 + 1)) else ((impl_IsFraction k x138 x139).bind fun y142 => (if y142 = true then (if x138 = (0 : Int) then some (false, IntKind.i64.wrap (v89 + 1)) else ((rec_impl_surrealAt_2 x137 x138 x139 (IntKind.i64.wrap (a4 + 1)) (IntKind.i64.wrap (v89 + 1))).bind fun y146 => (if y146.1 = true then (if (0 : Int) < (v88n : Int) then (row_sii a1 (IntKind.i64.wrap ((v88n : Int) - 1)) fun x150 x151 x152 => ((impl_order k x150 x137).bind fun y155 => (if y155 ≤ (0 : Int) then some (false, y146.2) else (impl_surrealAt_2_l0 k rec_impl_surrealAt_2 a1 a2 a3 a4 K0 rest (v88n + 1) y146.2)))) else (impl_surrealAt_2_l0 k rec_impl_surrealAt_2 a1 a2 a3 a4 K0 rest (v88n + 1) y146.2)) else some (false, y146.2)))) else some (false, IntKind.i64.wrap (v89 + 1))))))
set_option maxRecDepth 100000 in
theorem impl_surrealAt_2_l0_ct {k : Nat} {rec_impl_surrealAt_2 : Rw → Int → Int → Int → Int → Option (Bool × Int)} {a1 : Rw} {a2 : Int} {a3 : Int} {a4 : Int} {K0 : Int → Option (Bool × Int)} (hrec_impl_surrealAt_2 : ∀ (a1 : Rw) (a2 : Int) (a3 : Int) (a4 : Int) (a5 : Int) (r : Bool × Int), rec_impl_surrealAt_2 a1 a2 a3 a4 a5 = some r → Ct prog 68 [.dp [D.sl a1, D.int .i64 a2, D.int .i64 a3], .d (D.int .i64 a4), .ptr 0 0] (⟨[(3, [.d (D.int .i64 a5)])], []⟩) (.d (D.bool r.1)) (⟨[(3, [.d (D.int .i64 r.2)])], []⟩)) {r : Bool × Int} (hx : a1.length ≤ cap) : ∀ (rest : Rw) (v88n : Nat) (v89 : Int), a1.drop v88n = rest → impl_surrealAt_2_l0 k rec_impl_surrealAt_2 a1 a2 a3 a4 K0 rest v88n v89 = some r → LoopOk prog 1 (lp f68 0) (mk 91 [(0, .dp [D.sl a1, D.int .i64 a2, D.int .i64 a3]), (1, .d (D.int .i64 a4)), (2, .ptr 0 0), (26, .d (D.int .i64 (a1.length : Int))), (27, .d (D.int .i64 (v88n : Int)))] [(0, .box 3 [.d (D.int .i64 v89)])]) (LoopEnd prog f68 1 91 (.d (D.bool r.1)) (⟨[(3, [.d (D.int .i64 r.2)])], []⟩) (fun i ts os => (i = 0 ∧ ∃ v113 : Int, K0 v113 = some r ∧ ts = [] ∧ os = [(0, .box 3 [.d (D.int .i64 v113)])])))
  | [], v88n, v89, hd, h => by
      rw [impl_surrealAt_2_l0] at h
      have hn := drop_nil hd
      refine LoopOk.step ?_
      conv => whnf
      refine splD (fun g => absurd g hn) (fun _ => ?_)
      conv => whnf
      exact ⟨_, _, [some 0], [], ⟨rfl, _, h, rfl, rfl⟩, ⟨⟨rfl, rfl⟩, ⟨rfl, ⟨rfl, rfl, trivial⟩, trivial⟩, trivial⟩⟩
  | cs :: rest, v88n, v89, hd, h => by
      rw [impl_surrealAt_2_l0] at h
      obtain ⟨hrow, hd1, hlt⟩ := drop_cons hd
      refine LoopOk.step ?_
      conv => whnf
      refine splD (fun _ => ?_) (fun g => absurd hlt g)
      conv => whnf
      obtain ⟨x137, x138, x139, e140, h⟩ := cell_sii_ex h
      rw [e140] at hrow
      refine Req.of (Int.natCast_nonneg _) ?_
      refine Row.of _ hrow ?_
      conv => whnf
      refine splD (fun g141 => ?_) (fun g141 => ?_)
      · replace h := iteP h g141
        conv => whnf
        refine CutK.norm [0, 1, 2, 7, 8, 26, 27, 70] [0] ?_
        conv => whnf
        cases h
        exact Done.of [some 0] [] rfl rfl ⟨⟨rfl, rfl⟩, ⟨rfl, ⟨rfl, rfl, trivial⟩, trivial⟩, rfl, trivial⟩
      · replace h := iteN h g141
        conv => whnf
        refine Pick.no ?_
        conv => whnf
        obtain ⟨y142, e143, h⟩ := bind_ex h
        refine CallOk.of (impl_IsFraction_ct e143) ?_
        conv => whnf
        refine spl (fun g144 => ?_) (fun g144 => ?_)
        · replace h := iteT h g144
          conv => whnf
          refine splD (fun g145 => ?_) (fun g145 => ?_)
          · replace h := iteP h g145
            conv => whnf
            refine CutK.norm [0, 1, 2, 7, 8, 26, 27, 70] [0] ?_
            conv => whnf
            cases h
            exact Done.of [some 0] [] rfl rfl ⟨⟨rfl, rfl⟩, ⟨rfl, ⟨rfl, rfl, trivial⟩, trivial⟩, rfl, trivial⟩
          · replace h := iteN h g145
            conv => whnf
            refine Pick.no ?_
            conv => whnf
            obtain ⟨y146, e147, h⟩ := bind_ex h
            refine CallOk.of (hrec_impl_surrealAt_2 _ _ _ _ _ _ e147) ?_
            conv => whnf
            refine spl (fun g148 => ?_) (fun g148 => ?_)
            · replace h := iteT h g148
              conv => whnf
              refine CutK.norm [0, 1, 2, 7, 8, 26, 27, 70] [0] ?_
              conv => whnf
              refine CutK.norm [0, 1, 2, 7, 8, 26, 27] [0] ?_
              conv => whnf
              refine splD (fun g149 => ?_) (fun g149 => ?_)
              · replace h := iteP h g149
                conv => whnf
                obtain ⟨g154, x150, x151, x152, e153, h⟩ := row_sii_ex h
                refine Req.of g154 ?_
                refine Row.of _ e153 ?_
                conv => whnf
                refine Pick.no ?_
                conv => whnf
                obtain ⟨y155, e156, h⟩ := bind_ex h
                refine CallOk.of (impl_order_ct e156) ?_
                conv => whnf
                refine splD (fun g157 => ?_) (fun g157 => ?_)
                · replace h := iteP h g157
                  conv => whnf
                  refine CutK.norm [0, 1, 2, 26, 27, 89] [0] ?_
                  conv => whnf
                  cases h
                  exact Done.of [some 0] [] rfl rfl ⟨⟨rfl, rfl⟩, ⟨rfl, ⟨rfl, rfl, trivial⟩, trivial⟩, rfl, trivial⟩
                · replace h := iteN h g157
                  conv => whnf
                  refine CutK.norm [0, 1, 2, 26, 27, 89] [0] ?_
                  conv => whnf
                  refine CutK.norm [0, 1, 2, 26, 27] [0] ?_
                  conv => whnf
                  exact LoopOk.back (impl_surrealAt_2_l0_ct hrec_impl_surrealAt_2 hx rest (v88n + 1) _ hd1 h) [some 0] [] ⟨⟨rfl, rfl⟩, ⟨rfl, ⟨rfl, rfl, trivial⟩, trivial⟩, rfl, rfl, ⟨rfl, rfl⟩, rfl, i64eq (wrap_up hlt hx), trivial⟩
              · replace h := iteN h g149
                conv => whnf
                refine CutK.norm [0, 1, 2, 26, 27, 89] [0] ?_
                conv => whnf
                refine CutK.norm [0, 1, 2, 26, 27] [0] ?_
                conv => whnf
                exact LoopOk.back (impl_surrealAt_2_l0_ct hrec_impl_surrealAt_2 hx rest (v88n + 1) _ hd1 h) [some 0] [] ⟨⟨rfl, rfl⟩, ⟨rfl, ⟨rfl, rfl, trivial⟩, trivial⟩, rfl, rfl, ⟨rfl, rfl⟩, rfl, i64eq (wrap_up hlt hx), trivial⟩
            · replace h := iteF h g148
              conv => whnf
              refine CutK.norm [0, 1, 2, 7, 8, 26, 27, 70] [0] ?_
              conv => whnf
              cases h
              exact Done.of [some 0] [] rfl rfl ⟨⟨rfl, rfl⟩, ⟨rfl, ⟨rfl, rfl, trivial⟩, trivial⟩, rfl, trivial⟩
        · replace h := iteF h g144
          conv => whnf
          refine CutK.norm [0, 1, 2, 7, 8, 26, 27, 70] [0] ?_
          conv => whnf
          cases h
          exact Done.of [some 0] [] rfl rfl ⟨⟨rfl, rfl⟩, ⟨rfl, ⟨rfl, rfl, trivial⟩, trivial⟩, rfl, trivial⟩
def impl_surrealAt_2_b (k : Nat) (rec_impl_surrealAt_2 : Rw → Int → Int → Int → Int → Option (Bool × Int)) (a1 : Rw) (a2 : Int) (a3 : Int) (a4 : Int) (a5 : Int) : Option (Bool × Int) :=
  (if (60 : Int) < (IntKind.i64.wrap (a5 + 1)) then some (false, IntKind.i64.wrap (a5 + 1)) else (if (6 : Int) < a4 then some (false, IntKind.i64.wrap (a5 + 1)) else (if a1.length ≤ cap then (impl_surrealAt_2_l0 k rec_impl_surrealAt_2 a1 a2 a3 a4 (fun (v113 : Int) => (impl_surrealAt_2_p3 v113)) a1 0 (IntKind.i64.wrap (a5 + 1))) else none)))
set_option maxHeartbeats 4000000 in
set_option maxRecDepth 100000 in
theorem impl_surrealAt_2_b_ct {k : Nat} {rec_impl_surrealAt_2 : Rw → Int → Int → Int → Int → Option (Bool × Int)} (hrec_impl_surrealAt_2 : ∀ (a1 : Rw) (a2 : Int) (a3 : Int) (a4 : Int) (a5 : Int) (r : Bool × Int), rec_impl_surrealAt_2 a1 a2 a3 a4 a5 = some r → Ct prog 68 [.dp [D.sl a1, D.int .i64 a2, D.int .i64 a3], .d (D.int .i64 a4), .ptr 0 0] (⟨[(3, [.d (D.int .i64 a5)])], []⟩) (.d (D.bool r.1)) (⟨[(3, [.d (D.int .i64 r.2)])], []⟩)) {a1 : Rw} {a2 : Int} {a3 : Int} {a4 : Int} {a5 : Int} {r : Bool × Int} (h : impl_surrealAt_2_b k rec_impl_surrealAt_2 a1 a2 a3 a4 a5 = some r) : Ct prog 68 [.dp [D.sl a1, D.int .i64 a2, D.int .i64 a3], .d (D.int .i64 a4), .ptr 0 0] (⟨[(3, [.d (D.int .i64 a5)])], []⟩) (.d (D.bool r.1)) (⟨[(3, [.d (D.int .i64 r.2)])], []⟩) := by
  rw [impl_surrealAt_2_b] at h
  refine Ct.of (c := _) mixed func68 ⟨rfl, rfl, rfl⟩ ?_ rfl
  conv => whnf
  refine splD (fun g72 => ?_) (fun g72 => ?_)
  · replace h := iteP h g72
    conv => whnf
    cases h
    exact Done.of [some 0] [] rfl rfl ⟨⟨rfl, rfl⟩, ⟨rfl, ⟨rfl, rfl, trivial⟩, trivial⟩, rfl, trivial⟩
  · replace h := iteN h g72
    conv => whnf
    refine splD (fun g73 => ?_) (fun g73 => ?_)
    · replace h := iteP h g73
      conv => whnf
      cases h
      exact Done.of [some 0] [] rfl rfl ⟨⟨rfl, rfl⟩, ⟨rfl, ⟨rfl, rfl, trivial⟩, trivial⟩, rfl, trivial⟩
    · replace h := iteN h g73
      conv => whnf
      obtain ⟨g158, h⟩ := req_ex h
      refine LoopOk.into (impl_surrealAt_2_l0_ct hrec_impl_surrealAt_2 g158 _ _ _ rfl h) [some 0] [] ⟨⟨rfl, rfl⟩, ⟨rfl, ⟨rfl, rfl, trivial⟩, trivial⟩, rfl, rfl, ⟨rfl, rfl⟩, rfl, rfl, trivial⟩ ?_ (fun _ hs => hs)
      rintro i ts os ⟨rfl, v113, h, rfl, rfl⟩
      conv => whnf
      exact CutK.piece (impl_surrealAt_2_p3_ct  h) [some 0] [] ⟨⟨rfl, rfl⟩, ⟨rfl, ⟨rfl, rfl, trivial⟩, trivial⟩, trivial⟩
def impl_surrealAt_2 : Nat → Rw → Int → Int → Int → Int → Option (Bool × Int)
  | 0, _, _, _, _, _ => none
  | k + 1, a1, a2, a3, a4, a5 => impl_surrealAt_2_b k (impl_surrealAt_2 k) a1 a2 a3 a4 a5
theorem impl_surrealAt_2_ct' : ∀ (k : Nat) (a1 : Rw) (a2 : Int) (a3 : Int) (a4 : Int) (a5 : Int) (r : Bool × Int), impl_surrealAt_2 k a1 a2 a3 a4 a5 = some r → Ct prog 68 [.dp [D.sl a1, D.int .i64 a2, D.int .i64 a3], .d (D.int .i64 a4), .ptr 0 0] (⟨[(3, [.d (D.int .i64 a5)])], []⟩) (.d (D.bool r.1)) (⟨[(3, [.d (D.int .i64 r.2)])], []⟩)
  | 0, _, _, _, _, _, _, h => by rw [impl_surrealAt_2] at h; cases h
  | k + 1, _, _, _, _, _, _, h => by rw [impl_surrealAt_2] at h; exact impl_surrealAt_2_b_ct (impl_surrealAt_2_ct' k) h
theorem impl_surrealAt_2_ct {k : Nat} {a1 : Rw} {a2 : Int} {a3 : Int} {a4 : Int} {a5 : Int} {r : Bool × Int} (h : impl_surrealAt_2 k a1 a2 a3 a4 a5 = some r) : Ct prog 68 [.dp [D.sl a1, D.int .i64 a2, D.int .i64 a3], .d (D.int .i64 a4), .ptr 0 0] (⟨[(3, [.d (D.int .i64 a5)])], []⟩) (.d (D.bool r.1)) (⟨[(3, [.d (D.int .i64 r.2)])], []⟩) := impl_surrealAt_2_ct' k _ _ _ _ _ _ h

def impl_surrealAt_p3 (a1 : Rw) (o69 : Int) : Option (Bool × Rw × Int) :=
  some (true, a1, o69)
set_option maxHeartbeats 4000000 in
set_option maxRecDepth 100000 in
theorem impl_surrealAt_p3_ct {a1 : Rw} {o69 : Int} {r : Bool × Rw × Int} (h : impl_surrealAt_p3 a1 o69 = some r) : X prog 2 (tlF f68 3) (mk 91 [] [(0, .box 43 [.d (D.sl a1)]), (64, .box 3 [.d (D.int .i64 o69)])]) (finK prog f68 2 (.d (D.bool r.1)) (⟨[(43, [.d (D.sl r.2.1)]), (3, [.d (D.int .i64 r.2.2)])], []⟩)) := by
  rw [impl_surrealAt_p3] at h
  conv => whnf
  cases h
  exact Done.of [some 0, some 64] [] rfl rfl ⟨⟨rfl, rfl⟩, ⟨rfl, ⟨rfl, rfl, trivial⟩, ⟨rfl, rfl, trivial⟩, trivial⟩, rfl, trivial⟩
def impl_surrealAt_l0 (k : Nat) (a1 : Rw) (a2 : Int) (K0 : Int → Option (Bool × Rw × Int)) : Rw → Nat → Int → Option (Bool × Rw × Int)
  | [], v86n, v87 => (K0 v87)
  | cs :: rest, v86n, v87 => (cell_sii cs fun x135 x136 x137 => (if (60 : Int) < (IntKind.i64.wrap (v87 + 1)) then some (false, a1, IntKind.i64.wrap (v87 + 1)) else ((impl_IsFraction k x136 x137).bind fun y140 => (if y140 = true then (if x136 = (0 : Int) then some (false, a1, IntKind.i64.wrap (v87 + 1)) else ((impl_surrealAt_2 k x135 x136 x137 (IntKind.i64.wrap (a2 + 1)) (IntKind.i64.wrap (v87 + 1))).bind fun y144 => (if y144.1 = true then (if (0 : Int) < (v86n : Int) then (row_sii a1 (IntKind.i64.wrap ((v86n : Int) - 1)) fun x148 x149 x150 => ((impl_order k x148 x135).bind fun y153 => (if y153 ≤ (0 : Int) then some (false, a1, y144.2) else (impl_surrealAt_l0 k a1 a2 K0 rest (v86n + 1) y144.2)))) else (impl_surrealAt_l0 k a1 a2 K0 rest (v86n + 1) y144.2)) else some (false, a1, y144.2)))) else some (false, a1, IntKind.i64.wrap (v87 + 1))))))
set_option maxRecDepth 100000 in
theorem impl_surrealAt_l0_ct {k : Nat} {a1 : Rw} {a2 : Int} {K0 : Int → Option (Bool × Rw × Int)} {r : Bool × Rw × Int} (hx : a1.length ≤ cap) : ∀ (rest : Rw) (v86n : Nat) (v87 : Int), a1.drop v86n = rest → impl_surrealAt_l0 k a1 a2 K0 rest v86n v87 = some r → LoopOk prog 2 (lp f68 0) (mk 91 [(0, .ptr 0 0), (1, .d (D.int .i64 a2)), (2, .ptr 64 0), (26, .d (D.int .i64 (a1.length : Int))), (27, .d (D.int .i64 (v86n : Int)))] [(0, .box 43 [.d (D.sl a1)]), (64, .box 3 [.d (D.int .i64 v87)])]) (LoopEnd prog f68 2 91 (.d (D.bool r.1)) (⟨[(43, [.d (D.sl r.2.1)]), (3, [.d (D.int .i64 r.2.2)])], []⟩) (fun i ts os => (i = 0 ∧ ∃ v111 : Int, K0 v111 = some r ∧ ts = [] ∧ os = [(0, .box 43 [.d (D.sl a1)]), (64, .box 3 [.d (D.int .i64 v111)])])))
  | [], v86n, v87, hd, h => by
      rw [impl_surrealAt_l0] at h
      have hn := drop_nil hd
      refine LoopOk.step ?_
      conv => whnf
      refine splD (fun g => absurd g hn) (fun _ => ?_)
      conv => whnf
      exact ⟨_, _, [some 0, some 64], [], ⟨rfl, _, h, rfl, rfl⟩, ⟨⟨rfl, rfl⟩, ⟨rfl, ⟨rfl, rfl, trivial⟩, ⟨rfl, rfl, trivial⟩, trivial⟩, trivial⟩⟩
  | cs :: rest, v86n, v87, hd, h => by
      rw [impl_surrealAt_l0] at h
      obtain ⟨hrow, hd1, hlt⟩ := drop_cons hd
      refine LoopOk.step ?_
      conv => whnf
      refine splD (fun _ => ?_) (fun g => absurd hlt g)
      conv => whnf
      obtain ⟨x135, x136, x137, e138, h⟩ := cell_sii_ex h
      rw [e138] at hrow
      refine Req.of (Int.natCast_nonneg _) ?_
      refine Row.of _ hrow ?_
      conv => whnf
      refine splD (fun g139 => ?_) (fun g139 => ?_)
      · replace h := iteP h g139
        conv => whnf
        refine CutK.norm [0, 1, 2, 7, 8, 26, 27, 70] [0, 64] ?_
        conv => whnf
        cases h
        exact Done.of [some 0, some 64] [] rfl rfl ⟨⟨rfl, rfl⟩, ⟨rfl, ⟨rfl, rfl, trivial⟩, ⟨rfl, rfl, trivial⟩, trivial⟩, rfl, trivial⟩
      · replace h := iteN h g139
        conv => whnf
        refine Pick.no ?_
        conv => whnf
        obtain ⟨y140, e141, h⟩ := bind_ex h
        refine CallOk.of (impl_IsFraction_ct e141) ?_
        conv => whnf
        refine spl (fun g142 => ?_) (fun g142 => ?_)
        · replace h := iteT h g142
          conv => whnf
          refine splD (fun g143 => ?_) (fun g143 => ?_)
          · replace h := iteP h g143
            conv => whnf
            refine CutK.norm [0, 1, 2, 7, 8, 26, 27, 70] [0, 64] ?_
            conv => whnf
            cases h
            exact Done.of [some 0, some 64] [] rfl rfl ⟨⟨rfl, rfl⟩, ⟨rfl, ⟨rfl, rfl, trivial⟩, ⟨rfl, rfl, trivial⟩, trivial⟩, rfl, trivial⟩
          · replace h := iteN h g143
            conv => whnf
            refine Pick.no ?_
            conv => whnf
            obtain ⟨y144, e145, h⟩ := bind_ex h
            refine CallOk.of (impl_surrealAt_2_ct e145) ?_
            conv => whnf
            refine spl (fun g146 => ?_) (fun g146 => ?_)
            · replace h := iteT h g146
              conv => whnf
              refine CutK.norm [0, 1, 2, 7, 8, 26, 27, 70] [0, 64] ?_
              conv => whnf
              refine CutK.norm [0, 1, 2, 7, 8, 26, 27] [0, 64] ?_
              conv => whnf
              refine splD (fun g147 => ?_) (fun g147 => ?_)
              · replace h := iteP h g147
                conv => whnf
                obtain ⟨g152, x148, x149, x150, e151, h⟩ := row_sii_ex h
                refine Req.of g152 ?_
                refine Row.of _ e151 ?_
                conv => whnf
                refine Pick.no ?_
                conv => whnf
                obtain ⟨y153, e154, h⟩ := bind_ex h
                refine CallOk.of (impl_order_ct e154) ?_
                conv => whnf
                refine splD (fun g155 => ?_) (fun g155 => ?_)
                · replace h := iteP h g155
                  conv => whnf
                  refine CutK.norm [0, 1, 2, 26, 27, 89] [0, 64] ?_
                  conv => whnf
                  cases h
                  exact Done.of [some 0, some 64] [] rfl rfl ⟨⟨rfl, rfl⟩, ⟨rfl, ⟨rfl, rfl, trivial⟩, ⟨rfl, rfl, trivial⟩, trivial⟩, rfl, trivial⟩
                · replace h := iteN h g155
                  conv => whnf
                  refine CutK.norm [0, 1, 2, 26, 27, 89] [0, 64] ?_
                  conv => whnf
                  refine CutK.norm [0, 1, 2, 26, 27] [0, 64] ?_
                  conv => whnf
                  exact LoopOk.back (impl_surrealAt_l0_ct hx rest (v86n + 1) _ hd1 h) [some 0, some 64] [] ⟨⟨rfl, rfl⟩, ⟨rfl, ⟨rfl, rfl, trivial⟩, ⟨rfl, rfl, trivial⟩, trivial⟩, ⟨rfl, rfl⟩, rfl, ⟨rfl, rfl⟩, rfl, i64eq (wrap_up hlt hx), trivial⟩
              · replace h := iteN h g147
                conv => whnf
                refine CutK.norm [0, 1, 2, 26, 27, 89] [0, 64] ?_
                conv => whnf
                refine CutK.norm [0, 1, 2, 26, 27] [0, 64] ?_
                conv => whnf
                exact LoopOk.back (impl_surrealAt_l0_ct hx rest (v86n + 1) _ hd1 h) [some 0, some 64] [] ⟨⟨rfl, rfl⟩, ⟨rfl, ⟨rfl, rfl, trivial⟩, ⟨rfl, rfl, trivial⟩, trivial⟩, ⟨rfl, rfl⟩, rfl, ⟨rfl, rfl⟩, rfl, i64eq (wrap_up hlt hx), trivial⟩
            · replace h := iteF h g146
              conv => whnf
              refine CutK.norm [0, 1, 2, 7, 8, 26, 27, 70] [0, 64] ?_
              conv => whnf
              cases h
              exact Done.of [some 0, some 64] [] rfl rfl ⟨⟨rfl, rfl⟩, ⟨rfl, ⟨rfl, rfl, trivial⟩, ⟨rfl, rfl, trivial⟩, trivial⟩, rfl, trivial⟩
        · replace h := iteF h g142
          conv => whnf
          refine CutK.norm [0, 1, 2, 7, 8, 26, 27, 70] [0, 64] ?_
          conv => whnf
          cases h
          exact Done.of [some 0, some 64] [] rfl rfl ⟨⟨rfl, rfl⟩, ⟨rfl, ⟨rfl, rfl, trivial⟩, ⟨rfl, rfl, trivial⟩, trivial⟩, rfl, trivial⟩
def impl_surrealAt (k : Nat) (a1 : Rw) (a2 : Int) (a3 : Int) : Option (Bool × Rw × Int) :=
  (if (60 : Int) < (IntKind.i64.wrap (a3 + 1)) then some (false, a1, IntKind.i64.wrap (a3 + 1)) else (if (6 : Int) < a2 then some (false, a1, IntKind.i64.wrap (a3 + 1)) else (if a1.length ≤ cap then (impl_surrealAt_l0 k a1 a2 (fun (v111 : Int) => (impl_surrealAt_p3 a1 v111)) a1 0 (IntKind.i64.wrap (a3 + 1))) else none)))
set_option maxHeartbeats 4000000 in
set_option maxRecDepth 100000 in
theorem impl_surrealAt_ct {k : Nat} {a1 : Rw} {a2 : Int} {a3 : Int} {r : Bool × Rw × Int} (h : impl_surrealAt k a1 a2 a3 = some r) : Ct prog 68 [.ptr 0 0, .d (D.int .i64 a2), .ptr 64 0] (⟨[(43, [.d (D.sl a1)]), (3, [.d (D.int .i64 a3)])], []⟩) (.d (D.bool r.1)) (⟨[(43, [.d (D.sl r.2.1)]), (3, [.d (D.int .i64 r.2.2)])], []⟩) := by
  rw [impl_surrealAt] at h
  refine Ct.of (c := _) mixed func68 ⟨rfl, rfl, rfl⟩ ?_ rfl
  conv => whnf
  refine splD (fun g70 => ?_) (fun g70 => ?_)
  · replace h := iteP h g70
    conv => whnf
    cases h
    exact Done.of [some 0, some 64] [] rfl rfl ⟨⟨rfl, rfl⟩, ⟨rfl, ⟨rfl, rfl, trivial⟩, ⟨rfl, rfl, trivial⟩, trivial⟩, rfl, trivial⟩
  · replace h := iteN h g70
    conv => whnf
    refine splD (fun g71 => ?_) (fun g71 => ?_)
    · replace h := iteP h g71
      conv => whnf
      cases h
      exact Done.of [some 0, some 64] [] rfl rfl ⟨⟨rfl, rfl⟩, ⟨rfl, ⟨rfl, rfl, trivial⟩, ⟨rfl, rfl, trivial⟩, trivial⟩, rfl, trivial⟩
    · replace h := iteN h g71
      conv => whnf
      obtain ⟨g156, h⟩ := req_ex h
      refine LoopOk.into (impl_surrealAt_l0_ct  g156 _ _ _ rfl h) [some 0, some 64] [] ⟨⟨rfl, rfl⟩, ⟨rfl, ⟨rfl, rfl, trivial⟩, ⟨rfl, rfl, trivial⟩, trivial⟩, ⟨rfl, rfl⟩, rfl, ⟨rfl, rfl⟩, rfl, rfl, trivial⟩ ?_ (fun _ hs => hs)
      rintro i ts os ⟨rfl, v111, h, rfl, rfl⟩
      conv => whnf
      exact CutK.piece (impl_surrealAt_p3_ct  h) [some 0, some 64] [] ⟨⟨rfl, rfl⟩, ⟨rfl, ⟨rfl, rfl, trivial⟩, ⟨rfl, rfl, trivial⟩, trivial⟩, trivial⟩

def impl_IsSurreal (k : Nat) (a1 : Rw) : Option Bool :=
  ((impl_surrealAt k a1 0 0).bind fun y2 => (if y2.1 = true then some true else some false))
set_option maxHeartbeats 4000000 in
set_option maxRecDepth 100000 in
theorem impl_IsSurreal_ct {k : Nat} {a1 : Rw} {r : Bool} (h : impl_IsSurreal k a1 = some r) : Ct prog 41 [.agg [.d (D.sl a1)]] (⟨[], []⟩) (.d (D.bool r)) (⟨[], []⟩) := by
  rw [impl_IsSurreal] at h
  refine Ct.of (c := _) mixed func41 ⟨rfl, rfl, rfl⟩ ?_ rfl
  conv => whnf
  refine Pick.no ?_
  conv => whnf
  obtain ⟨y2, e3, h⟩ := bind_ex h
  refine CallOk.of (impl_surrealAt_ct e3) ?_
  conv => whnf
  refine spl (fun g4 => ?_) (fun g4 => ?_)
  · replace h := iteT h g4
    conv => whnf
    refine CutK.go ?_
    conv => whnf
    cases h
    exact Done.of [] [] rfl rfl ⟨⟨rfl, rfl⟩, ⟨rfl, trivial⟩, rfl, trivial⟩
  · replace h := iteF h g4
    conv => whnf
    refine CutK.go ?_
    conv => whnf
    cases h
    exact Done.of [] [] rfl rfl ⟨⟨rfl, rfl⟩, ⟨rfl, trivial⟩, rfl, trivial⟩

def lib_Itoa (a1 : Int) : Option ByteArray := if -9223372036854775808 ≤ a1 ∧ a1 ≤ 9223372036854775807 then some ⟨(Lib.itoa a1).toArray⟩ else none
theorem lib_Itoa_ct {a1 : Int} {r : ByteArray} (h : lib_Itoa a1 = some r) : Ct prog 30 [.d (.int .i64 a1)] ⟨[], []⟩ (.d (.str r)) ⟨[], []⟩ := by
  rw [lib_Itoa] at h
  obtain ⟨g, h⟩ := req_ex h
  cases h
  refine Ct.lib ⟨_, func30, rfl, rfl⟩ fun w M vs hs hr => ?_
  obtain ⟨v, rfl, hv⟩ := repL_oneD hr
  rw [rep_int hv]
  refine (strconv_Itoa a1 g.1 g.2 w (hs.tab.is (by kernel_rfl))).mono ?_
  rintro e w' ⟨rfl, k, os, rfl⟩
  exact ⟨rfl, Lib.below_grow _ _ (Nat.le_refl _) _ _⟩

def impl_fractionText  (a1 : Int) (a2 : Int) : Option ByteArray :=
  (if a2 = (1 : Int) then ((lib_Itoa a1).bind fun y4 => some y4) else ((lib_Itoa a1).bind fun y6 => (if y6.size + (ByteArray.mk #[47]).size ≤ 9223372036854775807 then ((lib_Itoa a2).bind fun y9 => (if (y6 ++ (ByteArray.mk #[47])).size + y9.size ≤ 9223372036854775807 then some ((y6 ++ (ByteArray.mk #[47])) ++ y9) else none)) else none)))
set_option maxHeartbeats 4000000 in
set_option maxRecDepth 100000 in
theorem impl_fractionText_ct  {a1 : Int} {a2 : Int} {r : ByteArray} (h : impl_fractionText a1 a2 = some r) : Ct prog 69 [.agg [.d (D.int .i64 a1), .d (D.int .i64 a2)]] (⟨[], []⟩) (.d (D.str r)) (⟨[], []⟩) := by
  rw [impl_fractionText] at h
  refine Ct.of (c := _) mixed func69 ⟨rfl, rfl, rfl⟩ ?_ rfl
  conv => whnf
  refine splD (fun g3 => ?_) (fun g3 => ?_)
  · replace h := iteP h g3
    conv => whnf
    refine Pick.no ?_
    conv => whnf
    obtain ⟨y4, e5, h⟩ := bind_ex h
    refine CallOk.of (lib_Itoa_ct e5) ?_
    conv => whnf
    refine CutK.go ?_
    conv => whnf
    cases h
    exact Done.of [] [] rfl rfl ⟨⟨rfl, rfl⟩, ⟨rfl, trivial⟩, rfl, trivial⟩
  · replace h := iteN h g3
    conv => whnf
    refine CutK.go ?_
    conv => whnf
    refine Pick.no ?_
    conv => whnf
    obtain ⟨y6, e7, h⟩ := bind_ex h
    refine CallOk.of (lib_Itoa_ct e7) ?_
    conv => whnf
    obtain ⟨g8, h⟩ := req_ex h
    refine Req.of g8 ?_
    conv => whnf
    refine Pick.no ?_
    conv => whnf
    obtain ⟨y9, e10, h⟩ := bind_ex h
    refine CallOk.of (lib_Itoa_ct e10) ?_
    conv => whnf
    obtain ⟨g11, h⟩ := req_ex h
    refine Req.of g11 ?_
    conv => whnf
    refine CutK.go ?_
    conv => whnf
    cases h
    exact Done.of [] [] rfl rfl ⟨⟨rfl, rfl⟩, ⟨rfl, trivial⟩, rfl, trivial⟩

def impl_whole  (a1 : Int) : Option (Int × Int) :=
  some (a1, 1)
set_option maxHeartbeats 4000000 in
set_option maxRecDepth 100000 in
theorem impl_whole_ct  {a1 : Int} {r : Int × Int} (h : impl_whole a1 = some r) : Ct prog 72 [.d (D.int .i64 a1)] (⟨[], []⟩) (.agg [.d (D.int .i64 r.1), .d (D.int .i64 r.2)]) (⟨[], []⟩) := by
  rw [impl_whole] at h
  refine Ct.of (c := _) mixed func72 ⟨rfl, rfl, rfl⟩ ?_ rfl
  conv => whnf
  cases h
  exact Done.of [] [] rfl rfl ⟨⟨rfl, rfl⟩, ⟨rfl, trivial⟩, ⟨rfl, rfl, trivial⟩, trivial⟩

def impl_term_2  (a1 : Int) (a2 : Int) : Option Rw :=
  (if a1 = (0 : Int) then some ([] : Rw) else some ([[D.sl ([]), D.int .i64 a1, D.int .i64 a2]] : Rw))
set_option maxHeartbeats 4000000 in
set_option maxRecDepth 100000 in
theorem impl_term_2_ct  {a1 : Int} {a2 : Int} {r : Rw} (h : impl_term_2 a1 a2 = some r) : Ct prog 98 [.agg [.es], .agg [.d (D.int .i64 a1), .d (D.int .i64 a2)]] (⟨[], []⟩) (.agg [.os 8 r.length]) (⟨[], [(103, true, r)]⟩) := by
  rw [impl_term_2] at h
  refine Ct.of (c := _) mixed func98 ⟨rfl, rfl, rfl⟩ ?_ rfl
  conv => whnf
  refine splD (fun g3 => ?_) (fun g3 => ?_)
  · replace h := iteP h g3
    conv => whnf
    cases h
    exact Done.of [none] [] rfl rfl ⟨⟨rfl, rfl⟩, ⟨rfl, rfl, trivial⟩, ⟨⟨rfl, rfl⟩, trivial⟩, trivial⟩
  · replace h := iteN h g3
    conv => whnf
    cases h
    exact Done.of [some 768] [] rfl rfl ⟨⟨rfl, rfl⟩, ⟨rfl, ⟨rfl, rfl, rows_same⟩, trivial⟩, ⟨⟨(by first | rfl | exact List.length_append.symm | (simp; done) | omega), rfl⟩, trivial⟩, trivial⟩

def impl_real  (a1 : Int) (a2 : Int) : Option Rw :=
  ((impl_term_2 a1 a2).bind fun y3 => some y3)
set_option maxHeartbeats 4000000 in
set_option maxRecDepth 100000 in
theorem impl_real_ct  {a1 : Int} {a2 : Int} {r : Rw} (h : impl_real a1 a2 = some r) : Ct prog 71 [.agg [.d (D.int .i64 a1), .d (D.int .i64 a2)]] (⟨[], []⟩) (.agg [.os 8 r.length]) (⟨[], [(103, true, r)]⟩) := by
  rw [impl_real] at h
  refine Ct.of (c := _) mixed func71 ⟨rfl, rfl, rfl⟩ ?_ rfl
  conv => whnf
  refine Pick.yes ?_
  conv => whnf
  obtain ⟨y3, e4, h⟩ := bind_ex h
  refine CallOk.of (impl_term_2_ct e4) ?_
  conv => whnf
  refine CutK.go ?_
  conv => whnf
  cases h
  exact Done.of [some 320] [] rfl rfl ⟨⟨rfl, rfl⟩, ⟨rfl, ⟨rfl, rfl, rows_same⟩, trivial⟩, ⟨⟨rfl, rfl⟩, trivial⟩, trivial⟩

def impl_surrealText_p3 (o281 : ByteArray) : Option ByteArray :=
  (if (o281.toList == (ByteArray.mk #[]).toList) = true then some (ByteArray.mk #[48]) else some o281)
set_option maxHeartbeats 4000000 in
set_option maxRecDepth 100000 in
theorem impl_surrealText_p3_ct {o281 : ByteArray} {r : ByteArray} (h : impl_surrealText_p3 o281 = some r) : X prog 0 (tlF f42 3) (mk 68 [(3, .d (D.str o281))] []) (finK prog f42 0 (.d (D.str r)) (⟨[], []⟩)) := by
  rw [impl_surrealText_p3] at h
  conv => whnf
  refine spl (fun g283 => ?_) (fun g283 => ?_)
  · replace h := iteT h g283
    conv => whnf
    cases h
    exact Done.of [] [] rfl rfl ⟨⟨rfl, rfl⟩, ⟨rfl, trivial⟩, rfl, trivial⟩
  · replace h := iteF h g283
    conv => whnf
    cases h
    exact Done.of [] [] rfl rfl ⟨⟨rfl, rfl⟩, ⟨rfl, trivial⟩, rfl, trivial⟩
def impl_surrealText_l0 (k : Nat) (rec_impl_surrealText : Rw → Option ByteArray) (a1 : Rw) (K0 : ByteArray → Option ByteArray) : Rw → Nat → ByteArray → Option ByteArray
  | [], v297n, v296 => (K0 v296)
  | cs :: rest, v297n, v296 => (cell_sii cs fun x563 x564 x565 => (if x564 < (0 : Int) then (if v296.size + (ByteArray.mk #[45]).size ≤ 9223372036854775807 then (if (x563.length : Int) = (0 : Int) then ((impl_fractionText (IntKind.i64.wrap (0 - x564)) x565).bind fun y570 => (if (v296 ++ (ByteArray.mk #[45])).size + y570.size ≤ 9223372036854775807 then (impl_surrealText_l0 k rec_impl_surrealText a1 K0 rest (v297n + 1) ((v296 ++ (ByteArray.mk #[45])) ++ y570)) else none)) else (if (v296 ++ (ByteArray.mk #[45])).size + (ByteArray.mk #[119]).size ≤ 9223372036854775807 then ((impl_whole 1).bind fun y574 => ((impl_real y574.1 y574.2).bind fun y576 => ((impl_order k x563 y576).bind fun y578 => (if y578 = (0 : Int) then ((impl_whole 1).bind fun y593 => (if (!(decide ((IntKind.i64.wrap (0 - x564)) = y593.1) && (decide (x565 = y593.2) && true))) = true then ((impl_fractionText (IntKind.i64.wrap (0 - x564)) x565).bind fun y596 => (if (ByteArray.mk #[42]).size + y596.size ≤ 9223372036854775807 then (if ((v296 ++ (ByteArray.mk #[45])) ++ (ByteArray.mk #[119])).size + ((ByteArray.mk #[42]) ++ y596).size ≤ 9223372036854775807 then (impl_surrealText_l0 k rec_impl_surrealText a1 K0 rest (v297n + 1) (((v296 ++ (ByteArray.mk #[45])) ++ (ByteArray.mk #[119])) ++ ((ByteArray.mk #[42]) ++ y596))) else none) else none)) else (impl_surrealText_l0 k rec_impl_surrealText a1 K0 rest (v297n + 1) ((v296 ++ (ByteArray.mk #[45])) ++ (ByteArray.mk #[119]))))) else ((rec_impl_surrealText x563).bind fun y581 => (if (ByteArray.mk #[94, 40]).size + y581.size ≤ 9223372036854775807 then (if ((ByteArray.mk #[94, 40]) ++ y581).size + (ByteArray.mk #[41]).size ≤ 9223372036854775807 then (if ((v296 ++ (ByteArray.mk #[45])) ++ (ByteArray.mk #[119])).size + (((ByteArray.mk #[94, 40]) ++ y581) ++ (ByteArray.mk #[41])).size ≤ 9223372036854775807 then ((impl_whole 1).bind fun y586 => (if (!(decide ((IntKind.i64.wrap (0 - x564)) = y586.1) && (decide (x565 = y586.2) && true))) = true then ((impl_fractionText (IntKind.i64.wrap (0 - x564)) x565).bind fun y589 => (if (ByteArray.mk #[42]).size + y589.size ≤ 9223372036854775807 then (if (((v296 ++ (ByteArray.mk #[45])) ++ (ByteArray.mk #[119])) ++ (((ByteArray.mk #[94, 40]) ++ y581) ++ (ByteArray.mk #[41]))).size + ((ByteArray.mk #[42]) ++ y589).size ≤ 9223372036854775807 then (impl_surrealText_l0 k rec_impl_surrealText a1 K0 rest (v297n + 1) ((((v296 ++ (ByteArray.mk #[45])) ++ (ByteArray.mk #[119])) ++ (((ByteArray.mk #[94, 40]) ++ y581) ++ (ByteArray.mk #[41]))) ++ ((ByteArray.mk #[42]) ++ y589))) else none) else none)) else (impl_surrealText_l0 k rec_impl_surrealText a1 K0 rest (v297n + 1) (((v296 ++ (ByteArray.mk #[45])) ++ (ByteArray.mk #[119])) ++ (((ByteArray.mk #[94, 40]) ++ y581) ++ (ByteArray.mk #[41])))))) else none) else none) else none)))))) else none)) else none) else (if (0 : Int) < (v297n : Int) then (if v296.size + (ByteArray.mk #[43]).size ≤ 9223372036854775807 then (if (x563.length : Int) = (0 : Int) then ((impl_fractionText x564 x565).bind fun y603 => (if (v296 ++ (ByteArray.mk #[43])).size + y603.size ≤ 9223372036854775807 then (impl_surrealText_l0 k rec_impl_surrealText a1 K0 rest (v297n + 1) ((v296 ++ (ByteArray.mk #[43])) ++ y603)) else none)) else (if (v296 ++ (ByteArray.mk #[43])).size + (ByteArray.mk #[119]).size ≤ 9223372036854775807 then ((impl_whole 1).bind fun y607 => ((impl_real y607.1 y607.2).bind fun y609 => ((impl_order k x563 y609).bind fun y611 => (if y611 = (0 : Int) then ((impl_whole 1).bind fun y626 => (if (!(decide (x564 = y626.1) && (decide (x565 = y626.2) && true))) = true then ((impl_fractionText x564 x565).bind fun y629 => (if (ByteArray.mk #[42]).size + y629.size ≤ 9223372036854775807 then (if ((v296 ++ (ByteArray.mk #[43])) ++ (ByteArray.mk #[119])).size + ((ByteArray.mk #[42]) ++ y629).size ≤ 9223372036854775807 then (impl_surrealText_l0 k rec_impl_surrealText a1 K0 rest (v297n + 1) (((v296 ++ (ByteArray.mk #[43])) ++ (ByteArray.mk #[119])) ++ ((ByteArray.mk #[42]) ++ y629))) else none) else none)) else (impl_surrealText_l0 k rec_impl_surrealText a1 K0 rest (v297n + 1) ((v296 ++ (ByteArray.mk #[43])) ++ (ByteArray.mk #[119]))))) else ((rec_impl_surrealText x563).bind fun y614 => (if (ByteArray.mk #[94, 40]).size + y614.size ≤ 9223372036854775807 then (if ((ByteArray.mk #[94, 40]) ++ y614).size + (ByteArray.mk #[41]).size ≤ 9223372036854775807 then (if ((v296 ++ (ByteArray.mk #[43])) ++ (ByteArray.mk #[119])).size + (((ByteArray.mk #[94, 40]) ++ y614) ++ (ByteArray.mk #[41])).size ≤ 9223372036854775807 then ((impl_whole 1).bind fun y619 => (if (!(decide (x564 = y619.1) && (decide (x565 = y619.2) && true))) = true then ((impl_fractionText x564 x565).bind fun y622 => (if (ByteArray.mk #[42]).size + y622.size ≤ 9223372036854775807 then (if (((v296 ++ (ByteArray.mk #[43])) ++ (ByteArray.mk #[119])) ++ (((ByteArray.mk #[94, 40]) ++ y614) ++ (ByteArray.mk #[41]))).size + ((ByteArray.mk #[42]) ++ y622).size ≤ 9223372036854775807 then (impl_surrealText_l0 k rec_impl_surrealText a1 K0 rest (v297n + 1) ((((v296 ++ (ByteArray.mk #[43])) ++ (ByteArray.mk #[119])) ++ (((ByteArray.mk #[94, 40]) ++ y614) ++ (ByteArray.mk #[41]))) ++ ((ByteArray.mk #[42]) ++ y622))) else none) else none)) else (impl_surrealText_l0 k rec_impl_surrealText a1 K0 rest (v297n + 1) (((v296 ++ (ByteArray.mk #[43])) ++ (ByteArray.mk #[119])) ++ (((ByteArray.mk #[94, 40]) ++ y614) ++ (ByteArray.mk #[41])))))) else none) else none) else none)))))) else none)) else none) else (if (x563.length : Int) = (0 : Int) then ((impl_fractionText x564 x565).bind fun y634 => (if v296.size + y634.size ≤ 9223372036854775807 then (impl_surrealText_l0 k rec_impl_surrealText a1 K0 rest (v297n + 1) (v296 ++ y634)) else none)) else (if v296.size + (ByteArray.mk #[119]).size ≤ 9223372036854775807 then ((impl_whole 1).bind fun y638 => ((impl_real y638.1 y638.2).bind fun y640 => ((impl_order k x563 y640).bind fun y642 => (if y642 = (0 : Int) then ((impl_whole 1).bind fun y657 => (if (!(decide (x564 = y657.1) && (decide (x565 = y657.2) && true))) = true then ((impl_fractionText x564 x565).bind fun y660 => (if (ByteArray.mk #[42]).size + y660.size ≤ 9223372036854775807 then (if (v296 ++ (ByteArray.mk #[119])).size + ((ByteArray.mk #[42]) ++ y660).size ≤ 9223372036854775807 then (impl_surrealText_l0 k rec_impl_surrealText a1 K0 rest (v297n + 1) ((v296 ++ (ByteArray.mk #[119])) ++ ((ByteArray.mk #[42]) ++ y660))) else none) else none)) else (impl_surrealText_l0 k rec_impl_surrealText a1 K0 rest (v297n + 1) (v296 ++ (ByteArray.mk #[119]))))) else ((rec_impl_surrealText x563).bind fun y645 => (if (ByteArray.mk #[94, 40]).size + y645.size ≤ 9223372036854775807 then (if ((ByteArray.mk #[94, 40]) ++ y645).size + (ByteArray.mk #[41]).size ≤ 9223372036854775807 then (if (v296 ++ (ByteArray.mk #[119])).size + (((ByteArray.mk #[94, 40]) ++ y645) ++ (ByteArray.mk #[41])).size ≤ 9223372036854775807 then ((impl_whole 1).bind fun y650 => (if (!(decide (x564 = y650.1) && (decide (x565 = y650.2) && true))) = true then ((impl_fractionText x564 x565).bind fun y653 => (if (ByteArray.mk #[42]).size + y653.size ≤ 9223372036854775807 then (if ((v296 ++ (ByteArray.mk #[119])) ++ (((ByteArray.mk #[94, 40]) ++ y645) ++ (ByteArray.mk #[41]))).size + ((ByteArray.mk #[42]) ++ y653).size ≤ 9223372036854775807 then (impl_surrealText_l0 k rec_impl_surrealText a1 K0 rest (v297n + 1) (((v296 ++ (ByteArray.mk #[119])) ++ (((ByteArray.mk #[94, 40]) ++ y645) ++ (ByteArray.mk #[41]))) ++ ((ByteArray.mk #[42]) ++ y653))) else none) else none)) else (impl_surrealText_l0 k rec_impl_surrealText a1 K0 rest (v297n + 1) ((v296 ++ (ByteArray.mk #[119])) ++ (((ByteArray.mk #[94, 40]) ++ y645) ++ (ByteArray.mk #[41])))))) else none) else none) else none)))))) else none)))))
set_option maxRecDepth 100000 in
theorem impl_surrealText_l0_ct {k : Nat} {rec_impl_surrealText : Rw → Option ByteArray} {a1 : Rw} {K0 : ByteArray → Option ByteArray} (hrec_impl_surrealText : ∀ (a1 : Rw) (r : ByteArray), rec_impl_surrealText a1 = some r → Ct prog 42 [.agg [.d (D.sl a1)]] (⟨[], []⟩) (.d (D.str r)) (⟨[], []⟩)) {r : ByteArray} (hx : a1.length ≤ cap) : ∀ (rest : Rw) (v297n : Nat) (v296 : ByteArray), a1.drop v297n = rest → impl_surrealText_l0 k rec_impl_surrealText a1 K0 rest v297n v296 = some r → LoopOk prog 0 (lp f42 0) (mk 68 [(3, .d (D.str v296)), (8, .d (D.sl a1)), (9, .d (D.int .i64 (a1.length : Int))), (10, .d (D.int .i64 (v297n : Int)))] []) (LoopEnd prog f42 0 68 (.d (D.str r)) (⟨[], []⟩) (fun i ts os => (i = 0 ∧ ∃ v459 : ByteArray, K0 v459 = some r ∧ ts = [(3, .d (D.str v459))] ∧ os = [])))
  | [], v297n, v296, hd, h => by
      rw [impl_surrealText_l0] at h
      have hn := drop_nil hd
      refine LoopOk.step ?_
      conv => whnf
      refine splD (fun g => absurd g hn) (fun _ => ?_)
      conv => whnf
      exact ⟨_, _, [], [], ⟨rfl, _, h, rfl, rfl⟩, ⟨⟨rfl, rfl⟩, ⟨rfl, trivial⟩, rfl, trivial⟩⟩
  | cs :: rest, v297n, v296, hd, h => by
      rw [impl_surrealText_l0] at h
      obtain ⟨hrow, hd1, hlt⟩ := drop_cons hd
      refine LoopOk.step ?_
      conv => whnf
      refine splD (fun _ => ?_) (fun g => absurd hlt g)
      conv => whnf
      obtain ⟨x563, x564, x565, e566, h⟩ := cell_sii_ex h
      rw [e566] at hrow
      refine Req.of (Int.natCast_nonneg _) ?_
      refine Row.of _ hrow ?_
      conv => whnf
      refine splD (fun g567 => ?_) (fun g567 => ?_)
      · replace h := iteP h g567
        conv => whnf
        obtain ⟨g568, h⟩ := req_ex h
        refine Req.of g568 ?_
        conv => whnf
        refine splD (fun g569 => ?_) (fun g569 => ?_)
        · replace h := iteP h g569
          conv => whnf
          refine Pick.no ?_
          conv => whnf
          obtain ⟨y570, e571, h⟩ := bind_ex h
          refine CallOk.of (impl_fractionText_ct e571) ?_
          conv => whnf
          obtain ⟨g572, h⟩ := req_ex h
          refine Req.of g572 ?_
          conv => whnf
          refine CutK.norm [3, 8, 9, 10] [] ?_
          conv => whnf
          refine CutK.norm [3, 8, 9, 10] [] ?_
          conv => whnf
          exact LoopOk.back (impl_surrealText_l0_ct hrec_impl_surrealText hx rest (v297n + 1) _ hd1 h) [] [] ⟨⟨rfl, rfl⟩, ⟨rfl, trivial⟩, rfl, rfl, rfl, i64eq (wrap_up hlt hx), trivial⟩
        · replace h := iteN h g569
          conv => whnf
          refine CutK.norm [3, 5, 6, 8, 9, 10] [320, 384] ?_
          conv => whnf
          obtain ⟨g573, h⟩ := req_ex h
          refine Req.of g573 ?_
          conv => whnf
          refine Pick.no ?_
          conv => whnf
          obtain ⟨y574, e575, h⟩ := bind_ex h
          refine CallOk.of (impl_whole_ct e575) ?_
          conv => whnf
          refine Pick.no ?_
          conv => whnf
          obtain ⟨y576, e577, h⟩ := bind_ex h
          refine CallOk.of (impl_real_ct e577) ?_
          conv => whnf
          refine Pick.no ?_
          conv => whnf
          refine Take.all (rfl) ?_
          conv => whnf
          obtain ⟨y578, e579, h⟩ := bind_ex h
          refine CallOk.of (impl_order_ct e579) ?_
          conv => whnf
          refine splN (fun g580 => ?_) (fun g580 => ?_)
          · replace h := iteN h g580
            conv => whnf
            refine CutK.norm [3, 5, 6, 8, 9, 10, 48] [320, 384] ?_
            conv => whnf
            refine Pick.no ?_
            conv => whnf
            obtain ⟨y581, e582, h⟩ := bind_ex h
            refine CallOk.of (hrec_impl_surrealText _ _ e582) ?_
            conv => whnf
            obtain ⟨g583, h⟩ := req_ex h
            refine Req.of g583 ?_
            conv => whnf
            obtain ⟨g584, h⟩ := req_ex h
            refine Req.of g584 ?_
            conv => whnf
            obtain ⟨g585, h⟩ := req_ex h
            refine Req.of g585 ?_
            conv => whnf
            refine CutK.norm [3, 6, 8, 9, 10] [384] ?_
            conv => whnf
            refine Pick.no ?_
            conv => whnf
            obtain ⟨y586, e587, h⟩ := bind_ex h
            refine CallOk.of (impl_whole_ct e587) ?_
            conv => whnf
            refine Req.of ⟨by kernel_rfl, by kernel_rfl⟩ ?_
            conv => whnf
            refine spl (fun g588 => ?_) (fun g588 => ?_)
            · replace h := iteT h g588
              conv => whnf
              refine CutK.norm [3, 6, 8, 9, 10, 58] [384] ?_
              conv => whnf
              refine Pick.no ?_
              conv => whnf
              obtain ⟨y589, e590, h⟩ := bind_ex h
              refine CallOk.of (impl_fractionText_ct e590) ?_
              conv => whnf
              obtain ⟨g591, h⟩ := req_ex h
              refine Req.of g591 ?_
              conv => whnf
              obtain ⟨g592, h⟩ := req_ex h
              refine Req.of g592 ?_
              conv => whnf
              refine CutK.norm [3, 8, 9, 10] [] ?_
              conv => whnf
              exact LoopOk.back (impl_surrealText_l0_ct hrec_impl_surrealText hx rest (v297n + 1) _ hd1 h) [] [] ⟨⟨rfl, rfl⟩, ⟨rfl, trivial⟩, rfl, rfl, rfl, i64eq (wrap_up hlt hx), trivial⟩
            · replace h := iteF h g588
              conv => whnf
              refine CutK.norm [3, 6, 8, 9, 10, 58] [384] ?_
              conv => whnf
              refine CutK.norm [3, 8, 9, 10] [] ?_
              conv => whnf
              exact LoopOk.back (impl_surrealText_l0_ct hrec_impl_surrealText hx rest (v297n + 1) _ hd1 h) [] [] ⟨⟨rfl, rfl⟩, ⟨rfl, trivial⟩, rfl, rfl, rfl, i64eq (wrap_up hlt hx), trivial⟩
          · replace h := iteP h g580
            conv => whnf
            refine CutK.norm [3, 5, 6, 8, 9, 10, 48] [320, 384] ?_
            conv => whnf
            refine CutK.norm [3, 6, 8, 9, 10] [384] ?_
            conv => whnf
            refine Pick.no ?_
            conv => whnf
            obtain ⟨y593, e594, h⟩ := bind_ex h
            refine CallOk.of (impl_whole_ct e594) ?_
            conv => whnf
            refine Req.of ⟨by kernel_rfl, by kernel_rfl⟩ ?_
            conv => whnf
            refine spl (fun g595 => ?_) (fun g595 => ?_)
            · replace h := iteT h g595
              conv => whnf
              refine CutK.norm [3, 6, 8, 9, 10, 58] [384] ?_
              conv => whnf
              refine Pick.no ?_
              conv => whnf
              obtain ⟨y596, e597, h⟩ := bind_ex h
              refine CallOk.of (impl_fractionText_ct e597) ?_
              conv => whnf
              obtain ⟨g598, h⟩ := req_ex h
              refine Req.of g598 ?_
              conv => whnf
              obtain ⟨g599, h⟩ := req_ex h
              refine Req.of g599 ?_
              conv => whnf
              refine CutK.norm [3, 8, 9, 10] [] ?_
              conv => whnf
              exact LoopOk.back (impl_surrealText_l0_ct hrec_impl_surrealText hx rest (v297n + 1) _ hd1 h) [] [] ⟨⟨rfl, rfl⟩, ⟨rfl, trivial⟩, rfl, rfl, rfl, i64eq (wrap_up hlt hx), trivial⟩
            · replace h := iteF h g595
              conv => whnf
              refine CutK.norm [3, 6, 8, 9, 10, 58] [384] ?_
              conv => whnf
              refine CutK.norm [3, 8, 9, 10] [] ?_
              conv => whnf
              exact LoopOk.back (impl_surrealText_l0_ct hrec_impl_surrealText hx rest (v297n + 1) _ hd1 h) [] [] ⟨⟨rfl, rfl⟩, ⟨rfl, trivial⟩, rfl, rfl, rfl, i64eq (wrap_up hlt hx), trivial⟩
      · replace h := iteN h g567
        conv => whnf
        refine splD (fun g600 => ?_) (fun g600 => ?_)
        · replace h := iteP h g600
          conv => whnf
          obtain ⟨g601, h⟩ := req_ex h
          refine Req.of g601 ?_
          conv => whnf
          refine splD (fun g602 => ?_) (fun g602 => ?_)
          · replace h := iteP h g602
            conv => whnf
            refine Pick.no ?_
            conv => whnf
            obtain ⟨y603, e604, h⟩ := bind_ex h
            refine CallOk.of (impl_fractionText_ct e604) ?_
            conv => whnf
            obtain ⟨g605, h⟩ := req_ex h
            refine Req.of g605 ?_
            conv => whnf
            refine CutK.norm [3, 8, 9, 10] [] ?_
            conv => whnf
            refine CutK.norm [3, 8, 9, 10] [] ?_
            conv => whnf
            exact LoopOk.back (impl_surrealText_l0_ct hrec_impl_surrealText hx rest (v297n + 1) _ hd1 h) [] [] ⟨⟨rfl, rfl⟩, ⟨rfl, trivial⟩, rfl, rfl, rfl, i64eq (wrap_up hlt hx), trivial⟩
          · replace h := iteN h g602
            conv => whnf
            refine CutK.norm [3, 5, 6, 8, 9, 10] [320, 384] ?_
            conv => whnf
            obtain ⟨g606, h⟩ := req_ex h
            refine Req.of g606 ?_
            conv => whnf
            refine Pick.no ?_
            conv => whnf
            obtain ⟨y607, e608, h⟩ := bind_ex h
            refine CallOk.of (impl_whole_ct e608) ?_
            conv => whnf
            refine Pick.no ?_
            conv => whnf
            obtain ⟨y609, e610, h⟩ := bind_ex h
            refine CallOk.of (impl_real_ct e610) ?_
            conv => whnf
            refine Pick.no ?_
            conv => whnf
            refine Take.all (rfl) ?_
            conv => whnf
            obtain ⟨y611, e612, h⟩ := bind_ex h
            refine CallOk.of (impl_order_ct e612) ?_
            conv => whnf
            refine splN (fun g613 => ?_) (fun g613 => ?_)
            · replace h := iteN h g613
              conv => whnf
              refine CutK.norm [3, 5, 6, 8, 9, 10, 48] [320, 384] ?_
              conv => whnf
              refine Pick.no ?_
              conv => whnf
              obtain ⟨y614, e615, h⟩ := bind_ex h
              refine CallOk.of (hrec_impl_surrealText _ _ e615) ?_
              conv => whnf
              obtain ⟨g616, h⟩ := req_ex h
              refine Req.of g616 ?_
              conv => whnf
              obtain ⟨g617, h⟩ := req_ex h
              refine Req.of g617 ?_
              conv => whnf
              obtain ⟨g618, h⟩ := req_ex h
              refine Req.of g618 ?_
              conv => whnf
              refine CutK.norm [3, 6, 8, 9, 10] [384] ?_
              conv => whnf
              refine Pick.no ?_
              conv => whnf
              obtain ⟨y619, e620, h⟩ := bind_ex h
              refine CallOk.of (impl_whole_ct e620) ?_
              conv => whnf
              refine Req.of ⟨by kernel_rfl, by kernel_rfl⟩ ?_
              conv => whnf
              refine spl (fun g621 => ?_) (fun g621 => ?_)
              · replace h := iteT h g621
                conv => whnf
                refine CutK.norm [3, 6, 8, 9, 10, 58] [384] ?_
                conv => whnf
                refine Pick.no ?_
                conv => whnf
                obtain ⟨y622, e623, h⟩ := bind_ex h
                refine CallOk.of (impl_fractionText_ct e623) ?_
                conv => whnf
                obtain ⟨g624, h⟩ := req_ex h
                refine Req.of g624 ?_
                conv => whnf
                obtain ⟨g625, h⟩ := req_ex h
                refine Req.of g625 ?_
                conv => whnf
                refine CutK.norm [3, 8, 9, 10] [] ?_
                conv => whnf
                exact LoopOk.back (impl_surrealText_l0_ct hrec_impl_surrealText hx rest (v297n + 1) _ hd1 h) [] [] ⟨⟨rfl, rfl⟩, ⟨rfl, trivial⟩, rfl, rfl, rfl, i64eq (wrap_up hlt hx), trivial⟩
              · replace h := iteF h g621
                conv => whnf
                refine CutK.norm [3, 6, 8, 9, 10, 58] [384] ?_
                conv => whnf
                refine CutK.norm [3, 8, 9, 10] [] ?_
                conv => whnf
                exact LoopOk.back (impl_surrealText_l0_ct hrec_impl_surrealText hx rest (v297n + 1) _ hd1 h) [] [] ⟨⟨rfl, rfl⟩, ⟨rfl, trivial⟩, rfl, rfl, rfl, i64eq (wrap_up hlt hx), trivial⟩
            · replace h := iteP h g613
              conv => whnf
              refine CutK.norm [3, 5, 6, 8, 9, 10, 48] [320, 384] ?_
              conv => whnf
              refine CutK.norm [3, 6, 8, 9, 10] [384] ?_
              conv => whnf
              refine Pick.no ?_
              conv => whnf
              obtain ⟨y626, e627, h⟩ := bind_ex h
              refine CallOk.of (impl_whole_ct e627) ?_
              conv => whnf
              refine Req.of ⟨by kernel_rfl, by kernel_rfl⟩ ?_
              conv => whnf
              refine spl (fun g628 => ?_) (fun g628 => ?_)
              · replace h := iteT h g628
                conv => whnf
                refine CutK.norm [3, 6, 8, 9, 10, 58] [384] ?_
                conv => whnf
                refine Pick.no ?_
                conv => whnf
                obtain ⟨y629, e630, h⟩ := bind_ex h
                refine CallOk.of (impl_fractionText_ct e630) ?_
                conv => whnf
                obtain ⟨g631, h⟩ := req_ex h
                refine Req.of g631 ?_
                conv => whnf
                obtain ⟨g632, h⟩ := req_ex h
                refine Req.of g632 ?_
                conv => whnf
                refine CutK.norm [3, 8, 9, 10] [] ?_
                conv => whnf
                exact LoopOk.back (impl_surrealText_l0_ct hrec_impl_surrealText hx rest (v297n + 1) _ hd1 h) [] [] ⟨⟨rfl, rfl⟩, ⟨rfl, trivial⟩, rfl, rfl, rfl, i64eq (wrap_up hlt hx), trivial⟩
              · replace h := iteF h g628
                conv => whnf
                refine CutK.norm [3, 6, 8, 9, 10, 58] [384] ?_
                conv => whnf
                refine CutK.norm [3, 8, 9, 10] [] ?_
                conv => whnf
                exact LoopOk.back (impl_surrealText_l0_ct hrec_impl_surrealText hx rest (v297n + 1) _ hd1 h) [] [] ⟨⟨rfl, rfl⟩, ⟨rfl, trivial⟩, rfl, rfl, rfl, i64eq (wrap_up hlt hx), trivial⟩
        · replace h := iteN h g600
          conv => whnf
          refine splD (fun g633 => ?_) (fun g633 => ?_)
          · replace h := iteP h g633
            conv => whnf
            refine Pick.no ?_
            conv => whnf
            obtain ⟨y634, e635, h⟩ := bind_ex h
            refine CallOk.of (impl_fractionText_ct e635) ?_
            conv => whnf
            obtain ⟨g636, h⟩ := req_ex h
            refine Req.of g636 ?_
            conv => whnf
            refine CutK.norm [3, 8, 9, 10] [] ?_
            conv => whnf
            refine CutK.norm [3, 8, 9, 10] [] ?_
            conv => whnf
            exact LoopOk.back (impl_surrealText_l0_ct hrec_impl_surrealText hx rest (v297n + 1) _ hd1 h) [] [] ⟨⟨rfl, rfl⟩, ⟨rfl, trivial⟩, rfl, rfl, rfl, i64eq (wrap_up hlt hx), trivial⟩
          · replace h := iteN h g633
            conv => whnf
            refine CutK.norm [3, 5, 6, 8, 9, 10] [320, 384] ?_
            conv => whnf
            obtain ⟨g637, h⟩ := req_ex h
            refine Req.of g637 ?_
            conv => whnf
            refine Pick.no ?_
            conv => whnf
            obtain ⟨y638, e639, h⟩ := bind_ex h
            refine CallOk.of (impl_whole_ct e639) ?_
            conv => whnf
            refine Pick.no ?_
            conv => whnf
            obtain ⟨y640, e641, h⟩ := bind_ex h
            refine CallOk.of (impl_real_ct e641) ?_
            conv => whnf
            refine Pick.no ?_
            conv => whnf
            refine Take.all (rfl) ?_
            conv => whnf
            obtain ⟨y642, e643, h⟩ := bind_ex h
            refine CallOk.of (impl_order_ct e643) ?_
            conv => whnf
            refine splN (fun g644 => ?_) (fun g644 => ?_)
            · replace h := iteN h g644
              conv => whnf
              refine CutK.norm [3, 5, 6, 8, 9, 10, 48] [320, 384] ?_
              conv => whnf
              refine Pick.no ?_
              conv => whnf
              obtain ⟨y645, e646, h⟩ := bind_ex h
              refine CallOk.of (hrec_impl_surrealText _ _ e646) ?_
              conv => whnf
              obtain ⟨g647, h⟩ := req_ex h
              refine Req.of g647 ?_
              conv => whnf
              obtain ⟨g648, h⟩ := req_ex h
              refine Req.of g648 ?_
              conv => whnf
              obtain ⟨g649, h⟩ := req_ex h
              refine Req.of g649 ?_
              conv => whnf
              refine CutK.norm [3, 6, 8, 9, 10] [384] ?_
              conv => whnf
              refine Pick.no ?_
              conv => whnf
              obtain ⟨y650, e651, h⟩ := bind_ex h
              refine CallOk.of (impl_whole_ct e651) ?_
              conv => whnf
              refine Req.of ⟨by kernel_rfl, by kernel_rfl⟩ ?_
              conv => whnf
              refine spl (fun g652 => ?_) (fun g652 => ?_)
              · replace h := iteT h g652
                conv => whnf
                refine CutK.norm [3, 6, 8, 9, 10, 58] [384] ?_
                conv => whnf
                refine Pick.no ?_
                conv => whnf
                obtain ⟨y653, e654, h⟩ := bind_ex h
                refine CallOk.of (impl_fractionText_ct e654) ?_
                conv => whnf
                obtain ⟨g655, h⟩ := req_ex h
                refine Req.of g655 ?_
                conv => whnf
                obtain ⟨g656, h⟩ := req_ex h
                refine Req.of g656 ?_
                conv => whnf
                refine CutK.norm [3, 8, 9, 10] [] ?_
                conv => whnf
                exact LoopOk.back (impl_surrealText_l0_ct hrec_impl_surrealText hx rest (v297n + 1) _ hd1 h) [] [] ⟨⟨rfl, rfl⟩, ⟨rfl, trivial⟩, rfl, rfl, rfl, i64eq (wrap_up hlt hx), trivial⟩
              · replace h := iteF h g652
                conv => whnf
                refine CutK.norm [3, 6, 8, 9, 10, 58] [384] ?_
                conv => whnf
                refine CutK.norm [3, 8, 9, 10] [] ?_
                conv => whnf
                exact LoopOk.back (impl_surrealText_l0_ct hrec_impl_surrealText hx rest (v297n + 1) _ hd1 h) [] [] ⟨⟨rfl, rfl⟩, ⟨rfl, trivial⟩, rfl, rfl, rfl, i64eq (wrap_up hlt hx), trivial⟩
            · replace h := iteP h g644
              conv => whnf
              refine CutK.norm [3, 5, 6, 8, 9, 10, 48] [320, 384] ?_
              conv => whnf
              refine CutK.norm [3, 6, 8, 9, 10] [384] ?_
              conv => whnf
              refine Pick.no ?_
              conv => whnf
              obtain ⟨y657, e658, h⟩ := bind_ex h
              refine CallOk.of (impl_whole_ct e658) ?_
              conv => whnf
              refine Req.of ⟨by kernel_rfl, by kernel_rfl⟩ ?_
              conv => whnf
              refine spl (fun g659 => ?_) (fun g659 => ?_)
              · replace h := iteT h g659
                conv => whnf
                refine CutK.norm [3, 6, 8, 9, 10, 58] [384] ?_
                conv => whnf
                refine Pick.no ?_
                conv => whnf
                obtain ⟨y660, e661, h⟩ := bind_ex h
                refine CallOk.of (impl_fractionText_ct e661) ?_
                conv => whnf
                obtain ⟨g662, h⟩ := req_ex h
                refine Req.of g662 ?_
                conv => whnf
                obtain ⟨g663, h⟩ := req_ex h
                refine Req.of g663 ?_
                conv => whnf
                refine CutK.norm [3, 8, 9, 10] [] ?_
                conv => whnf
                exact LoopOk.back (impl_surrealText_l0_ct hrec_impl_surrealText hx rest (v297n + 1) _ hd1 h) [] [] ⟨⟨rfl, rfl⟩, ⟨rfl, trivial⟩, rfl, rfl, rfl, i64eq (wrap_up hlt hx), trivial⟩
              · replace h := iteF h g659
                conv => whnf
                refine CutK.norm [3, 6, 8, 9, 10, 58] [384] ?_
                conv => whnf
                refine CutK.norm [3, 8, 9, 10] [] ?_
                conv => whnf
                exact LoopOk.back (impl_surrealText_l0_ct hrec_impl_surrealText hx rest (v297n + 1) _ hd1 h) [] [] ⟨⟨rfl, rfl⟩, ⟨rfl, trivial⟩, rfl, rfl, rfl, i64eq (wrap_up hlt hx), trivial⟩
def impl_surrealText_b (k : Nat) (rec_impl_surrealText : Rw → Option ByteArray) (a1 : Rw) : Option ByteArray :=
  (if a1.length ≤ cap then (impl_surrealText_l0 k rec_impl_surrealText a1 (fun (v459 : ByteArray) => (impl_surrealText_p3 v459)) a1 0 (ByteArray.mk #[])) else none)
set_option maxHeartbeats 4000000 in
set_option maxRecDepth 100000 in
theorem impl_surrealText_b_ct {k : Nat} {rec_impl_surrealText : Rw → Option ByteArray} (hrec_impl_surrealText : ∀ (a1 : Rw) (r : ByteArray), rec_impl_surrealText a1 = some r → Ct prog 42 [.agg [.d (D.sl a1)]] (⟨[], []⟩) (.d (D.str r)) (⟨[], []⟩)) {a1 : Rw} {r : ByteArray} (h : impl_surrealText_b k rec_impl_surrealText a1 = some r) : Ct prog 42 [.agg [.d (D.sl a1)]] (⟨[], []⟩) (.d (D.str r)) (⟨[], []⟩) := by
  rw [impl_surrealText_b] at h
  refine Ct.of (c := _) mixed func42 ⟨rfl, rfl, rfl⟩ ?_ rfl
  conv => whnf
  obtain ⟨g664, h⟩ := req_ex h
  refine LoopOk.into (impl_surrealText_l0_ct hrec_impl_surrealText g664 _ _ _ rfl h) [] [] ⟨⟨rfl, rfl⟩, ⟨rfl, trivial⟩, rfl, rfl, rfl, rfl, trivial⟩ ?_ (fun _ hs => hs)
  rintro i ts os ⟨rfl, v459, h, rfl, rfl⟩
  conv => whnf
  exact CutK.piece (impl_surrealText_p3_ct  h) [] [] ⟨⟨rfl, rfl⟩, ⟨rfl, trivial⟩, rfl, trivial⟩
def impl_surrealText : Nat → Rw → Option ByteArray
  | 0, _ => none
  | k + 1, a1 => impl_surrealText_b k (impl_surrealText k) a1
theorem impl_surrealText_ct' : ∀ (k : Nat) (a1 : Rw) (r : ByteArray), impl_surrealText k a1 = some r → Ct prog 42 [.agg [.d (D.sl a1)]] (⟨[], []⟩) (.d (D.str r)) (⟨[], []⟩)
  | 0, _, _, h => by rw [impl_surrealText] at h; cases h
  | k + 1, _, _, h => by rw [impl_surrealText] at h; exact impl_surrealText_b_ct (impl_surrealText_ct' k) h
theorem impl_surrealText_ct {k : Nat} {a1 : Rw} {r : ByteArray} (h : impl_surrealText k a1 = some r) : Ct prog 42 [.agg [.d (D.sl a1)]] (⟨[], []⟩) (.d (D.str r)) (⟨[], []⟩) := impl_surrealText_ct' k _ _ h

def impl_SurrealText (k : Nat) (a1 : Rw) : Option (ByteArray × Bool) :=
  ((impl_IsSurreal k a1).bind fun y2 => (if y2 = true then ((impl_surrealText k a1).bind fun y5 => some (y5, true)) else some ((ByteArray.mk #[]), false)))
set_option maxHeartbeats 4000000 in
set_option maxRecDepth 100000 in
theorem impl_SurrealText_ct {k : Nat} {a1 : Rw} {r : ByteArray × Bool} (h : impl_SurrealText k a1 = some r) : Ct prog 17 [.agg [.d (D.sl a1)]] (⟨[], []⟩) (.tup [.d (D.str r.1), .d (D.bool r.2)]) (⟨[], []⟩) := by
  rw [impl_SurrealText] at h
  refine Ct.of (c := _) mixed func17 ⟨rfl, rfl, rfl⟩ ?_ rfl
  conv => whnf
  refine Pick.no ?_
  conv => whnf
  obtain ⟨y2, e3, h⟩ := bind_ex h
  refine CallOk.of (impl_IsSurreal_ct e3) ?_
  conv => whnf
  refine spl (fun g4 => ?_) (fun g4 => ?_)
  · replace h := iteT h g4
    conv => whnf
    refine CutK.go ?_
    conv => whnf
    refine CutK.go ?_
    conv => whnf
    refine Pick.no ?_
    conv => whnf
    obtain ⟨y5, e6, h⟩ := bind_ex h
    refine CallOk.of (impl_surrealText_ct e6) ?_
    conv => whnf
    refine CutK.go ?_
    conv => whnf
    cases h
    exact Done.of [] [] rfl rfl ⟨⟨rfl, rfl⟩, ⟨rfl, trivial⟩, ⟨rfl, rfl, trivial⟩, trivial⟩
  · replace h := iteF h g4
    conv => whnf
    refine CutK.go ?_
    conv => whnf
    cases h
    exact Done.of [] [] rfl rfl ⟨⟨rfl, rfl⟩, ⟨rfl, trivial⟩, ⟨rfl, rfl, trivial⟩, trivial⟩

def laws_eqFraction  (a1 : Int) (a2 : Int) (a3 : Int) (a4 : Int) : Option Bool :=
  (if a1 = a3 then (if a2 = a4 then some true else some false) else some false)
set_option maxHeartbeats 4000000 in
set_option maxRecDepth 100000 in
theorem laws_eqFraction_ct  {a1 : Int} {a2 : Int} {a3 : Int} {a4 : Int} {r : Bool} (h : laws_eqFraction a1 a2 a3 a4 = some r) : Ct prog 99 [.agg [.d (D.int .i64 a1), .d (D.int .i64 a2)], .agg [.d (D.int .i64 a3), .d (D.int .i64 a4)]] (⟨[], []⟩) (.d (D.bool r)) (⟨[], []⟩) := by
  rw [laws_eqFraction] at h
  refine Ct.of (c := _) mixed func99 ⟨rfl, rfl, rfl⟩ ?_ rfl
  conv => whnf
  refine splN (fun g5 => ?_) (fun g5 => ?_)
  · replace h := iteN h g5
    conv => whnf
    cases h
    exact Done.of [] [] rfl rfl ⟨⟨rfl, rfl⟩, ⟨rfl, trivial⟩, rfl, trivial⟩
  · replace h := iteP h g5
    conv => whnf
    refine splN (fun g6 => ?_) (fun g6 => ?_)
    · replace h := iteN h g6
      conv => whnf
      cases h
      exact Done.of [] [] rfl rfl ⟨⟨rfl, rfl⟩, ⟨rfl, trivial⟩, rfl, trivial⟩
    · replace h := iteP h g6
      conv => whnf
      cases h
      exact Done.of [] [] rfl rfl ⟨⟨rfl, rfl⟩, ⟨rfl, trivial⟩, rfl, trivial⟩

def laws_eqSurrealTerm (rec_laws_eqSurreal : Rw → Rw → Option Bool) (a1 : Rw) (a2 : Int) (a3 : Int) (a4 : Rw) (a5 : Int) (a6 : Int) : Option Bool :=
  ((rec_laws_eqSurreal a1 a4).bind fun y7 => (if y7 = true then ((laws_eqFraction a2 a3 a5 a6).bind fun y10 => (if y10 = true then some true else some false)) else some false))
set_option maxHeartbeats 4000000 in
set_option maxRecDepth 100000 in
theorem laws_eqSurrealTerm_ct {rec_laws_eqSurreal : Rw → Rw → Option Bool} (hrec_laws_eqSurreal : ∀ (a1 : Rw) (a2 : Rw) (r : Bool), rec_laws_eqSurreal a1 a2 = some r → Ct prog 18 [.agg [.d (D.sl a1)], .agg [.d (D.sl a2)]] (⟨[], []⟩) (.d (D.bool r)) (⟨[], []⟩)) {a1 : Rw} {a2 : Int} {a3 : Int} {a4 : Rw} {a5 : Int} {a6 : Int} {r : Bool} (h : laws_eqSurrealTerm rec_laws_eqSurreal a1 a2 a3 a4 a5 a6 = some r) : Ct prog 73 [.agg [.d (D.sl a1), .d (D.int .i64 a2), .d (D.int .i64 a3)], .agg [.d (D.sl a4), .d (D.int .i64 a5), .d (D.int .i64 a6)]] (⟨[], []⟩) (.d (D.bool r)) (⟨[], []⟩) := by
  rw [laws_eqSurrealTerm] at h
  refine Ct.of (c := _) mixed func73 ⟨rfl, rfl, rfl⟩ ?_ rfl
  conv => whnf
  refine Pick.no ?_
  conv => whnf
  obtain ⟨y7, e8, h⟩ := bind_ex h
  refine CallOk.of (hrec_laws_eqSurreal _ _ _ e8) ?_
  conv => whnf
  refine spl (fun g9 => ?_) (fun g9 => ?_)
  · replace h := iteT h g9
    conv => whnf
    refine CutK.go ?_
    conv => whnf
    refine CutK.go ?_
    conv => whnf
    refine Pick.no ?_
    conv => whnf
    obtain ⟨y10, e11, h⟩ := bind_ex h
    refine CallOk.of (laws_eqFraction_ct e11) ?_
    conv => whnf
    refine spl (fun g12 => ?_) (fun g12 => ?_)
    · replace h := iteT h g12
      conv => whnf
      refine CutK.go ?_
      conv => whnf
      refine CutK.go ?_
      conv => whnf
      cases h
      exact Done.of [] [] rfl rfl ⟨⟨rfl, rfl⟩, ⟨rfl, trivial⟩, rfl, trivial⟩
    · replace h := iteF h g12
      conv => whnf
      refine CutK.go ?_
      conv => whnf
      cases h
      exact Done.of [] [] rfl rfl ⟨⟨rfl, rfl⟩, ⟨rfl, trivial⟩, rfl, trivial⟩
  · replace h := iteF h g9
    conv => whnf
    refine CutK.go ?_
    conv => whnf
    cases h
    exact Done.of [] [] rfl rfl ⟨⟨rfl, rfl⟩, ⟨rfl, trivial⟩, rfl, trivial⟩

def laws_eqSurrealTermS_l0 (rec_laws_eqSurreal : Rw → Rw → Option Bool) (a1 : Rw) (a2 : Rw) (K0 : Option Bool) : Rw → Nat → Option Bool
  | [], v18n => (K0)
  | cs :: rest, v18n => (cell_sii cs fun x33 x34 x35 => (row_sii a2 (v18n : Int) fun x37 x38 x39 => ((laws_eqSurrealTerm rec_laws_eqSurreal x33 x34 x35 x37 x38 x39).bind fun y42 => (if y42 = true then (laws_eqSurrealTermS_l0 rec_laws_eqSurreal a1 a2 K0 rest (v18n + 1)) else some false))))
set_option maxRecDepth 100000 in
theorem laws_eqSurrealTermS_l0_ct {rec_laws_eqSurreal : Rw → Rw → Option Bool} {a1 : Rw} {a2 : Rw} {K0 : Option Bool} (hrec_laws_eqSurreal : ∀ (a1 : Rw) (a2 : Rw) (r : Bool), rec_laws_eqSurreal a1 a2 = some r → Ct prog 18 [.agg [.d (D.sl a1)], .agg [.d (D.sl a2)]] (⟨[], []⟩) (.d (D.bool r)) (⟨[], []⟩)) {r : Bool} (hx : a1.length ≤ cap) : ∀ (rest : Rw) (v18n : Nat), a1.drop v18n = rest → laws_eqSurrealTermS_l0 rec_laws_eqSurreal a1 a2 K0 rest v18n = some r → LoopOk prog 0 (lp f43 0) (mk 27 [(0, .d (D.sl a1)), (1, .d (D.sl a2)), (5, .d (D.int .i64 (v18n : Int)))] []) (LoopEnd prog f43 0 27 (.d (D.bool r)) (⟨[], []⟩) (fun i ts os => (i = 0 ∧ K0 = some r ∧ ts = [] ∧ os = [])))
  | [], v18n, hd, h => by
      rw [laws_eqSurrealTermS_l0] at h
      have hn := drop_nil hd
      refine LoopOk.step ?_
      conv => whnf
      refine splD (fun g => absurd g hn) (fun _ => ?_)
      conv => whnf
      exact ⟨_, _, [], [], ⟨rfl, h, rfl, rfl⟩, ⟨⟨rfl, rfl⟩, ⟨rfl, trivial⟩, trivial⟩⟩
  | cs :: rest, v18n, hd, h => by
      rw [laws_eqSurrealTermS_l0] at h
      obtain ⟨hrow, hd1, hlt⟩ := drop_cons hd
      refine LoopOk.step ?_
      conv => whnf
      refine splD (fun _ => ?_) (fun g => absurd hlt g)
      conv => whnf
      obtain ⟨x33, x34, x35, e36, h⟩ := cell_sii_ex h
      rw [e36] at hrow
      refine Req.of (Int.natCast_nonneg _) ?_
      refine Row.of _ hrow ?_
      conv => whnf
      obtain ⟨g41, x37, x38, x39, e40, h⟩ := row_sii_ex h
      refine Req.of g41 ?_
      refine Row.of _ e40 ?_
      conv => whnf
      refine Pick.no ?_
      conv => whnf
      obtain ⟨y42, e43, h⟩ := bind_ex h
      refine CallOk.of (laws_eqSurrealTerm_ct hrec_laws_eqSurreal e43) ?_
      conv => whnf
      refine spl (fun g44 => ?_) (fun g44 => ?_)
      · replace h := iteT h g44
        conv => whnf
        refine CutK.go ?_
        conv => whnf
        refine CutK.go ?_
        conv => whnf
        exact LoopOk.back (laws_eqSurrealTermS_l0_ct hrec_laws_eqSurreal hx rest (v18n + 1)  hd1 h) [] [] ⟨⟨rfl, rfl⟩, ⟨rfl, trivial⟩, rfl, rfl, i64eq (wrap_up hlt hx), trivial⟩
      · replace h := iteF h g44
        conv => whnf
        refine CutK.go ?_
        conv => whnf
        cases h
        exact Done.of [] [] rfl rfl ⟨⟨rfl, rfl⟩, ⟨rfl, trivial⟩, rfl, trivial⟩
def laws_eqSurrealTermS (rec_laws_eqSurreal : Rw → Rw → Option Bool) (a1 : Rw) (a2 : Rw) : Option Bool :=
  (if (a1.length : Int) = (a2.length : Int) then (if a1.length ≤ cap then (laws_eqSurrealTermS_l0 rec_laws_eqSurreal a1 a2 (some true) a1 0) else none) else some false)
set_option maxHeartbeats 4000000 in
set_option maxRecDepth 100000 in
theorem laws_eqSurrealTermS_ct {rec_laws_eqSurreal : Rw → Rw → Option Bool} (hrec_laws_eqSurreal : ∀ (a1 : Rw) (a2 : Rw) (r : Bool), rec_laws_eqSurreal a1 a2 = some r → Ct prog 18 [.agg [.d (D.sl a1)], .agg [.d (D.sl a2)]] (⟨[], []⟩) (.d (D.bool r)) (⟨[], []⟩)) {a1 : Rw} {a2 : Rw} {r : Bool} (h : laws_eqSurrealTermS rec_laws_eqSurreal a1 a2 = some r) : Ct prog 43 [.d (D.sl a1), .d (D.sl a2)] (⟨[], []⟩) (.d (D.bool r)) (⟨[], []⟩) := by
  rw [laws_eqSurrealTermS] at h
  refine Ct.of (c := _) mixed func43 ⟨rfl, rfl, rfl⟩ ?_ rfl
  conv => whnf
  refine splN (fun g3 => ?_) (fun g3 => ?_)
  · replace h := iteN h g3
    conv => whnf
    cases h
    exact Done.of [] [] rfl rfl ⟨⟨rfl, rfl⟩, ⟨rfl, trivial⟩, rfl, trivial⟩
  · replace h := iteP h g3
    conv => whnf
    obtain ⟨g45, h⟩ := req_ex h
    refine LoopOk.into (laws_eqSurrealTermS_l0_ct hrec_laws_eqSurreal g45 _ _  rfl h) [] [] ⟨⟨rfl, rfl⟩, ⟨rfl, trivial⟩, rfl, rfl, rfl, trivial⟩ ?_ (fun _ hs => hs)
    rintro i ts os ⟨rfl, h, rfl, rfl⟩
    conv => whnf
    refine CutK.go ?_
    conv => whnf
    cases h
    exact Done.of [] [] rfl rfl ⟨⟨rfl, rfl⟩, ⟨rfl, trivial⟩, rfl, trivial⟩

def laws_eqSurreal_b (rec_laws_eqSurreal : Rw → Rw → Option Bool) (a1 : Rw) (a2 : Rw) : Option Bool :=
  ((laws_eqSurrealTermS rec_laws_eqSurreal a1 a2).bind fun y3 => (if y3 = true then some true else some false))
set_option maxHeartbeats 4000000 in
set_option maxRecDepth 100000 in
theorem laws_eqSurreal_b_ct {rec_laws_eqSurreal : Rw → Rw → Option Bool} (hrec_laws_eqSurreal : ∀ (a1 : Rw) (a2 : Rw) (r : Bool), rec_laws_eqSurreal a1 a2 = some r → Ct prog 18 [.agg [.d (D.sl a1)], .agg [.d (D.sl a2)]] (⟨[], []⟩) (.d (D.bool r)) (⟨[], []⟩)) {a1 : Rw} {a2 : Rw} {r : Bool} (h : laws_eqSurreal_b rec_laws_eqSurreal a1 a2 = some r) : Ct prog 18 [.agg [.d (D.sl a1)], .agg [.d (D.sl a2)]] (⟨[], []⟩) (.d (D.bool r)) (⟨[], []⟩) := by
  rw [laws_eqSurreal_b] at h
  refine Ct.of (c := _) mixed func18 ⟨rfl, rfl, rfl⟩ ?_ rfl
  conv => whnf
  refine Pick.no ?_
  conv => whnf
  obtain ⟨y3, e4, h⟩ := bind_ex h
  refine CallOk.of (laws_eqSurrealTermS_ct hrec_laws_eqSurreal e4) ?_
  conv => whnf
  refine spl (fun g5 => ?_) (fun g5 => ?_)
  · replace h := iteT h g5
    conv => whnf
    refine CutK.go ?_
    conv => whnf
    refine CutK.go ?_
    conv => whnf
    cases h
    exact Done.of [] [] rfl rfl ⟨⟨rfl, rfl⟩, ⟨rfl, trivial⟩, rfl, trivial⟩
  · replace h := iteF h g5
    conv => whnf
    refine CutK.go ?_
    conv => whnf
    cases h
    exact Done.of [] [] rfl rfl ⟨⟨rfl, rfl⟩, ⟨rfl, trivial⟩, rfl, trivial⟩
def laws_eqSurreal : Nat → Rw → Rw → Option Bool
  | 0, _, _ => none
  | k + 1, a1, a2 => laws_eqSurreal_b (laws_eqSurreal k) a1 a2
theorem laws_eqSurreal_ct' : ∀ (k : Nat) (a1 : Rw) (a2 : Rw) (r : Bool), laws_eqSurreal k a1 a2 = some r → Ct prog 18 [.agg [.d (D.sl a1)], .agg [.d (D.sl a2)]] (⟨[], []⟩) (.d (D.bool r)) (⟨[], []⟩)
  | 0, _, _, _, h => by rw [laws_eqSurreal] at h; cases h
  | k + 1, _, _, _, h => by rw [laws_eqSurreal] at h; exact laws_eqSurreal_b_ct (laws_eqSurreal_ct' k) h
theorem laws_eqSurreal_ct {k : Nat} {a1 : Rw} {a2 : Rw} {r : Bool} (h : laws_eqSurreal k a1 a2 = some r) : Ct prog 18 [.agg [.d (D.sl a1)], .agg [.d (D.sl a2)]] (⟨[], []⟩) (.d (D.bool r)) (⟨[], []⟩) := laws_eqSurreal_ct' k _ _ _ h

def laws_FnExactSurrealText (k : Nat) (a1 : Rw) : Option Bool :=
  ((laws_szSurreal k a1 1048576).bind fun y2 => (if y2 < (0 : Int) then some true else ((laws_toSurreal k a1).bind fun y5 => ((spec_SurrealText k y5).bind fun y7 => (if y7.2 = true then ((laws_toSurreal k a1).bind fun y10 => ((impl_SurrealText k y10).bind fun y12 => (if y12.2 = true then (if (!(y12.1.toList == y7.1.toList)) = true then some false else ((laws_toSurreal k a1).bind fun y16 => ((laws_eqSurreal k y10 y16).bind fun y18 => (if y18 = true then some true else some false)))) else (if (!(y12.1.toList == y7.1.toList)) = true then some false else some false)))) else ((laws_toSurreal k a1).bind fun y22 => ((impl_SurrealText k y22).bind fun y24 => (if y24.2 = true then (if (!(y24.1.toList == y7.1.toList)) = true then some false else some false) else (if (!(y24.1.toList == y7.1.toList)) = true then some false else ((laws_toSurreal k a1).bind fun y29 => ((laws_eqSurreal k y22 y29).bind fun y31 => (if y31 = true then some true else some false))))))))))))
set_option maxHeartbeats 4000000 in
set_option maxRecDepth 100000 in
theorem laws_FnExactSurrealText_ct {k : Nat} {a1 : Rw} {r : Bool} (h : laws_FnExactSurrealText k a1 = some r) : Ct prog 5 [.agg [.d (D.sl a1)]] (⟨[], []⟩) (.d (D.bool r)) (⟨[], []⟩) := by
  rw [laws_FnExactSurrealText] at h
  refine Ct.of (c := _) mixed func5 ⟨rfl, rfl, rfl⟩ ?_ rfl
  conv => whnf
  refine Pick.no ?_
  conv => whnf
  obtain ⟨y2, e3, h⟩ := bind_ex h
  refine CallOk.of (laws_szSurreal_ct e3) ?_
  conv => whnf
  refine CutK.norm [1, 3] [64] ?_
  conv => whnf
  refine splD (fun g4 => ?_) (fun g4 => ?_)
  · replace h := iteP h g4
    conv => whnf
    cases h
    exact Done.of [] [] rfl rfl ⟨⟨rfl, rfl⟩, ⟨rfl, trivial⟩, rfl, trivial⟩
  · replace h := iteN h g4
    conv => whnf
    refine Pick.no ?_
    conv => whnf
    obtain ⟨y5, e6, h⟩ := bind_ex h
    refine CallOk.of (laws_toSurreal_ct e6) ?_
    conv => whnf
    refine Pick.no ?_
    conv => whnf
    refine Take.all (rfl) ?_
    conv => whnf
    obtain ⟨y7, e8, h⟩ := bind_ex h
    refine CallOk.of (spec_SurrealText_ct e8) ?_
    conv => whnf
    refine spl (fun g9 => ?_) (fun g9 => ?_)
    · replace h := iteT h g9
      conv => whnf
      refine CutK.norm [1, 4, 5] [64] ?_
      conv => whnf
      refine Pick.no ?_
      conv => whnf
      obtain ⟨y10, e11, h⟩ := bind_ex h
      refine CallOk.of (laws_toSurreal_ct e11) ?_
      conv => whnf
      refine CutK.norm [1, 4, 5, 6] [64, 384, 1344] ?_
      conv => whnf
      refine Pick.no ?_
      conv => whnf
      refine Take.all (rfl) ?_
      conv => whnf
      obtain ⟨y12, e13, h⟩ := bind_ex h
      refine CallOk.of (impl_SurrealText_ct e13) ?_
      conv => whnf
      refine spl (fun g14 => ?_) (fun g14 => ?_)
      · replace h := iteT h g14
        conv => whnf
        refine CutK.norm [1, 4, 5, 6, 7, 8] [64, 384, 1344] ?_
        conv => whnf
        refine spl (fun g15 => ?_) (fun g15 => ?_)
        · replace h := iteT h g15
          conv => whnf
          cases h
          exact Done.of [] [] rfl rfl ⟨⟨rfl, rfl⟩, ⟨rfl, trivial⟩, rfl, trivial⟩
        · replace h := iteF h g15
          conv => whnf
          refine splF ?_
          conv => whnf
          refine Pick.no ?_
          conv => whnf
          obtain ⟨y16, e17, h⟩ := bind_ex h
          refine CallOk.of (laws_toSurreal_ct e17) ?_
          conv => whnf
          refine Pick.no ?_
          conv => whnf
          refine Take.all (rfl) ?_
          conv => whnf
          refine Take.all (rfl) ?_
          conv => whnf
          obtain ⟨y18, e19, h⟩ := bind_ex h
          refine CallOk.of (laws_eqSurreal_ct e19) ?_
          conv => whnf
          refine spl (fun g20 => ?_) (fun g20 => ?_)
          · replace h := iteT h g20
            conv => whnf
            refine CutK.norm [39] [] ?_
            conv => whnf
            refine CutK.norm [] [] ?_
            conv => whnf
            cases h
            exact Done.of [] [] rfl rfl ⟨⟨rfl, rfl⟩, ⟨rfl, trivial⟩, rfl, trivial⟩
          · replace h := iteF h g20
            conv => whnf
            refine CutK.norm [39] [] ?_
            conv => whnf
            cases h
            exact Done.of [] [] rfl rfl ⟨⟨rfl, rfl⟩, ⟨rfl, trivial⟩, rfl, trivial⟩
      · replace h := iteF h g14
        conv => whnf
        refine CutK.norm [1, 4, 5, 6, 7, 8] [64, 384, 1344] ?_
        conv => whnf
        refine spl (fun g21 => ?_) (fun g21 => ?_)
        · replace h := iteT h g21
          conv => whnf
          cases h
          exact Done.of [] [] rfl rfl ⟨⟨rfl, rfl⟩, ⟨rfl, trivial⟩, rfl, trivial⟩
        · replace h := iteF h g21
          conv => whnf
          refine splT ?_
          conv => whnf
          cases h
          exact Done.of [] [] rfl rfl ⟨⟨rfl, rfl⟩, ⟨rfl, trivial⟩, rfl, trivial⟩
    · replace h := iteF h g9
      conv => whnf
      refine CutK.norm [1, 4, 5] [64] ?_
      conv => whnf
      refine Pick.no ?_
      conv => whnf
      obtain ⟨y22, e23, h⟩ := bind_ex h
      refine CallOk.of (laws_toSurreal_ct e23) ?_
      conv => whnf
      refine CutK.norm [1, 4, 5, 6] [64, 384, 1344] ?_
      conv => whnf
      refine Pick.no ?_
      conv => whnf
      refine Take.all (rfl) ?_
      conv => whnf
      obtain ⟨y24, e25, h⟩ := bind_ex h
      refine CallOk.of (impl_SurrealText_ct e25) ?_
      conv => whnf
      refine spl (fun g26 => ?_) (fun g26 => ?_)
      · replace h := iteT h g26
        conv => whnf
        refine CutK.norm [1, 4, 5, 6, 7, 8] [64, 384, 1344] ?_
        conv => whnf
        refine spl (fun g27 => ?_) (fun g27 => ?_)
        · replace h := iteT h g27
          conv => whnf
          cases h
          exact Done.of [] [] rfl rfl ⟨⟨rfl, rfl⟩, ⟨rfl, trivial⟩, rfl, trivial⟩
        · replace h := iteF h g27
          conv => whnf
          refine splT ?_
          conv => whnf
          cases h
          exact Done.of [] [] rfl rfl ⟨⟨rfl, rfl⟩, ⟨rfl, trivial⟩, rfl, trivial⟩
      · replace h := iteF h g26
        conv => whnf
        refine CutK.norm [1, 4, 5, 6, 7, 8] [64, 384, 1344] ?_
        conv => whnf
        refine spl (fun g28 => ?_) (fun g28 => ?_)
        · replace h := iteT h g28
          conv => whnf
          cases h
          exact Done.of [] [] rfl rfl ⟨⟨rfl, rfl⟩, ⟨rfl, trivial⟩, rfl, trivial⟩
        · replace h := iteF h g28
          conv => whnf
          refine splF ?_
          conv => whnf
          refine Pick.no ?_
          conv => whnf
          obtain ⟨y29, e30, h⟩ := bind_ex h
          refine CallOk.of (laws_toSurreal_ct e30) ?_
          conv => whnf
          refine Pick.no ?_
          conv => whnf
          refine Take.all (rfl) ?_
          conv => whnf
          refine Take.all (rfl) ?_
          conv => whnf
          obtain ⟨y31, e32, h⟩ := bind_ex h
          refine CallOk.of (laws_eqSurreal_ct e32) ?_
          conv => whnf
          refine spl (fun g33 => ?_) (fun g33 => ?_)
          · replace h := iteT h g33
            conv => whnf
            refine CutK.norm [39] [] ?_
            conv => whnf
            refine CutK.norm [] [] ?_
            conv => whnf
            cases h
            exact Done.of [] [] rfl rfl ⟨⟨rfl, rfl⟩, ⟨rfl, trivial⟩, rfl, trivial⟩
          · replace h := iteF h g33
            conv => whnf
            refine CutK.norm [39] [] ?_
            conv => whnf
            cases h
            exact Done.of [] [] rfl rfl ⟨⟨rfl, rfl⟩, ⟨rfl, trivial⟩, rfl, trivial⟩
end
end Go.Proofs.Tryd
