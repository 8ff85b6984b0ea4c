/- Printed by program (axgen): pure functions, and that the Go functions compute them. -/
import Derived.Test.YtmihoieaiojbhaaProg
import Derived.Test.YtmihoieaiojbhaaAxC
import Derived.KernelRfl
set_option linter.unusedVariables false
set_option linter.unusedSimpArgs false
namespace Go.Proofs.Try
open Go Go.AX
theorem mixed : prog.follows .mixedOrders = true := by kernel_rfl
def cell_i {α : Type} (cs : List D) (K : Int → Option α) : Option α := match cs with | [.int .i64 a0] => K a0 | _ => none
def row_i {α : Type} (es : Rw) (i : Int) (K : Int → Option α) : Option α := if 0 ≤ i then (match es[i.toNat]? with | some cs => cell_i cs K | none => none) else none
theorem cell_i_ex {α : Type} {cs : List D} {K : Int → Option α} {r : α} (h : cell_i cs K = some r) : ∃ a0, cs = [.int .i64 a0] ∧ K a0 = some r := by
  unfold cell_i at h
  split at h
  · exact ⟨_, rfl, h⟩
  · cases h
theorem row_i_ex {α : Type} {es : Rw} {i : Int} {K : Int → Option α} {r : α} (h : row_i es i K = some r) : 0 ≤ i ∧ ∃ a0, es[i.toNat]? = some [.int .i64 a0] ∧ K a0 = some r := by
  unfold row_i at h
  obtain ⟨g, h⟩ := req_ex h
  split at h
  · rename_i cs e
    obtain ⟨a0, rfl, h⟩ := cell_i_ex h
    exact ⟨g, a0, e, h⟩
  · cases h
def cell_ii {α : Type} (cs : List D) (K : Int → Int → Option α) : Option α := match cs with | [.int .i64 a0, .int .i64 a1] => K a0 a1 | _ => none
def row_ii {α : Type} (es : Rw) (i : Int) (K : Int → Int → Option α) : Option α := if 0 ≤ i then (match es[i.toNat]? with | some cs => cell_ii cs K | none => none) else none
theorem cell_ii_ex {α : Type} {cs : List D} {K : Int → Int → Option α} {r : α} (h : cell_ii cs K = some r) : ∃ a0 a1, cs = [.int .i64 a0, .int .i64 a1] ∧ K a0 a1 = some r := by
  unfold cell_ii at h
  split at h
  · exact ⟨_, _, rfl, h⟩
  · cases h
theorem row_ii_ex {α : Type} {es : Rw} {i : Int} {K : Int → Int → Option α} {r : α} (h : row_ii es i K = some r) : 0 ≤ i ∧ ∃ a0 a1, es[i.toNat]? = some [.int .i64 a0, .int .i64 a1] ∧ K a0 a1 = some r := by
  unfold row_ii at h
  obtain ⟨g, h⟩ := req_ex h
  split at h
  · rename_i cs e
    obtain ⟨a0, a1, rfl, h⟩ := cell_ii_ex h
    exact ⟨g, a0, a1, e, h⟩
  · cases h
def cell_iu8 {α : Type} (cs : List D) (K : Int → Option α) : Option α := match cs with | [.int .u8 a0] => K a0 | _ => none
def row_iu8 {α : Type} (es : Rw) (i : Int) (K : Int → Option α) : Option α := if 0 ≤ i then (match es[i.toNat]? with | some cs => cell_iu8 cs K | none => none) else none
theorem cell_iu8_ex {α : Type} {cs : List D} {K : Int → Option α} {r : α} (h : cell_iu8 cs K = some r) : ∃ a0, cs = [.int .u8 a0] ∧ K a0 = some r := by
  unfold cell_iu8 at h
  split at h
  · exact ⟨_, rfl, h⟩
  · cases h
theorem row_iu8_ex {α : Type} {es : Rw} {i : Int} {K : Int → Option α} {r : α} (h : row_iu8 es i K = some r) : 0 ≤ i ∧ ∃ a0, es[i.toNat]? = some [.int .u8 a0] ∧ K a0 = some r := by
  unfold row_iu8 at h
  obtain ⟨g, h⟩ := req_ex h
  split at h
  · rename_i cs e
    obtain ⟨a0, rfl, h⟩ := cell_iu8_ex h
    exact ⟨g, a0, e, h⟩
  · cases h
def cell_sii {α : Type} (cs : List D) (K : Rw → Int → Int → Option α) : Option α := match cs with | [.sl a0, .int .i64 a1, .int .i64 a2] => K a0 a1 a2 | _ => none
def row_sii {α : Type} (es : Rw) (i : Int) (K : Rw → Int → Int → Option α) : Option α := if 0 ≤ i then (match es[i.toNat]? with | some cs => cell_sii cs K | none => none) else none
theorem cell_sii_ex {α : Type} {cs : List D} {K : Rw → Int → Int → Option α} {r : α} (h : cell_sii cs K = some r) : ∃ a0 a1 a2, cs = [.sl a0, .int .i64 a1, .int .i64 a2] ∧ K a0 a1 a2 = some r := by
  unfold cell_sii at h
  split at h
  · exact ⟨_, _, _, rfl, h⟩
  · cases h
theorem row_sii_ex {α : Type} {es : Rw} {i : Int} {K : Rw → Int → Int → Option α} {r : α} (h : row_sii es i K = some r) : 0 ≤ i ∧ ∃ a0 a1 a2, es[i.toNat]? = some [.sl a0, .int .i64 a1, .int .i64 a2] ∧ K a0 a1 a2 = some r := by
  unfold row_sii at h
  obtain ⟨g, h⟩ := req_ex h
  split at h
  · rename_i cs e
    obtain ⟨a0, a1, a2, rfl, h⟩ := cell_sii_ex h
    exact ⟨g, a0, a1, a2, e, h⟩
  · cases h
def cell_t {α : Type} (cs : List D) (K : ByteArray → Option α) : Option α := match cs with | [.str a0] => K a0 | _ => none
def row_t {α : Type} (es : Rw) (i : Int) (K : ByteArray → Option α) : Option α := if 0 ≤ i then (match es[i.toNat]? with | some cs => cell_t cs K | none => none) else none
theorem cell_t_ex {α : Type} {cs : List D} {K : ByteArray → Option α} {r : α} (h : cell_t cs K = some r) : ∃ a0, cs = [.str a0] ∧ K a0 = some r := by
  unfold cell_t at h
  split at h
  · exact ⟨_, rfl, h⟩
  · cases h
theorem row_t_ex {α : Type} {es : Rw} {i : Int} {K : ByteArray → Option α} {r : α} (h : row_t es i K = some r) : 0 ≤ i ∧ ∃ a0, es[i.toNat]? = some [.str a0] ∧ K a0 = some r := by
  unfold row_t at h
  obtain ⟨g, h⟩ := req_ex h
  split at h
  · rename_i cs e
    obtain ⟨a0, rfl, h⟩ := cell_t_ex h
    exact ⟨g, a0, e, h⟩
  · cases h
noncomputable section
def laws_sameSurreal_l0 (rec_laws_sameSurreal : Rw → Rw → Option Bool) (a1 : Rw) (a2 : Rw) (K0 : Option Bool) : Rw → Nat → Option Bool
  | [], v19n => (K0)
  | cs :: rest, v19n => (cell_sii cs fun x35 x36 x37 => (row_sii a2 (v19n : Int) fun x39 x40 x41 => (if (!(decide (x36 = x40) && (decide (x37 = x41) && true))) = true then some false else ((rec_laws_sameSurreal x35 x39).bind fun y45 => (if y45 = true then (laws_sameSurreal_l0 rec_laws_sameSurreal a1 a2 K0 rest (v19n + 1)) else some false)))))
set_option maxHeartbeats 4000000 in
set_option maxRecDepth 100000 in
theorem laws_sameSurreal_l0_ct {rec_laws_sameSurreal : Rw → Rw → Option Bool} {a1 : Rw} {a2 : Rw} {K0 : Option Bool} (hrec_laws_sameSurreal : ∀ (a1 : Rw) (a2 : Rw) (r : Bool), rec_laws_sameSurreal a1 a2 = some r → Ct prog 18 [.agg [.d (D.sl a1)], .agg [.d (D.sl a2)]] (⟨[], []⟩) (.d (D.bool r)) (⟨[], []⟩)) {r : Bool} (hx : a1.length ≤ cap) : ∀ (rest : Rw) (v19n : Nat), a1.drop v19n = rest → laws_sameSurreal_l0 rec_laws_sameSurreal a1 a2 K0 rest v19n = some r → LoopOk prog 0 (lp f18 0) (mk 44 [(3, .ptr 192 0), (15, .d (D.sl a1)), (16, .d (D.int .i64 (a1.length : Int))), (17, .d (D.int .i64 (v19n : Int)))] [(192, .box 38 [.d (D.sl a2)])]) (LoopEnd prog f18 0 44 (.d (D.bool r)) (⟨[], []⟩) (fun i ts os => (i = 0 ∧ K0 = some r ∧ ts = [] ∧ os = [])))
  | [], v19n, hd, h => by
      rw [laws_sameSurreal_l0] at h
      have hn := drop_nil hd
      refine LoopOk.step ?_
      conv => whnf
      refine splD (fun g => absurd g hn) (fun _ => ?_)
      conv => whnf
      exact ⟨_, _, [], [], ⟨rfl, h, rfl, rfl⟩, ⟨⟨rfl, rfl⟩, ⟨rfl, trivial⟩, trivial⟩⟩
  | cs :: rest, v19n, hd, h => by
      rw [laws_sameSurreal_l0] at h
      obtain ⟨hrow, hd1, hlt⟩ := drop_cons hd
      refine LoopOk.step ?_
      conv => whnf
      refine splD (fun _ => ?_) (fun g => absurd hlt g)
      conv => whnf
      obtain ⟨x35, x36, x37, e38, h⟩ := cell_sii_ex h
      rw [e38] at hrow
      refine Req.of (Int.natCast_nonneg _) ?_
      refine Row.of _ hrow ?_
      conv => whnf
      obtain ⟨g43, x39, x40, x41, e42, h⟩ := row_sii_ex h
      refine Req.of g43 ?_
      refine Row.of _ e42 ?_
      conv => whnf
      refine Req.of ⟨by kernel_rfl, by kernel_rfl⟩ ?_
      conv => whnf
      refine spl (fun g44 => ?_) (fun g44 => ?_)
      · replace h := iteT h g44
        conv => whnf
        refine CutK.norm [3, 15, 16, 17, 42] [192] ?_
        conv => whnf
        cases h
        exact Done.of [] [] rfl rfl ⟨⟨rfl, rfl⟩, ⟨rfl, trivial⟩, rfl, trivial⟩
      · replace h := iteF h g44
        conv => whnf
        refine Req.of g43 ?_
        refine Row.of _ e42 ?_
        conv => whnf
        refine Pick.no ?_
        conv => whnf
        obtain ⟨y45, e46, h⟩ := bind_ex h
        refine CallOk.of (hrec_laws_sameSurreal _ _ _ e46) ?_
        conv => whnf
        refine spl (fun g47 => ?_) (fun g47 => ?_)
        · replace h := iteT h g47
          conv => whnf
          refine CutK.norm [3, 15, 16, 17, 42] [192] ?_
          conv => whnf
          refine CutK.norm [3, 15, 16, 17] [192] ?_
          conv => whnf
          exact LoopOk.back (laws_sameSurreal_l0_ct hrec_laws_sameSurreal hx rest (v19n + 1)  hd1 h) [some 192] [] ⟨⟨rfl, rfl⟩, ⟨rfl, ⟨rfl, rfl, trivial⟩, trivial⟩, ⟨rfl, rfl⟩, rfl, rfl, i64eq (wrap_up hlt hx), trivial⟩
        · replace h := iteF h g47
          conv => whnf
          refine CutK.norm [3, 15, 16, 17, 42] [192] ?_
          conv => whnf
          cases h
          exact Done.of [] [] rfl rfl ⟨⟨rfl, rfl⟩, ⟨rfl, trivial⟩, rfl, trivial⟩
def laws_sameSurreal_b (rec_laws_sameSurreal : Rw → Rw → Option Bool) (a1 : Rw) (a2 : Rw) : Option Bool :=
  (if (a1.length : Int) = (a2.length : Int) then (if a1.length ≤ cap then (laws_sameSurreal_l0 rec_laws_sameSurreal a1 a2 (some true) a1 0) else none) else some false)
set_option maxHeartbeats 4000000 in
set_option maxRecDepth 100000 in
theorem laws_sameSurreal_b_ct {rec_laws_sameSurreal : Rw → Rw → Option Bool} (hrec_laws_sameSurreal : ∀ (a1 : Rw) (a2 : Rw) (r : Bool), rec_laws_sameSurreal a1 a2 = some r → Ct prog 18 [.agg [.d (D.sl a1)], .agg [.d (D.sl a2)]] (⟨[], []⟩) (.d (D.bool r)) (⟨[], []⟩)) {a1 : Rw} {a2 : Rw} {r : Bool} (h : laws_sameSurreal_b rec_laws_sameSurreal a1 a2 = some r) : Ct prog 18 [.agg [.d (D.sl a1)], .agg [.d (D.sl a2)]] (⟨[], []⟩) (.d (D.bool r)) (⟨[], []⟩) := by
  rw [laws_sameSurreal_b] at h
  refine Ct.of (c := _) mixed func18 ⟨rfl, rfl, rfl⟩ ?_ rfl
  conv => whnf
  refine splN (fun g3 => ?_) (fun g3 => ?_)
  · replace h := iteN h g3
    conv => whnf
    cases h
    exact Done.of [] [] rfl rfl ⟨⟨rfl, rfl⟩, ⟨rfl, trivial⟩, rfl, trivial⟩
  · replace h := iteP h g3
    conv => whnf
    obtain ⟨g48, h⟩ := req_ex h
    refine LoopOk.into (laws_sameSurreal_l0_ct hrec_laws_sameSurreal g48 _ _  rfl h) [some 192] [] ⟨⟨rfl, rfl⟩, ⟨rfl, ⟨rfl, rfl, trivial⟩, trivial⟩, ⟨rfl, rfl⟩, rfl, rfl, rfl, trivial⟩ ?_ (fun _ hs => hs)
    rintro i ts os ⟨rfl, h, rfl, rfl⟩
    conv => whnf
    refine CutK.norm [] [] ?_
    conv => whnf
    cases h
    exact Done.of [] [] rfl rfl ⟨⟨rfl, rfl⟩, ⟨rfl, trivial⟩, rfl, trivial⟩
def laws_sameSurreal : Nat → Rw → Rw → Option Bool
  | 0, _, _ => none
  | k + 1, a1, a2 => laws_sameSurreal_b (laws_sameSurreal k) a1 a2
theorem laws_sameSurreal_ct' : ∀ (k : Nat) (a1 : Rw) (a2 : Rw) (r : Bool), laws_sameSurreal k a1 a2 = some r → Ct prog 18 [.agg [.d (D.sl a1)], .agg [.d (D.sl a2)]] (⟨[], []⟩) (.d (D.bool r)) (⟨[], []⟩)
  | 0, _, _, _, h => by rw [laws_sameSurreal] at h; cases h
  | k + 1, _, _, _, h => by rw [laws_sameSurreal] at h; exact laws_sameSurreal_b_ct (laws_sameSurreal_ct' k) h
theorem laws_sameSurreal_ct {k : Nat} {a1 : Rw} {a2 : Rw} {r : Bool} (h : laws_sameSurreal k a1 a2 = some r) : Ct prog 18 [.agg [.d (D.sl a1)], .agg [.d (D.sl a2)]] (⟨[], []⟩) (.d (D.bool r)) (⟨[], []⟩) := laws_sameSurreal_ct' k _ _ _ h

def impl_in  (a1 : Int) (a2 : Int) (a3 : Int) : Option Bool :=
  (if a2 ≤ a1 then (if a1 ≤ a3 then some true else some false) else some false)
set_option maxHeartbeats 4000000 in
set_option maxRecDepth 100000 in
theorem impl_in_ct  {a1 : Int} {a2 : Int} {a3 : Int} {r : Bool} (h : impl_in a1 a2 a3 = some r) : Ct prog 81 [.d (D.int .i64 a1), .d (D.int .i64 a2), .d (D.int .i64 a3)] (⟨[], []⟩) (.d (D.bool r)) (⟨[], []⟩) := by
  rw [impl_in] at h
  refine Ct.of (c := _) mixed func81 ⟨rfl, rfl, rfl⟩ ?_ rfl
  conv => whnf
  refine splD (fun g4 => ?_) (fun g4 => ?_)
  · replace h := iteP h g4
    conv => whnf
    refine splD (fun g5 => ?_) (fun g5 => ?_)
    · replace h := iteP h g5
      conv => whnf
      cases h
      exact Done.of [] [] rfl rfl ⟨⟨rfl, rfl⟩, ⟨rfl, trivial⟩, rfl, trivial⟩
    · replace h := iteN h g5
      conv => whnf
      cases h
      exact Done.of [] [] rfl rfl ⟨⟨rfl, rfl⟩, ⟨rfl, trivial⟩, rfl, trivial⟩
  · replace h := iteN h g4
    conv => whnf
    cases h
    exact Done.of [] [] rfl rfl ⟨⟨rfl, rfl⟩, ⟨rfl, trivial⟩, rfl, trivial⟩

def impl_size  (a1 : Int) : Option Int :=
  some (if a1 < (IntKind.i64.wrap (0 - a1)) then IntKind.i64.wrap (0 - a1) else a1)
set_option maxHeartbeats 4000000 in
set_option maxRecDepth 100000 in
theorem impl_size_ct  {a1 : Int} {r : Int} (h : impl_size a1 = some r) : Ct prog 169 [.d (D.int .i64 a1)] (⟨[], []⟩) (.d (D.int .i64 r)) (⟨[], []⟩) := by
  rw [impl_size] at h
  refine Ct.of (c := _) mixed func169 ⟨rfl, rfl, rfl⟩ ?_ rfl
  conv => whnf
  cases h
  exact Done.of [] [] rfl rfl ⟨⟨rfl, rfl⟩, ⟨rfl, trivial⟩, rfl, trivial⟩

def impl_gcd_l0 (K0 : Int → Option Int) : Nat → Int → Int → Option Int
  | 0, _, _ => none
  | n + 1, v5, v6 => (if v6 = (0 : Int) then (K0 v5) else (if v6 ≠ 0 then (impl_gcd_l0 K0 n v6 (v5.tmod v6)) else none))
set_option maxHeartbeats 4000000 in
set_option maxRecDepth 100000 in
theorem impl_gcd_l0_ct {K0 : Int → Option Int} {r : Int} : ∀ (n : Nat) (v5 : Int) (v6 : Int), impl_gcd_l0 K0 n v5 v6 = some r → LoopOk prog 0 (lp f122 0) (mk 13 [(0, .d (D.int .i64 v5)), (1, .d (D.int .i64 v6))] []) (LoopEnd prog f122 0 13 (.d (D.int .i64 r)) (⟨[], []⟩) (fun i ts os => (i = 0 ∧ ∃ v9 : Int, K0 v9 = some r ∧ ts = [(0, .d (D.int .i64 v9))] ∧ os = [])))
  | 0, _, _, h => by
      rw [impl_gcd_l0] at h; cases h
  | n + 1, v5, v6, h => by
      rw [impl_gcd_l0] at h
      refine LoopOk.step ?_
      conv => whnf
      refine splN (fun g12 => ?_) (fun g12 => ?_)
      · replace h := iteN h g12
        conv => whnf
        obtain ⟨g13, h⟩ := req_ex h
        refine Req.of g13 ?_
        conv => whnf
        exact LoopOk.back (impl_gcd_l0_ct  n _ _ h) [] [] ⟨⟨rfl, rfl⟩, ⟨rfl, trivial⟩, rfl, rfl, trivial⟩
      · replace h := iteP h g12
        conv => whnf
        exact ⟨_, _, [], [], ⟨rfl, _, h, rfl, rfl⟩, ⟨⟨rfl, rfl⟩, ⟨rfl, trivial⟩, rfl, trivial⟩⟩
def impl_gcd (k : Nat) (a1 : Int) (a2 : Int) : Option Int :=
  (impl_gcd_l0 (fun (v9 : Int) => ((impl_size v9).bind fun y14 => some y14)) k a1 a2)
set_option maxHeartbeats 4000000 in
set_option maxRecDepth 100000 in
theorem impl_gcd_ct {k : Nat} {a1 : Int} {a2 : Int} {r : Int} (h : impl_gcd k a1 a2 = some r) : Ct prog 122 [.d (D.int .i64 a1), .d (D.int .i64 a2)] (⟨[], []⟩) (.d (D.int .i64 r)) (⟨[], []⟩) := by
  rw [impl_gcd] at h
  refine Ct.of (c := _) mixed func122 ⟨rfl, rfl, rfl⟩ ?_ rfl
  conv => whnf
  refine LoopOk.into (impl_gcd_l0_ct  _ _ _ h) [] [] ⟨⟨rfl, rfl⟩, ⟨rfl, trivial⟩, rfl, rfl, trivial⟩ ?_ (fun _ hs => hs)
  rintro i ts os ⟨rfl, v9, h, rfl, rfl⟩
  conv => whnf
  refine CutK.go ?_
  conv => whnf
  refine Pick.no ?_
  conv => whnf
  obtain ⟨y14, e15, h⟩ := bind_ex h
  refine CallOk.of (impl_size_ct e15) ?_
  conv => whnf
  refine CutK.go ?_
  conv => whnf
  cases h
  exact Done.of [] [] rfl rfl ⟨⟨rfl, rfl⟩, ⟨rfl, trivial⟩, rfl, trivial⟩

def impl_IsFraction (k : Nat) (a1 : Int) (a2 : Int) : Option Bool :=
  ((impl_in a2 1 1000000).bind fun y3 => (if y3 = true then ((impl_in a1 (-1000000) 1000000).bind fun y6 => (if y6 = true then ((impl_gcd k a1 a2).bind fun y9 => (if y9 = (1 : Int) then some true else some false)) else some false)) else some false))
set_option maxHeartbeats 4000000 in
set_option maxRecDepth 100000 in
theorem impl_IsFraction_ct {k : Nat} {a1 : Int} {a2 : Int} {r : Bool} (h : impl_IsFraction k a1 a2 = some r) : Ct prog 50 [.agg [.d (D.int .i64 a1), .d (D.int .i64 a2)]] (⟨[], []⟩) (.d (D.bool r)) (⟨[], []⟩) := by
  rw [impl_IsFraction] at h
  refine Ct.of (c := _) mixed func50 ⟨rfl, rfl, rfl⟩ ?_ rfl
  conv => whnf
  refine Pick.no ?_
  conv => whnf
  obtain ⟨y3, e4, h⟩ := bind_ex h
  refine CallOk.of (impl_in_ct e4) ?_
  conv => whnf
  refine spl (fun g5 => ?_) (fun g5 => ?_)
  · replace h := iteT h g5
    conv => whnf
    refine Pick.no ?_
    conv => whnf
    obtain ⟨y6, e7, h⟩ := bind_ex h
    refine CallOk.of (impl_in_ct e7) ?_
    conv => whnf
    refine spl (fun g8 => ?_) (fun g8 => ?_)
    · replace h := iteT h g8
      conv => whnf
      refine Pick.no ?_
      conv => whnf
      obtain ⟨y9, e10, h⟩ := bind_ex h
      refine CallOk.of (impl_gcd_ct e10) ?_
      conv => whnf
      refine splD (fun g11 => ?_) (fun g11 => ?_)
      · replace h := iteP h g11
        conv => whnf
        refine CutK.go ?_
        conv => whnf
        cases h
        exact Done.of [] [] rfl rfl ⟨⟨rfl, rfl⟩, ⟨rfl, trivial⟩, rfl, trivial⟩
      · replace h := iteN h g11
        conv => whnf
        refine CutK.go ?_
        conv => whnf
        cases h
        exact Done.of [] [] rfl rfl ⟨⟨rfl, rfl⟩, ⟨rfl, trivial⟩, rfl, trivial⟩
    · replace h := iteF h g8
      conv => whnf
      refine CutK.go ?_
      conv => whnf
      cases h
      exact Done.of [] [] rfl rfl ⟨⟨rfl, rfl⟩, ⟨rfl, trivial⟩, rfl, trivial⟩
  · replace h := iteF h g5
    conv => whnf
    refine CutK.go ?_
    conv => whnf
    cases h
    exact Done.of [] [] rfl rfl ⟨⟨rfl, rfl⟩, ⟨rfl, trivial⟩, rfl, trivial⟩

def impl_compare  (a1 : Int) (a2 : Int) : Option Int :=
  (if a1 < a2 then some (-1) else (if a2 < a1 then some 1 else some 0))
set_option maxHeartbeats 4000000 in
set_option maxRecDepth 100000 in
theorem impl_compare_ct  {a1 : Int} {a2 : Int} {r : Int} (h : impl_compare a1 a2 = some r) : Ct prog 121 [.d (D.int .i64 a1), .d (D.int .i64 a2)] (⟨[], []⟩) (.d (D.int .i64 r)) (⟨[], []⟩) := by
  rw [impl_compare] at h
  refine Ct.of (c := _) mixed func121 ⟨rfl, rfl, rfl⟩ ?_ rfl
  conv => whnf
  refine splD (fun g3 => ?_) (fun g3 => ?_)
  · replace h := iteP h g3
    conv => whnf
    cases h
    exact Done.of [] [] rfl rfl ⟨⟨rfl, rfl⟩, ⟨rfl, trivial⟩, rfl, trivial⟩
  · replace h := iteN h g3
    conv => whnf
    refine splD (fun g4 => ?_) (fun g4 => ?_)
    · replace h := iteP h g4
      conv => whnf
      cases h
      exact Done.of [] [] rfl rfl ⟨⟨rfl, rfl⟩, ⟨rfl, trivial⟩, rfl, trivial⟩
    · replace h := iteN h g4
      conv => whnf
      cases h
      exact Done.of [] [] rfl rfl ⟨⟨rfl, rfl⟩, ⟨rfl, trivial⟩, rfl, trivial⟩

def impl_cmpFractions  (a1 : Int) (a2 : Int) (a3 : Int) (a4 : Int) : Option Int :=
  ((impl_compare (IntKind.i64.wrap (a1 * a4)) (IntKind.i64.wrap (a3 * a2))).bind fun y5 => some y5)
set_option maxHeartbeats 4000000 in
set_option maxRecDepth 100000 in
theorem impl_cmpFractions_ct  {a1 : Int} {a2 : Int} {a3 : Int} {a4 : Int} {r : Int} (h : impl_cmpFractions a1 a2 a3 a4 = some r) : Ct prog 116 [.agg [.d (D.int .i64 a1), .d (D.int .i64 a2)], .agg [.d (D.int .i64 a3), .d (D.int .i64 a4)]] (⟨[], []⟩) (.d (D.int .i64 r)) (⟨[], []⟩) := by
  rw [impl_cmpFractions] at h
  refine Ct.of (c := _) mixed func116 ⟨rfl, rfl, rfl⟩ ?_ rfl
  conv => whnf
  refine Pick.no ?_
  conv => whnf
  obtain ⟨y5, e6, h⟩ := bind_ex h
  refine CallOk.of (impl_compare_ct e6) ?_
  conv => whnf
  refine CutK.go ?_
  conv => whnf
  cases h
  exact Done.of [] [] rfl rfl ⟨⟨rfl, rfl⟩, ⟨rfl, trivial⟩, rfl, trivial⟩

def impl_order_p2  : Option Int :=
  some 0
set_option maxHeartbeats 4000000 in
set_option maxRecDepth 100000 in
theorem impl_order_p2_ct  {r : Int} (h : impl_order_p2 = some r) : X prog 0 (tlF f138 2) (mk 86 [] []) (finK prog f138 0 (.d (D.int .i64 r)) (⟨[], []⟩)) := by
  rw [impl_order_p2] at h
  conv => whnf
  cases h
  exact Done.of [] [] rfl rfl ⟨⟨rfl, rfl⟩, ⟨rfl, trivial⟩, rfl, trivial⟩
def impl_order_l0 (rec_impl_order : Rw → Rw → Option Int) (a1 : Rw) (a2 : Rw) (K0 : Option Int) : Nat → Int → Option Int
  | 0, _ => none
  | n + 1, v211 => (if v211 < (a1.length : Int) then (if v211 = (a1.length : Int) then (row_sii a2 v211 fun x359 x360 x361 => ((impl_compare x360 0).bind fun y364 => some (IntKind.i64.wrap (0 - y364)))) else (if v211 = (a2.length : Int) then (row_sii a1 v211 fun x367 x368 x369 => ((impl_compare x368 0).bind fun y372 => some y372)) else (row_sii a1 v211 fun x374 x375 x376 => (row_sii a2 v211 fun x379 x380 x381 => ((rec_impl_order x374 x379).bind fun y384 => (if y384 = (1 : Int) then ((impl_compare x375 0).bind fun y387 => some y387) else (if y384 = ((-1) : Int) then ((impl_compare x380 0).bind fun y390 => some (IntKind.i64.wrap (0 - y390))) else ((impl_cmpFractions x375 x376 x380 x381).bind fun y392 => (if y392 = (0 : Int) then (impl_order_l0 rec_impl_order a1 a2 K0 n (IntKind.i64.wrap (v211 + 1))) else some y392))))))))) else (if v211 < (a2.length : Int) then (if v211 = (a1.length : Int) then (row_sii a2 v211 fun x397 x398 x399 => ((impl_compare x398 0).bind fun y402 => some (IntKind.i64.wrap (0 - y402)))) else (if v211 = (a2.length : Int) then (row_sii a1 v211 fun x405 x406 x407 => ((impl_compare x406 0).bind fun y410 => some y410)) else (row_sii a1 v211 fun x412 x413 x414 => (row_sii a2 v211 fun x417 x418 x419 => ((rec_impl_order x412 x417).bind fun y422 => (if y422 = (1 : Int) then ((impl_compare x413 0).bind fun y425 => some y425) else (if y422 = ((-1) : Int) then ((impl_compare x418 0).bind fun y428 => some (IntKind.i64.wrap (0 - y428))) else ((impl_cmpFractions x413 x414 x418 x419).bind fun y430 => (if y430 = (0 : Int) then (impl_order_l0 rec_impl_order a1 a2 K0 n (IntKind.i64.wrap (v211 + 1))) else some y430))))))))) else (K0)))
set_option maxHeartbeats 4000000 in
set_option maxRecDepth 100000 in
theorem impl_order_l0_ct {rec_impl_order : Rw → Rw → Option Int} {a1 : Rw} {a2 : Rw} {K0 : Option Int} (hrec_impl_order : ∀ (a1 : Rw) (a2 : Rw) (r : Int), rec_impl_order a1 a2 = some r → Ct prog 138 [.agg [.d (D.sl a1)], .agg [.d (D.sl a2)]] (⟨[], []⟩) (.d (D.int .i64 r)) (⟨[], []⟩)) {r : Int} : ∀ (n : Nat) (v211 : Int), impl_order_l0 rec_impl_order a1 a2 K0 n v211 = some r → LoopOk prog 0 (lp f138 0) (mk 86 [(2, .ptr 128 0), (3, .ptr 192 0), (5, .d (D.int .i64 v211))] [(128, .box 38 [.d (D.sl a1)]), (192, .box 38 [.d (D.sl a2)])]) (LoopEnd prog f138 0 86 (.d (D.int .i64 r)) (⟨[], []⟩) (fun i ts os => (i = 0 ∧ K0 = some r ∧ ts = [] ∧ os = [])))
  | 0, _, h => by
      rw [impl_order_l0] at h; cases h
  | n + 1, v211, h => by
      rw [impl_order_l0] at h
      refine LoopOk.step ?_
      conv => whnf
      refine splD (fun g357 => ?_) (fun g357 => ?_)
      · replace h := iteP h g357
        conv => whnf
        refine splD (fun g358 => ?_) (fun g358 => ?_)
        · replace h := iteP h g358
          conv => whnf
          obtain ⟨g363, x359, x360, x361, e362, h⟩ := row_sii_ex h
          refine Req.of g363 ?_
          refine Row.of _ e362 ?_
          conv => whnf
          refine Pick.no ?_
          conv => whnf
          obtain ⟨y364, e365, h⟩ := bind_ex h
          refine CallOk.of (impl_compare_ct e365) ?_
          conv => whnf
          refine CutK.norm [4] [] ?_
          conv => whnf
          cases h
          exact Done.of [] [] rfl rfl ⟨⟨rfl, rfl⟩, ⟨rfl, trivial⟩, rfl, trivial⟩
        · replace h := iteN h g358
          conv => whnf
          refine CutK.norm [2, 3, 5] [128, 192] ?_
          conv => whnf
          refine splD (fun g366 => ?_) (fun g366 => ?_)
          · replace h := iteP h g366
            conv => whnf
            obtain ⟨g371, x367, x368, x369, e370, h⟩ := row_sii_ex h
            refine Req.of g371 ?_
            refine Row.of _ e370 ?_
            conv => whnf
            refine Pick.no ?_
            conv => whnf
            obtain ⟨y372, e373, h⟩ := bind_ex h
            refine CallOk.of (impl_compare_ct e373) ?_
            conv => whnf
            refine CutK.norm [4] [] ?_
            conv => whnf
            cases h
            exact Done.of [] [] rfl rfl ⟨⟨rfl, rfl⟩, ⟨rfl, trivial⟩, rfl, trivial⟩
          · replace h := iteN h g366
            conv => whnf
            refine CutK.norm [2, 3, 5] [128, 192] ?_
            conv => whnf
            obtain ⟨g378, x374, x375, x376, e377, h⟩ := row_sii_ex h
            refine Req.of g378 ?_
            refine Row.of _ e377 ?_
            conv => whnf
            obtain ⟨g383, x379, x380, x381, e382, h⟩ := row_sii_ex h
            refine Req.of g383 ?_
            refine Row.of _ e382 ?_
            conv => whnf
            refine Pick.no ?_
            conv => whnf
            obtain ⟨y384, e385, h⟩ := bind_ex h
            refine CallOk.of (hrec_impl_order _ _ _ e385) ?_
            conv => whnf
            refine CutK.norm [2, 3, 5, 6, 7, 64] [128, 192, 384, 448] ?_
            conv => whnf
            refine splD (fun g386 => ?_) (fun g386 => ?_)
            · replace h := iteP h g386
              conv => whnf
              refine Pick.no ?_
              conv => whnf
              obtain ⟨y387, e388, h⟩ := bind_ex h
              refine CallOk.of (impl_compare_ct e388) ?_
              conv => whnf
              refine CutK.norm [4] [] ?_
              conv => whnf
              cases h
              exact Done.of [] [] rfl rfl ⟨⟨rfl, rfl⟩, ⟨rfl, trivial⟩, rfl, trivial⟩
            · replace h := iteN h g386
              conv => whnf
              refine splD (fun g389 => ?_) (fun g389 => ?_)
              · replace h := iteP h g389
                conv => whnf
                refine Pick.no ?_
                conv => whnf
                obtain ⟨y390, e391, h⟩ := bind_ex h
                refine CallOk.of (impl_compare_ct e391) ?_
                conv => whnf
                refine CutK.norm [4] [] ?_
                conv => whnf
                cases h
                exact Done.of [] [] rfl rfl ⟨⟨rfl, rfl⟩, ⟨rfl, trivial⟩, rfl, trivial⟩
              · replace h := iteN h g389
                conv => whnf
                refine CutK.norm [2, 3, 5, 6, 7] [128, 192, 384, 448] ?_
                conv => whnf
                refine Pick.no ?_
                conv => whnf
                obtain ⟨y392, e393, h⟩ := bind_ex h
                refine CallOk.of (impl_cmpFractions_ct e393) ?_
                conv => whnf
                refine CutK.norm [2, 3, 5, 8] [128, 192] ?_
                conv => whnf
                refine splN (fun g394 => ?_) (fun g394 => ?_)
                · replace h := iteN h g394
                  conv => whnf
                  cases h
                  exact Done.of [] [] rfl rfl ⟨⟨rfl, rfl⟩, ⟨rfl, trivial⟩, rfl, trivial⟩
                · replace h := iteP h g394
                  conv => whnf
                  refine CutK.norm [2, 3, 5] [128, 192] ?_
                  conv => whnf
                  exact LoopOk.back (impl_order_l0_ct hrec_impl_order n _ h) [some 128, some 192] [] ⟨⟨rfl, rfl⟩, ⟨rfl, ⟨rfl, rfl, trivial⟩, ⟨rfl, rfl, trivial⟩, trivial⟩, ⟨rfl, rfl⟩, ⟨rfl, rfl⟩, rfl, trivial⟩
      · replace h := iteN h g357
        conv => whnf
        refine splD (fun g395 => ?_) (fun g395 => ?_)
        · replace h := iteP h g395
          conv => whnf
          refine splD (fun g396 => ?_) (fun g396 => ?_)
          · replace h := iteP h g396
            conv => whnf
            obtain ⟨g401, x397, x398, x399, e400, h⟩ := row_sii_ex h
            refine Req.of g401 ?_
            refine Row.of _ e400 ?_
            conv => whnf
            refine Pick.no ?_
            conv => whnf
            obtain ⟨y402, e403, h⟩ := bind_ex h
            refine CallOk.of (impl_compare_ct e403) ?_
            conv => whnf
            refine CutK.norm [4] [] ?_
            conv => whnf
            cases h
            exact Done.of [] [] rfl rfl ⟨⟨rfl, rfl⟩, ⟨rfl, trivial⟩, rfl, trivial⟩
          · replace h := iteN h g396
            conv => whnf
            refine CutK.norm [2, 3, 5] [128, 192] ?_
            conv => whnf
            refine splD (fun g404 => ?_) (fun g404 => ?_)
            · replace h := iteP h g404
              conv => whnf
              obtain ⟨g409, x405, x406, x407, e408, h⟩ := row_sii_ex h
              refine Req.of g409 ?_
              refine Row.of _ e408 ?_
              conv => whnf
              refine Pick.no ?_
              conv => whnf
              obtain ⟨y410, e411, h⟩ := bind_ex h
              refine CallOk.of (impl_compare_ct e411) ?_
              conv => whnf
              refine CutK.norm [4] [] ?_
              conv => whnf
              cases h
              exact Done.of [] [] rfl rfl ⟨⟨rfl, rfl⟩, ⟨rfl, trivial⟩, rfl, trivial⟩
            · replace h := iteN h g404
              conv => whnf
              refine CutK.norm [2, 3, 5] [128, 192] ?_
              conv => whnf
              obtain ⟨g416, x412, x413, x414, e415, h⟩ := row_sii_ex h
              refine Req.of g416 ?_
              refine Row.of _ e415 ?_
              conv => whnf
              obtain ⟨g421, x417, x418, x419, e420, h⟩ := row_sii_ex h
              refine Req.of g421 ?_
              refine Row.of _ e420 ?_
              conv => whnf
              refine Pick.no ?_
              conv => whnf
              obtain ⟨y422, e423, h⟩ := bind_ex h
              refine CallOk.of (hrec_impl_order _ _ _ e423) ?_
              conv => whnf
              refine CutK.norm [2, 3, 5, 6, 7, 64] [128, 192, 384, 448] ?_
              conv => whnf
              refine splD (fun g424 => ?_) (fun g424 => ?_)
              · replace h := iteP h g424
                conv => whnf
                refine Pick.no ?_
                conv => whnf
                obtain ⟨y425, e426, h⟩ := bind_ex h
                refine CallOk.of (impl_compare_ct e426) ?_
                conv => whnf
                refine CutK.norm [4] [] ?_
                conv => whnf
                cases h
                exact Done.of [] [] rfl rfl ⟨⟨rfl, rfl⟩, ⟨rfl, trivial⟩, rfl, trivial⟩
              · replace h := iteN h g424
                conv => whnf
                refine splD (fun g427 => ?_) (fun g427 => ?_)
                · replace h := iteP h g427
                  conv => whnf
                  refine Pick.no ?_
                  conv => whnf
                  obtain ⟨y428, e429, h⟩ := bind_ex h
                  refine CallOk.of (impl_compare_ct e429) ?_
                  conv => whnf
                  refine CutK.norm [4] [] ?_
                  conv => whnf
                  cases h
                  exact Done.of [] [] rfl rfl ⟨⟨rfl, rfl⟩, ⟨rfl, trivial⟩, rfl, trivial⟩
                · replace h := iteN h g427
                  conv => whnf
                  refine CutK.norm [2, 3, 5, 6, 7] [128, 192, 384, 448] ?_
                  conv => whnf
                  refine Pick.no ?_
                  conv => whnf
                  obtain ⟨y430, e431, h⟩ := bind_ex h
                  refine CallOk.of (impl_cmpFractions_ct e431) ?_
                  conv => whnf
                  refine CutK.norm [2, 3, 5, 8] [128, 192] ?_
                  conv => whnf
                  refine splN (fun g432 => ?_) (fun g432 => ?_)
                  · replace h := iteN h g432
                    conv => whnf
                    cases h
                    exact Done.of [] [] rfl rfl ⟨⟨rfl, rfl⟩, ⟨rfl, trivial⟩, rfl, trivial⟩
                  · replace h := iteP h g432
                    conv => whnf
                    refine CutK.norm [2, 3, 5] [128, 192] ?_
                    conv => whnf
                    exact LoopOk.back (impl_order_l0_ct hrec_impl_order n _ h) [some 128, some 192] [] ⟨⟨rfl, rfl⟩, ⟨rfl, ⟨rfl, rfl, trivial⟩, ⟨rfl, rfl, trivial⟩, trivial⟩, ⟨rfl, rfl⟩, ⟨rfl, rfl⟩, rfl, trivial⟩
        · replace h := iteN h g395
          conv => whnf
          exact ⟨_, _, [], [], ⟨rfl, h, rfl, rfl⟩, ⟨⟨rfl, rfl⟩, ⟨rfl, trivial⟩, trivial⟩⟩
def impl_order_b (k : Nat) (rec_impl_order : Rw → Rw → Option Int) (a1 : Rw) (a2 : Rw) : Option Int :=
  (impl_order_l0 rec_impl_order a1 a2 (impl_order_p2) k 0)
set_option maxHeartbeats 4000000 in
set_option maxRecDepth 100000 in
theorem impl_order_b_ct {k : Nat} {rec_impl_order : Rw → Rw → Option Int} (hrec_impl_order : ∀ (a1 : Rw) (a2 : Rw) (r : Int), rec_impl_order a1 a2 = some r → Ct prog 138 [.agg [.d (D.sl a1)], .agg [.d (D.sl a2)]] (⟨[], []⟩) (.d (D.int .i64 r)) (⟨[], []⟩)) {a1 : Rw} {a2 : Rw} {r : Int} (h : impl_order_b k rec_impl_order a1 a2 = some r) : Ct prog 138 [.agg [.d (D.sl a1)], .agg [.d (D.sl a2)]] (⟨[], []⟩) (.d (D.int .i64 r)) (⟨[], []⟩) := by
  rw [impl_order_b] at h
  refine Ct.of (c := _) mixed func138 ⟨rfl, rfl, rfl⟩ ?_ rfl
  conv => whnf
  refine LoopOk.into (impl_order_l0_ct hrec_impl_order _ _ h) [some 128, some 192] [] ⟨⟨rfl, rfl⟩, ⟨rfl, ⟨rfl, rfl, trivial⟩, ⟨rfl, rfl, trivial⟩, trivial⟩, ⟨rfl, rfl⟩, ⟨rfl, rfl⟩, rfl, trivial⟩ ?_ (fun _ hs => hs)
  rintro i ts os ⟨rfl, h, rfl, rfl⟩
  conv => whnf
  exact CutK.piece (impl_order_p2_ct  h) [] [] ⟨⟨rfl, rfl⟩, ⟨rfl, trivial⟩, trivial⟩
def impl_order : Nat → Rw → Rw → Option Int
  | 0, _, _ => none
  | k + 1, a1, a2 => impl_order_b k (impl_order k) a1 a2
theorem impl_order_ct' : ∀ (k : Nat) (a1 : Rw) (a2 : Rw) (r : Int), impl_order k a1 a2 = some r → Ct prog 138 [.agg [.d (D.sl a1)], .agg [.d (D.sl a2)]] (⟨[], []⟩) (.d (D.int .i64 r)) (⟨[], []⟩)
  | 0, _, _, _, h => by rw [impl_order] at h; cases h
  | k + 1, _, _, _, h => by rw [impl_order] at h; exact impl_order_b_ct (impl_order_ct' k) h
theorem impl_order_ct {k : Nat} {a1 : Rw} {a2 : Rw} {r : Int} (h : impl_order k a1 a2 = some r) : Ct prog 138 [.agg [.d (D.sl a1)], .agg [.d (D.sl a2)]] (⟨[], []⟩) (.d (D.int .i64 r)) (⟨[], []⟩) := impl_order_ct' k _ _ _ h

def impl_surrealAt_2_p3 (o71 : Int) : Option (Bool × Int) :=
  some (true, o71)
set_option maxHeartbeats 4000000 in
set_option maxRecDepth 100000 in
theorem impl_surrealAt_2_p3_ct {o71 : Int} {r : Bool × Int} (h : impl_surrealAt_2_p3 o71 = some r) : X prog 1 (tlF f125 3) (mk 91 [] [(0, .box 3 [.d (D.int .i64 o71)])]) (finK prog f125 1 (.d (D.bool r.1)) (⟨[(3, [.d (D.int .i64 r.2)])], []⟩)) := by
  rw [impl_surrealAt_2_p3] at h
  conv => whnf
  cases h
  exact Done.of [some 0] [] rfl rfl ⟨⟨rfl, rfl⟩, ⟨rfl, ⟨rfl, rfl, trivial⟩, trivial⟩, rfl, trivial⟩
def impl_surrealAt_2_l0 (k : Nat) (rec_impl_surrealAt_2 : Rw → Int → Int → Int → Int → Option (Bool × Int)) (a1 : Rw) (a2 : Int) (a3 : Int) (a4 : Int) (K0 : Int → Option (Bool × Int)) : Rw → Nat → Int → Option (Bool × Int)
  | [], v88n, v89 => (K0 v89)
  | cs :: rest, v88n, v89 => (cell_sii cs fun x137 x138 x139 => (if (60 : Int) < (IntKind.i64.wrap (v89 + 1)) then some (false, IntKind.i64.wrap (v89 + 1)) else ((impl_IsFraction k x138 x139).bind fun y142 => (if y142 = true then (if x138 = (0 : Int) then some (false, IntKind.i64.wrap (v89 + 1)) else ((rec_impl_surrealAt_2 x137 x138 x139 (IntKind.i64.wrap (a4 + 1)) (IntKind.i64.wrap (v89 + 1))).bind fun y146 => (if y146.1 = true then (if (0 : Int) < (v88n : Int) then (row_sii a1 (IntKind.i64.wrap ((v88n : Int) - 1)) fun x150 x151 x152 => ((impl_order k x150 x137).bind fun y155 => (if y155 ≤ (0 : Int) then some (false, y146.2) else (impl_surrealAt_2_l0 k rec_impl_surrealAt_2 a1 a2 a3 a4 K0 rest (v88n + 1) y146.2)))) else (impl_surrealAt_2_l0 k rec_impl_surrealAt_2 a1 a2 a3 a4 K0 rest (v88n + 1) y146.2)) else some (false, y146.2)))) else some (false, IntKind.i64.wrap (v89 + 1))))))
set_option maxHeartbeats 4000000 in
set_option maxRecDepth 100000 in
theorem impl_surrealAt_2_l0_ct {k : Nat} {rec_impl_surrealAt_2 : Rw → Int → Int → Int → Int → Option (Bool × Int)} {a1 : Rw} {a2 : Int} {a3 : Int} {a4 : Int} {K0 : Int → Option (Bool × Int)} (hrec_impl_surrealAt_2 : ∀ (a1 : Rw) (a2 : Int) (a3 : Int) (a4 : Int) (a5 : Int) (r : Bool × Int), rec_impl_surrealAt_2 a1 a2 a3 a4 a5 = some r → Ct prog 125 [.dp [D.sl a1, D.int .i64 a2, D.int .i64 a3], .d (D.int .i64 a4), .ptr 0 0] (⟨[(3, [.d (D.int .i64 a5)])], []⟩) (.d (D.bool r.1)) (⟨[(3, [.d (D.int .i64 r.2)])], []⟩)) {r : Bool × Int} (hx : a1.length ≤ cap) : ∀ (rest : Rw) (v88n : Nat) (v89 : Int), a1.drop v88n = rest → impl_surrealAt_2_l0 k rec_impl_surrealAt_2 a1 a2 a3 a4 K0 rest v88n v89 = some r → LoopOk prog 1 (lp f125 0) (mk 91 [(0, .dp [D.sl a1, D.int .i64 a2, D.int .i64 a3]), (1, .d (D.int .i64 a4)), (2, .ptr 0 0), (26, .d (D.int .i64 (a1.length : Int))), (27, .d (D.int .i64 (v88n : Int)))] [(0, .box 3 [.d (D.int .i64 v89)])]) (LoopEnd prog f125 1 91 (.d (D.bool r.1)) (⟨[(3, [.d (D.int .i64 r.2)])], []⟩) (fun i ts os => (i = 0 ∧ ∃ v113 : Int, K0 v113 = some r ∧ ts = [] ∧ os = [(0, .box 3 [.d (D.int .i64 v113)])])))
  | [], v88n, v89, hd, h => by
      rw [impl_surrealAt_2_l0] at h
      have hn := drop_nil hd
      refine LoopOk.step ?_
      conv => whnf
      refine splD (fun g => absurd g hn) (fun _ => ?_)
      conv => whnf
      exact ⟨_, _, [some 0], [], ⟨rfl, _, h, rfl, rfl⟩, ⟨⟨rfl, rfl⟩, ⟨rfl, ⟨rfl, rfl, trivial⟩, trivial⟩, trivial⟩⟩
  | cs :: rest, v88n, v89, hd, h => by
      rw [impl_surrealAt_2_l0] at h
      obtain ⟨hrow, hd1, hlt⟩ := drop_cons hd
      refine LoopOk.step ?_
      conv => whnf
      refine splD (fun _ => ?_) (fun g => absurd hlt g)
      conv => whnf
      obtain ⟨x137, x138, x139, e140, h⟩ := cell_sii_ex h
      rw [e140] at hrow
      refine Req.of (Int.natCast_nonneg _) ?_
      refine Row.of _ hrow ?_
      conv => whnf
      refine splD (fun g141 => ?_) (fun g141 => ?_)
      · replace h := iteP h g141
        conv => whnf
        refine CutK.norm [0, 1, 2, 7, 8, 26, 27, 70] [0] ?_
        conv => whnf
        cases h
        exact Done.of [some 0] [] rfl rfl ⟨⟨rfl, rfl⟩, ⟨rfl, ⟨rfl, rfl, trivial⟩, trivial⟩, rfl, trivial⟩
      · replace h := iteN h g141
        conv => whnf
        refine Pick.no ?_
        conv => whnf
        obtain ⟨y142, e143, h⟩ := bind_ex h
        refine CallOk.of (impl_IsFraction_ct e143) ?_
        conv => whnf
        refine spl (fun g144 => ?_) (fun g144 => ?_)
        · replace h := iteT h g144
          conv => whnf
          refine splD (fun g145 => ?_) (fun g145 => ?_)
          · replace h := iteP h g145
            conv => whnf
            refine CutK.norm [0, 1, 2, 7, 8, 26, 27, 70] [0] ?_
            conv => whnf
            cases h
            exact Done.of [some 0] [] rfl rfl ⟨⟨rfl, rfl⟩, ⟨rfl, ⟨rfl, rfl, trivial⟩, trivial⟩, rfl, trivial⟩
          · replace h := iteN h g145
            conv => whnf
            refine Pick.no ?_
            conv => whnf
            obtain ⟨y146, e147, h⟩ := bind_ex h
            refine CallOk.of (hrec_impl_surrealAt_2 _ _ _ _ _ _ e147) ?_
            conv => whnf
            refine spl (fun g148 => ?_) (fun g148 => ?_)
            · replace h := iteT h g148
              conv => whnf
              refine CutK.norm [0, 1, 2, 7, 8, 26, 27, 70] [0] ?_
              conv => whnf
              refine CutK.norm [0, 1, 2, 7, 8, 26, 27] [0] ?_
              conv => whnf
              refine splD (fun g149 => ?_) (fun g149 => ?_)
              · replace h := iteP h g149
                conv => whnf
                obtain ⟨g154, x150, x151, x152, e153, h⟩ := row_sii_ex h
                refine Req.of g154 ?_
                refine Row.of _ e153 ?_
                conv => whnf
                refine Pick.no ?_
                conv => whnf
                obtain ⟨y155, e156, h⟩ := bind_ex h
                refine CallOk.of (impl_order_ct e156) ?_
                conv => whnf
                refine splD (fun g157 => ?_) (fun g157 => ?_)
                · replace h := iteP h g157
                  conv => whnf
                  refine CutK.norm [0, 1, 2, 26, 27, 89] [0] ?_
                  conv => whnf
                  cases h
                  exact Done.of [some 0] [] rfl rfl ⟨⟨rfl, rfl⟩, ⟨rfl, ⟨rfl, rfl, trivial⟩, trivial⟩, rfl, trivial⟩
                · replace h := iteN h g157
                  conv => whnf
                  refine CutK.norm [0, 1, 2, 26, 27, 89] [0] ?_
                  conv => whnf
                  refine CutK.norm [0, 1, 2, 26, 27] [0] ?_
                  conv => whnf
                  exact LoopOk.back (impl_surrealAt_2_l0_ct hrec_impl_surrealAt_2 hx rest (v88n + 1) _ hd1 h) [some 0] [] ⟨⟨rfl, rfl⟩, ⟨rfl, ⟨rfl, rfl, trivial⟩, trivial⟩, rfl, rfl, ⟨rfl, rfl⟩, rfl, i64eq (wrap_up hlt hx), trivial⟩
              · replace h := iteN h g149
                conv => whnf
                refine CutK.norm [0, 1, 2, 26, 27, 89] [0] ?_
                conv => whnf
                refine CutK.norm [0, 1, 2, 26, 27] [0] ?_
                conv => whnf
                exact LoopOk.back (impl_surrealAt_2_l0_ct hrec_impl_surrealAt_2 hx rest (v88n + 1) _ hd1 h) [some 0] [] ⟨⟨rfl, rfl⟩, ⟨rfl, ⟨rfl, rfl, trivial⟩, trivial⟩, rfl, rfl, ⟨rfl, rfl⟩, rfl, i64eq (wrap_up hlt hx), trivial⟩
            · replace h := iteF h g148
              conv => whnf
              refine CutK.norm [0, 1, 2, 7, 8, 26, 27, 70] [0] ?_
              conv => whnf
              cases h
              exact Done.of [some 0] [] rfl rfl ⟨⟨rfl, rfl⟩, ⟨rfl, ⟨rfl, rfl, trivial⟩, trivial⟩, rfl, trivial⟩
        · replace h := iteF h g144
          conv => whnf
          refine CutK.norm [0, 1, 2, 7, 8, 26, 27, 70] [0] ?_
          conv => whnf
          cases h
          exact Done.of [some 0] [] rfl rfl ⟨⟨rfl, rfl⟩, ⟨rfl, ⟨rfl, rfl, trivial⟩, trivial⟩, rfl, trivial⟩
def impl_surrealAt_2_b (k : Nat) (rec_impl_surrealAt_2 : Rw → Int → Int → Int → Int → Option (Bool × Int)) (a1 : Rw) (a2 : Int) (a3 : Int) (a4 : Int) (a5 : Int) : Option (Bool × Int) :=
  (if (60 : Int) < (IntKind.i64.wrap (a5 + 1)) then some (false, IntKind.i64.wrap (a5 + 1)) else (if (6 : Int) < a4 then some (false, IntKind.i64.wrap (a5 + 1)) else (if a1.length ≤ cap then (impl_surrealAt_2_l0 k rec_impl_surrealAt_2 a1 a2 a3 a4 (fun (v113 : Int) => (impl_surrealAt_2_p3 v113)) a1 0 (IntKind.i64.wrap (a5 + 1))) else none)))
set_option maxHeartbeats 4000000 in
set_option maxRecDepth 100000 in
theorem impl_surrealAt_2_b_ct {k : Nat} {rec_impl_surrealAt_2 : Rw → Int → Int → Int → Int → Option (Bool × Int)} (hrec_impl_surrealAt_2 : ∀ (a1 : Rw) (a2 : Int) (a3 : Int) (a4 : Int) (a5 : Int) (r : Bool × Int), rec_impl_surrealAt_2 a1 a2 a3 a4 a5 = some r → Ct prog 125 [.dp [D.sl a1, D.int .i64 a2, D.int .i64 a3], .d (D.int .i64 a4), .ptr 0 0] (⟨[(3, [.d (D.int .i64 a5)])], []⟩) (.d (D.bool r.1)) (⟨[(3, [.d (D.int .i64 r.2)])], []⟩)) {a1 : Rw} {a2 : Int} {a3 : Int} {a4 : Int} {a5 : Int} {r : Bool × Int} (h : impl_surrealAt_2_b k rec_impl_surrealAt_2 a1 a2 a3 a4 a5 = some r) : Ct prog 125 [.dp [D.sl a1, D.int .i64 a2, D.int .i64 a3], .d (D.int .i64 a4), .ptr 0 0] (⟨[(3, [.d (D.int .i64 a5)])], []⟩) (.d (D.bool r.1)) (⟨[(3, [.d (D.int .i64 r.2)])], []⟩) := by
  rw [impl_surrealAt_2_b] at h
  refine Ct.of (c := _) mixed func125 ⟨rfl, rfl, rfl⟩ ?_ rfl
  conv => whnf
  refine splD (fun g72 => ?_) (fun g72 => ?_)
  · replace h := iteP h g72
    conv => whnf
    cases h
    exact Done.of [some 0] [] rfl rfl ⟨⟨rfl, rfl⟩, ⟨rfl, ⟨rfl, rfl, trivial⟩, trivial⟩, rfl, trivial⟩
  · replace h := iteN h g72
    conv => whnf
    refine splD (fun g73 => ?_) (fun g73 => ?_)
    · replace h := iteP h g73
      conv => whnf
      cases h
      exact Done.of [some 0] [] rfl rfl ⟨⟨rfl, rfl⟩, ⟨rfl, ⟨rfl, rfl, trivial⟩, trivial⟩, rfl, trivial⟩
    · replace h := iteN h g73
      conv => whnf
      obtain ⟨g158, h⟩ := req_ex h
      refine LoopOk.into (impl_surrealAt_2_l0_ct hrec_impl_surrealAt_2 g158 _ _ _ rfl h) [some 0] [] ⟨⟨rfl, rfl⟩, ⟨rfl, ⟨rfl, rfl, trivial⟩, trivial⟩, rfl, rfl, ⟨rfl, rfl⟩, rfl, rfl, trivial⟩ ?_ (fun _ hs => hs)
      rintro i ts os ⟨rfl, v113, h, rfl, rfl⟩
      conv => whnf
      exact CutK.piece (impl_surrealAt_2_p3_ct  h) [some 0] [] ⟨⟨rfl, rfl⟩, ⟨rfl, ⟨rfl, rfl, trivial⟩, trivial⟩, trivial⟩
def impl_surrealAt_2 : Nat → Rw → Int → Int → Int → Int → Option (Bool × Int)
  | 0, _, _, _, _, _ => none
  | k + 1, a1, a2, a3, a4, a5 => impl_surrealAt_2_b k (impl_surrealAt_2 k) a1 a2 a3 a4 a5
theorem impl_surrealAt_2_ct' : ∀ (k : Nat) (a1 : Rw) (a2 : Int) (a3 : Int) (a4 : Int) (a5 : Int) (r : Bool × Int), impl_surrealAt_2 k a1 a2 a3 a4 a5 = some r → Ct prog 125 [.dp [D.sl a1, D.int .i64 a2, D.int .i64 a3], .d (D.int .i64 a4), .ptr 0 0] (⟨[(3, [.d (D.int .i64 a5)])], []⟩) (.d (D.bool r.1)) (⟨[(3, [.d (D.int .i64 r.2)])], []⟩)
  | 0, _, _, _, _, _, _, h => by rw [impl_surrealAt_2] at h; cases h
  | k + 1, _, _, _, _, _, _, h => by rw [impl_surrealAt_2] at h; exact impl_surrealAt_2_b_ct (impl_surrealAt_2_ct' k) h
theorem impl_surrealAt_2_ct {k : Nat} {a1 : Rw} {a2 : Int} {a3 : Int} {a4 : Int} {a5 : Int} {r : Bool × Int} (h : impl_surrealAt_2 k a1 a2 a3 a4 a5 = some r) : Ct prog 125 [.dp [D.sl a1, D.int .i64 a2, D.int .i64 a3], .d (D.int .i64 a4), .ptr 0 0] (⟨[(3, [.d (D.int .i64 a5)])], []⟩) (.d (D.bool r.1)) (⟨[(3, [.d (D.int .i64 r.2)])], []⟩) := impl_surrealAt_2_ct' k _ _ _ _ _ _ h

def impl_surrealAt_p3 (a1 : Rw) (o69 : Int) : Option (Bool × Rw × Int) :=
  some (true, a1, o69)
set_option maxHeartbeats 4000000 in
set_option maxRecDepth 100000 in
theorem impl_surrealAt_p3_ct {a1 : Rw} {o69 : Int} {r : Bool × Rw × Int} (h : impl_surrealAt_p3 a1 o69 = some r) : X prog 2 (tlF f125 3) (mk 91 [] [(0, .box 38 [.d (D.sl a1)]), (64, .box 3 [.d (D.int .i64 o69)])]) (finK prog f125 2 (.d (D.bool r.1)) (⟨[(38, [.d (D.sl r.2.1)]), (3, [.d (D.int .i64 r.2.2)])], []⟩)) := by
  rw [impl_surrealAt_p3] at h
  conv => whnf
  cases h
  exact Done.of [some 0, some 64] [] rfl rfl ⟨⟨rfl, rfl⟩, ⟨rfl, ⟨rfl, rfl, trivial⟩, ⟨rfl, rfl, trivial⟩, trivial⟩, rfl, trivial⟩
def impl_surrealAt_l0 (k : Nat) (a1 : Rw) (a2 : Int) (K0 : Int → Option (Bool × Rw × Int)) : Rw → Nat → Int → Option (Bool × Rw × Int)
  | [], v86n, v87 => (K0 v87)
  | cs :: rest, v86n, v87 => (cell_sii cs fun x135 x136 x137 => (if (60 : Int) < (IntKind.i64.wrap (v87 + 1)) then some (false, a1, IntKind.i64.wrap (v87 + 1)) else ((impl_IsFraction k x136 x137).bind fun y140 => (if y140 = true then (if x136 = (0 : Int) then some (false, a1, IntKind.i64.wrap (v87 + 1)) else ((impl_surrealAt_2 k x135 x136 x137 (IntKind.i64.wrap (a2 + 1)) (IntKind.i64.wrap (v87 + 1))).bind fun y144 => (if y144.1 = true then (if (0 : Int) < (v86n : Int) then (row_sii a1 (IntKind.i64.wrap ((v86n : Int) - 1)) fun x148 x149 x150 => ((impl_order k x148 x135).bind fun y153 => (if y153 ≤ (0 : Int) then some (false, a1, y144.2) else (impl_surrealAt_l0 k a1 a2 K0 rest (v86n + 1) y144.2)))) else (impl_surrealAt_l0 k a1 a2 K0 rest (v86n + 1) y144.2)) else some (false, a1, y144.2)))) else some (false, a1, IntKind.i64.wrap (v87 + 1))))))
set_option maxHeartbeats 4000000 in
set_option maxRecDepth 100000 in
theorem impl_surrealAt_l0_ct {k : Nat} {a1 : Rw} {a2 : Int} {K0 : Int → Option (Bool × Rw × Int)} {r : Bool × Rw × Int} (hx : a1.length ≤ cap) : ∀ (rest : Rw) (v86n : Nat) (v87 : Int), a1.drop v86n = rest → impl_surrealAt_l0 k a1 a2 K0 rest v86n v87 = some r → LoopOk prog 2 (lp f125 0) (mk 91 [(0, .ptr 0 0), (1, .d (D.int .i64 a2)), (2, .ptr 64 0), (26, .d (D.int .i64 (a1.length : Int))), (27, .d (D.int .i64 (v86n : Int)))] [(0, .box 38 [.d (D.sl a1)]), (64, .box 3 [.d (D.int .i64 v87)])]) (LoopEnd prog f125 2 91 (.d (D.bool r.1)) (⟨[(38, [.d (D.sl r.2.1)]), (3, [.d (D.int .i64 r.2.2)])], []⟩) (fun i ts os => (i = 0 ∧ ∃ v111 : Int, K0 v111 = some r ∧ ts = [] ∧ os = [(0, .box 38 [.d (D.sl a1)]), (64, .box 3 [.d (D.int .i64 v111)])])))
  | [], v86n, v87, hd, h => by
      rw [impl_surrealAt_l0] at h
      have hn := drop_nil hd
      refine LoopOk.step ?_
      conv => whnf
      refine splD (fun g => absurd g hn) (fun _ => ?_)
      conv => whnf
      exact ⟨_, _, [some 0, some 64], [], ⟨rfl, _, h, rfl, rfl⟩, ⟨⟨rfl, rfl⟩, ⟨rfl, ⟨rfl, rfl, trivial⟩, ⟨rfl, rfl, trivial⟩, trivial⟩, trivial⟩⟩
  | cs :: rest, v86n, v87, hd, h => by
      rw [impl_surrealAt_l0] at h
      obtain ⟨hrow, hd1, hlt⟩ := drop_cons hd
      refine LoopOk.step ?_
      conv => whnf
      refine splD (fun _ => ?_) (fun g => absurd hlt g)
      conv => whnf
      obtain ⟨x135, x136, x137, e138, h⟩ := cell_sii_ex h
      rw [e138] at hrow
      refine Req.of (Int.natCast_nonneg _) ?_
      refine Row.of _ hrow ?_
      conv => whnf
      refine splD (fun g139 => ?_) (fun g139 => ?_)
      · replace h := iteP h g139
        conv => whnf
        refine CutK.norm [0, 1, 2, 7, 8, 26, 27, 70] [0, 64] ?_
        conv => whnf
        cases h
        exact Done.of [some 0, some 64] [] rfl rfl ⟨⟨rfl, rfl⟩, ⟨rfl, ⟨rfl, rfl, trivial⟩, ⟨rfl, rfl, trivial⟩, trivial⟩, rfl, trivial⟩
      · replace h := iteN h g139
        conv => whnf
        refine Pick.no ?_
        conv => whnf
        obtain ⟨y140, e141, h⟩ := bind_ex h
        refine CallOk.of (impl_IsFraction_ct e141) ?_
        conv => whnf
        refine spl (fun g142 => ?_) (fun g142 => ?_)
        · replace h := iteT h g142
          conv => whnf
          refine splD (fun g143 => ?_) (fun g143 => ?_)
          · replace h := iteP h g143
            conv => whnf
            refine CutK.norm [0, 1, 2, 7, 8, 26, 27, 70] [0, 64] ?_
            conv => whnf
            cases h
            exact Done.of [some 0, some 64] [] rfl rfl ⟨⟨rfl, rfl⟩, ⟨rfl, ⟨rfl, rfl, trivial⟩, ⟨rfl, rfl, trivial⟩, trivial⟩, rfl, trivial⟩
          · replace h := iteN h g143
            conv => whnf
            refine Pick.no ?_
            conv => whnf
            obtain ⟨y144, e145, h⟩ := bind_ex h
            refine CallOk.of (impl_surrealAt_2_ct e145) ?_
            conv => whnf
            refine spl (fun g146 => ?_) (fun g146 => ?_)
            · replace h := iteT h g146
              conv => whnf
              refine CutK.norm [0, 1, 2, 7, 8, 26, 27, 70] [0, 64] ?_
              conv => whnf
              refine CutK.norm [0, 1, 2, 7, 8, 26, 27] [0, 64] ?_
              conv => whnf
              refine splD (fun g147 => ?_) (fun g147 => ?_)
              · replace h := iteP h g147
                conv => whnf
                obtain ⟨g152, x148, x149, x150, e151, h⟩ := row_sii_ex h
                refine Req.of g152 ?_
                refine Row.of _ e151 ?_
                conv => whnf
                refine Pick.no ?_
                conv => whnf
                obtain ⟨y153, e154, h⟩ := bind_ex h
                refine CallOk.of (impl_order_ct e154) ?_
                conv => whnf
                refine splD (fun g155 => ?_) (fun g155 => ?_)
                · replace h := iteP h g155
                  conv => whnf
                  refine CutK.norm [0, 1, 2, 26, 27, 89] [0, 64] ?_
                  conv => whnf
                  cases h
                  exact Done.of [some 0, some 64] [] rfl rfl ⟨⟨rfl, rfl⟩, ⟨rfl, ⟨rfl, rfl, trivial⟩, ⟨rfl, rfl, trivial⟩, trivial⟩, rfl, trivial⟩
                · replace h := iteN h g155
                  conv => whnf
                  refine CutK.norm [0, 1, 2, 26, 27, 89] [0, 64] ?_
                  conv => whnf
                  refine CutK.norm [0, 1, 2, 26, 27] [0, 64] ?_
                  conv => whnf
                  exact LoopOk.back (impl_surrealAt_l0_ct hx rest (v86n + 1) _ hd1 h) [some 0, some 64] [] ⟨⟨rfl, rfl⟩, ⟨rfl, ⟨rfl, rfl, trivial⟩, ⟨rfl, rfl, trivial⟩, trivial⟩, ⟨rfl, rfl⟩, rfl, ⟨rfl, rfl⟩, rfl, i64eq (wrap_up hlt hx), trivial⟩
              · replace h := iteN h g147
                conv => whnf
                refine CutK.norm [0, 1, 2, 26, 27, 89] [0, 64] ?_
                conv => whnf
                refine CutK.norm [0, 1, 2, 26, 27] [0, 64] ?_
                conv => whnf
                exact LoopOk.back (impl_surrealAt_l0_ct hx rest (v86n + 1) _ hd1 h) [some 0, some 64] [] ⟨⟨rfl, rfl⟩, ⟨rfl, ⟨rfl, rfl, trivial⟩, ⟨rfl, rfl, trivial⟩, trivial⟩, ⟨rfl, rfl⟩, rfl, ⟨rfl, rfl⟩, rfl, i64eq (wrap_up hlt hx), trivial⟩
            · replace h := iteF h g146
              conv => whnf
              refine CutK.norm [0, 1, 2, 7, 8, 26, 27, 70] [0, 64] ?_
              conv => whnf
              cases h
              exact Done.of [some 0, some 64] [] rfl rfl ⟨⟨rfl, rfl⟩, ⟨rfl, ⟨rfl, rfl, trivial⟩, ⟨rfl, rfl, trivial⟩, trivial⟩, rfl, trivial⟩
        · replace h := iteF h g142
          conv => whnf
          refine CutK.norm [0, 1, 2, 7, 8, 26, 27, 70] [0, 64] ?_
          conv => whnf
          cases h
          exact Done.of [some 0, some 64] [] rfl rfl ⟨⟨rfl, rfl⟩, ⟨rfl, ⟨rfl, rfl, trivial⟩, ⟨rfl, rfl, trivial⟩, trivial⟩, rfl, trivial⟩
def impl_surrealAt (k : Nat) (a1 : Rw) (a2 : Int) (a3 : Int) : Option (Bool × Rw × Int) :=
  (if (60 : Int) < (IntKind.i64.wrap (a3 + 1)) then some (false, a1, IntKind.i64.wrap (a3 + 1)) else (if (6 : Int) < a2 then some (false, a1, IntKind.i64.wrap (a3 + 1)) else (if a1.length ≤ cap then (impl_surrealAt_l0 k a1 a2 (fun (v111 : Int) => (impl_surrealAt_p3 a1 v111)) a1 0 (IntKind.i64.wrap (a3 + 1))) else none)))
set_option maxHeartbeats 4000000 in
set_option maxRecDepth 100000 in
theorem impl_surrealAt_ct {k : Nat} {a1 : Rw} {a2 : Int} {a3 : Int} {r : Bool × Rw × Int} (h : impl_surrealAt k a1 a2 a3 = some r) : Ct prog 125 [.ptr 0 0, .d (D.int .i64 a2), .ptr 64 0] (⟨[(38, [.d (D.sl a1)]), (3, [.d (D.int .i64 a3)])], []⟩) (.d (D.bool r.1)) (⟨[(38, [.d (D.sl r.2.1)]), (3, [.d (D.int .i64 r.2.2)])], []⟩) := by
  rw [impl_surrealAt] at h
  refine Ct.of (c := _) mixed func125 ⟨rfl, rfl, rfl⟩ ?_ rfl
  conv => whnf
  refine splD (fun g70 => ?_) (fun g70 => ?_)
  · replace h := iteP h g70
    conv => whnf
    cases h
    exact Done.of [some 0, some 64] [] rfl rfl ⟨⟨rfl, rfl⟩, ⟨rfl, ⟨rfl, rfl, trivial⟩, ⟨rfl, rfl, trivial⟩, trivial⟩, rfl, trivial⟩
  · replace h := iteN h g70
    conv => whnf
    refine splD (fun g71 => ?_) (fun g71 => ?_)
    · replace h := iteP h g71
      conv => whnf
      cases h
      exact Done.of [some 0, some 64] [] rfl rfl ⟨⟨rfl, rfl⟩, ⟨rfl, ⟨rfl, rfl, trivial⟩, ⟨rfl, rfl, trivial⟩, trivial⟩, rfl, trivial⟩
    · replace h := iteN h g71
      conv => whnf
      obtain ⟨g156, h⟩ := req_ex h
      refine LoopOk.into (impl_surrealAt_l0_ct  g156 _ _ _ rfl h) [some 0, some 64] [] ⟨⟨rfl, rfl⟩, ⟨rfl, ⟨rfl, rfl, trivial⟩, ⟨rfl, rfl, trivial⟩, trivial⟩, ⟨rfl, rfl⟩, rfl, ⟨rfl, rfl⟩, rfl, rfl, trivial⟩ ?_ (fun _ hs => hs)
      rintro i ts os ⟨rfl, v111, h, rfl, rfl⟩
      conv => whnf
      exact CutK.piece (impl_surrealAt_p3_ct  h) [some 0, some 64] [] ⟨⟨rfl, rfl⟩, ⟨rfl, ⟨rfl, rfl, trivial⟩, ⟨rfl, rfl, trivial⟩, trivial⟩, trivial⟩

def impl_IsSurreal (k : Nat) (a1 : Rw) : Option Bool :=
  ((impl_surrealAt k a1 0 0).bind fun y2 => (if y2.1 = true then some true else some false))
set_option maxHeartbeats 4000000 in
set_option maxRecDepth 100000 in
theorem impl_IsSurreal_ct {k : Nat} {a1 : Rw} {r : Bool} (h : impl_IsSurreal k a1 = some r) : Ct prog 56 [.agg [.d (D.sl a1)]] (⟨[], []⟩) (.d (D.bool r)) (⟨[], []⟩) := by
  rw [impl_IsSurreal] at h
  refine Ct.of (c := _) mixed func56 ⟨rfl, rfl, rfl⟩ ?_ rfl
  conv => whnf
  refine Pick.no ?_
  conv => whnf
  obtain ⟨y2, e3, h⟩ := bind_ex h
  refine CallOk.of (impl_surrealAt_ct e3) ?_
  conv => whnf
  refine spl (fun g4 => ?_) (fun g4 => ?_)
  · replace h := iteT h g4
    conv => whnf
    refine CutK.go ?_
    conv => whnf
    cases h
    exact Done.of [] [] rfl rfl ⟨⟨rfl, rfl⟩, ⟨rfl, trivial⟩, rfl, trivial⟩
  · replace h := iteF h g4
    conv => whnf
    refine CutK.go ?_
    conv => whnf
    cases h
    exact Done.of [] [] rfl rfl ⟨⟨rfl, rfl⟩, ⟨rfl, trivial⟩, rfl, trivial⟩

def impl_stepsOk  (a1 : Int) : Option Bool :=
  ((impl_in a1 0 12).bind fun y2 => (if y2 = true then some true else some false))
set_option maxHeartbeats 4000000 in
set_option maxRecDepth 100000 in
theorem impl_stepsOk_ct  {a1 : Int} {r : Bool} (h : impl_stepsOk a1 = some r) : Ct prog 65 [.d (D.int .i64 a1)] (⟨[], []⟩) (.d (D.bool r)) (⟨[], []⟩) := by
  rw [impl_stepsOk] at h
  refine Ct.of (c := _) mixed func65 ⟨rfl, rfl, rfl⟩ ?_ rfl
  conv => whnf
  refine Pick.no ?_
  conv => whnf
  obtain ⟨y2, e3, h⟩ := bind_ex h
  refine CallOk.of (impl_in_ct e3) ?_
  conv => whnf
  refine spl (fun g4 => ?_) (fun g4 => ?_)
  · replace h := iteT h g4
    conv => whnf
    refine CutK.go ?_
    conv => whnf
    cases h
    exact Done.of [] [] rfl rfl ⟨⟨rfl, rfl⟩, ⟨rfl, trivial⟩, rfl, trivial⟩
  · replace h := iteF h g4
    conv => whnf
    refine CutK.go ?_
    conv => whnf
    cases h
    exact Done.of [] [] rfl rfl ⟨⟨rfl, rfl⟩, ⟨rfl, trivial⟩, rfl, trivial⟩

def impl_whole  (a1 : Int) : Option (Int × Int) :=
  some (a1, 1)
set_option maxHeartbeats 4000000 in
set_option maxRecDepth 100000 in
theorem impl_whole_ct  {a1 : Int} {r : Int × Int} (h : impl_whole a1 = some r) : Ct prog 135 [.d (D.int .i64 a1)] (⟨[], []⟩) (.agg [.d (D.int .i64 r.1), .d (D.int .i64 r.2)]) (⟨[], []⟩) := by
  rw [impl_whole] at h
  refine Ct.of (c := _) mixed func135 ⟨rfl, rfl, rfl⟩ ?_ rfl
  conv => whnf
  cases h
  exact Done.of [] [] rfl rfl ⟨⟨rfl, rfl⟩, ⟨rfl, trivial⟩, ⟨rfl, rfl, trivial⟩, trivial⟩

def impl_term_2  (a1 : Int) (a2 : Int) : Option Rw :=
  (if a1 = (0 : Int) then some ([] : Rw) else some ([[D.sl ([]), D.int .i64 a1, D.int .i64 a2]] : Rw))
set_option maxHeartbeats 4000000 in
set_option maxRecDepth 100000 in
theorem impl_term_2_ct  {a1 : Int} {a2 : Int} {r : Rw} (h : impl_term_2 a1 a2 = some r) : Ct prog 128 [.agg [.es], .agg [.d (D.int .i64 a1), .d (D.int .i64 a2)]] (⟨[], []⟩) (.agg [.os 8 r.length]) (⟨[], [(109, true, r)]⟩) := by
  rw [impl_term_2] at h
  refine Ct.of (c := _) mixed func128 ⟨rfl, rfl, rfl⟩ ?_ rfl
  conv => whnf
  refine splD (fun g3 => ?_) (fun g3 => ?_)
  · replace h := iteP h g3
    conv => whnf
    cases h
    exact Done.of [none] [] rfl rfl ⟨⟨rfl, rfl⟩, ⟨rfl, rfl, trivial⟩, ⟨⟨rfl, rfl⟩, trivial⟩, trivial⟩
  · replace h := iteN h g3
    conv => whnf
    cases h
    exact Done.of [some 768] [] rfl rfl ⟨⟨rfl, rfl⟩, ⟨rfl, ⟨rfl, rfl, rows_same⟩, trivial⟩, ⟨⟨(by first | rfl | exact List.length_append.symm | (simp; done) | omega), rfl⟩, trivial⟩, trivial⟩

def impl_real  (a1 : Int) (a2 : Int) : Option Rw :=
  ((impl_term_2 a1 a2).bind fun y3 => some y3)
set_option maxHeartbeats 4000000 in
set_option maxRecDepth 100000 in
theorem impl_real_ct  {a1 : Int} {a2 : Int} {r : Rw} (h : impl_real a1 a2 = some r) : Ct prog 59 [.agg [.d (D.int .i64 a1), .d (D.int .i64 a2)]] (⟨[], []⟩) (.agg [.os 8 r.length]) (⟨[], [(109, true, r)]⟩) := by
  rw [impl_real] at h
  refine Ct.of (c := _) mixed func59 ⟨rfl, rfl, rfl⟩ ?_ rfl
  conv => whnf
  refine Pick.yes ?_
  conv => whnf
  obtain ⟨y3, e4, h⟩ := bind_ex h
  refine CallOk.of (impl_term_2_ct e4) ?_
  conv => whnf
  refine CutK.go ?_
  conv => whnf
  cases h
  exact Done.of [some 320] [] rfl rfl ⟨⟨rfl, rfl⟩, ⟨rfl, ⟨rfl, rfl, rows_same⟩, trivial⟩, ⟨⟨rfl, rfl⟩, trivial⟩, trivial⟩

def impl_cloneSurreal_l0 (rec_impl_cloneSurreal : Rw → Option Rw) (a1 : Rw) (K0 : Rw → Option Rw) : Rw → Rw → Option Rw
  | [], v11 => (K0 v11)
  | cs :: rest, v11 => (cell_sii cs fun x31 x32 x33 => ((rec_impl_cloneSurreal x31).bind fun y35 => (if v11.length + 1 ≤ cap then (impl_cloneSurreal_l0 rec_impl_cloneSurreal a1 K0 rest (v11 ++ ([[D.sl y35, D.int .i64 x32, D.int .i64 x33]]))) else none)))
set_option maxHeartbeats 4000000 in
set_option maxRecDepth 100000 in
theorem impl_cloneSurreal_l0_ct {rec_impl_cloneSurreal : Rw → Option Rw} {a1 : Rw} {K0 : Rw → Option Rw} (hrec_impl_cloneSurreal : ∀ (a1 : Rw) (r : Rw), rec_impl_cloneSurreal a1 = some r → Ct prog 136 [.agg [.d (D.sl a1)]] (⟨[], []⟩) (.agg [.os 8 r.length]) (⟨[], [(109, true, r)]⟩)) {r : Rw} (hx : a1.length ≤ cap) : ∀ (rest : Rw) (v10n : Nat) (v11 : Rw), a1.drop v10n = rest → impl_cloneSurreal_l0 rec_impl_cloneSurreal a1 K0 rest v11 = some r → LoopOk prog 0 (lp f136 0) (mk 27 [(2, .ptr 128 0), (3, .ptr 192 0), (8, .d (D.sl a1)), (9, .d (D.int .i64 (a1.length : Int))), (10, .d (D.int .i64 (v10n : Int)))] [(128, .box 38 [.es]), (192, .box 38 [.os 64000 v11.length]), (64000, .arr 109 true v11)]) (LoopEnd prog f136 0 27 (.agg [.os 8 r.length]) (⟨[], [(109, true, r)]⟩) (fun i ts os => (i = 0 ∧ ∃ v21 : Rw, K0 v21 = some r ∧ ts = [(2, .ptr 128 0), (3, .ptr 192 0)] ∧ os = [(128, .box 38 [.es]), (192, .box 38 [.os 67001 v21.length]), (67001, .arr 109 true v21)])))
  | [], v10n, v11, hd, h => by
      rw [impl_cloneSurreal_l0] at h
      have hn := drop_nil hd
      refine LoopOk.step ?_
      conv => whnf
      refine splD (fun g => absurd g hn) (fun _ => ?_)
      conv => whnf
      exact ⟨_, _, [some 128, some 192, some 64000], [], ⟨rfl, _, h, rfl, rfl⟩, ⟨⟨rfl, rfl⟩, ⟨rfl, ⟨rfl, trivial, trivial⟩, ⟨rfl, ⟨rfl, rfl⟩, trivial⟩, ⟨rfl, rfl, rows_same⟩, trivial⟩, ⟨rfl, rfl⟩, ⟨rfl, rfl⟩, trivial⟩⟩
  | cs :: rest, v10n, v11, hd, h => by
      rw [impl_cloneSurreal_l0] at h
      obtain ⟨hrow, hd1, hlt⟩ := drop_cons hd
      refine LoopOk.step ?_
      conv => whnf
      refine splD (fun _ => ?_) (fun g => absurd hlt g)
      conv => whnf
      obtain ⟨x31, x32, x33, e34, h⟩ := cell_sii_ex h
      rw [e34] at hrow
      refine Req.of (Int.natCast_nonneg _) ?_
      refine Row.of _ hrow ?_
      conv => whnf
      refine Pick.no ?_
      conv => whnf
      obtain ⟨y35, e36, h⟩ := bind_ex h
      refine CallOk.of (hrec_impl_cloneSurreal _ _ e36) ?_
      conv => whnf
      refine Take.all (rfl) ?_
      conv => whnf
      refine Take.all (rfl) ?_
      conv => whnf
      refine Take.all (by first | rfl | exact List.length_append.symm | (simp; done) | omega) ?_
      conv => whnf
      obtain ⟨g37, h⟩ := req_ex h
      refine Req.of (room (b := 40) (by decide) g37 (wide1 rfl wide0)) ?_
      conv => whnf
      refine CutK.go ?_
      conv => whnf
      exact LoopOk.back (impl_cloneSurreal_l0_ct hrec_impl_cloneSurreal hx rest (v10n + 1) _ hd1 h) [some 128, some 192, some 1472] [] ⟨⟨rfl, rfl⟩, ⟨rfl, ⟨rfl, trivial, trivial⟩, ⟨rfl, ⟨(by first | rfl | exact List.length_append.symm | (simp; done) | omega), rfl⟩, trivial⟩, ⟨rfl, rfl, rows_same⟩, trivial⟩, ⟨rfl, rfl⟩, ⟨rfl, rfl⟩, rfl, rfl, i64eq (wrap_up hlt hx), trivial⟩
def impl_cloneSurreal_b (rec_impl_cloneSurreal : Rw → Option Rw) (a1 : Rw) : Option Rw :=
  (if a1.length ≤ cap then (impl_cloneSurreal_l0 rec_impl_cloneSurreal a1 (fun (v21 : Rw) => some v21) a1 ([] : Rw)) else none)
set_option maxHeartbeats 4000000 in
set_option maxRecDepth 100000 in
theorem impl_cloneSurreal_b_ct {rec_impl_cloneSurreal : Rw → Option Rw} (hrec_impl_cloneSurreal : ∀ (a1 : Rw) (r : Rw), rec_impl_cloneSurreal a1 = some r → Ct prog 136 [.agg [.d (D.sl a1)]] (⟨[], []⟩) (.agg [.os 8 r.length]) (⟨[], [(109, true, r)]⟩)) {a1 : Rw} {r : Rw} (h : impl_cloneSurreal_b rec_impl_cloneSurreal a1 = some r) : Ct prog 136 [.agg [.d (D.sl a1)]] (⟨[], []⟩) (.agg [.os 8 r.length]) (⟨[], [(109, true, r)]⟩) := by
  rw [impl_cloneSurreal_b] at h
  refine Ct.of (c := _) mixed func136 ⟨rfl, rfl, rfl⟩ ?_ rfl
  conv => whnf
  obtain ⟨g38, h⟩ := req_ex h
  refine LoopOk.into (impl_cloneSurreal_l0_ct hrec_impl_cloneSurreal g38 _ _ _ rfl h) [some 128, some 192, none] [] ⟨⟨rfl, rfl⟩, ⟨rfl, ⟨rfl, trivial, trivial⟩, ⟨rfl, ⟨rfl, rfl⟩, trivial⟩, rfl, trivial⟩, ⟨rfl, rfl⟩, ⟨rfl, rfl⟩, rfl, rfl, rfl, trivial⟩ ?_ (fun _ hs => hs)
  rintro i ts os ⟨rfl, v21, h, rfl, rfl⟩
  conv => whnf
  refine CutK.go ?_
  conv => whnf
  cases h
  exact Done.of [some 67001] [] rfl rfl ⟨⟨rfl, rfl⟩, ⟨rfl, ⟨rfl, rfl, rows_same⟩, trivial⟩, ⟨⟨rfl, rfl⟩, trivial⟩, trivial⟩
def impl_cloneSurreal : Nat → Rw → Option Rw
  | 0, _ => none
  | k + 1, a1 => impl_cloneSurreal_b (impl_cloneSurreal k) a1
theorem impl_cloneSurreal_ct' : ∀ (k : Nat) (a1 : Rw) (r : Rw), impl_cloneSurreal k a1 = some r → Ct prog 136 [.agg [.d (D.sl a1)]] (⟨[], []⟩) (.agg [.os 8 r.length]) (⟨[], [(109, true, r)]⟩)
  | 0, _, _, h => by rw [impl_cloneSurreal] at h; cases h
  | k + 1, _, _, h => by rw [impl_cloneSurreal] at h; exact impl_cloneSurreal_b_ct (impl_cloneSurreal_ct' k) h
theorem impl_cloneSurreal_ct {k : Nat} {a1 : Rw} {r : Rw} (h : impl_cloneSurreal k a1 = some r) : Ct prog 136 [.agg [.d (D.sl a1)]] (⟨[], []⟩) (.agg [.os 8 r.length]) (⟨[], [(109, true, r)]⟩) := impl_cloneSurreal_ct' k _ _ h

def impl_toldSurreal (k : Nat) (a1 : Rw) (a2 : Bool) : Option (Rw × Bool) :=
  (cond a2 ((impl_IsSurreal k a1).bind fun y3 => (if y3 = true then ((impl_cloneSurreal k a1).bind fun y6 => some (y6, true)) else some (([] : Rw), false))) (some (([] : Rw), false)))
set_option maxHeartbeats 4000000 in
set_option maxRecDepth 100000 in
theorem impl_toldSurreal_ct {k : Nat} {a1 : Rw} {a2 : Bool} {r : Rw × Bool} (h : impl_toldSurreal k a1 a2 = some r) : Ct prog 67 [.agg [.d (D.sl a1)], .d (D.bool a2)] (⟨[], []⟩) (.tup [.agg [.os 8 r.1.length], .d (D.bool r.2)]) (⟨[], [(109, true, r.1)]⟩) := by
  rw [impl_toldSurreal] at h
  refine Ct.of (c := _) mixed func67 ⟨rfl, rfl, rfl⟩ ?_ rfl
  cases a2
  · replace h := condF h
    conv => whnf
    refine CutK.go ?_
    conv => whnf
    cases h
    exact Done.of [none] [] rfl rfl ⟨⟨rfl, rfl⟩, ⟨rfl, rfl, trivial⟩, ⟨⟨⟨rfl, rfl⟩, trivial⟩, rfl, trivial⟩, trivial⟩
  · replace h := condT h
    conv => whnf
    refine Pick.no ?_
    conv => whnf
    obtain ⟨y3, e4, h⟩ := bind_ex h
    refine CallOk.of (impl_IsSurreal_ct e4) ?_
    conv => whnf
    refine spl (fun g5 => ?_) (fun g5 => ?_)
    · replace h := iteT h g5
      conv => whnf
      refine CutK.go ?_
      conv => whnf
      refine CutK.go ?_
      conv => whnf
      refine Pick.no ?_
      conv => whnf
      obtain ⟨y6, e7, h⟩ := bind_ex h
      refine CallOk.of (impl_cloneSurreal_ct e7) ?_
      conv => whnf
      refine CutK.go ?_
      conv => whnf
      cases h
      exact Done.of [some 960] [] rfl rfl ⟨⟨rfl, rfl⟩, ⟨rfl, ⟨rfl, rfl, rows_same⟩, trivial⟩, ⟨⟨⟨rfl, rfl⟩, trivial⟩, rfl, trivial⟩, trivial⟩
    · replace h := iteF h g5
      conv => whnf
      refine CutK.go ?_
      conv => whnf
      cases h
      exact Done.of [none] [] rfl rfl ⟨⟨rfl, rfl⟩, ⟨rfl, rfl, trivial⟩, ⟨⟨⟨rfl, rfl⟩, trivial⟩, rfl, trivial⟩, trivial⟩

def impl_surreals (k : Nat) (a1 : Rw) (a2 : Rw) : Option Bool :=
  ((impl_IsSurreal k a1).bind fun y3 => (if y3 = true then ((impl_IsSurreal k a2).bind fun y6 => (if y6 = true then some true else some false)) else some false))
set_option maxHeartbeats 4000000 in
set_option maxRecDepth 100000 in
theorem impl_surreals_ct {k : Nat} {a1 : Rw} {a2 : Rw} {r : Bool} (h : impl_surreals k a1 a2 = some r) : Ct prog 69 [.agg [.d (D.sl a1)], .agg [.d (D.sl a2)]] (⟨[], []⟩) (.d (D.bool r)) (⟨[], []⟩) := by
  rw [impl_surreals] at h
  refine Ct.of (c := _) mixed func69 ⟨rfl, rfl, rfl⟩ ?_ rfl
  conv => whnf
  refine Pick.no ?_
  conv => whnf
  obtain ⟨y3, e4, h⟩ := bind_ex h
  refine CallOk.of (impl_IsSurreal_ct e4) ?_
  conv => whnf
  refine spl (fun g5 => ?_) (fun g5 => ?_)
  · replace h := iteT h g5
    conv => whnf
    refine Pick.no ?_
    conv => whnf
    obtain ⟨y6, e7, h⟩ := bind_ex h
    refine CallOk.of (impl_IsSurreal_ct e7) ?_
    conv => whnf
    refine spl (fun g8 => ?_) (fun g8 => ?_)
    · replace h := iteT h g8
      conv => whnf
      refine CutK.go ?_
      conv => whnf
      cases h
      exact Done.of [] [] rfl rfl ⟨⟨rfl, rfl⟩, ⟨rfl, trivial⟩, rfl, trivial⟩
    · replace h := iteF h g8
      conv => whnf
      refine CutK.go ?_
      conv => whnf
      cases h
      exact Done.of [] [] rfl rfl ⟨⟨rfl, rfl⟩, ⟨rfl, trivial⟩, rfl, trivial⟩
  · replace h := iteF h g5
    conv => whnf
    refine CutK.go ?_
    conv => whnf
    cases h
    exact Done.of [] [] rfl rfl ⟨⟨rfl, rfl⟩, ⟨rfl, trivial⟩, rfl, trivial⟩

def impl_AddFractions_1  (a1 : Int) (a2 : Int) (a3 : Int) (a4 : Int) : Option (Int × Int × Int × Int × Int × Int) :=
  some (IntKind.i64.wrap ((IntKind.i64.wrap (a1 * a4)) + (IntKind.i64.wrap (a3 * a2))), IntKind.i64.wrap (a2 * a4), a1, a2, a3, a4)
set_option maxHeartbeats 4000000 in
set_option maxRecDepth 100000 in
theorem impl_AddFractions_1_ct  {a1 : Int} {a2 : Int} {a3 : Int} {a4 : Int} {r : Int × Int × Int × Int × Int × Int} (h : impl_AddFractions_1 a1 a2 a3 a4 = some r) : Ct prog 177 [.ptr 0 0, .ptr 64 0] (⟨[(28, [.d (D.int .i64 a1), .d (D.int .i64 a2)]), (28, [.d (D.int .i64 a3), .d (D.int .i64 a4)])], []⟩) (.tup [.d (D.int .i64 r.1), .d (D.int .i64 r.2.1)]) (⟨[(28, [.d (D.int .i64 r.2.2.1), .d (D.int .i64 r.2.2.2.1)]), (28, [.d (D.int .i64 r.2.2.2.2.1), .d (D.int .i64 r.2.2.2.2.2)])], []⟩) := by
  rw [impl_AddFractions_1] at h
  refine Ct.of (c := _) mixed func177 ⟨rfl, rfl, rfl⟩ ?_ rfl
  conv => whnf
  cases h
  exact Done.of [some 0, some 64] [] rfl rfl ⟨⟨rfl, rfl⟩, ⟨rfl, ⟨rfl, rfl, rfl, trivial⟩, ⟨rfl, rfl, rfl, trivial⟩, trivial⟩, ⟨rfl, rfl, trivial⟩, trivial⟩

def impl_made (k : Nat) (a1 : Int) (a2 : Int) : Option (Int × Int × Bool) :=
  (if a2 = (0 : Int) then some (0, 0, false) else ((impl_gcd k a1 a2).bind fun y4 => (if a2 < (0 : Int) then (if (IntKind.i64.wrap (0 - y4)) ≠ 0 then ((impl_IsFraction k (IntKind.i64.wrap (a1.tdiv (IntKind.i64.wrap (0 - y4)))) (IntKind.i64.wrap (a2.tdiv (IntKind.i64.wrap (0 - y4))))).bind fun y8 => (if y8 = true then some (IntKind.i64.wrap (a1.tdiv (IntKind.i64.wrap (0 - y4))), IntKind.i64.wrap (a2.tdiv (IntKind.i64.wrap (0 - y4))), true) else some (0, 0, false))) else none) else (if y4 ≠ 0 then ((impl_IsFraction k (IntKind.i64.wrap (a1.tdiv y4)) (IntKind.i64.wrap (a2.tdiv y4))).bind fun y12 => (if y12 = true then some (IntKind.i64.wrap (a1.tdiv y4), IntKind.i64.wrap (a2.tdiv y4), true) else some (0, 0, false))) else none))))
set_option maxHeartbeats 4000000 in
set_option maxRecDepth 100000 in
theorem impl_made_ct {k : Nat} {a1 : Int} {a2 : Int} {r : Int × Int × Bool} (h : impl_made k a1 a2 = some r) : Ct prog 165 [.d (D.int .i64 a1), .d (D.int .i64 a2)] (⟨[], []⟩) (.tup [.agg [.d (D.int .i64 r.1), .d (D.int .i64 r.2.1)], .d (D.bool r.2.2)]) (⟨[], []⟩) := by
  rw [impl_made] at h
  refine Ct.of (c := _) mixed func165 ⟨rfl, rfl, rfl⟩ ?_ rfl
  conv => whnf
  refine splD (fun g3 => ?_) (fun g3 => ?_)
  · replace h := iteP h g3
    conv => whnf
    cases h
    exact Done.of [] [] rfl rfl ⟨⟨rfl, rfl⟩, ⟨rfl, trivial⟩, ⟨⟨rfl, rfl, trivial⟩, rfl, trivial⟩, trivial⟩
  · replace h := iteN h g3
    conv => whnf
    refine Pick.no ?_
    conv => whnf
    obtain ⟨y4, e5, h⟩ := bind_ex h
    refine CallOk.of (impl_gcd_ct e5) ?_
    conv => whnf
    refine CutK.go ?_
    conv => whnf
    refine splD (fun g6 => ?_) (fun g6 => ?_)
    · replace h := iteP h g6
      conv => whnf
      obtain ⟨g7, h⟩ := req_ex h
      refine Req.of g7 ?_
      conv => whnf
      refine Req.of g7 ?_
      conv => whnf
      refine Pick.no ?_
      conv => whnf
      obtain ⟨y8, e9, h⟩ := bind_ex h
      refine CallOk.of (impl_IsFraction_ct e9) ?_
      conv => whnf
      refine spl (fun g10 => ?_) (fun g10 => ?_)
      · replace h := iteT h g10
        conv => whnf
        refine CutK.go ?_
        conv => whnf
        refine CutK.go ?_
        conv => whnf
        cases h
        exact Done.of [] [] rfl rfl ⟨⟨rfl, rfl⟩, ⟨rfl, trivial⟩, ⟨⟨rfl, rfl, trivial⟩, rfl, trivial⟩, trivial⟩
      · replace h := iteF h g10
        conv => whnf
        refine CutK.go ?_
        conv => whnf
        cases h
        exact Done.of [] [] rfl rfl ⟨⟨rfl, rfl⟩, ⟨rfl, trivial⟩, ⟨⟨rfl, rfl, trivial⟩, rfl, trivial⟩, trivial⟩
    · replace h := iteN h g6
      conv => whnf
      obtain ⟨g11, h⟩ := req_ex h
      refine Req.of g11 ?_
      conv => whnf
      refine Req.of g11 ?_
      conv => whnf
      refine Pick.no ?_
      conv => whnf
      obtain ⟨y12, e13, h⟩ := bind_ex h
      refine CallOk.of (impl_IsFraction_ct e13) ?_
      conv => whnf
      refine spl (fun g14 => ?_) (fun g14 => ?_)
      · replace h := iteT h g14
        conv => whnf
        refine CutK.go ?_
        conv => whnf
        refine CutK.go ?_
        conv => whnf
        cases h
        exact Done.of [] [] rfl rfl ⟨⟨rfl, rfl⟩, ⟨rfl, trivial⟩, ⟨⟨rfl, rfl, trivial⟩, rfl, trivial⟩, trivial⟩
      · replace h := iteF h g14
        conv => whnf
        refine CutK.go ?_
        conv => whnf
        cases h
        exact Done.of [] [] rfl rfl ⟨⟨rfl, rfl⟩, ⟨rfl, trivial⟩, ⟨⟨rfl, rfl, trivial⟩, rfl, trivial⟩, trivial⟩

def impl_two__AddFractions_1 (k : Nat) (a1 : Int) (a2 : Int) (a3 : Int) (a4 : Int) (a5 : Int) (a6 : Int) (a7 : Int) (a8 : Int) : Option (Int × Int × Bool × Int × Int × Int × Int) :=
  ((impl_IsFraction k a1 a2).bind fun y9 => (if y9 = true then ((impl_IsFraction k a3 a4).bind fun y12 => (if y12 = true then ((impl_AddFractions_1 a5 a6 a7 a8).bind fun y15 => ((impl_made k y15.1 y15.2.1).bind fun y17 => (if y17.2.2 = true then some (y17.1, y17.2.1, true, y15.2.2.1, y15.2.2.2.1, y15.2.2.2.2.1, y15.2.2.2.2.2) else some (y17.1, y17.2.1, false, y15.2.2.1, y15.2.2.2.1, y15.2.2.2.2.1, y15.2.2.2.2.2)))) else some (0, 0, false, a5, a6, a7, a8))) else some (0, 0, false, a5, a6, a7, a8)))
set_option maxHeartbeats 4000000 in
set_option maxRecDepth 100000 in
theorem impl_two__AddFractions_1_ct {k : Nat} {a1 : Int} {a2 : Int} {a3 : Int} {a4 : Int} {a5 : Int} {a6 : Int} {a7 : Int} {a8 : Int} {r : Int × Int × Bool × Int × Int × Int × Int} (h : impl_two__AddFractions_1 k a1 a2 a3 a4 a5 a6 a7 a8 = some r) : Ct prog 175 [.agg [.d (D.int .i64 a1), .d (D.int .i64 a2)], .agg [.d (D.int .i64 a3), .d (D.int .i64 a4)], .fn 177 [.ptr 0 0, .ptr 64 0]] (⟨[(28, [.d (D.int .i64 a5), .d (D.int .i64 a6)]), (28, [.d (D.int .i64 a7), .d (D.int .i64 a8)])], []⟩) (.tup [.agg [.d (D.int .i64 r.1), .d (D.int .i64 r.2.1)], .d (D.bool r.2.2.1)]) (⟨[(28, [.d (D.int .i64 r.2.2.2.1), .d (D.int .i64 r.2.2.2.2.1)]), (28, [.d (D.int .i64 r.2.2.2.2.2.1), .d (D.int .i64 r.2.2.2.2.2.2)])], []⟩) := by
  rw [impl_two__AddFractions_1] at h
  refine Ct.of (c := _) mixed func175 ⟨rfl, rfl, rfl⟩ ?_ rfl
  conv => whnf
  refine Pick.no ?_
  conv => whnf
  obtain ⟨y9, e10, h⟩ := bind_ex h
  refine CallOk.of (impl_IsFraction_ct e10) ?_
  conv => whnf
  refine spl (fun g11 => ?_) (fun g11 => ?_)
  · replace h := iteT h g11
    conv => whnf
    refine Pick.no ?_
    conv => whnf
    obtain ⟨y12, e13, h⟩ := bind_ex h
    refine CallOk.of (impl_IsFraction_ct e13) ?_
    conv => whnf
    refine spl (fun g14 => ?_) (fun g14 => ?_)
    · replace h := iteT h g14
      conv => whnf
      refine CutK.go ?_
      conv => whnf
      refine CutK.go ?_
      conv => whnf
      refine Pick.no ?_
      conv => whnf
      obtain ⟨y15, e16, h⟩ := bind_ex h
      refine CallOk.of (impl_AddFractions_1_ct e16) ?_
      conv => whnf
      refine Pick.no ?_
      conv => whnf
      obtain ⟨y17, e18, h⟩ := bind_ex h
      refine CallOk.of (impl_made_ct e18) ?_
      conv => whnf
      refine spl (fun g19 => ?_) (fun g19 => ?_)
      · replace h := iteT h g19
        conv => whnf
        refine CutK.go ?_
        conv => whnf
        cases h
        exact Done.of [some 0, some 64] [] rfl rfl ⟨⟨rfl, rfl⟩, ⟨rfl, ⟨rfl, rfl, rfl, trivial⟩, ⟨rfl, rfl, rfl, trivial⟩, trivial⟩, ⟨⟨rfl, rfl, trivial⟩, rfl, trivial⟩, trivial⟩
      · replace h := iteF h g19
        conv => whnf
        refine CutK.go ?_
        conv => whnf
        cases h
        exact Done.of [some 0, some 64] [] rfl rfl ⟨⟨rfl, rfl⟩, ⟨rfl, ⟨rfl, rfl, rfl, trivial⟩, ⟨rfl, rfl, rfl, trivial⟩, trivial⟩, ⟨⟨rfl, rfl, trivial⟩, rfl, trivial⟩, trivial⟩
    · replace h := iteF h g14
      conv => whnf
      refine CutK.go ?_
      conv => whnf
      cases h
      exact Done.of [some 0, some 64] [] rfl rfl ⟨⟨rfl, rfl⟩, ⟨rfl, ⟨rfl, rfl, rfl, trivial⟩, ⟨rfl, rfl, rfl, trivial⟩, trivial⟩, ⟨⟨rfl, rfl, trivial⟩, rfl, trivial⟩, trivial⟩
  · replace h := iteF h g11
    conv => whnf
    refine CutK.go ?_
    conv => whnf
    cases h
    exact Done.of [some 0, some 64] [] rfl rfl ⟨⟨rfl, rfl⟩, ⟨rfl, ⟨rfl, rfl, rfl, trivial⟩, ⟨rfl, rfl, rfl, trivial⟩, trivial⟩, ⟨⟨rfl, rfl, trivial⟩, rfl, trivial⟩, trivial⟩

def impl_AddFractions (k : Nat) (a1 : Int) (a2 : Int) (a3 : Int) (a4 : Int) : Option (Int × Int × Bool) :=
  ((impl_two__AddFractions_1 k a1 a2 a3 a4 a1 a2 a3 a4).bind fun y5 => (if y5.2.2.1 = true then some (y5.1, y5.2.1, true) else some (y5.1, y5.2.1, false)))
set_option maxHeartbeats 4000000 in
set_option maxRecDepth 100000 in
theorem impl_AddFractions_ct {k : Nat} {a1 : Int} {a2 : Int} {a3 : Int} {a4 : Int} {r : Int × Int × Bool} (h : impl_AddFractions k a1 a2 a3 a4 = some r) : Ct prog 139 [.agg [.d (D.int .i64 a1), .d (D.int .i64 a2)], .agg [.d (D.int .i64 a3), .d (D.int .i64 a4)]] (⟨[], []⟩) (.tup [.agg [.d (D.int .i64 r.1), .d (D.int .i64 r.2.1)], .d (D.bool r.2.2)]) (⟨[], []⟩) := by
  rw [impl_AddFractions] at h
  refine Ct.of (c := _) mixed func139 ⟨rfl, rfl, rfl⟩ ?_ rfl
  conv => whnf
  refine Pick.no ?_
  conv => whnf
  obtain ⟨y5, e6, h⟩ := bind_ex h
  refine CallOk.of (impl_two__AddFractions_1_ct e6) ?_
  conv => whnf
  refine spl (fun g7 => ?_) (fun g7 => ?_)
  · replace h := iteT h g7
    conv => whnf
    refine CutK.go ?_
    conv => whnf
    cases h
    exact Done.of [] [] rfl rfl ⟨⟨rfl, rfl⟩, ⟨rfl, trivial⟩, ⟨⟨rfl, rfl, trivial⟩, rfl, trivial⟩, trivial⟩
  · replace h := iteF h g7
    conv => whnf
    refine CutK.go ?_
    conv => whnf
    cases h
    exact Done.of [] [] rfl rfl ⟨⟨rfl, rfl⟩, ⟨rfl, trivial⟩, ⟨⟨rfl, rfl, trivial⟩, rfl, trivial⟩, trivial⟩

def impl_sum_p4 (o203 : Rw) : Option (Rw × Bool) :=
  some (o203, true)
set_option maxHeartbeats 4000000 in
set_option maxRecDepth 100000 in
theorem impl_sum_p4_ct {o203 : Rw} {r : Rw × Bool} (h : impl_sum_p4 o203 = some r) : X prog 0 (tlF f70 4) (mk 119 [(4, .ptr 256 0), (6, .ptr 384 0)] [(256, .box 38 [.es]), (384, .box 38 [.os 1084000 o203.length]), (1084000, .arr 109 false o203)]) (finK prog f70 0 (.tup [.agg [.os 8 r.1.length], .d (D.bool r.2)]) (⟨[], [(109, false, r.1)]⟩)) := by
  rw [impl_sum_p4] at h
  conv => whnf
  cases h
  exact Done.of [some 1084000] [] rfl rfl ⟨⟨rfl, rfl⟩, ⟨rfl, ⟨rfl, rfl, rows_same⟩, trivial⟩, ⟨⟨⟨rfl, rfl⟩, trivial⟩, rfl, trivial⟩, trivial⟩
def impl_sum_l0 (k : Nat) (a1 : Rw) (a2 : Rw) (K0 : Rw → Option (Rw × Bool)) : Nat → Int → Rw → Int → Option (Rw × Bool)
  | 0, _, _, _ => none
  | n + 1, v211, v212, v228 => (if v211 < (a1.length : Int) then (if v228 = (a2.length : Int) then (row_sii a1 v211 fun x406 x407 x408 => (if v212.length + 1 ≤ cap then (impl_sum_l0 k a1 a2 K0 n (IntKind.i64.wrap (v211 + 1)) (v212 ++ ([[D.sl x406, D.int .i64 x407, D.int .i64 x408]])) v228) else none)) else (if v211 = (a1.length : Int) then (row_sii a2 v228 fun x413 x414 x415 => (if v212.length + 1 ≤ cap then (impl_sum_l0 k a1 a2 K0 n v211 (v212 ++ ([[D.sl x413, D.int .i64 x414, D.int .i64 x415]])) (IntKind.i64.wrap (v228 + 1))) else none)) else (row_sii a1 v211 fun x419 x420 x421 => (row_sii a2 v228 fun x424 x425 x426 => ((impl_order k x419 x424).bind fun y429 => (if y429 = (1 : Int) then (if v212.length + 1 ≤ cap then (impl_sum_l0 k a1 a2 K0 n (IntKind.i64.wrap (v211 + 1)) (v212 ++ ([[D.sl x419, D.int .i64 x420, D.int .i64 x421]])) v228) else none) else (if y429 = ((-1) : Int) then (if v212.length + 1 ≤ cap then (impl_sum_l0 k a1 a2 K0 n v211 (v212 ++ ([[D.sl x424, D.int .i64 x425, D.int .i64 x426]])) (IntKind.i64.wrap (v228 + 1))) else none) else ((impl_AddFractions k x420 x421 x425 x426).bind fun y435 => (if y435.2.2 = true then (if y435.1 = (0 : Int) then (impl_sum_l0 k a1 a2 K0 n (IntKind.i64.wrap (v211 + 1)) v212 (IntKind.i64.wrap (v228 + 1))) else (if v212.length + 1 ≤ cap then (impl_sum_l0 k a1 a2 K0 n (IntKind.i64.wrap (v211 + 1)) (v212 ++ ([[D.sl x419, D.int .i64 y435.1, D.int .i64 y435.2.1]])) (IntKind.i64.wrap (v228 + 1))) else none)) else some (([] : Rw), false)))))))))) else (if v228 < (a2.length : Int) then (if v228 = (a2.length : Int) then (row_sii a1 v211 fun x442 x443 x444 => (if v212.length + 1 ≤ cap then (impl_sum_l0 k a1 a2 K0 n (IntKind.i64.wrap (v211 + 1)) (v212 ++ ([[D.sl x442, D.int .i64 x443, D.int .i64 x444]])) v228) else none)) else (if v211 = (a1.length : Int) then (row_sii a2 v228 fun x449 x450 x451 => (if v212.length + 1 ≤ cap then (impl_sum_l0 k a1 a2 K0 n v211 (v212 ++ ([[D.sl x449, D.int .i64 x450, D.int .i64 x451]])) (IntKind.i64.wrap (v228 + 1))) else none)) else (row_sii a1 v211 fun x455 x456 x457 => (row_sii a2 v228 fun x460 x461 x462 => ((impl_order k x455 x460).bind fun y465 => (if y465 = (1 : Int) then (if v212.length + 1 ≤ cap then (impl_sum_l0 k a1 a2 K0 n (IntKind.i64.wrap (v211 + 1)) (v212 ++ ([[D.sl x455, D.int .i64 x456, D.int .i64 x457]])) v228) else none) else (if y465 = ((-1) : Int) then (if v212.length + 1 ≤ cap then (impl_sum_l0 k a1 a2 K0 n v211 (v212 ++ ([[D.sl x460, D.int .i64 x461, D.int .i64 x462]])) (IntKind.i64.wrap (v228 + 1))) else none) else ((impl_AddFractions k x456 x457 x461 x462).bind fun y471 => (if y471.2.2 = true then (if y471.1 = (0 : Int) then (impl_sum_l0 k a1 a2 K0 n (IntKind.i64.wrap (v211 + 1)) v212 (IntKind.i64.wrap (v228 + 1))) else (if v212.length + 1 ≤ cap then (impl_sum_l0 k a1 a2 K0 n (IntKind.i64.wrap (v211 + 1)) (v212 ++ ([[D.sl x455, D.int .i64 y471.1, D.int .i64 y471.2.1]])) (IntKind.i64.wrap (v228 + 1))) else none)) else some (([] : Rw), false)))))))))) else (K0 v212)))
set_option maxHeartbeats 4000000 in
set_option maxRecDepth 100000 in
theorem impl_sum_l0_ct {k : Nat} {a1 : Rw} {a2 : Rw} {K0 : Rw → Option (Rw × Bool)} {r : Rw × Bool} : ∀ (n : Nat) (v211 : Int) (v212 : Rw) (v228 : Int), impl_sum_l0 k a1 a2 K0 n v211 v212 v228 = some r → LoopOk prog 0 (lp f70 0) (mk 119 [(2, .ptr 128 0), (3, .ptr 192 0), (4, .ptr 256 0), (6, .ptr 384 0), (7, .d (D.int .i64 v211)), (8, .d (D.int .i64 v228))] [(128, .box 38 [.d (D.sl a1)]), (192, .box 38 [.d (D.sl a2)]), (256, .box 38 [.es]), (384, .box 38 [.os 64000 v212.length]), (64000, .arr 109 false v212)]) (LoopEnd prog f70 0 119 (.tup [.agg [.os 8 r.1.length], .d (D.bool r.2)]) (⟨[], [(109, false, r.1)]⟩) (fun i ts os => (i = 0 ∧ ∃ v331 : Rw, K0 v331 = some r ∧ ts = [(4, .ptr 256 0), (6, .ptr 384 0)] ∧ os = [(256, .box 38 [.es]), (384, .box 38 [.os 67001 v331.length]), (67001, .arr 109 false v331)])))
  | 0, _, _, _, h => by
      rw [impl_sum_l0] at h; cases h
  | n + 1, v211, v212, v228, h => by
      rw [impl_sum_l0] at h
      refine LoopOk.step ?_
      conv => whnf
      refine splD (fun g404 => ?_) (fun g404 => ?_)
      · replace h := iteP h g404
        conv => whnf
        refine splD (fun g405 => ?_) (fun g405 => ?_)
        · replace h := iteP h g405
          conv => whnf
          refine CutK.norm [2, 3, 4, 6, 7, 8, 9] [128, 192, 256, 384, 64000] ?_
          conv => whnf
          refine splD (fun _ => ?_) (fun g => absurd (by decide) g)
          conv => whnf
          obtain ⟨g410, x406, x407, x408, e409, h⟩ := row_sii_ex h
          refine Req.of g410 ?_
          refine Row.of _ e409 ?_
          conv => whnf
          refine Take.all (rfl) ?_
          conv => whnf
          refine Take.all (by first | rfl | exact List.length_append.symm | (simp; done) | omega) ?_
          conv => whnf
          obtain ⟨g411, h⟩ := req_ex h
          refine Req.of (room (b := 40) (by decide) g411 (wide1 rfl wide0)) ?_
          conv => whnf
          exact LoopOk.back (impl_sum_l0_ct  n _ _ _ h) [some 128, some 192, some 256, some 384, some 6400] [] ⟨⟨rfl, rfl⟩, ⟨rfl, ⟨rfl, rfl, trivial⟩, ⟨rfl, rfl, trivial⟩, ⟨rfl, trivial, trivial⟩, ⟨rfl, ⟨(by first | rfl | exact List.length_append.symm | (simp; done) | omega), rfl⟩, trivial⟩, ⟨rfl, rfl, rows_same⟩, trivial⟩, ⟨rfl, rfl⟩, ⟨rfl, rfl⟩, ⟨rfl, rfl⟩, ⟨rfl, rfl⟩, rfl, rfl, trivial⟩
        · replace h := iteN h g405
          conv => whnf
          refine splD (fun g412 => ?_) (fun g412 => ?_)
          · replace h := iteP h g412
            conv => whnf
            refine CutK.norm [2, 3, 4, 6, 7, 8, 9] [128, 192, 256, 384, 64000] ?_
            conv => whnf
            refine splD (fun g => absurd g (by decide)) (fun _ => ?_)
            conv => whnf
            refine splD (fun _ => ?_) (fun g => absurd (by decide) g)
            conv => whnf
            obtain ⟨g417, x413, x414, x415, e416, h⟩ := row_sii_ex h
            refine Req.of g417 ?_
            refine Row.of _ e416 ?_
            conv => whnf
            refine Take.all (rfl) ?_
            conv => whnf
            refine Take.all (by first | rfl | exact List.length_append.symm | (simp; done) | omega) ?_
            conv => whnf
            obtain ⟨g418, h⟩ := req_ex h
            refine Req.of (room (b := 40) (by decide) g418 (wide1 rfl wide0)) ?_
            conv => whnf
            exact LoopOk.back (impl_sum_l0_ct  n _ _ _ h) [some 128, some 192, some 256, some 384, some 7296] [] ⟨⟨rfl, rfl⟩, ⟨rfl, ⟨rfl, rfl, trivial⟩, ⟨rfl, rfl, trivial⟩, ⟨rfl, trivial, trivial⟩, ⟨rfl, ⟨(by first | rfl | exact List.length_append.symm | (simp; done) | omega), rfl⟩, trivial⟩, ⟨rfl, rfl, rows_same⟩, trivial⟩, ⟨rfl, rfl⟩, ⟨rfl, rfl⟩, ⟨rfl, rfl⟩, ⟨rfl, rfl⟩, rfl, rfl, trivial⟩
          · replace h := iteN h g412
            conv => whnf
            obtain ⟨g423, x419, x420, x421, e422, h⟩ := row_sii_ex h
            refine Req.of g423 ?_
            refine Row.of _ e422 ?_
            conv => whnf
            obtain ⟨g428, x424, x425, x426, e427, h⟩ := row_sii_ex h
            refine Req.of g428 ?_
            refine Row.of _ e427 ?_
            conv => whnf
            refine Pick.no ?_
            conv => whnf
            obtain ⟨y429, e430, h⟩ := bind_ex h
            refine CallOk.of (impl_order_ct e430) ?_
            conv => whnf
            refine CutK.norm [2, 3, 4, 6, 7, 8, 9] [128, 192, 256, 384, 64000] ?_
            conv => whnf
            refine splD (fun g431 => ?_) (fun g431 => ?_)
            · replace h := iteP h g431
              conv => whnf
              refine Req.of g423 ?_
              refine Row.of _ e422 ?_
              conv => whnf
              refine Take.all (rfl) ?_
              conv => whnf
              refine Take.all (by first | rfl | exact List.length_append.symm | (simp; done) | omega) ?_
              conv => whnf
              obtain ⟨g432, h⟩ := req_ex h
              refine Req.of (room (b := 40) (by decide) g432 (wide1 rfl wide0)) ?_
              conv => whnf
              exact LoopOk.back (impl_sum_l0_ct  n _ _ _ h) [some 128, some 192, some 256, some 384, some 6400] [] ⟨⟨rfl, rfl⟩, ⟨rfl, ⟨rfl, rfl, trivial⟩, ⟨rfl, rfl, trivial⟩, ⟨rfl, trivial, trivial⟩, ⟨rfl, ⟨(by first | rfl | exact List.length_append.symm | (simp; done) | omega), rfl⟩, trivial⟩, ⟨rfl, rfl, rows_same⟩, trivial⟩, ⟨rfl, rfl⟩, ⟨rfl, rfl⟩, ⟨rfl, rfl⟩, ⟨rfl, rfl⟩, rfl, rfl, trivial⟩
            · replace h := iteN h g431
              conv => whnf
              refine splD (fun g433 => ?_) (fun g433 => ?_)
              · replace h := iteP h g433
                conv => whnf
                refine Req.of g428 ?_
                refine Row.of _ e427 ?_
                conv => whnf
                refine Take.all (rfl) ?_
                conv => whnf
                refine Take.all (by first | rfl | exact List.length_append.symm | (simp; done) | omega) ?_
                conv => whnf
                obtain ⟨g434, h⟩ := req_ex h
                refine Req.of (room (b := 40) (by decide) g434 (wide1 rfl wide0)) ?_
                conv => whnf
                exact LoopOk.back (impl_sum_l0_ct  n _ _ _ h) [some 128, some 192, some 256, some 384, some 7296] [] ⟨⟨rfl, rfl⟩, ⟨rfl, ⟨rfl, rfl, trivial⟩, ⟨rfl, rfl, trivial⟩, ⟨rfl, trivial, trivial⟩, ⟨rfl, ⟨(by first | rfl | exact List.length_append.symm | (simp; done) | omega), rfl⟩, trivial⟩, ⟨rfl, rfl, rows_same⟩, trivial⟩, ⟨rfl, rfl⟩, ⟨rfl, rfl⟩, ⟨rfl, rfl⟩, ⟨rfl, rfl⟩, rfl, rfl, trivial⟩
              · replace h := iteN h g433
                conv => whnf
                refine Req.of g423 ?_
                refine Row.of _ e422 ?_
                conv => whnf
                refine Req.of g428 ?_
                refine Row.of _ e427 ?_
                conv => whnf
                refine Pick.no ?_
                conv => whnf
                obtain ⟨y435, e436, h⟩ := bind_ex h
                refine CallOk.of (impl_AddFractions_ct e436) ?_
                conv => whnf
                refine spl (fun g437 => ?_) (fun g437 => ?_)
                · replace h := iteT h g437
                  conv => whnf
                  refine CutK.norm [2, 3, 4, 6, 7, 8, 10, 11] [128, 192, 256, 384, 640, 64000] ?_
                  conv => whnf
                  refine splN (fun g438 => ?_) (fun g438 => ?_)
                  · replace h := iteN h g438
                    conv => whnf
                    refine Req.of g423 ?_
                    refine Row.of _ e422 ?_
                    conv => whnf
                    refine Take.all (rfl) ?_
                    conv => whnf
                    refine Take.all (by first | rfl | exact List.length_append.symm | (simp; done) | omega) ?_
                    conv => whnf
                    obtain ⟨g439, h⟩ := req_ex h
                    refine Req.of (room (b := 40) (by decide) g439 (wide1 rfl wide0)) ?_
                    conv => whnf
                    exact LoopOk.back (impl_sum_l0_ct  n _ _ _ h) [some 128, some 192, some 256, some 384, some 5376] [] ⟨⟨rfl, rfl⟩, ⟨rfl, ⟨rfl, rfl, trivial⟩, ⟨rfl, rfl, trivial⟩, ⟨rfl, trivial, trivial⟩, ⟨rfl, ⟨(by first | rfl | exact List.length_append.symm | (simp; done) | omega), rfl⟩, trivial⟩, ⟨rfl, rfl, rows_same⟩, trivial⟩, ⟨rfl, rfl⟩, ⟨rfl, rfl⟩, ⟨rfl, rfl⟩, ⟨rfl, rfl⟩, rfl, rfl, trivial⟩
                  · replace h := iteP h g438
                    conv => whnf
                    exact LoopOk.back (impl_sum_l0_ct  n _ _ _ h) [some 128, some 192, some 256, some 384, some 64000] [] ⟨⟨rfl, rfl⟩, ⟨rfl, ⟨rfl, rfl, trivial⟩, ⟨rfl, rfl, trivial⟩, ⟨rfl, trivial, trivial⟩, ⟨rfl, ⟨rfl, rfl⟩, trivial⟩, ⟨rfl, rfl, rows_same⟩, trivial⟩, ⟨rfl, rfl⟩, ⟨rfl, rfl⟩, ⟨rfl, rfl⟩, ⟨rfl, rfl⟩, rfl, rfl, trivial⟩
                · replace h := iteF h g437
                  conv => whnf
                  refine CutK.norm [2, 3, 4, 6, 7, 8, 10, 11] [128, 192, 256, 384, 640, 64000] ?_
                  conv => whnf
                  cases h
                  exact Done.of [none] [] rfl rfl ⟨⟨rfl, rfl⟩, ⟨rfl, rfl, trivial⟩, ⟨⟨⟨rfl, rfl⟩, trivial⟩, rfl, trivial⟩, trivial⟩
      · replace h := iteN h g404
        conv => whnf
        refine splD (fun g440 => ?_) (fun g440 => ?_)
        · replace h := iteP h g440
          conv => whnf
          refine splD (fun g441 => ?_) (fun g441 => ?_)
          · replace h := iteP h g441
            conv => whnf
            refine CutK.norm [2, 3, 4, 6, 7, 8, 9] [128, 192, 256, 384, 64000] ?_
            conv => whnf
            refine splD (fun _ => ?_) (fun g => absurd (by decide) g)
            conv => whnf
            obtain ⟨g446, x442, x443, x444, e445, h⟩ := row_sii_ex h
            refine Req.of g446 ?_
            refine Row.of _ e445 ?_
            conv => whnf
            refine Take.all (rfl) ?_
            conv => whnf
            refine Take.all (by first | rfl | exact List.length_append.symm | (simp; done) | omega) ?_
            conv => whnf
            obtain ⟨g447, h⟩ := req_ex h
            refine Req.of (room (b := 40) (by decide) g447 (wide1 rfl wide0)) ?_
            conv => whnf
            exact LoopOk.back (impl_sum_l0_ct  n _ _ _ h) [some 128, some 192, some 256, some 384, some 6400] [] ⟨⟨rfl, rfl⟩, ⟨rfl, ⟨rfl, rfl, trivial⟩, ⟨rfl, rfl, trivial⟩, ⟨rfl, trivial, trivial⟩, ⟨rfl, ⟨(by first | rfl | exact List.length_append.symm | (simp; done) | omega), rfl⟩, trivial⟩, ⟨rfl, rfl, rows_same⟩, trivial⟩, ⟨rfl, rfl⟩, ⟨rfl, rfl⟩, ⟨rfl, rfl⟩, ⟨rfl, rfl⟩, rfl, rfl, trivial⟩
          · replace h := iteN h g441
            conv => whnf
            refine splD (fun g448 => ?_) (fun g448 => ?_)
            · replace h := iteP h g448
              conv => whnf
              refine CutK.norm [2, 3, 4, 6, 7, 8, 9] [128, 192, 256, 384, 64000] ?_
              conv => whnf
              refine splD (fun g => absurd g (by decide)) (fun _ => ?_)
              conv => whnf
              refine splD (fun _ => ?_) (fun g => absurd (by decide) g)
              conv => whnf
              obtain ⟨g453, x449, x450, x451, e452, h⟩ := row_sii_ex h
              refine Req.of g453 ?_
              refine Row.of _ e452 ?_
              conv => whnf
              refine Take.all (rfl) ?_
              conv => whnf
              refine Take.all (by first | rfl | exact List.length_append.symm | (simp; done) | omega) ?_
              conv => whnf
              obtain ⟨g454, h⟩ := req_ex h
              refine Req.of (room (b := 40) (by decide) g454 (wide1 rfl wide0)) ?_
              conv => whnf
              exact LoopOk.back (impl_sum_l0_ct  n _ _ _ h) [some 128, some 192, some 256, some 384, some 7296] [] ⟨⟨rfl, rfl⟩, ⟨rfl, ⟨rfl, rfl, trivial⟩, ⟨rfl, rfl, trivial⟩, ⟨rfl, trivial, trivial⟩, ⟨rfl, ⟨(by first | rfl | exact List.length_append.symm | (simp; done) | omega), rfl⟩, trivial⟩, ⟨rfl, rfl, rows_same⟩, trivial⟩, ⟨rfl, rfl⟩, ⟨rfl, rfl⟩, ⟨rfl, rfl⟩, ⟨rfl, rfl⟩, rfl, rfl, trivial⟩
            · replace h := iteN h g448
              conv => whnf
              obtain ⟨g459, x455, x456, x457, e458, h⟩ := row_sii_ex h
              refine Req.of g459 ?_
              refine Row.of _ e458 ?_
              conv => whnf
              obtain ⟨g464, x460, x461, x462, e463, h⟩ := row_sii_ex h
              refine Req.of g464 ?_
              refine Row.of _ e463 ?_
              conv => whnf
              refine Pick.no ?_
              conv => whnf
              obtain ⟨y465, e466, h⟩ := bind_ex h
              refine CallOk.of (impl_order_ct e466) ?_
              conv => whnf
              refine CutK.norm [2, 3, 4, 6, 7, 8, 9] [128, 192, 256, 384, 64000] ?_
              conv => whnf
              refine splD (fun g467 => ?_) (fun g467 => ?_)
              · replace h := iteP h g467
                conv => whnf
                refine Req.of g459 ?_
                refine Row.of _ e458 ?_
                conv => whnf
                refine Take.all (rfl) ?_
                conv => whnf
                refine Take.all (by first | rfl | exact List.length_append.symm | (simp; done) | omega) ?_
                conv => whnf
                obtain ⟨g468, h⟩ := req_ex h
                refine Req.of (room (b := 40) (by decide) g468 (wide1 rfl wide0)) ?_
                conv => whnf
                exact LoopOk.back (impl_sum_l0_ct  n _ _ _ h) [some 128, some 192, some 256, some 384, some 6400] [] ⟨⟨rfl, rfl⟩, ⟨rfl, ⟨rfl, rfl, trivial⟩, ⟨rfl, rfl, trivial⟩, ⟨rfl, trivial, trivial⟩, ⟨rfl, ⟨(by first | rfl | exact List.length_append.symm | (simp; done) | omega), rfl⟩, trivial⟩, ⟨rfl, rfl, rows_same⟩, trivial⟩, ⟨rfl, rfl⟩, ⟨rfl, rfl⟩, ⟨rfl, rfl⟩, ⟨rfl, rfl⟩, rfl, rfl, trivial⟩
              · replace h := iteN h g467
                conv => whnf
                refine splD (fun g469 => ?_) (fun g469 => ?_)
                · replace h := iteP h g469
                  conv => whnf
                  refine Req.of g464 ?_
                  refine Row.of _ e463 ?_
                  conv => whnf
                  refine Take.all (rfl) ?_
                  conv => whnf
                  refine Take.all (by first | rfl | exact List.length_append.symm | (simp; done) | omega) ?_
                  conv => whnf
                  obtain ⟨g470, h⟩ := req_ex h
                  refine Req.of (room (b := 40) (by decide) g470 (wide1 rfl wide0)) ?_
                  conv => whnf
                  exact LoopOk.back (impl_sum_l0_ct  n _ _ _ h) [some 128, some 192, some 256, some 384, some 7296] [] ⟨⟨rfl, rfl⟩, ⟨rfl, ⟨rfl, rfl, trivial⟩, ⟨rfl, rfl, trivial⟩, ⟨rfl, trivial, trivial⟩, ⟨rfl, ⟨(by first | rfl | exact List.length_append.symm | (simp; done) | omega), rfl⟩, trivial⟩, ⟨rfl, rfl, rows_same⟩, trivial⟩, ⟨rfl, rfl⟩, ⟨rfl, rfl⟩, ⟨rfl, rfl⟩, ⟨rfl, rfl⟩, rfl, rfl, trivial⟩
                · replace h := iteN h g469
                  conv => whnf
                  refine Req.of g459 ?_
                  refine Row.of _ e458 ?_
                  conv => whnf
                  refine Req.of g464 ?_
                  refine Row.of _ e463 ?_
                  conv => whnf
                  refine Pick.no ?_
                  conv => whnf
                  obtain ⟨y471, e472, h⟩ := bind_ex h
                  refine CallOk.of (impl_AddFractions_ct e472) ?_
                  conv => whnf
                  refine spl (fun g473 => ?_) (fun g473 => ?_)
                  · replace h := iteT h g473
                    conv => whnf
                    refine CutK.norm [2, 3, 4, 6, 7, 8, 10, 11] [128, 192, 256, 384, 640, 64000] ?_
                    conv => whnf
                    refine splN (fun g474 => ?_) (fun g474 => ?_)
                    · replace h := iteN h g474
                      conv => whnf
                      refine Req.of g459 ?_
                      refine Row.of _ e458 ?_
                      conv => whnf
                      refine Take.all (rfl) ?_
                      conv => whnf
                      refine Take.all (by first | rfl | exact List.length_append.symm | (simp; done) | omega) ?_
                      conv => whnf
                      obtain ⟨g475, h⟩ := req_ex h
                      refine Req.of (room (b := 40) (by decide) g475 (wide1 rfl wide0)) ?_
                      conv => whnf
                      exact LoopOk.back (impl_sum_l0_ct  n _ _ _ h) [some 128, some 192, some 256, some 384, some 5376] [] ⟨⟨rfl, rfl⟩, ⟨rfl, ⟨rfl, rfl, trivial⟩, ⟨rfl, rfl, trivial⟩, ⟨rfl, trivial, trivial⟩, ⟨rfl, ⟨(by first | rfl | exact List.length_append.symm | (simp; done) | omega), rfl⟩, trivial⟩, ⟨rfl, rfl, rows_same⟩, trivial⟩, ⟨rfl, rfl⟩, ⟨rfl, rfl⟩, ⟨rfl, rfl⟩, ⟨rfl, rfl⟩, rfl, rfl, trivial⟩
                    · replace h := iteP h g474
                      conv => whnf
                      exact LoopOk.back (impl_sum_l0_ct  n _ _ _ h) [some 128, some 192, some 256, some 384, some 64000] [] ⟨⟨rfl, rfl⟩, ⟨rfl, ⟨rfl, rfl, trivial⟩, ⟨rfl, rfl, trivial⟩, ⟨rfl, trivial, trivial⟩, ⟨rfl, ⟨rfl, rfl⟩, trivial⟩, ⟨rfl, rfl, rows_same⟩, trivial⟩, ⟨rfl, rfl⟩, ⟨rfl, rfl⟩, ⟨rfl, rfl⟩, ⟨rfl, rfl⟩, rfl, rfl, trivial⟩
                  · replace h := iteF h g473
                    conv => whnf
                    refine CutK.norm [2, 3, 4, 6, 7, 8, 10, 11] [128, 192, 256, 384, 640, 64000] ?_
                    conv => whnf
                    cases h
                    exact Done.of [none] [] rfl rfl ⟨⟨rfl, rfl⟩, ⟨rfl, rfl, trivial⟩, ⟨⟨⟨rfl, rfl⟩, trivial⟩, rfl, trivial⟩, trivial⟩
        · replace h := iteN h g440
          conv => whnf
          exact ⟨_, _, [some 256, some 384, some 64000], [], ⟨rfl, _, h, rfl, rfl⟩, ⟨⟨rfl, rfl⟩, ⟨rfl, ⟨rfl, trivial, trivial⟩, ⟨rfl, ⟨rfl, rfl⟩, trivial⟩, ⟨rfl, rfl, rows_same⟩, trivial⟩, ⟨rfl, rfl⟩, ⟨rfl, rfl⟩, trivial⟩⟩
def impl_sum (k : Nat) (a1 : Rw) (a2 : Rw) : Option (Rw × Bool) :=
  (impl_sum_l0 k a1 a2 (fun (v331 : Rw) => (impl_sum_p4 v331)) k 0 ([] : Rw) 0)
set_option maxHeartbeats 4000000 in
set_option maxRecDepth 100000 in
theorem impl_sum_ct {k : Nat} {a1 : Rw} {a2 : Rw} {r : Rw × Bool} (h : impl_sum k a1 a2 = some r) : Ct prog 70 [.agg [.d (D.sl a1)], .agg [.d (D.sl a2)]] (⟨[], []⟩) (.tup [.agg [.os 8 r.1.length], .d (D.bool r.2)]) (⟨[], [(109, false, r.1)]⟩) := by
  rw [impl_sum] at h
  refine Ct.of (c := _) mixed func70 ⟨rfl, rfl, rfl⟩ ?_ rfl
  conv => whnf
  refine LoopOk.into (impl_sum_l0_ct  _ _ _ _ h) [some 128, some 192, some 256, some 384, none] [] ⟨⟨rfl, rfl⟩, ⟨rfl, ⟨rfl, rfl, trivial⟩, ⟨rfl, rfl, trivial⟩, ⟨rfl, trivial, trivial⟩, ⟨rfl, ⟨rfl, rfl⟩, trivial⟩, rfl, trivial⟩, ⟨rfl, rfl⟩, ⟨rfl, rfl⟩, ⟨rfl, rfl⟩, ⟨rfl, rfl⟩, rfl, rfl, trivial⟩ ?_ (fun _ hs => hs)
  rintro i ts os ⟨rfl, v331, h, rfl, rfl⟩
  conv => whnf
  exact CutK.piece (impl_sum_p4_ct  h) [some 256, some 384, some 67001] [] ⟨⟨rfl, rfl⟩, ⟨rfl, ⟨rfl, trivial, trivial⟩, ⟨rfl, ⟨rfl, rfl⟩, trivial⟩, ⟨rfl, rfl, rows_same⟩, trivial⟩, ⟨rfl, rfl⟩, ⟨rfl, rfl⟩, trivial⟩

def impl_AddSurreals (k : Nat) (a1 : Rw) (a2 : Rw) : Option (Rw × Bool) :=
  ((impl_surreals k a1 a2).bind fun y3 => (if y3 = true then ((impl_sum k a1 a2).bind fun y6 => (if y6.2 = true then ((impl_toldSurreal k y6.1 true).bind fun y9 => (if y9.2 = true then some (y9.1, true) else some (y9.1, false))) else ((impl_toldSurreal k y6.1 false).bind fun y12 => (if y12.2 = true then some (y12.1, true) else some (y12.1, false))))) else some (([] : Rw), false)))
set_option maxHeartbeats 4000000 in
set_option maxRecDepth 100000 in
theorem impl_AddSurreals_ct {k : Nat} {a1 : Rw} {a2 : Rw} {r : Rw × Bool} (h : impl_AddSurreals k a1 a2 = some r) : Ct prog 21 [.agg [.d (D.sl a1)], .agg [.d (D.sl a2)]] (⟨[], []⟩) (.tup [.agg [.os 8 r.1.length], .d (D.bool r.2)]) (⟨[], [(109, true, r.1)]⟩) := by
  rw [impl_AddSurreals] at h
  refine Ct.of (c := _) mixed func21 ⟨rfl, rfl, rfl⟩ ?_ rfl
  conv => whnf
  refine Pick.no ?_
  conv => whnf
  obtain ⟨y3, e4, h⟩ := bind_ex h
  refine CallOk.of (impl_surreals_ct e4) ?_
  conv => whnf
  refine spl (fun g5 => ?_) (fun g5 => ?_)
  · replace h := iteT h g5
    conv => whnf
    refine CutK.go ?_
    conv => whnf
    refine CutK.go ?_
    conv => whnf
    refine Pick.no ?_
    conv => whnf
    obtain ⟨y6, e7, h⟩ := bind_ex h
    refine CallOk.of (impl_sum_ct e7) ?_
    conv => whnf
    refine spl (fun g8 => ?_) (fun g8 => ?_)
    · replace h := iteT h g8
      conv => whnf
      refine Pick.no ?_
      conv => whnf
      refine Take.all (rfl) ?_
      conv => whnf
      obtain ⟨y9, e10, h⟩ := bind_ex h
      refine CallOk.of (impl_toldSurreal_ct e10) ?_
      conv => whnf
      refine spl (fun g11 => ?_) (fun g11 => ?_)
      · replace h := iteT h g11
        conv => whnf
        refine CutK.go ?_
        conv => whnf
        cases h
        exact Done.of [some 1024] [] rfl rfl ⟨⟨rfl, rfl⟩, ⟨rfl, ⟨rfl, rfl, rows_same⟩, trivial⟩, ⟨⟨⟨rfl, rfl⟩, trivial⟩, rfl, trivial⟩, trivial⟩
      · replace h := iteF h g11
        conv => whnf
        refine CutK.go ?_
        conv => whnf
        cases h
        exact Done.of [some 1024] [] rfl rfl ⟨⟨rfl, rfl⟩, ⟨rfl, ⟨rfl, rfl, rows_same⟩, trivial⟩, ⟨⟨⟨rfl, rfl⟩, trivial⟩, rfl, trivial⟩, trivial⟩
    · replace h := iteF h g8
      conv => whnf
      refine Pick.no ?_
      conv => whnf
      refine Take.all (rfl) ?_
      conv => whnf
      obtain ⟨y12, e13, h⟩ := bind_ex h
      refine CallOk.of (impl_toldSurreal_ct e13) ?_
      conv => whnf
      refine spl (fun g14 => ?_) (fun g14 => ?_)
      · replace h := iteT h g14
        conv => whnf
        refine CutK.go ?_
        conv => whnf
        cases h
        exact Done.of [some 1024] [] rfl rfl ⟨⟨rfl, rfl⟩, ⟨rfl, ⟨rfl, rfl, rows_same⟩, trivial⟩, ⟨⟨⟨rfl, rfl⟩, trivial⟩, rfl, trivial⟩, trivial⟩
      · replace h := iteF h g14
        conv => whnf
        refine CutK.go ?_
        conv => whnf
        cases h
        exact Done.of [some 1024] [] rfl rfl ⟨⟨rfl, rfl⟩, ⟨rfl, ⟨rfl, rfl, rows_same⟩, trivial⟩, ⟨⟨⟨rfl, rfl⟩, trivial⟩, rfl, trivial⟩, trivial⟩
  · replace h := iteF h g5
    conv => whnf
    refine CutK.go ?_
    conv => whnf
    cases h
    exact Done.of [none] [] rfl rfl ⟨⟨rfl, rfl⟩, ⟨rfl, rfl, trivial⟩, ⟨⟨⟨rfl, rfl⟩, trivial⟩, rfl, trivial⟩, trivial⟩

def impl_MultiplyFractions_1  (a1 : Int) (a2 : Int) (a3 : Int) (a4 : Int) : Option (Int × Int × Int × Int × Int × Int) :=
  some (IntKind.i64.wrap (a1 * a3), IntKind.i64.wrap (a2 * a4), a1, a2, a3, a4)
set_option maxHeartbeats 4000000 in
set_option maxRecDepth 100000 in
theorem impl_MultiplyFractions_1_ct  {a1 : Int} {a2 : Int} {a3 : Int} {a4 : Int} {r : Int × Int × Int × Int × Int × Int} (h : impl_MultiplyFractions_1 a1 a2 a3 a4 = some r) : Ct prog 176 [.ptr 0 0, .ptr 64 0] (⟨[(28, [.d (D.int .i64 a1), .d (D.int .i64 a2)]), (28, [.d (D.int .i64 a3), .d (D.int .i64 a4)])], []⟩) (.tup [.d (D.int .i64 r.1), .d (D.int .i64 r.2.1)]) (⟨[(28, [.d (D.int .i64 r.2.2.1), .d (D.int .i64 r.2.2.2.1)]), (28, [.d (D.int .i64 r.2.2.2.2.1), .d (D.int .i64 r.2.2.2.2.2)])], []⟩) := by
  rw [impl_MultiplyFractions_1] at h
  refine Ct.of (c := _) mixed func176 ⟨rfl, rfl, rfl⟩ ?_ rfl
  conv => whnf
  cases h
  exact Done.of [some 0, some 64] [] rfl rfl ⟨⟨rfl, rfl⟩, ⟨rfl, ⟨rfl, rfl, rfl, trivial⟩, ⟨rfl, rfl, rfl, trivial⟩, trivial⟩, ⟨rfl, rfl, trivial⟩, trivial⟩

def impl_two__MultiplyFractions_1 (k : Nat) (a1 : Int) (a2 : Int) (a3 : Int) (a4 : Int) (a5 : Int) (a6 : Int) (a7 : Int) (a8 : Int) : Option (Int × Int × Bool × Int × Int × Int × Int) :=
  ((impl_IsFraction k a1 a2).bind fun y9 => (if y9 = true then ((impl_IsFraction k a3 a4).bind fun y12 => (if y12 = true then ((impl_MultiplyFractions_1 a5 a6 a7 a8).bind fun y15 => ((impl_made k y15.1 y15.2.1).bind fun y17 => (if y17.2.2 = true then some (y17.1, y17.2.1, true, y15.2.2.1, y15.2.2.2.1, y15.2.2.2.2.1, y15.2.2.2.2.2) else some (y17.1, y17.2.1, false, y15.2.2.1, y15.2.2.2.1, y15.2.2.2.2.1, y15.2.2.2.2.2)))) else some (0, 0, false, a5, a6, a7, a8))) else some (0, 0, false, a5, a6, a7, a8)))
set_option maxHeartbeats 4000000 in
set_option maxRecDepth 100000 in
theorem impl_two__MultiplyFractions_1_ct {k : Nat} {a1 : Int} {a2 : Int} {a3 : Int} {a4 : Int} {a5 : Int} {a6 : Int} {a7 : Int} {a8 : Int} {r : Int × Int × Bool × Int × Int × Int × Int} (h : impl_two__MultiplyFractions_1 k a1 a2 a3 a4 a5 a6 a7 a8 = some r) : Ct prog 175 [.agg [.d (D.int .i64 a1), .d (D.int .i64 a2)], .agg [.d (D.int .i64 a3), .d (D.int .i64 a4)], .fn 176 [.ptr 0 0, .ptr 64 0]] (⟨[(28, [.d (D.int .i64 a5), .d (D.int .i64 a6)]), (28, [.d (D.int .i64 a7), .d (D.int .i64 a8)])], []⟩) (.tup [.agg [.d (D.int .i64 r.1), .d (D.int .i64 r.2.1)], .d (D.bool r.2.2.1)]) (⟨[(28, [.d (D.int .i64 r.2.2.2.1), .d (D.int .i64 r.2.2.2.2.1)]), (28, [.d (D.int .i64 r.2.2.2.2.2.1), .d (D.int .i64 r.2.2.2.2.2.2)])], []⟩) := by
  rw [impl_two__MultiplyFractions_1] at h
  refine Ct.of (c := _) mixed func175 ⟨rfl, rfl, rfl⟩ ?_ rfl
  conv => whnf
  refine Pick.no ?_
  conv => whnf
  obtain ⟨y9, e10, h⟩ := bind_ex h
  refine CallOk.of (impl_IsFraction_ct e10) ?_
  conv => whnf
  refine spl (fun g11 => ?_) (fun g11 => ?_)
  · replace h := iteT h g11
    conv => whnf
    refine Pick.no ?_
    conv => whnf
    obtain ⟨y12, e13, h⟩ := bind_ex h
    refine CallOk.of (impl_IsFraction_ct e13) ?_
    conv => whnf
    refine spl (fun g14 => ?_) (fun g14 => ?_)
    · replace h := iteT h g14
      conv => whnf
      refine CutK.go ?_
      conv => whnf
      refine CutK.go ?_
      conv => whnf
      refine Pick.no ?_
      conv => whnf
      obtain ⟨y15, e16, h⟩ := bind_ex h
      refine CallOk.of (impl_MultiplyFractions_1_ct e16) ?_
      conv => whnf
      refine Pick.no ?_
      conv => whnf
      obtain ⟨y17, e18, h⟩ := bind_ex h
      refine CallOk.of (impl_made_ct e18) ?_
      conv => whnf
      refine spl (fun g19 => ?_) (fun g19 => ?_)
      · replace h := iteT h g19
        conv => whnf
        refine CutK.go ?_
        conv => whnf
        cases h
        exact Done.of [some 0, some 64] [] rfl rfl ⟨⟨rfl, rfl⟩, ⟨rfl, ⟨rfl, rfl, rfl, trivial⟩, ⟨rfl, rfl, rfl, trivial⟩, trivial⟩, ⟨⟨rfl, rfl, trivial⟩, rfl, trivial⟩, trivial⟩
      · replace h := iteF h g19
        conv => whnf
        refine CutK.go ?_
        conv => whnf
        cases h
        exact Done.of [some 0, some 64] [] rfl rfl ⟨⟨rfl, rfl⟩, ⟨rfl, ⟨rfl, rfl, rfl, trivial⟩, ⟨rfl, rfl, rfl, trivial⟩, trivial⟩, ⟨⟨rfl, rfl, trivial⟩, rfl, trivial⟩, trivial⟩
    · replace h := iteF h g14
      conv => whnf
      refine CutK.go ?_
      conv => whnf
      cases h
      exact Done.of [some 0, some 64] [] rfl rfl ⟨⟨rfl, rfl⟩, ⟨rfl, ⟨rfl, rfl, rfl, trivial⟩, ⟨rfl, rfl, rfl, trivial⟩, trivial⟩, ⟨⟨rfl, rfl, trivial⟩, rfl, trivial⟩, trivial⟩
  · replace h := iteF h g11
    conv => whnf
    refine CutK.go ?_
    conv => whnf
    cases h
    exact Done.of [some 0, some 64] [] rfl rfl ⟨⟨rfl, rfl⟩, ⟨rfl, ⟨rfl, rfl, rfl, trivial⟩, ⟨rfl, rfl, rfl, trivial⟩, trivial⟩, ⟨⟨rfl, rfl, trivial⟩, rfl, trivial⟩, trivial⟩

def impl_MultiplyFractions (k : Nat) (a1 : Int) (a2 : Int) (a3 : Int) (a4 : Int) : Option (Int × Int × Bool) :=
  ((impl_two__MultiplyFractions_1 k a1 a2 a3 a4 a1 a2 a3 a4).bind fun y5 => (if y5.2.2.1 = true then some (y5.1, y5.2.1, true) else some (y5.1, y5.2.1, false)))
set_option maxHeartbeats 4000000 in
set_option maxRecDepth 100000 in
theorem impl_MultiplyFractions_ct {k : Nat} {a1 : Int} {a2 : Int} {a3 : Int} {a4 : Int} {r : Int × Int × Bool} (h : impl_MultiplyFractions k a1 a2 a3 a4 = some r) : Ct prog 137 [.agg [.d (D.int .i64 a1), .d (D.int .i64 a2)], .agg [.d (D.int .i64 a3), .d (D.int .i64 a4)]] (⟨[], []⟩) (.tup [.agg [.d (D.int .i64 r.1), .d (D.int .i64 r.2.1)], .d (D.bool r.2.2)]) (⟨[], []⟩) := by
  rw [impl_MultiplyFractions] at h
  refine Ct.of (c := _) mixed func137 ⟨rfl, rfl, rfl⟩ ?_ rfl
  conv => whnf
  refine Pick.no ?_
  conv => whnf
  obtain ⟨y5, e6, h⟩ := bind_ex h
  refine CallOk.of (impl_two__MultiplyFractions_1_ct e6) ?_
  conv => whnf
  refine spl (fun g7 => ?_) (fun g7 => ?_)
  · replace h := iteT h g7
    conv => whnf
    refine CutK.go ?_
    conv => whnf
    cases h
    exact Done.of [] [] rfl rfl ⟨⟨rfl, rfl⟩, ⟨rfl, trivial⟩, ⟨⟨rfl, rfl, trivial⟩, rfl, trivial⟩, trivial⟩
  · replace h := iteF h g7
    conv => whnf
    refine CutK.go ?_
    conv => whnf
    cases h
    exact Done.of [] [] rfl rfl ⟨⟨rfl, rfl⟩, ⟨rfl, trivial⟩, ⟨⟨rfl, rfl, trivial⟩, rfl, trivial⟩, trivial⟩

def impl_term  (a1 : Rw) (a2 : Int) (a3 : Int) : Option Rw :=
  (if a2 = (0 : Int) then some ([] : Rw) else some ([[D.sl a1, D.int .i64 a2, D.int .i64 a3]] : Rw))
set_option maxHeartbeats 4000000 in
set_option maxRecDepth 100000 in
theorem impl_term_ct  {a1 : Rw} {a2 : Int} {a3 : Int} {r : Rw} (h : impl_term a1 a2 a3 = some r) : Ct prog 128 [.agg [.d (D.sl a1)], .agg [.d (D.int .i64 a2), .d (D.int .i64 a3)]] (⟨[], []⟩) (.agg [.os 8 r.length]) (⟨[], [(109, false, r)]⟩) := by
  rw [impl_term] at h
  refine Ct.of (c := _) mixed func128 ⟨rfl, rfl, rfl⟩ ?_ rfl
  conv => whnf
  refine splD (fun g4 => ?_) (fun g4 => ?_)
  · replace h := iteP h g4
    conv => whnf
    cases h
    exact Done.of [none] [] rfl rfl ⟨⟨rfl, rfl⟩, ⟨rfl, rfl, trivial⟩, ⟨⟨rfl, rfl⟩, trivial⟩, trivial⟩
  · replace h := iteN h g4
    conv => whnf
    cases h
    exact Done.of [some 768] [] rfl rfl ⟨⟨rfl, rfl⟩, ⟨rfl, ⟨rfl, rfl, rows_same⟩, trivial⟩, ⟨⟨(by first | rfl | exact List.length_append.symm | (simp; done) | omega), rfl⟩, trivial⟩, trivial⟩

def impl_MultiplySurreals_p5 (o220 : Rw) (v221 : Bool) : Option (Rw × Bool) :=
  (cond v221 (some (o220, true)) (some (o220, false)))
set_option maxHeartbeats 4000000 in
set_option maxRecDepth 100000 in
theorem impl_MultiplySurreals_p5_ct {o220 : Rw} {v221 : Bool} {r : Rw × Bool} (h : impl_MultiplySurreals_p5 o220 v221 = some r) : X prog 0 (tlF f127 5) (mk 78 [(4, .ptr 256 0), (5, .d (D.bool v221))] [(256, .box 38 [.os 1089000 o220.length]), (1089000, .arr 109 true o220)]) (finK prog f127 0 (.tup [.agg [.os 8 r.1.length], .d (D.bool r.2)]) (⟨[], [(109, true, r.1)]⟩)) := by
  rw [impl_MultiplySurreals_p5] at h
  cases v221
  · replace h := condF h
    conv => whnf
    cases h
    exact Done.of [some 1089000] [] rfl rfl ⟨⟨rfl, rfl⟩, ⟨rfl, ⟨rfl, rfl, rows_same⟩, trivial⟩, ⟨⟨⟨rfl, rfl⟩, trivial⟩, rfl, trivial⟩, trivial⟩
  · replace h := condT h
    conv => whnf
    cases h
    exact Done.of [some 1089000] [] rfl rfl ⟨⟨rfl, rfl⟩, ⟨rfl, ⟨rfl, rfl, rows_same⟩, trivial⟩, ⟨⟨⟨rfl, rfl⟩, trivial⟩, rfl, trivial⟩, trivial⟩
def impl_MultiplySurreals_p4 (k : Nat) (o216 : Rw) : Option (Rw × Bool) :=
  ((impl_toldSurreal k o216 true).bind fun y222 => (if y222.2 = true then (impl_MultiplySurreals_p5 y222.1 true) else (impl_MultiplySurreals_p5 y222.1 false)))
set_option maxHeartbeats 4000000 in
set_option maxRecDepth 100000 in
theorem impl_MultiplySurreals_p4_ct {k : Nat} {o216 : Rw} {r : Rw × Bool} (h : impl_MultiplySurreals_p4 k o216 = some r) : X prog 0 (tlF f127 4) (mk 78 [(4, .ptr 256 0), (6, .ptr 384 0)] [(256, .box 38 [.es]), (384, .box 38 [.os 1084000 o216.length]), (1084000, .arr 109 false o216)]) (finK prog f127 0 (.tup [.agg [.os 8 r.1.length], .d (D.bool r.2)]) (⟨[], [(109, true, r.1)]⟩)) := by
  rw [impl_MultiplySurreals_p4] at h
  conv => whnf
  refine Pick.no ?_
  conv => whnf
  refine Take.all (rfl) ?_
  conv => whnf
  obtain ⟨y222, e223, h⟩ := bind_ex h
  refine CallOk.of (impl_toldSurreal_ct e223) ?_
  conv => whnf
  refine spl (fun g224 => ?_) (fun g224 => ?_)
  · replace h := iteT h g224
    conv => whnf
    exact CutK.piece (impl_MultiplySurreals_p5_ct  h) [some 256, some 4800] [] ⟨⟨rfl, rfl⟩, ⟨rfl, ⟨rfl, ⟨rfl, rfl⟩, trivial⟩, ⟨rfl, rfl, rows_same⟩, trivial⟩, ⟨rfl, rfl⟩, rfl, trivial⟩
  · replace h := iteF h g224
    conv => whnf
    exact CutK.piece (impl_MultiplySurreals_p5_ct  h) [some 256, some 4800] [] ⟨⟨rfl, rfl⟩, ⟨rfl, ⟨rfl, ⟨rfl, rfl⟩, trivial⟩, ⟨rfl, rfl, rows_same⟩, trivial⟩, ⟨rfl, rfl⟩, rfl, trivial⟩
def impl_MultiplySurreals_l1 (k : Nat) (a1 : Rw) (a2 : Rw) (v294n : Nat) (x435 : Rw) (x436 : Int) (x437 : Int) (K2 : Rw → Option (Rw × Bool)) : Rw → Rw → Option (Rw × Bool)
  | [], v457 => (K2 v457)
  | cs :: rest, v457 => (cell_sii cs fun x502 x503 x504 => ((impl_AddSurreals k x435 x502).bind fun y506 => (if y506.2 = true then ((impl_MultiplyFractions k x436 x437 x503 x504).bind fun y509 => (if y509.2.2 = true then ((impl_term y506.1 y509.1 y509.2.1).bind fun y512 => ((impl_sum k v457 y512).bind fun y514 => (if y514.2 = true then (impl_MultiplySurreals_l1 k a1 a2 v294n x435 x436 x437 K2 rest y514.1) else some (([] : Rw), false)))) else some (([] : Rw), false))) else ((impl_MultiplyFractions k x436 x437 x503 x504).bind fun y517 => (if y517.2.2 = true then some (([] : Rw), false) else some (([] : Rw), false))))))
set_option maxHeartbeats 4000000 in
set_option maxRecDepth 100000 in
theorem impl_MultiplySurreals_l1_ct {k : Nat} {a1 : Rw} {a2 : Rw} {v294n : Nat} {x435 : Rw} {x436 : Int} {x437 : Int} {K2 : Rw → Option (Rw × Bool)} {r : Rw × Bool} (hx : a2.length ≤ cap) : ∀ (rest : Rw) (v456n : Nat) (v457 : Rw), a2.drop v456n = rest → impl_MultiplySurreals_l1 k a1 a2 v294n x435 x436 x437 K2 rest v457 = some r → LoopOk prog 0 (lp f127 1) (mk 78 [(3, .ptr 192 0), (4, .ptr 256 0), (6, .ptr 384 0), (8, .ptr 512 0), (24, .d (D.sl a1)), (25, .d (D.int .i64 (a1.length : Int))), (26, .d (D.int .i64 (v294n : Int))), (31, .d (D.sl a2)), (32, .d (D.int .i64 (a2.length : Int))), (33, .d (D.int .i64 (v456n : Int)))] [(192, .box 38 [.d (D.sl a2)]), (256, .box 38 [.es]), (384, .box 38 [.os 76800 v457.length]), (512, .box 109 [.d (D.sl x435), .d (D.int .i64 x436), .d (D.int .i64 x437)]), (76800, .arr 109 false v457)]) (LoopEnd prog f127 0 78 (.tup [.agg [.os 8 r.1.length], .d (D.bool r.2)]) (⟨[], [(109, true, r.1)]⟩) (fun i ts os => (i = 2 ∧ ∃ v481 : Rw, K2 v481 = some r ∧ ts = [(3, .ptr 192 0), (4, .ptr 256 0), (6, .ptr 384 0), (24, .d (D.sl a1)), (25, .d (D.int .i64 (a1.length : Int))), (26, .d (D.int .i64 (v294n : Int)))] ∧ os = [(192, .box 38 [.d (D.sl a2)]), (256, .box 38 [.es]), (384, .box 38 [.os 79801 v481.length]), (79801, .arr 109 false v481)])))
  | [], v456n, v457, hd, h => by
      rw [impl_MultiplySurreals_l1] at h
      have hn := drop_nil hd
      refine LoopOk.step ?_
      conv => whnf
      refine splD (fun g => absurd g hn) (fun _ => ?_)
      conv => whnf
      exact ⟨_, _, [some 192, some 256, some 384, some 76800], [], ⟨rfl, _, h, rfl, rfl⟩, ⟨⟨rfl, rfl⟩, ⟨rfl, ⟨rfl, rfl, trivial⟩, ⟨rfl, trivial, trivial⟩, ⟨rfl, ⟨rfl, rfl⟩, trivial⟩, ⟨rfl, rfl, rows_same⟩, trivial⟩, ⟨rfl, rfl⟩, ⟨rfl, rfl⟩, ⟨rfl, rfl⟩, rfl, rfl, rfl, trivial⟩⟩
  | cs :: rest, v456n, v457, hd, h => by
      rw [impl_MultiplySurreals_l1] at h
      obtain ⟨hrow, hd1, hlt⟩ := drop_cons hd
      refine LoopOk.step ?_
      conv => whnf
      refine splD (fun _ => ?_) (fun g => absurd hlt g)
      conv => whnf
      obtain ⟨x502, x503, x504, e505, h⟩ := cell_sii_ex h
      rw [e505] at hrow
      refine Req.of (Int.natCast_nonneg _) ?_
      refine Row.of _ hrow ?_
      conv => whnf
      refine Pick.no ?_
      conv => whnf
      obtain ⟨y506, e507, h⟩ := bind_ex h
      refine CallOk.of (impl_AddSurreals_ct e507) ?_
      conv => whnf
      refine spl (fun g508 => ?_) (fun g508 => ?_)
      · replace h := iteT h g508
        conv => whnf
        refine CutK.norm [3, 4, 6, 8, 10, 11, 12, 24, 25, 26, 31, 32, 33] [192, 256, 384, 512, 640, 704, 2688, 76800] ?_
        conv => whnf
        refine Pick.no ?_
        conv => whnf
        obtain ⟨y509, e510, h⟩ := bind_ex h
        refine CallOk.of (impl_MultiplyFractions_ct e510) ?_
        conv => whnf
        refine spl (fun g511 => ?_) (fun g511 => ?_)
        · replace h := iteT h g511
          conv => whnf
          refine CutK.norm [3, 4, 6, 8, 11, 12, 13, 14, 24, 25, 26, 31, 32, 33] [192, 256, 384, 512, 704, 832, 2688, 76800] ?_
          conv => whnf
          refine Pick.no ?_
          conv => whnf
          refine Take.all (rfl) ?_
          conv => whnf
          obtain ⟨y512, e513, h⟩ := bind_ex h
          refine CallOk.of (impl_term_ct e513) ?_
          conv => whnf
          refine Pick.no ?_
          conv => whnf
          refine Take.all (rfl) ?_
          conv => whnf
          refine Take.all (rfl) ?_
          conv => whnf
          obtain ⟨y514, e515, h⟩ := bind_ex h
          refine CallOk.of (impl_sum_ct e515) ?_
          conv => whnf
          refine spl (fun g516 => ?_) (fun g516 => ?_)
          · replace h := iteT h g516
            conv => whnf
            refine CutK.norm [3, 4, 6, 8, 15, 16, 24, 25, 26, 31, 32, 33] [192, 256, 384, 512, 960, 4160, 76800] ?_
            conv => whnf
            refine CutK.norm [3, 4, 6, 8, 24, 25, 26, 31, 32, 33] [192, 256, 384, 512, 4160] ?_
            conv => whnf
            exact LoopOk.back (impl_MultiplySurreals_l1_ct hx rest (v456n + 1) _ hd1 h) [some 192, some 256, some 384, some 512, some 4160] [] ⟨⟨rfl, rfl⟩, ⟨rfl, ⟨rfl, rfl, trivial⟩, ⟨rfl, trivial, trivial⟩, ⟨rfl, ⟨rfl, rfl⟩, trivial⟩, ⟨rfl, rfl, rfl, rfl, trivial⟩, ⟨rfl, rfl, rows_same⟩, trivial⟩, ⟨rfl, rfl⟩, ⟨rfl, rfl⟩, ⟨rfl, rfl⟩, ⟨rfl, rfl⟩, rfl, rfl, rfl, rfl, rfl, i64eq (wrap_up hlt hx), trivial⟩
          · replace h := iteF h g516
            conv => whnf
            refine CutK.norm [3, 4, 6, 8, 15, 16, 24, 25, 26, 31, 32, 33] [192, 256, 384, 512, 960, 4160, 76800] ?_
            conv => whnf
            cases h
            exact Done.of [none] [] rfl rfl ⟨⟨rfl, rfl⟩, ⟨rfl, rfl, trivial⟩, ⟨⟨⟨rfl, rfl⟩, trivial⟩, rfl, trivial⟩, trivial⟩
        · replace h := iteF h g511
          conv => whnf
          refine CutK.norm [3, 4, 6, 8, 11, 12, 13, 14, 24, 25, 26, 31, 32, 33] [192, 256, 384, 512, 704, 832, 2688, 76800] ?_
          conv => whnf
          cases h
          exact Done.of [none] [] rfl rfl ⟨⟨rfl, rfl⟩, ⟨rfl, rfl, trivial⟩, ⟨⟨⟨rfl, rfl⟩, trivial⟩, rfl, trivial⟩, trivial⟩
      · replace h := iteF h g508
        conv => whnf
        refine CutK.norm [3, 4, 6, 8, 10, 11, 12, 24, 25, 26, 31, 32, 33] [192, 256, 384, 512, 640, 704, 2688, 76800] ?_
        conv => whnf
        refine Pick.no ?_
        conv => whnf
        obtain ⟨y517, e518, h⟩ := bind_ex h
        refine CallOk.of (impl_MultiplyFractions_ct e518) ?_
        conv => whnf
        refine spl (fun g519 => ?_) (fun g519 => ?_)
        · replace h := iteT h g519
          conv => whnf
          refine CutK.norm [3, 4, 6, 8, 11, 12, 13, 14, 24, 25, 26, 31, 32, 33] [192, 256, 384, 512, 704, 832, 2688, 76800] ?_
          conv => whnf
          cases h
          exact Done.of [none] [] rfl rfl ⟨⟨rfl, rfl⟩, ⟨rfl, rfl, trivial⟩, ⟨⟨⟨rfl, rfl⟩, trivial⟩, rfl, trivial⟩, trivial⟩
        · replace h := iteF h g519
          conv => whnf
          refine CutK.norm [3, 4, 6, 8, 11, 12, 13, 14, 24, 25, 26, 31, 32, 33] [192, 256, 384, 512, 704, 832, 2688, 76800] ?_
          conv => whnf
          cases h
          exact Done.of [none] [] rfl rfl ⟨⟨rfl, rfl⟩, ⟨rfl, rfl, trivial⟩, ⟨⟨⟨rfl, rfl⟩, trivial⟩, rfl, trivial⟩, trivial⟩
def impl_MultiplySurreals_l0 (k : Nat) (a1 : Rw) (a2 : Rw) (K0 : Rw → Option (Rw × Bool)) : Rw → Nat → Rw → Option (Rw × Bool)
  | [], v294n, v295 => (K0 v295)
  | cs :: rest, v294n, v295 => (cell_sii cs fun x435 x436 x437 => (if a2.length ≤ cap then (impl_MultiplySurreals_l1 k a1 a2 v294n x435 x436 x437 (fun (v481 : Rw) => (impl_MultiplySurreals_l0 k a1 a2 K0 rest (v294n + 1) v481)) a2 v295) else none))
set_option maxHeartbeats 4000000 in
set_option maxRecDepth 100000 in
theorem impl_MultiplySurreals_l0_ct {k : Nat} {a1 : Rw} {a2 : Rw} {K0 : Rw → Option (Rw × Bool)} {r : Rw × Bool} (hx : a1.length ≤ cap) : ∀ (rest : Rw) (v294n : Nat) (v295 : Rw), a1.drop v294n = rest → impl_MultiplySurreals_l0 k a1 a2 K0 rest v294n v295 = some r → LoopOk prog 0 (lp f127 0) (mk 78 [(3, .ptr 192 0), (4, .ptr 256 0), (6, .ptr 384 0), (24, .d (D.sl a1)), (25, .d (D.int .i64 (a1.length : Int))), (26, .d (D.int .i64 (v294n : Int)))] [(192, .box 38 [.d (D.sl a2)]), (256, .box 38 [.es]), (384, .box 38 [.os 64000 v295.length]), (64000, .arr 109 false v295)]) (LoopEnd prog f127 0 78 (.tup [.agg [.os 8 r.1.length], .d (D.bool r.2)]) (⟨[], [(109, true, r.1)]⟩) (fun i ts os => (i = 0 ∧ ∃ v365 : Rw, K0 v365 = some r ∧ ts = [(4, .ptr 256 0), (6, .ptr 384 0)] ∧ os = [(256, .box 38 [.es]), (384, .box 38 [.os 67001 v365.length]), (67001, .arr 109 false v365)])))
  | [], v294n, v295, hd, h => by
      rw [impl_MultiplySurreals_l0] at h
      have hn := drop_nil hd
      refine LoopOk.step ?_
      conv => whnf
      refine splD (fun g => absurd g hn) (fun _ => ?_)
      conv => whnf
      exact ⟨_, _, [some 256, some 384, some 64000], [], ⟨rfl, _, h, rfl, rfl⟩, ⟨⟨rfl, rfl⟩, ⟨rfl, ⟨rfl, trivial, trivial⟩, ⟨rfl, ⟨rfl, rfl⟩, trivial⟩, ⟨rfl, rfl, rows_same⟩, trivial⟩, ⟨rfl, rfl⟩, ⟨rfl, rfl⟩, trivial⟩⟩
  | cs :: rest, v294n, v295, hd, h => by
      rw [impl_MultiplySurreals_l0] at h
      obtain ⟨hrow, hd1, hlt⟩ := drop_cons hd
      refine LoopOk.step ?_
      conv => whnf
      refine splD (fun _ => ?_) (fun g => absurd hlt g)
      conv => whnf
      obtain ⟨x435, x436, x437, e438, h⟩ := cell_sii_ex h
      rw [e438] at hrow
      refine Req.of (Int.natCast_nonneg _) ?_
      refine Row.of _ hrow ?_
      conv => whnf
      obtain ⟨g520, h⟩ := req_ex h
      refine LoopOk.into (impl_MultiplySurreals_l1_ct  g520 _ _ _ rfl h) [some 192, some 256, some 384, some 512, some 64000] [] ⟨⟨rfl, rfl⟩, ⟨rfl, ⟨rfl, rfl, trivial⟩, ⟨rfl, trivial, trivial⟩, ⟨rfl, ⟨rfl, rfl⟩, trivial⟩, ⟨rfl, rfl, rfl, rfl, trivial⟩, ⟨rfl, rfl, rows_same⟩, trivial⟩, ⟨rfl, rfl⟩, ⟨rfl, rfl⟩, ⟨rfl, rfl⟩, ⟨rfl, rfl⟩, rfl, rfl, rfl, rfl, rfl, rfl, trivial⟩ ?_ (fun _ hs => hs)
      rintro i ts os ⟨rfl, v481, h, rfl, rfl⟩
      conv => whnf
      refine CutK.norm [3, 4, 6, 24, 25, 26] [192, 256, 384, 79801] ?_
      conv => whnf
      exact LoopOk.back (impl_MultiplySurreals_l0_ct hx rest (v294n + 1) _ hd1 h) [some 192, some 256, some 384, some 79801] [] ⟨⟨rfl, rfl⟩, ⟨rfl, ⟨rfl, rfl, trivial⟩, ⟨rfl, trivial, trivial⟩, ⟨rfl, ⟨rfl, rfl⟩, trivial⟩, ⟨rfl, rfl, rows_same⟩, trivial⟩, ⟨rfl, rfl⟩, ⟨rfl, rfl⟩, ⟨rfl, rfl⟩, rfl, rfl, i64eq (wrap_up hlt hx), trivial⟩
def impl_MultiplySurreals_p2 (k : Nat) (a1 : Rw) (a2 : Rw) : Option (Rw × Bool) :=
  (if a1.length ≤ cap then (impl_MultiplySurreals_l0 k a1 a2 (fun (v365 : Rw) => (impl_MultiplySurreals_p4 k v365)) a1 0 ([] : Rw)) else none)
set_option maxHeartbeats 4000000 in
set_option maxRecDepth 100000 in
theorem impl_MultiplySurreals_p2_ct {k : Nat} {a1 : Rw} {a2 : Rw} {r : Rw × Bool} (h : impl_MultiplySurreals_p2 k a1 a2 = some r) : X prog 0 (tlF f127 2) (mk 78 [(2, .ptr 128 0), (3, .ptr 192 0), (4, .ptr 256 0)] [(128, .box 38 [.d (D.sl a1)]), (192, .box 38 [.d (D.sl a2)]), (256, .box 38 [.es])]) (finK prog f127 0 (.tup [.agg [.os 8 r.1.length], .d (D.bool r.2)]) (⟨[], [(109, true, r.1)]⟩)) := by
  rw [impl_MultiplySurreals_p2] at h
  conv => whnf
  obtain ⟨g521, h⟩ := req_ex h
  refine LoopOk.into (impl_MultiplySurreals_l0_ct  g521 _ _ _ rfl h) [some 192, some 256, some 384, none] [] ⟨⟨rfl, rfl⟩, ⟨rfl, ⟨rfl, rfl, trivial⟩, ⟨rfl, trivial, trivial⟩, ⟨rfl, ⟨rfl, rfl⟩, trivial⟩, rfl, trivial⟩, ⟨rfl, rfl⟩, ⟨rfl, rfl⟩, ⟨rfl, rfl⟩, rfl, rfl, rfl, trivial⟩ ?_ (fun _ hs => hs)
  rintro i ts os ⟨rfl, v365, h, rfl, rfl⟩
  conv => whnf
  exact CutK.piece (impl_MultiplySurreals_p4_ct  h) [some 256, some 384, some 67001] [] ⟨⟨rfl, rfl⟩, ⟨rfl, ⟨rfl, trivial, trivial⟩, ⟨rfl, ⟨rfl, rfl⟩, trivial⟩, ⟨rfl, rfl, rows_same⟩, trivial⟩, ⟨rfl, rfl⟩, ⟨rfl, rfl⟩, trivial⟩
def impl_MultiplySurreals (k : Nat) (a1 : Rw) (a2 : Rw) : Option (Rw × Bool) :=
  ((impl_surreals k a1 a2).bind fun y522 => (if y522 = true then (impl_MultiplySurreals_p2 k a1 a2) else some (([] : Rw), false)))
set_option maxHeartbeats 4000000 in
set_option maxRecDepth 100000 in
theorem impl_MultiplySurreals_ct {k : Nat} {a1 : Rw} {a2 : Rw} {r : Rw × Bool} (h : impl_MultiplySurreals k a1 a2 = some r) : Ct prog 127 [.agg [.d (D.sl a1)], .agg [.d (D.sl a2)]] (⟨[], []⟩) (.tup [.agg [.os 8 r.1.length], .d (D.bool r.2)]) (⟨[], [(109, true, r.1)]⟩) := by
  rw [impl_MultiplySurreals] at h
  refine Ct.of (c := _) mixed func127 ⟨rfl, rfl, rfl⟩ ?_ rfl
  conv => whnf
  refine Pick.no ?_
  conv => whnf
  obtain ⟨y522, e523, h⟩ := bind_ex h
  refine CallOk.of (impl_surreals_ct e523) ?_
  conv => whnf
  refine spl (fun g524 => ?_) (fun g524 => ?_)
  · replace h := iteT h g524
    conv => whnf
    refine CutK.norm [2, 3, 4, 20] [128, 192, 256] ?_
    conv => whnf
    exact CutK.piece (impl_MultiplySurreals_p2_ct  h) [some 128, some 192, some 256] [] ⟨⟨rfl, rfl⟩, ⟨rfl, ⟨rfl, rfl, trivial⟩, ⟨rfl, rfl, trivial⟩, ⟨rfl, trivial, trivial⟩, trivial⟩, ⟨rfl, rfl⟩, ⟨rfl, rfl⟩, ⟨rfl, rfl⟩, trivial⟩
  · replace h := iteF h g524
    conv => whnf
    refine CutK.norm [2, 3, 4, 20] [128, 192, 256] ?_
    conv => whnf
    cases h
    exact Done.of [none] [] rfl rfl ⟨⟨rfl, rfl⟩, ⟨rfl, rfl, trivial⟩, ⟨⟨⟨rfl, rfl⟩, trivial⟩, rfl, trivial⟩, trivial⟩

def impl_maker_take_2  (a1 : Bool) (a2 : Rw) (a3 : Bool) : Option (Rw × Bool) :=
  (cond a1 (cond a3 (some (a2, true)) (some (a2, true))) (cond a3 (some (a2, false)) (some (a2, true))))
set_option maxHeartbeats 4000000 in
set_option maxRecDepth 100000 in
theorem impl_maker_take_2_ct  {a1 : Bool} {a2 : Rw} {a3 : Bool} {r : Rw × Bool} (h : impl_maker_take_2 a1 a2 a3 = some r) : Ct prog 126 [.ptr 0 0, .agg [.os 8 a2.length], .d (D.bool a3)] (⟨[(101, [.d (D.bool a1)])], [(109, true, a2)]⟩) (.agg [.os 8 r.1.length]) (⟨[(101, [.d (D.bool r.2)])], [(109, true, r.1)]⟩) := by
  rw [impl_maker_take_2] at h
  refine Ct.of (c := _) mixed func126 ⟨rfl, rfl, rfl⟩ ?_ rfl
  cases a1
  · replace h := condF h
    cases a3
    · replace h := condF h
      conv => whnf
      refine splF ?_
      conv => whnf
      cases h
      exact Done.of [some 0, some 8] [] rfl rfl ⟨⟨rfl, rfl⟩, ⟨rfl, ⟨rfl, rfl, trivial⟩, ⟨rfl, rfl, rows_same⟩, trivial⟩, ⟨⟨rfl, rfl⟩, trivial⟩, trivial⟩
    · replace h := condT h
      conv => whnf
      refine splF ?_
      conv => whnf
      cases h
      exact Done.of [some 0, some 8] [] rfl rfl ⟨⟨rfl, rfl⟩, ⟨rfl, ⟨rfl, rfl, trivial⟩, ⟨rfl, rfl, rows_same⟩, trivial⟩, ⟨⟨rfl, rfl⟩, trivial⟩, trivial⟩
  · replace h := condT h
    cases a3
    · replace h := condF h
      conv => whnf
      refine splT ?_
      conv => whnf
      cases h
      exact Done.of [some 0, some 8] [] rfl rfl ⟨⟨rfl, rfl⟩, ⟨rfl, ⟨rfl, rfl, trivial⟩, ⟨rfl, rfl, rows_same⟩, trivial⟩, ⟨⟨rfl, rfl⟩, trivial⟩, trivial⟩
    · replace h := condT h
      conv => whnf
      refine splT ?_
      conv => whnf
      cases h
      exact Done.of [some 0, some 8] [] rfl rfl ⟨⟨rfl, rfl⟩, ⟨rfl, ⟨rfl, rfl, trivial⟩, ⟨rfl, rfl, rows_same⟩, trivial⟩, ⟨⟨rfl, rfl⟩, trivial⟩, trivial⟩

def impl_maker_mul (k : Nat) (a1 : Bool) (a2 : Rw) (a3 : Rw) : Option (Rw × Bool) :=
  (cond a1 ((impl_MultiplySurreals k a2 a3).bind fun y11 => (if y11.2 = true then ((impl_maker_take_2 true y11.1 true).bind fun y14 => some (y14.1, y14.2)) else ((impl_maker_take_2 true y11.1 false).bind fun y16 => some (y16.1, y16.2)))) ((impl_MultiplySurreals k a2 a3).bind fun y4 => (if y4.2 = true then ((impl_maker_take_2 false y4.1 true).bind fun y7 => some (y7.1, y7.2)) else ((impl_maker_take_2 false y4.1 false).bind fun y9 => some (y9.1, y9.2)))))
set_option maxHeartbeats 4000000 in
set_option maxRecDepth 100000 in
theorem impl_maker_mul_ct {k : Nat} {a1 : Bool} {a2 : Rw} {a3 : Rw} {r : Rw × Bool} (h : impl_maker_mul k a1 a2 a3 = some r) : Ct prog 58 [.ptr 0 0, .agg [.d (D.sl a2)], .agg [.d (D.sl a3)]] (⟨[(101, [.d (D.bool a1)])], []⟩) (.agg [.os 8 r.1.length]) (⟨[(101, [.d (D.bool r.2)])], [(109, true, r.1)]⟩) := by
  rw [impl_maker_mul] at h
  refine Ct.of (c := _) mixed func58 ⟨rfl, rfl, rfl⟩ ?_ rfl
  cases a1
  · replace h := condF h
    conv => whnf
    refine Pick.no ?_
    conv => whnf
    obtain ⟨y4, e5, h⟩ := bind_ex h
    refine CallOk.of (impl_MultiplySurreals_ct e5) ?_
    conv => whnf
    refine spl (fun g6 => ?_) (fun g6 => ?_)
    · replace h := iteT h g6
      conv => whnf
      refine Pick.yes ?_
      conv => whnf
      refine Req.of (Nat.le_refl _) ?_
      conv => whnf
      obtain ⟨y7, e8, h⟩ := bind_ex h
      refine CallOk.of (impl_maker_take_2_ct e8) ?_
      conv => whnf
      refine CutK.go ?_
      conv => whnf
      cases h
      exact Done.of [some 0, some 832] [] rfl rfl ⟨⟨rfl, rfl⟩, ⟨rfl, ⟨rfl, rfl, trivial⟩, ⟨rfl, rfl, rows_same⟩, trivial⟩, ⟨⟨rfl, rfl⟩, trivial⟩, trivial⟩
    · replace h := iteF h g6
      conv => whnf
      refine Pick.yes ?_
      conv => whnf
      refine Req.of (Nat.le_refl _) ?_
      conv => whnf
      obtain ⟨y9, e10, h⟩ := bind_ex h
      refine CallOk.of (impl_maker_take_2_ct e10) ?_
      conv => whnf
      refine CutK.go ?_
      conv => whnf
      cases h
      exact Done.of [some 0, some 832] [] rfl rfl ⟨⟨rfl, rfl⟩, ⟨rfl, ⟨rfl, rfl, trivial⟩, ⟨rfl, rfl, rows_same⟩, trivial⟩, ⟨⟨rfl, rfl⟩, trivial⟩, trivial⟩
  · replace h := condT h
    conv => whnf
    refine Pick.no ?_
    conv => whnf
    obtain ⟨y11, e12, h⟩ := bind_ex h
    refine CallOk.of (impl_MultiplySurreals_ct e12) ?_
    conv => whnf
    refine spl (fun g13 => ?_) (fun g13 => ?_)
    · replace h := iteT h g13
      conv => whnf
      refine Pick.yes ?_
      conv => whnf
      refine Req.of (Nat.le_refl _) ?_
      conv => whnf
      obtain ⟨y14, e15, h⟩ := bind_ex h
      refine CallOk.of (impl_maker_take_2_ct e15) ?_
      conv => whnf
      refine CutK.go ?_
      conv => whnf
      cases h
      exact Done.of [some 0, some 832] [] rfl rfl ⟨⟨rfl, rfl⟩, ⟨rfl, ⟨rfl, rfl, trivial⟩, ⟨rfl, rfl, rows_same⟩, trivial⟩, ⟨⟨rfl, rfl⟩, trivial⟩, trivial⟩
    · replace h := iteF h g13
      conv => whnf
      refine Pick.yes ?_
      conv => whnf
      refine Req.of (Nat.le_refl _) ?_
      conv => whnf
      obtain ⟨y16, e17, h⟩ := bind_ex h
      refine CallOk.of (impl_maker_take_2_ct e17) ?_
      conv => whnf
      refine CutK.go ?_
      conv => whnf
      cases h
      exact Done.of [some 0, some 832] [] rfl rfl ⟨⟨rfl, rfl⟩, ⟨rfl, ⟨rfl, rfl, trivial⟩, ⟨rfl, rfl, rows_same⟩, trivial⟩, ⟨⟨rfl, rfl⟩, trivial⟩, trivial⟩

def impl_maker_power_l0 (k : Nat) (a2 : Rw) (a3 : Int) (K0 : Rw → Bool → Option (Rw × Bool)) : Nat → Int → Bool → Rw → Option (Rw × Bool)
  | 0, _, _, _ => none
  | n + 1, v11, v12, v13 => (cond v12 (if v11 < a3 then (K0 v13 true) else (K0 v13 true)) (if v11 < a3 then ((impl_maker_mul k false v13 a2).bind fun y25 => (impl_maker_power_l0 k a2 a3 K0 n (IntKind.i64.wrap (v11 + 1)) y25.2 y25.1)) else (K0 v13 false)))
set_option maxHeartbeats 4000000 in
set_option maxRecDepth 100000 in
theorem impl_maker_power_l0_ct {k : Nat} {a2 : Rw} {a3 : Int} {K0 : Rw → Bool → Option (Rw × Bool)} {r : Rw × Bool} : ∀ (n : Nat) (v11 : Int) (v12 : Bool) (v13 : Rw), impl_maker_power_l0 k a2 a3 K0 n v11 v12 v13 = some r → LoopOk prog 1 (lp f66 0) (mk 28 [(0, .ptr 0 0), (2, .d (D.int .i64 a3)), (4, .ptr 256 0), (6, .ptr 384 0), (7, .ptr 448 0), (8, .d (D.int .i64 v11))] [(0, .box 101 [.d (D.bool v12)]), (256, .box 38 [.d (D.sl a2)]), (384, .box 38 [.es]), (448, .box 38 [.os 64000 v13.length]), (64000, .arr 109 true v13)]) (LoopEnd prog f66 1 28 (.agg [.os 8 r.1.length]) (⟨[(101, [.d (D.bool r.2)])], [(109, true, r.1)]⟩) (fun i ts os => (i = 0 ∧ ∃ v17 : Rw, ∃ v19 : Bool, K0 v17 v19 = some r ∧ ts = [(6, .ptr 384 0), (7, .ptr 448 0)] ∧ os = [(0, .box 101 [.d (D.bool v19)]), (384, .box 38 [.es]), (448, .box 38 [.os 67001 v17.length]), (67001, .arr 109 true v17)])))
  | 0, _, _, _, h => by
      rw [impl_maker_power_l0] at h; cases h
  | n + 1, v11, v12, v13, h => by
      rw [impl_maker_power_l0] at h
      cases v12
      · replace h := condF h
        refine LoopOk.step ?_
        conv => whnf
        refine splD (fun g24 => ?_) (fun g24 => ?_)
        · replace h := iteP h g24
          conv => whnf
          refine splF ?_
          conv => whnf
          refine Pick.no ?_
          conv => whnf
          refine Take.all (rfl) ?_
          conv => whnf
          obtain ⟨y25, e26, h⟩ := bind_ex h
          refine CallOk.of (impl_maker_mul_ct e26) ?_
          conv => whnf
          refine CutK.go ?_
          conv => whnf
          exact LoopOk.back (impl_maker_power_l0_ct  n _ _ _ h) [some 0, some 256, some 384, some 448, some 1664] [] ⟨⟨rfl, rfl⟩, ⟨rfl, ⟨rfl, rfl, trivial⟩, ⟨rfl, rfl, trivial⟩, ⟨rfl, trivial, trivial⟩, ⟨rfl, ⟨rfl, rfl⟩, trivial⟩, ⟨rfl, rfl, rows_same⟩, trivial⟩, ⟨rfl, rfl⟩, rfl, ⟨rfl, rfl⟩, ⟨rfl, rfl⟩, ⟨rfl, rfl⟩, rfl, trivial⟩
        · replace h := iteN h g24
          conv => whnf
          exact ⟨_, _, [some 0, some 384, some 448, some 64000], [], ⟨rfl, _, _, h, rfl, rfl⟩, ⟨⟨rfl, rfl⟩, ⟨rfl, ⟨rfl, rfl, trivial⟩, ⟨rfl, trivial, trivial⟩, ⟨rfl, ⟨rfl, rfl⟩, trivial⟩, ⟨rfl, rfl, rows_same⟩, trivial⟩, ⟨rfl, rfl⟩, ⟨rfl, rfl⟩, trivial⟩⟩
      · replace h := condT h
        refine LoopOk.step ?_
        conv => whnf
        refine splD (fun g27 => ?_) (fun g27 => ?_)
        · replace h := iteP h g27
          conv => whnf
          refine splT ?_
          conv => whnf
          exact ⟨_, _, [some 0, some 384, some 448, some 64000], [], ⟨rfl, _, _, h, rfl, rfl⟩, ⟨⟨rfl, rfl⟩, ⟨rfl, ⟨rfl, rfl, trivial⟩, ⟨rfl, trivial, trivial⟩, ⟨rfl, ⟨rfl, rfl⟩, trivial⟩, ⟨rfl, rfl, rows_same⟩, trivial⟩, ⟨rfl, rfl⟩, ⟨rfl, rfl⟩, trivial⟩⟩
        · replace h := iteN h g27
          conv => whnf
          exact ⟨_, _, [some 0, some 384, some 448, some 64000], [], ⟨rfl, _, _, h, rfl, rfl⟩, ⟨⟨rfl, rfl⟩, ⟨rfl, ⟨rfl, rfl, trivial⟩, ⟨rfl, trivial, trivial⟩, ⟨rfl, ⟨rfl, rfl⟩, trivial⟩, ⟨rfl, rfl, rows_same⟩, trivial⟩, ⟨rfl, rfl⟩, ⟨rfl, rfl⟩, trivial⟩⟩
def impl_maker_power_l0_2 (a2 : Rw) (a3 : Int) (y30 : Rw) (K0 : Option (Rw × Bool)) : Nat → Option (Rw × Bool)
  | 0 => none
  | n + 1 => (if (0 : Int) < a3 then (K0) else (K0))
set_option maxHeartbeats 4000000 in
set_option maxRecDepth 100000 in
theorem impl_maker_power_l0_2_ct {a2 : Rw} {a3 : Int} {y30 : Rw} {K0 : Option (Rw × Bool)} {r : Rw × Bool} : ∀ (n : Nat), impl_maker_power_l0_2 a2 a3 y30 K0 n = some r → LoopOk prog 1 (lp f66 0) (mk 28 [(0, .ptr 0 0), (2, .d (D.int .i64 a3)), (4, .ptr 256 0), (6, .ptr 384 0), (7, .ptr 448 0), (8, .d (D.int .i64 0))] [(0, .box 101 [.d (D.bool true)]), (256, .box 38 [.d (D.sl a2)]), (384, .box 38 [.es]), (448, .box 38 [.os 64000 y30.length]), (64000, .arr 109 true y30)]) (LoopEnd prog f66 1 28 (.agg [.os 8 r.1.length]) (⟨[(101, [.d (D.bool r.2)])], [(109, true, r.1)]⟩) (fun i ts os => (i = 0 ∧ K0 = some r ∧ ts = [(6, .ptr 384 0), (7, .ptr 448 0)] ∧ os = [(0, .box 101 [.d (D.bool true)]), (384, .box 38 [.es]), (448, .box 38 [.os 67001 y30.length]), (67001, .arr 109 true y30)])))
  | 0, h => by
      rw [impl_maker_power_l0_2] at h; cases h
  | n + 1, h => by
      rw [impl_maker_power_l0_2] at h
      refine LoopOk.step ?_
      conv => whnf
      refine splD (fun g34 => ?_) (fun g34 => ?_)
      · replace h := iteP h g34
        conv => whnf
        refine splT ?_
        conv => whnf
        exact ⟨_, _, [some 0, some 384, some 448, some 64000], [], ⟨rfl, h, rfl, rfl⟩, ⟨⟨rfl, rfl⟩, ⟨rfl, ⟨rfl, rfl, trivial⟩, ⟨rfl, trivial, trivial⟩, ⟨rfl, ⟨rfl, rfl⟩, trivial⟩, ⟨rfl, rfl, rows_same⟩, trivial⟩, ⟨rfl, rfl⟩, ⟨rfl, rfl⟩, trivial⟩⟩
      · replace h := iteN h g34
        conv => whnf
        exact ⟨_, _, [some 0, some 384, some 448, some 64000], [], ⟨rfl, h, rfl, rfl⟩, ⟨⟨rfl, rfl⟩, ⟨rfl, ⟨rfl, rfl, trivial⟩, ⟨rfl, trivial, trivial⟩, ⟨rfl, ⟨rfl, rfl⟩, trivial⟩, ⟨rfl, rfl, rows_same⟩, trivial⟩, ⟨rfl, rfl⟩, ⟨rfl, rfl⟩, trivial⟩⟩
def impl_maker_power (k : Nat) (a1 : Bool) (a2 : Rw) (a3 : Int) : Option (Rw × Bool) :=
  (cond a1 ((impl_whole 1).bind fun y28 => ((impl_real y28.1 y28.2).bind fun y30 => (impl_maker_power_l0_2 a2 a3 y30 (some (y30, true)) k))) ((impl_whole 1).bind fun y4 => ((impl_real y4.1 y4.2).bind fun y6 => (impl_maker_power_l0 k a2 a3 (fun (v17 : Rw) (v19 : Bool) => (cond v19 (some (v17, true)) (some (v17, false)))) k 0 false y6))))
set_option maxHeartbeats 4000000 in
set_option maxRecDepth 100000 in
theorem impl_maker_power_ct {k : Nat} {a1 : Bool} {a2 : Rw} {a3 : Int} {r : Rw × Bool} (h : impl_maker_power k a1 a2 a3 = some r) : Ct prog 66 [.ptr 0 0, .agg [.d (D.sl a2)], .d (D.int .i64 a3)] (⟨[(101, [.d (D.bool a1)])], []⟩) (.agg [.os 8 r.1.length]) (⟨[(101, [.d (D.bool r.2)])], [(109, true, r.1)]⟩) := by
  rw [impl_maker_power] at h
  refine Ct.of (c := _) mixed func66 ⟨rfl, rfl, rfl⟩ ?_ rfl
  cases a1
  · replace h := condF h
    conv => whnf
    refine Pick.no ?_
    conv => whnf
    obtain ⟨y4, e5, h⟩ := bind_ex h
    refine CallOk.of (impl_whole_ct e5) ?_
    conv => whnf
    refine Pick.no ?_
    conv => whnf
    obtain ⟨y6, e7, h⟩ := bind_ex h
    refine CallOk.of (impl_real_ct e7) ?_
    conv => whnf
    refine CutK.go ?_
    conv => whnf
    refine LoopOk.into (impl_maker_power_l0_ct  _ _ _ _ h) [some 0, some 256, some 384, some 448, some 640] [] ⟨⟨rfl, rfl⟩, ⟨rfl, ⟨rfl, rfl, trivial⟩, ⟨rfl, rfl, trivial⟩, ⟨rfl, trivial, trivial⟩, ⟨rfl, ⟨rfl, rfl⟩, trivial⟩, ⟨rfl, rfl, rows_same⟩, trivial⟩, ⟨rfl, rfl⟩, rfl, ⟨rfl, rfl⟩, ⟨rfl, rfl⟩, ⟨rfl, rfl⟩, rfl, trivial⟩ ?_ (fun _ hs => hs)
    rintro i ts os ⟨rfl, v17, v19, h, rfl, rfl⟩
    cases v19
    · replace h := condF h
      conv => whnf
      refine CutK.go ?_
      conv => whnf
      cases h
      exact Done.of [some 0, some 67001] [] rfl rfl ⟨⟨rfl, rfl⟩, ⟨rfl, ⟨rfl, rfl, trivial⟩, ⟨rfl, rfl, rows_same⟩, trivial⟩, ⟨⟨rfl, rfl⟩, trivial⟩, trivial⟩
    · replace h := condT h
      conv => whnf
      refine CutK.go ?_
      conv => whnf
      cases h
      exact Done.of [some 0, some 67001] [] rfl rfl ⟨⟨rfl, rfl⟩, ⟨rfl, ⟨rfl, rfl, trivial⟩, ⟨rfl, rfl, rows_same⟩, trivial⟩, ⟨⟨rfl, rfl⟩, trivial⟩, trivial⟩
  · replace h := condT h
    conv => whnf
    refine Pick.no ?_
    conv => whnf
    obtain ⟨y28, e29, h⟩ := bind_ex h
    refine CallOk.of (impl_whole_ct e29) ?_
    conv => whnf
    refine Pick.no ?_
    conv => whnf
    obtain ⟨y30, e31, h⟩ := bind_ex h
    refine CallOk.of (impl_real_ct e31) ?_
    conv => whnf
    refine CutK.go ?_
    conv => whnf
    refine LoopOk.into (impl_maker_power_l0_2_ct  _  h) [some 0, some 256, some 384, some 448, some 640] [] ⟨⟨rfl, rfl⟩, ⟨rfl, ⟨rfl, rfl, trivial⟩, ⟨rfl, rfl, trivial⟩, ⟨rfl, trivial, trivial⟩, ⟨rfl, ⟨rfl, rfl⟩, trivial⟩, ⟨rfl, rfl, rows_same⟩, trivial⟩, ⟨rfl, rfl⟩, rfl, ⟨rfl, rfl⟩, ⟨rfl, rfl⟩, ⟨rfl, rfl⟩, rfl, trivial⟩ ?_ (fun _ hs => hs)
    rintro i ts os ⟨rfl, h, rfl, rfl⟩
    conv => whnf
    refine CutK.go ?_
    conv => whnf
    cases h
    exact Done.of [some 0, some 67001] [] rfl rfl ⟨⟨rfl, rfl⟩, ⟨rfl, ⟨rfl, rfl, trivial⟩, ⟨rfl, rfl, rows_same⟩, trivial⟩, ⟨⟨rfl, rfl⟩, trivial⟩, trivial⟩

def impl_maker_told_2  (a1 : Bool) (a2 : Rw) : Option (Rw × Bool × Bool) :=
  (cond a1 (some (([] : Rw), false, true)) (some (a2, true, false)))
set_option maxHeartbeats 4000000 in
set_option maxRecDepth 100000 in
theorem impl_maker_told_2_ct  {a1 : Bool} {a2 : Rw} {r : Rw × Bool × Bool} (h : impl_maker_told_2 a1 a2 = some r) : Ct prog 60 [.ptr 0 0, .agg [.os 8 a2.length]] (⟨[(101, [.d (D.bool a1)])], [(109, true, a2)]⟩) (.tup [.agg [.os 8 r.1.length], .d (D.bool r.2.1)]) (⟨[(101, [.d (D.bool r.2.2)])], [(109, true, r.1)]⟩) := by
  rw [impl_maker_told_2] at h
  refine Ct.of (c := _) mixed func60 ⟨rfl, rfl, rfl⟩ ?_ rfl
  cases a1
  · replace h := condF h
    conv => whnf
    refine splF ?_
    conv => whnf
    cases h
    exact Done.of [some 0, some 8] [] rfl rfl ⟨⟨rfl, rfl⟩, ⟨rfl, ⟨rfl, rfl, trivial⟩, ⟨rfl, rfl, rows_same⟩, trivial⟩, ⟨⟨⟨rfl, rfl⟩, trivial⟩, rfl, trivial⟩, trivial⟩
  · replace h := condT h
    conv => whnf
    refine splT ?_
    conv => whnf
    cases h
    exact Done.of [some 0, none] [] rfl rfl ⟨⟨rfl, rfl⟩, ⟨rfl, ⟨rfl, rfl, trivial⟩, rfl, trivial⟩, ⟨⟨⟨rfl, rfl⟩, trivial⟩, rfl, trivial⟩, trivial⟩

def impl_PowerOfSurreal (k : Nat) (a1 : Rw) (a2 : Int) : Option (Rw × Bool) :=
  ((impl_IsSurreal k a1).bind fun y3 => (if y3 = true then ((impl_stepsOk a2).bind fun y6 => (if y6 = true then ((impl_maker_power k false a1 a2).bind fun y9 => ((impl_maker_told_2 y9.2 y9.1).bind fun y11 => (if y11.2.1 = true then some (y11.1, true) else some (y11.1, false)))) else some (([] : Rw), false))) else some (([] : Rw), false)))
set_option maxHeartbeats 4000000 in
set_option maxRecDepth 100000 in
theorem impl_PowerOfSurreal_ct {k : Nat} {a1 : Rw} {a2 : Int} {r : Rw × Bool} (h : impl_PowerOfSurreal k a1 a2 = some r) : Ct prog 19 [.agg [.d (D.sl a1)], .d (D.int .i64 a2)] (⟨[], []⟩) (.tup [.agg [.os 8 r.1.length], .d (D.bool r.2)]) (⟨[], [(109, true, r.1)]⟩) := by
  rw [impl_PowerOfSurreal] at h
  refine Ct.of (c := _) mixed func19 ⟨rfl, rfl, rfl⟩ ?_ rfl
  conv => whnf
  refine Pick.no ?_
  conv => whnf
  obtain ⟨y3, e4, h⟩ := bind_ex h
  refine CallOk.of (impl_IsSurreal_ct e4) ?_
  conv => whnf
  refine spl (fun g5 => ?_) (fun g5 => ?_)
  · replace h := iteT h g5
    conv => whnf
    refine Pick.no ?_
    conv => whnf
    obtain ⟨y6, e7, h⟩ := bind_ex h
    refine CallOk.of (impl_stepsOk_ct e7) ?_
    conv => whnf
    refine spl (fun g8 => ?_) (fun g8 => ?_)
    · replace h := iteT h g8
      conv => whnf
      refine CutK.go ?_
      conv => whnf
      refine CutK.go ?_
      conv => whnf
      refine Pick.no ?_
      conv => whnf
      obtain ⟨y9, e10, h⟩ := bind_ex h
      refine CallOk.of (impl_maker_power_ct e10) ?_
      conv => whnf
      refine Pick.yes ?_
      conv => whnf
      refine Req.of (Nat.le_refl _) ?_
      conv => whnf
      obtain ⟨y11, e12, h⟩ := bind_ex h
      refine CallOk.of (impl_maker_told_2_ct e12) ?_
      conv => whnf
      refine spl (fun g13 => ?_) (fun g13 => ?_)
      · replace h := iteT h g13
        conv => whnf
        refine CutK.go ?_
        conv => whnf
        cases h
        exact Done.of [some 1280] [] rfl rfl ⟨⟨rfl, rfl⟩, ⟨rfl, ⟨rfl, rfl, rows_same⟩, trivial⟩, ⟨⟨⟨rfl, rfl⟩, trivial⟩, rfl, trivial⟩, trivial⟩
      · replace h := iteF h g13
        conv => whnf
        refine CutK.go ?_
        conv => whnf
        cases h
        exact Done.of [some 1280] [] rfl rfl ⟨⟨rfl, rfl⟩, ⟨rfl, ⟨rfl, rfl, rows_same⟩, trivial⟩, ⟨⟨⟨rfl, rfl⟩, trivial⟩, rfl, trivial⟩, trivial⟩
    · replace h := iteF h g8
      conv => whnf
      refine CutK.go ?_
      conv => whnf
      cases h
      exact Done.of [none] [] rfl rfl ⟨⟨rfl, rfl⟩, ⟨rfl, rfl, trivial⟩, ⟨⟨⟨rfl, rfl⟩, trivial⟩, rfl, trivial⟩, trivial⟩
  · replace h := iteF h g5
    conv => whnf
    refine CutK.go ?_
    conv => whnf
    cases h
    exact Done.of [none] [] rfl rfl ⟨⟨rfl, rfl⟩, ⟨rfl, rfl, trivial⟩, ⟨⟨⟨rfl, rfl⟩, trivial⟩, rfl, trivial⟩, trivial⟩

def impl_scaled_l0 (k : Nat) (a1 : Rw) (a2 : Int) (a3 : Int) (K0 : Rw → Option (Rw × Bool)) : Rw → Rw → Option (Rw × Bool)
  | [], v15 => (K0 v15)
  | cs :: rest, v15 => (cell_sii cs fun x37 x38 x39 => ((impl_MultiplyFractions k x38 x39 a2 a3).bind fun y41 => (if y41.2.2 = true then (if v15.length + 1 ≤ cap then (impl_scaled_l0 k a1 a2 a3 K0 rest (v15 ++ ([[D.sl x37, D.int .i64 y41.1, D.int .i64 y41.2.1]]))) else none) else some (([] : Rw), false))))
set_option maxHeartbeats 4000000 in
set_option maxRecDepth 100000 in
theorem impl_scaled_l0_ct {k : Nat} {a1 : Rw} {a2 : Int} {a3 : Int} {K0 : Rw → Option (Rw × Bool)} {r : Rw × Bool} (hx : a1.length ≤ cap) : ∀ (rest : Rw) (v14n : Nat) (v15 : Rw), a1.drop v14n = rest → impl_scaled_l0 k a1 a2 a3 K0 rest v15 = some r → LoopOk prog 0 (lp f68 0) (mk 44 [(3, .ptr 192 0), (4, .ptr 256 0), (6, .ptr 384 0), (17, .d (D.sl a1)), (18, .d (D.int .i64 (a1.length : Int))), (19, .d (D.int .i64 (v14n : Int)))] [(192, .box 28 [.d (D.int .i64 a2), .d (D.int .i64 a3)]), (256, .box 38 [.es]), (384, .box 38 [.os 64000 v15.length]), (64000, .arr 109 false v15)]) (LoopEnd prog f68 0 44 (.tup [.agg [.os 8 r.1.length], .d (D.bool r.2)]) (⟨[], [(109, false, r.1)]⟩) (fun i ts os => (i = 0 ∧ ∃ v26 : Rw, K0 v26 = some r ∧ ts = [(4, .ptr 256 0), (6, .ptr 384 0)] ∧ os = [(256, .box 38 [.es]), (384, .box 38 [.os 67001 v26.length]), (67001, .arr 109 false v26)])))
  | [], v14n, v15, hd, h => by
      rw [impl_scaled_l0] at h
      have hn := drop_nil hd
      refine LoopOk.step ?_
      conv => whnf
      refine splD (fun g => absurd g hn) (fun _ => ?_)
      conv => whnf
      exact ⟨_, _, [some 256, some 384, some 64000], [], ⟨rfl, _, h, rfl, rfl⟩, ⟨⟨rfl, rfl⟩, ⟨rfl, ⟨rfl, trivial, trivial⟩, ⟨rfl, ⟨rfl, rfl⟩, trivial⟩, ⟨rfl, rfl, rows_same⟩, trivial⟩, ⟨rfl, rfl⟩, ⟨rfl, rfl⟩, trivial⟩⟩
  | cs :: rest, v14n, v15, hd, h => by
      rw [impl_scaled_l0] at h
      obtain ⟨hrow, hd1, hlt⟩ := drop_cons hd
      refine LoopOk.step ?_
      conv => whnf
      refine splD (fun _ => ?_) (fun g => absurd hlt g)
      conv => whnf
      obtain ⟨x37, x38, x39, e40, h⟩ := cell_sii_ex h
      rw [e40] at hrow
      refine Req.of (Int.natCast_nonneg _) ?_
      refine Row.of _ hrow ?_
      conv => whnf
      refine Pick.no ?_
      conv => whnf
      obtain ⟨y41, e42, h⟩ := bind_ex h
      refine CallOk.of (impl_MultiplyFractions_ct e42) ?_
      conv => whnf
      refine spl (fun g43 => ?_) (fun g43 => ?_)
      · replace h := iteT h g43
        conv => whnf
        refine CutK.norm [3, 4, 6, 8, 9, 10, 17, 18, 19] [192, 256, 384, 512, 576, 64000] ?_
        conv => whnf
        refine Take.all (rfl) ?_
        conv => whnf
        refine Take.all (by first | rfl | exact List.length_append.symm | (simp; done) | omega) ?_
        conv => whnf
        obtain ⟨g44, h⟩ := req_ex h
        refine Req.of (room (b := 40) (by decide) g44 (wide1 rfl wide0)) ?_
        conv => whnf
        refine CutK.norm [3, 4, 6, 17, 18, 19] [192, 256, 384, 2560] ?_
        conv => whnf
        exact LoopOk.back (impl_scaled_l0_ct hx rest (v14n + 1) _ hd1 h) [some 192, some 256, some 384, some 2560] [] ⟨⟨rfl, rfl⟩, ⟨rfl, ⟨rfl, rfl, rfl, trivial⟩, ⟨rfl, trivial, trivial⟩, ⟨rfl, ⟨(by first | rfl | exact List.length_append.symm | (simp; done) | omega), rfl⟩, trivial⟩, ⟨rfl, rfl, rows_same⟩, trivial⟩, ⟨rfl, rfl⟩, ⟨rfl, rfl⟩, ⟨rfl, rfl⟩, rfl, rfl, i64eq (wrap_up hlt hx), trivial⟩
      · replace h := iteF h g43
        conv => whnf
        refine CutK.norm [3, 4, 6, 8, 9, 10, 17, 18, 19] [192, 256, 384, 512, 576, 64000] ?_
        conv => whnf
        cases h
        exact Done.of [none] [] rfl rfl ⟨⟨rfl, rfl⟩, ⟨rfl, rfl, trivial⟩, ⟨⟨⟨rfl, rfl⟩, trivial⟩, rfl, trivial⟩, trivial⟩
def impl_scaled (k : Nat) (a1 : Rw) (a2 : Int) (a3 : Int) : Option (Rw × Bool) :=
  (if a2 = (0 : Int) then some (([] : Rw), true) else (if a1.length ≤ cap then (impl_scaled_l0 k a1 a2 a3 (fun (v26 : Rw) => some (v26, true)) a1 ([] : Rw)) else none))
set_option maxHeartbeats 4000000 in
set_option maxRecDepth 100000 in
theorem impl_scaled_ct {k : Nat} {a1 : Rw} {a2 : Int} {a3 : Int} {r : Rw × Bool} (h : impl_scaled k a1 a2 a3 = some r) : Ct prog 68 [.agg [.d (D.sl a1)], .agg [.d (D.int .i64 a2), .d (D.int .i64 a3)]] (⟨[], []⟩) (.tup [.agg [.os 8 r.1.length], .d (D.bool r.2)]) (⟨[], [(109, false, r.1)]⟩) := by
  rw [impl_scaled] at h
  refine Ct.of (c := _) mixed func68 ⟨rfl, rfl, rfl⟩ ?_ rfl
  conv => whnf
  refine splD (fun g4 => ?_) (fun g4 => ?_)
  · replace h := iteP h g4
    conv => whnf
    cases h
    exact Done.of [none] [] rfl rfl ⟨⟨rfl, rfl⟩, ⟨rfl, rfl, trivial⟩, ⟨⟨⟨rfl, rfl⟩, trivial⟩, rfl, trivial⟩, trivial⟩
  · replace h := iteN h g4
    conv => whnf
    obtain ⟨g45, h⟩ := req_ex h
    refine LoopOk.into (impl_scaled_l0_ct  g45 _ _ _ rfl h) [some 192, some 256, some 384, none] [] ⟨⟨rfl, rfl⟩, ⟨rfl, ⟨rfl, rfl, rfl, trivial⟩, ⟨rfl, trivial, trivial⟩, ⟨rfl, ⟨rfl, rfl⟩, trivial⟩, rfl, trivial⟩, ⟨rfl, rfl⟩, ⟨rfl, rfl⟩, ⟨rfl, rfl⟩, rfl, rfl, rfl, trivial⟩ ?_ (fun _ hs => hs)
    rintro i ts os ⟨rfl, v26, h, rfl, rfl⟩
    conv => whnf
    refine CutK.norm [4, 6] [256, 384, 67001] ?_
    conv => whnf
    cases h
    exact Done.of [some 67001] [] rfl rfl ⟨⟨rfl, rfl⟩, ⟨rfl, ⟨rfl, rfl, rows_same⟩, trivial⟩, ⟨⟨⟨rfl, rfl⟩, trivial⟩, rfl, trivial⟩, trivial⟩

def impl_ScaleSurreal (k : Nat) (a1 : Rw) (a2 : Int) (a3 : Int) : Option (Rw × Bool) :=
  ((impl_IsSurreal k a1).bind fun y4 => (if y4 = true then ((impl_IsFraction k a2 a3).bind fun y7 => (if y7 = true then ((impl_scaled k a1 a2 a3).bind fun y10 => (if y10.2 = true then ((impl_toldSurreal k y10.1 true).bind fun y13 => (if y13.2 = true then some (y13.1, true) else some (y13.1, false))) else ((impl_toldSurreal k y10.1 false).bind fun y16 => (if y16.2 = true then some (y16.1, true) else some (y16.1, false))))) else some (([] : Rw), false))) else some (([] : Rw), false)))
set_option maxHeartbeats 4000000 in
set_option maxRecDepth 100000 in
theorem impl_ScaleSurreal_ct {k : Nat} {a1 : Rw} {a2 : Int} {a3 : Int} {r : Rw × Bool} (h : impl_ScaleSurreal k a1 a2 a3 = some r) : Ct prog 20 [.agg [.d (D.sl a1)], .agg [.d (D.int .i64 a2), .d (D.int .i64 a3)]] (⟨[], []⟩) (.tup [.agg [.os 8 r.1.length], .d (D.bool r.2)]) (⟨[], [(109, true, r.1)]⟩) := by
  rw [impl_ScaleSurreal] at h
  refine Ct.of (c := _) mixed func20 ⟨rfl, rfl, rfl⟩ ?_ rfl
  conv => whnf
  refine Pick.no ?_
  conv => whnf
  obtain ⟨y4, e5, h⟩ := bind_ex h
  refine CallOk.of (impl_IsSurreal_ct e5) ?_
  conv => whnf
  refine spl (fun g6 => ?_) (fun g6 => ?_)
  · replace h := iteT h g6
    conv => whnf
    refine Pick.no ?_
    conv => whnf
    obtain ⟨y7, e8, h⟩ := bind_ex h
    refine CallOk.of (impl_IsFraction_ct e8) ?_
    conv => whnf
    refine spl (fun g9 => ?_) (fun g9 => ?_)
    · replace h := iteT h g9
      conv => whnf
      refine CutK.go ?_
      conv => whnf
      refine CutK.go ?_
      conv => whnf
      refine Pick.no ?_
      conv => whnf
      obtain ⟨y10, e11, h⟩ := bind_ex h
      refine CallOk.of (impl_scaled_ct e11) ?_
      conv => whnf
      refine spl (fun g12 => ?_) (fun g12 => ?_)
      · replace h := iteT h g12
        conv => whnf
        refine Pick.no ?_
        conv => whnf
        refine Take.all (rfl) ?_
        conv => whnf
        obtain ⟨y13, e14, h⟩ := bind_ex h
        refine CallOk.of (impl_toldSurreal_ct e14) ?_
        conv => whnf
        refine spl (fun g15 => ?_) (fun g15 => ?_)
        · replace h := iteT h g15
          conv => whnf
          refine CutK.go ?_
          conv => whnf
          cases h
          exact Done.of [some 1280] [] rfl rfl ⟨⟨rfl, rfl⟩, ⟨rfl, ⟨rfl, rfl, rows_same⟩, trivial⟩, ⟨⟨⟨rfl, rfl⟩, trivial⟩, rfl, trivial⟩, trivial⟩
        · replace h := iteF h g15
          conv => whnf
          refine CutK.go ?_
          conv => whnf
          cases h
          exact Done.of [some 1280] [] rfl rfl ⟨⟨rfl, rfl⟩, ⟨rfl, ⟨rfl, rfl, rows_same⟩, trivial⟩, ⟨⟨⟨rfl, rfl⟩, trivial⟩, rfl, trivial⟩, trivial⟩
      · replace h := iteF h g12
        conv => whnf
        refine Pick.no ?_
        conv => whnf
        refine Take.all (rfl) ?_
        conv => whnf
        obtain ⟨y16, e17, h⟩ := bind_ex h
        refine CallOk.of (impl_toldSurreal_ct e17) ?_
        conv => whnf
        refine spl (fun g18 => ?_) (fun g18 => ?_)
        · replace h := iteT h g18
          conv => whnf
          refine CutK.go ?_
          conv => whnf
          cases h
          exact Done.of [some 1280] [] rfl rfl ⟨⟨rfl, rfl⟩, ⟨rfl, ⟨rfl, rfl, rows_same⟩, trivial⟩, ⟨⟨⟨rfl, rfl⟩, trivial⟩, rfl, trivial⟩, trivial⟩
        · replace h := iteF h g18
          conv => whnf
          refine CutK.go ?_
          conv => whnf
          cases h
          exact Done.of [some 1280] [] rfl rfl ⟨⟨rfl, rfl⟩, ⟨rfl, ⟨rfl, rfl, rows_same⟩, trivial⟩, ⟨⟨⟨rfl, rfl⟩, trivial⟩, rfl, trivial⟩, trivial⟩
    · replace h := iteF h g9
      conv => whnf
      refine CutK.go ?_
      conv => whnf
      cases h
      exact Done.of [none] [] rfl rfl ⟨⟨rfl, rfl⟩, ⟨rfl, rfl, trivial⟩, ⟨⟨⟨rfl, rfl⟩, trivial⟩, rfl, trivial⟩, trivial⟩
  · replace h := iteF h g6
    conv => whnf
    refine CutK.go ?_
    conv => whnf
    cases h
    exact Done.of [none] [] rfl rfl ⟨⟨rfl, rfl⟩, ⟨rfl, rfl, trivial⟩, ⟨⟨⟨rfl, rfl⟩, trivial⟩, rfl, trivial⟩, trivial⟩

def spec_l1In  (a1 : Int) (a2 : Int) (a3 : Int) : Option Bool :=
  (if a2 ≤ a1 then (if a1 ≤ a3 then some true else some false) else some false)
set_option maxHeartbeats 4000000 in
set_option maxRecDepth 100000 in
theorem spec_l1In_ct  {a1 : Int} {a2 : Int} {a3 : Int} {r : Bool} (h : spec_l1In a1 a2 a3 = some r) : Ct prog 142 [.d (D.int .i64 a1), .d (D.int .i64 a2), .d (D.int .i64 a3)] (⟨[], []⟩) (.d (D.bool r)) (⟨[], []⟩) := by
  rw [spec_l1In] at h
  refine Ct.of (c := _) mixed func142 ⟨rfl, rfl, rfl⟩ ?_ rfl
  conv => whnf
  refine splD (fun g4 => ?_) (fun g4 => ?_)
  · replace h := iteP h g4
    conv => whnf
    refine splD (fun g5 => ?_) (fun g5 => ?_)
    · replace h := iteP h g5
      conv => whnf
      cases h
      exact Done.of [] [] rfl rfl ⟨⟨rfl, rfl⟩, ⟨rfl, trivial⟩, rfl, trivial⟩
    · replace h := iteN h g5
      conv => whnf
      cases h
      exact Done.of [] [] rfl rfl ⟨⟨rfl, rfl⟩, ⟨rfl, trivial⟩, rfl, trivial⟩
  · replace h := iteN h g4
    conv => whnf
    cases h
    exact Done.of [] [] rfl rfl ⟨⟨rfl, rfl⟩, ⟨rfl, trivial⟩, rfl, trivial⟩

def spec_l1Most  (a1 : Int) (a2 : Int) : Option Int :=
  (if a2 < a1 then some a1 else some a2)
set_option maxHeartbeats 4000000 in
set_option maxRecDepth 100000 in
theorem spec_l1Most_ct  {a1 : Int} {a2 : Int} {r : Int} (h : spec_l1Most a1 a2 = some r) : Ct prog 192 [.d (D.int .i64 a1), .d (D.int .i64 a2)] (⟨[], []⟩) (.d (D.int .i64 r)) (⟨[], []⟩) := by
  rw [spec_l1Most] at h
  refine Ct.of (c := _) mixed func192 ⟨rfl, rfl, rfl⟩ ?_ rfl
  conv => whnf
  refine splD (fun g3 => ?_) (fun g3 => ?_)
  · replace h := iteP h g3
    conv => whnf
    cases h
    exact Done.of [] [] rfl rfl ⟨⟨rfl, rfl⟩, ⟨rfl, trivial⟩, rfl, trivial⟩
  · replace h := iteN h g3
    conv => whnf
    cases h
    exact Done.of [] [] rfl rfl ⟨⟨rfl, rfl⟩, ⟨rfl, trivial⟩, rfl, trivial⟩

def spec_l1Abs  (a1 : Int) : Option Int :=
  ((spec_l1Most a1 (IntKind.i64.wrap (0 - a1))).bind fun y2 => some y2)
set_option maxHeartbeats 4000000 in
set_option maxRecDepth 100000 in
theorem spec_l1Abs_ct  {a1 : Int} {r : Int} (h : spec_l1Abs a1 = some r) : Ct prog 185 [.d (D.int .i64 a1)] (⟨[], []⟩) (.d (D.int .i64 r)) (⟨[], []⟩) := by
  rw [spec_l1Abs] at h
  refine Ct.of (c := _) mixed func185 ⟨rfl, rfl, rfl⟩ ?_ rfl
  conv => whnf
  refine Pick.no ?_
  conv => whnf
  obtain ⟨y2, e3, h⟩ := bind_ex h
  refine CallOk.of (spec_l1Most_ct e3) ?_
  conv => whnf
  refine CutK.go ?_
  conv => whnf
  cases h
  exact Done.of [] [] rfl rfl ⟨⟨rfl, rfl⟩, ⟨rfl, trivial⟩, rfl, trivial⟩

def spec_shGcd_l0 (K0 : Int → Option Int) : Nat → Int → Int → Option Int
  | 0, _, _ => none
  | n + 1, v5, v6 => (if v6 = (0 : Int) then (K0 v5) else (if v6 ≠ 0 then (spec_shGcd_l0 K0 n v6 (v5.tmod v6)) else none))
set_option maxHeartbeats 4000000 in
set_option maxRecDepth 100000 in
theorem spec_shGcd_l0_ct {K0 : Int → Option Int} {r : Int} : ∀ (n : Nat) (v5 : Int) (v6 : Int), spec_shGcd_l0 K0 n v5 v6 = some r → LoopOk prog 0 (lp f162 0) (mk 13 [(0, .d (D.int .i64 v5)), (1, .d (D.int .i64 v6))] []) (LoopEnd prog f162 0 13 (.d (D.int .i64 r)) (⟨[], []⟩) (fun i ts os => (i = 0 ∧ ∃ v9 : Int, K0 v9 = some r ∧ ts = [(0, .d (D.int .i64 v9))] ∧ os = [])))
  | 0, _, _, h => by
      rw [spec_shGcd_l0] at h; cases h
  | n + 1, v5, v6, h => by
      rw [spec_shGcd_l0] at h
      refine LoopOk.step ?_
      conv => whnf
      refine splN (fun g12 => ?_) (fun g12 => ?_)
      · replace h := iteN h g12
        conv => whnf
        obtain ⟨g13, h⟩ := req_ex h
        refine Req.of g13 ?_
        conv => whnf
        exact LoopOk.back (spec_shGcd_l0_ct  n _ _ h) [] [] ⟨⟨rfl, rfl⟩, ⟨rfl, trivial⟩, rfl, rfl, trivial⟩
      · replace h := iteP h g12
        conv => whnf
        exact ⟨_, _, [], [], ⟨rfl, _, h, rfl, rfl⟩, ⟨⟨rfl, rfl⟩, ⟨rfl, trivial⟩, rfl, trivial⟩⟩
def spec_shGcd (k : Nat) (a1 : Int) (a2 : Int) : Option Int :=
  (spec_shGcd_l0 (fun (v9 : Int) => ((spec_l1Abs v9).bind fun y14 => some y14)) k a1 a2)
set_option maxHeartbeats 4000000 in
set_option maxRecDepth 100000 in
theorem spec_shGcd_ct {k : Nat} {a1 : Int} {a2 : Int} {r : Int} (h : spec_shGcd k a1 a2 = some r) : Ct prog 162 [.d (D.int .i64 a1), .d (D.int .i64 a2)] (⟨[], []⟩) (.d (D.int .i64 r)) (⟨[], []⟩) := by
  rw [spec_shGcd] at h
  refine Ct.of (c := _) mixed func162 ⟨rfl, rfl, rfl⟩ ?_ rfl
  conv => whnf
  refine LoopOk.into (spec_shGcd_l0_ct  _ _ _ h) [] [] ⟨⟨rfl, rfl⟩, ⟨rfl, trivial⟩, rfl, rfl, trivial⟩ ?_ (fun _ hs => hs)
  rintro i ts os ⟨rfl, v9, h, rfl, rfl⟩
  conv => whnf
  refine CutK.go ?_
  conv => whnf
  refine Pick.no ?_
  conv => whnf
  obtain ⟨y14, e15, h⟩ := bind_ex h
  refine CallOk.of (spec_l1Abs_ct e15) ?_
  conv => whnf
  refine CutK.go ?_
  conv => whnf
  cases h
  exact Done.of [] [] rfl rfl ⟨⟨rfl, rfl⟩, ⟨rfl, trivial⟩, rfl, trivial⟩

def spec_shGood (k : Nat) (a1 : Int) (a2 : Int) : Option Bool :=
  ((spec_l1In a2 1 1000000).bind fun y3 => (if y3 = true then ((spec_l1In a1 (-1000000) 1000000).bind fun y6 => (if y6 = true then ((spec_shGcd k a1 a2).bind fun y9 => (if y9 = (1 : Int) then some true else some false)) else some false)) else some false))
set_option maxHeartbeats 4000000 in
set_option maxRecDepth 100000 in
theorem spec_shGood_ct {k : Nat} {a1 : Int} {a2 : Int} {r : Bool} (h : spec_shGood k a1 a2 = some r) : Ct prog 101 [.agg [.d (D.int .i64 a1), .d (D.int .i64 a2)]] (⟨[], []⟩) (.d (D.bool r)) (⟨[], []⟩) := by
  rw [spec_shGood] at h
  refine Ct.of (c := _) mixed func101 ⟨rfl, rfl, rfl⟩ ?_ rfl
  conv => whnf
  refine Pick.no ?_
  conv => whnf
  obtain ⟨y3, e4, h⟩ := bind_ex h
  refine CallOk.of (spec_l1In_ct e4) ?_
  conv => whnf
  refine spl (fun g5 => ?_) (fun g5 => ?_)
  · replace h := iteT h g5
    conv => whnf
    refine Pick.no ?_
    conv => whnf
    obtain ⟨y6, e7, h⟩ := bind_ex h
    refine CallOk.of (spec_l1In_ct e7) ?_
    conv => whnf
    refine spl (fun g8 => ?_) (fun g8 => ?_)
    · replace h := iteT h g8
      conv => whnf
      refine Pick.no ?_
      conv => whnf
      obtain ⟨y9, e10, h⟩ := bind_ex h
      refine CallOk.of (spec_shGcd_ct e10) ?_
      conv => whnf
      refine splD (fun g11 => ?_) (fun g11 => ?_)
      · replace h := iteP h g11
        conv => whnf
        refine CutK.go ?_
        conv => whnf
        cases h
        exact Done.of [] [] rfl rfl ⟨⟨rfl, rfl⟩, ⟨rfl, trivial⟩, rfl, trivial⟩
      · replace h := iteN h g11
        conv => whnf
        refine CutK.go ?_
        conv => whnf
        cases h
        exact Done.of [] [] rfl rfl ⟨⟨rfl, rfl⟩, ⟨rfl, trivial⟩, rfl, trivial⟩
    · replace h := iteF h g8
      conv => whnf
      refine CutK.go ?_
      conv => whnf
      cases h
      exact Done.of [] [] rfl rfl ⟨⟨rfl, rfl⟩, ⟨rfl, trivial⟩, rfl, trivial⟩
  · replace h := iteF h g5
    conv => whnf
    refine CutK.go ?_
    conv => whnf
    cases h
    exact Done.of [] [] rfl rfl ⟨⟨rfl, rfl⟩, ⟨rfl, trivial⟩, rfl, trivial⟩

def spec_shList_l0 (k : Nat) (a1 : Rw) (a2 : Int) (K0 : Option Bool) : Rw → Option Bool
  | [] => (K0)
  | cs :: rest => (cell_ii cs fun x20 x21 => ((spec_shGood k x20 x21).bind fun y23 => (if y23 = true then (spec_shList_l0 k a1 a2 K0 rest) else some false)))
set_option maxHeartbeats 4000000 in
set_option maxRecDepth 100000 in
theorem spec_shList_l0_ct {k : Nat} {a1 : Rw} {a2 : Int} {K0 : Option Bool} {r : Bool} (hx : a1.length ≤ cap) : ∀ (rest : Rw) (v11n : Nat), a1.drop v11n = rest → spec_shList_l0 k a1 a2 K0 rest = some r → LoopOk prog 0 (lp f45 0) (mk 21 [(0, .d (D.sl a1)), (1, .d (D.int .i64 a2)), (7, .d (D.sl a1)), (8, .d (D.int .i64 (a1.length : Int))), (9, .d (D.int .i64 (v11n : Int)))] []) (LoopEnd prog f45 0 21 (.d (D.bool r)) (⟨[], []⟩) (fun i ts os => (i = 0 ∧ K0 = some r ∧ ts = [(0, .d (D.sl a1)), (1, .d (D.int .i64 a2))] ∧ os = [])))
  | [], v11n, hd, h => by
      rw [spec_shList_l0] at h
      have hn := drop_nil hd
      refine LoopOk.step ?_
      conv => whnf
      refine splD (fun g => absurd g hn) (fun _ => ?_)
      conv => whnf
      exact ⟨_, _, [], [], ⟨rfl, h, rfl, rfl⟩, ⟨⟨rfl, rfl⟩, ⟨rfl, trivial⟩, rfl, rfl, trivial⟩⟩
  | cs :: rest, v11n, hd, h => by
      rw [spec_shList_l0] at h
      obtain ⟨hrow, hd1, hlt⟩ := drop_cons hd
      refine LoopOk.step ?_
      conv => whnf
      refine splD (fun _ => ?_) (fun g => absurd hlt g)
      conv => whnf
      obtain ⟨x20, x21, e22, h⟩ := cell_ii_ex h
      rw [e22] at hrow
      refine Req.of (Int.natCast_nonneg _) ?_
      refine Row.of _ hrow ?_
      conv => whnf
      refine Pick.no ?_
      conv => whnf
      obtain ⟨y23, e24, h⟩ := bind_ex h
      refine CallOk.of (spec_shGood_ct e24) ?_
      conv => whnf
      refine spl (fun g25 => ?_) (fun g25 => ?_)
      · replace h := iteT h g25
        conv => whnf
        refine CutK.go ?_
        conv => whnf
        refine CutK.go ?_
        conv => whnf
        exact LoopOk.back (spec_shList_l0_ct hx rest (v11n + 1)  hd1 h) [] [] ⟨⟨rfl, rfl⟩, ⟨rfl, trivial⟩, rfl, rfl, rfl, rfl, i64eq (wrap_up hlt hx), trivial⟩
      · replace h := iteF h g25
        conv => whnf
        refine CutK.go ?_
        conv => whnf
        cases h
        exact Done.of [] [] rfl rfl ⟨⟨rfl, rfl⟩, ⟨rfl, trivial⟩, rfl, trivial⟩
def spec_shList (k : Nat) (a1 : Rw) (a2 : Int) : Option Bool :=
  (if a1.length ≤ cap then (spec_shList_l0 k a1 a2 (if (a1.length : Int) ≤ a2 then some true else some false) a1) else none)
set_option maxHeartbeats 4000000 in
set_option maxRecDepth 100000 in
theorem spec_shList_ct {k : Nat} {a1 : Rw} {a2 : Int} {r : Bool} (h : spec_shList k a1 a2 = some r) : Ct prog 45 [.d (D.sl a1), .d (D.int .i64 a2)] (⟨[], []⟩) (.d (D.bool r)) (⟨[], []⟩) := by
  rw [spec_shList] at h
  refine Ct.of (c := _) mixed func45 ⟨rfl, rfl, rfl⟩ ?_ rfl
  conv => whnf
  obtain ⟨g26, h⟩ := req_ex h
  refine LoopOk.into (spec_shList_l0_ct  g26 _ _  rfl h) [] [] ⟨⟨rfl, rfl⟩, ⟨rfl, trivial⟩, rfl, rfl, rfl, rfl, rfl, trivial⟩ ?_ (fun _ hs => hs)
  rintro i ts os ⟨rfl, h, rfl, rfl⟩
  conv => whnf
  refine CutK.go ?_
  conv => whnf
  refine splD (fun g27 => ?_) (fun g27 => ?_)
  · replace h := iteP h g27
    conv => whnf
    cases h
    exact Done.of [] [] rfl rfl ⟨⟨rfl, rfl⟩, ⟨rfl, trivial⟩, rfl, trivial⟩
  · replace h := iteN h g27
    conv => whnf
    cases h
    exact Done.of [] [] rfl rfl ⟨⟨rfl, rfl⟩, ⟨rfl, trivial⟩, rfl, trivial⟩

def spec_suLeft_l0 (rec_spec_suLeft : Rw → Int → Int → Option Int) (a1 : Rw) (a2 : Int) (K0 : Int → Option Int) : Rw → Int → Option Int
  | [], v14 => (K0 v14)
  | cs :: rest, v14 => (cell_sii cs fun x37 x38 x39 => (if v14 < (0 : Int) then some (-1) else (if a2 = (0 : Int) then some (-1) else ((rec_spec_suLeft x37 (IntKind.i64.wrap (a2 - 1)) (IntKind.i64.wrap (v14 - 1))).bind fun y43 => (spec_suLeft_l0 rec_spec_suLeft a1 a2 K0 rest y43)))))
set_option maxHeartbeats 4000000 in
set_option maxRecDepth 100000 in
theorem spec_suLeft_l0_ct {rec_spec_suLeft : Rw → Int → Int → Option Int} {a1 : Rw} {a2 : Int} {K0 : Int → Option Int} (hrec_spec_suLeft : ∀ (a1 : Rw) (a2 : Int) (a3 : Int) (r : Int), rec_spec_suLeft a1 a2 a3 = some r → Ct prog 129 [.agg [.d (D.sl a1)], .d (D.int .i64 a2), .d (D.int .i64 a3)] (⟨[], []⟩) (.d (D.int .i64 r)) (⟨[], []⟩)) {r : Int} (hx : a1.length ≤ cap) : ∀ (rest : Rw) (v15n : Nat) (v14 : Int), a1.drop v15n = rest → spec_suLeft_l0 rec_spec_suLeft a1 a2 K0 rest v14 = some r → LoopOk prog 0 (lp f129 0) (mk 33 [(1, .d (D.int .i64 a2)), (2, .d (D.int .i64 v14)), (12, .d (D.sl a1)), (13, .d (D.int .i64 (a1.length : Int))), (14, .d (D.int .i64 (v15n : Int)))] []) (LoopEnd prog f129 0 33 (.d (D.int .i64 r)) (⟨[], []⟩) (fun i ts os => (i = 0 ∧ ∃ v26 : Int, K0 v26 = some r ∧ ts = [(2, .d (D.int .i64 v26))] ∧ os = [])))
  | [], v15n, v14, hd, h => by
      rw [spec_suLeft_l0] at h
      have hn := drop_nil hd
      refine LoopOk.step ?_
      conv => whnf
      refine splD (fun g => absurd g hn) (fun _ => ?_)
      conv => whnf
      exact ⟨_, _, [], [], ⟨rfl, _, h, rfl, rfl⟩, ⟨⟨rfl, rfl⟩, ⟨rfl, trivial⟩, rfl, trivial⟩⟩
  | cs :: rest, v15n, v14, hd, h => by
      rw [spec_suLeft_l0] at h
      obtain ⟨hrow, hd1, hlt⟩ := drop_cons hd
      refine LoopOk.step ?_
      conv => whnf
      refine splD (fun _ => ?_) (fun g => absurd hlt g)
      conv => whnf
      obtain ⟨x37, x38, x39, e40, h⟩ := cell_sii_ex h
      rw [e40] at hrow
      refine Req.of (Int.natCast_nonneg _) ?_
      refine Row.of _ hrow ?_
      conv => whnf
      refine splD (fun g41 => ?_) (fun g41 => ?_)
      · replace h := iteP h g41
        conv => whnf
        cases h
        exact Done.of [] [] rfl rfl ⟨⟨rfl, rfl⟩, ⟨rfl, trivial⟩, rfl, trivial⟩
      · replace h := iteN h g41
        conv => whnf
        refine splD (fun g42 => ?_) (fun g42 => ?_)
        · replace h := iteP h g42
          conv => whnf
          cases h
          exact Done.of [] [] rfl rfl ⟨⟨rfl, rfl⟩, ⟨rfl, trivial⟩, rfl, trivial⟩
        · replace h := iteN h g42
          conv => whnf
          refine Pick.no ?_
          conv => whnf
          obtain ⟨y43, e44, h⟩ := bind_ex h
          refine CallOk.of (hrec_spec_suLeft _ _ _ _ e44) ?_
          conv => whnf
          refine CutK.norm [1, 2, 12, 13, 14] [] ?_
          conv => whnf
          exact LoopOk.back (spec_suLeft_l0_ct hrec_spec_suLeft hx rest (v15n + 1) _ hd1 h) [] [] ⟨⟨rfl, rfl⟩, ⟨rfl, trivial⟩, rfl, rfl, rfl, rfl, i64eq (wrap_up hlt hx), trivial⟩
def spec_suLeft_b (rec_spec_suLeft : Rw → Int → Int → Option Int) (a1 : Rw) (a2 : Int) (a3 : Int) : Option Int :=
  (if a1.length ≤ cap then (spec_suLeft_l0 rec_spec_suLeft a1 a2 (fun (v26 : Int) => some v26) a1 (IntKind.i64.wrap (a3 - 1))) else none)
set_option maxHeartbeats 4000000 in
set_option maxRecDepth 100000 in
theorem spec_suLeft_b_ct {rec_spec_suLeft : Rw → Int → Int → Option Int} (hrec_spec_suLeft : ∀ (a1 : Rw) (a2 : Int) (a3 : Int) (r : Int), rec_spec_suLeft a1 a2 a3 = some r → Ct prog 129 [.agg [.d (D.sl a1)], .d (D.int .i64 a2), .d (D.int .i64 a3)] (⟨[], []⟩) (.d (D.int .i64 r)) (⟨[], []⟩)) {a1 : Rw} {a2 : Int} {a3 : Int} {r : Int} (h : spec_suLeft_b rec_spec_suLeft a1 a2 a3 = some r) : Ct prog 129 [.agg [.d (D.sl a1)], .d (D.int .i64 a2), .d (D.int .i64 a3)] (⟨[], []⟩) (.d (D.int .i64 r)) (⟨[], []⟩) := by
  rw [spec_suLeft_b] at h
  refine Ct.of (c := _) mixed func129 ⟨rfl, rfl, rfl⟩ ?_ rfl
  conv => whnf
  obtain ⟨g45, h⟩ := req_ex h
  refine LoopOk.into (spec_suLeft_l0_ct hrec_spec_suLeft g45 _ _ _ rfl h) [] [] ⟨⟨rfl, rfl⟩, ⟨rfl, trivial⟩, rfl, rfl, rfl, rfl, rfl, trivial⟩ ?_ (fun _ hs => hs)
  rintro i ts os ⟨rfl, v26, h, rfl, rfl⟩
  conv => whnf
  refine CutK.norm [2] [] ?_
  conv => whnf
  cases h
  exact Done.of [] [] rfl rfl ⟨⟨rfl, rfl⟩, ⟨rfl, trivial⟩, rfl, trivial⟩
def spec_suLeft : Nat → Rw → Int → Int → Option Int
  | 0, _, _, _ => none
  | k + 1, a1, a2, a3 => spec_suLeft_b (spec_suLeft k) a1 a2 a3
theorem spec_suLeft_ct' : ∀ (k : Nat) (a1 : Rw) (a2 : Int) (a3 : Int) (r : Int), spec_suLeft k a1 a2 a3 = some r → Ct prog 129 [.agg [.d (D.sl a1)], .d (D.int .i64 a2), .d (D.int .i64 a3)] (⟨[], []⟩) (.d (D.int .i64 r)) (⟨[], []⟩)
  | 0, _, _, _, _, h => by rw [spec_suLeft] at h; cases h
  | k + 1, _, _, _, _, h => by rw [spec_suLeft] at h; exact spec_suLeft_b_ct (spec_suLeft_ct' k) h
theorem spec_suLeft_ct {k : Nat} {a1 : Rw} {a2 : Int} {a3 : Int} {r : Int} (h : spec_suLeft k a1 a2 a3 = some r) : Ct prog 129 [.agg [.d (D.sl a1)], .d (D.int .i64 a2), .d (D.int .i64 a3)] (⟨[], []⟩) (.d (D.int .i64 r)) (⟨[], []⟩) := spec_suLeft_ct' k _ _ _ _ h

def spec_l1Sign  (a1 : Int) : Option Int :=
  (if (0 : Int) < a1 then some 1 else (if a1 < (0 : Int) then some (-1) else some 0))
set_option maxHeartbeats 4000000 in
set_option maxRecDepth 100000 in
theorem spec_l1Sign_ct  {a1 : Int} {r : Int} (h : spec_l1Sign a1 = some r) : Ct prog 103 [.d (D.int .i64 a1)] (⟨[], []⟩) (.d (D.int .i64 r)) (⟨[], []⟩) := by
  rw [spec_l1Sign] at h
  refine Ct.of (c := _) mixed func103 ⟨rfl, rfl, rfl⟩ ?_ rfl
  conv => whnf
  refine splD (fun g2 => ?_) (fun g2 => ?_)
  · replace h := iteP h g2
    conv => whnf
    cases h
    exact Done.of [] [] rfl rfl ⟨⟨rfl, rfl⟩, ⟨rfl, trivial⟩, rfl, trivial⟩
  · replace h := iteN h g2
    conv => whnf
    refine splD (fun g3 => ?_) (fun g3 => ?_)
    · replace h := iteP h g3
      conv => whnf
      cases h
      exact Done.of [] [] rfl rfl ⟨⟨rfl, rfl⟩, ⟨rfl, trivial⟩, rfl, trivial⟩
    · replace h := iteN h g3
      conv => whnf
      cases h
      exact Done.of [] [] rfl rfl ⟨⟨rfl, rfl⟩, ⟨rfl, trivial⟩, rfl, trivial⟩

def spec_suSign  (a1 : Rw) : Option Int :=
  (if (a1.length : Int) = (0 : Int) then some 0 else (row_sii a1 0 fun x3 x4 x5 => ((spec_l1Sign x4).bind fun y8 => some y8)))
set_option maxHeartbeats 4000000 in
set_option maxRecDepth 100000 in
theorem spec_suSign_ct  {a1 : Rw} {r : Int} (h : spec_suSign a1 = some r) : Ct prog 186 [.d (D.sl a1)] (⟨[], []⟩) (.d (D.int .i64 r)) (⟨[], []⟩) := by
  rw [spec_suSign] at h
  refine Ct.of (c := _) mixed func186 ⟨rfl, rfl, rfl⟩ ?_ rfl
  conv => whnf
  refine splD (fun g2 => ?_) (fun g2 => ?_)
  · replace h := iteP h g2
    conv => whnf
    cases h
    exact Done.of [] [] rfl rfl ⟨⟨rfl, rfl⟩, ⟨rfl, trivial⟩, rfl, trivial⟩
  · replace h := iteN h g2
    conv => whnf
    obtain ⟨g7, x3, x4, x5, e6, h⟩ := row_sii_ex h
    refine Req.of g7 ?_
    refine Row.of _ e6 ?_
    conv => whnf
    refine Pick.no ?_
    conv => whnf
    obtain ⟨y8, e9, h⟩ := bind_ex h
    refine CallOk.of (spec_l1Sign_ct e9) ?_
    conv => whnf
    refine CutK.go ?_
    conv => whnf
    cases h
    exact Done.of [] [] rfl rfl ⟨⟨rfl, rfl⟩, ⟨rfl, trivial⟩, rfl, trivial⟩

def spec_shCmp  (a1 : Int) (a2 : Int) (a3 : Int) (a4 : Int) : Option Int :=
  ((spec_l1Sign (IntKind.i64.wrap ((IntKind.i64.wrap (a1 * a4)) - (IntKind.i64.wrap (a3 * a2))))).bind fun y5 => some y5)
set_option maxHeartbeats 4000000 in
set_option maxRecDepth 100000 in
theorem spec_shCmp_ct  {a1 : Int} {a2 : Int} {a3 : Int} {a4 : Int} {r : Int} (h : spec_shCmp a1 a2 a3 a4 = some r) : Ct prog 42 [.agg [.d (D.int .i64 a1), .d (D.int .i64 a2)], .agg [.d (D.int .i64 a3), .d (D.int .i64 a4)]] (⟨[], []⟩) (.d (D.int .i64 r)) (⟨[], []⟩) := by
  rw [spec_shCmp] at h
  refine Ct.of (c := _) mixed func42 ⟨rfl, rfl, rfl⟩ ?_ rfl
  conv => whnf
  refine Pick.no ?_
  conv => whnf
  obtain ⟨y5, e6, h⟩ := bind_ex h
  refine CallOk.of (spec_l1Sign_ct e6) ?_
  conv => whnf
  refine CutK.go ?_
  conv => whnf
  cases h
  exact Done.of [] [] rfl rfl ⟨⟨rfl, rfl⟩, ⟨rfl, trivial⟩, rfl, trivial⟩

def spec_suCmp_p3 (o57 : Int) : Option Int :=
  some o57
set_option maxHeartbeats 4000000 in
set_option maxRecDepth 100000 in
theorem spec_suCmp_p3_ct {o57 : Int} {r : Int} (h : spec_suCmp_p3 o57 = some r) : X prog 0 (tlF f171 3) (mk 71 [(4, .d (D.int .i64 o57))] []) (finK prog f171 0 (.d (D.int .i64 r)) (⟨[], []⟩)) := by
  rw [spec_suCmp_p3] at h
  conv => whnf
  cases h
  exact Done.of [] [] rfl rfl ⟨⟨rfl, rfl⟩, ⟨rfl, trivial⟩, rfl, trivial⟩
def spec_suCmp_p2 (a1 : Rw) (a2 : Rw) : Option Int :=
  (if 0 ≤ (a1.length : Int) ∧ (a1.length : Int) ≤ (a2.length : Int) ∧ (∀ cs ∈ a2, cs.length = 3) then ((spec_suSign (a2.drop ((a1.length : Int) : Int).toNat)).bind fun y59 => (spec_suCmp_p3 (IntKind.i64.wrap (0 - y59)))) else none)
set_option maxHeartbeats 4000000 in
set_option maxRecDepth 100000 in
theorem spec_suCmp_p2_ct {a1 : Rw} {a2 : Rw} {r : Int} (h : spec_suCmp_p2 a1 a2 = some r) : X prog 0 (tlF f171 2) (mk 71 [(2, .ptr 128 0), (3, .ptr 192 0)] [(128, .box 38 [.d (D.sl a1)]), (192, .box 38 [.d (D.sl a2)])]) (finK prog f171 0 (.d (D.int .i64 r)) (⟨[], []⟩)) := by
  rw [spec_suCmp_p2] at h
  conv => whnf
  obtain ⟨g58, h⟩ := req_ex h
  refine Req.of g58 ?_
  conv => whnf
  refine Pick.no ?_
  conv => whnf
  obtain ⟨y59, e60, h⟩ := bind_ex h
  refine CallOk.of (spec_suSign_ct e60) ?_
  conv => whnf
  exact CutK.piece (spec_suCmp_p3_ct  h) [] [] ⟨⟨rfl, rfl⟩, ⟨rfl, trivial⟩, rfl, trivial⟩
def spec_suCmp_l0 (rec_spec_suCmp : Rw → Rw → Option Int) (a1 : Rw) (a2 : Rw) (K0 : Option Int) : Rw → Nat → Option Int
  | [], v86n => (K0)
  | cs :: rest, v86n => (cell_sii cs fun x112 x113 x114 => (if (v86n : Int) = (a2.length : Int) then ((spec_l1Sign x113).bind fun y117 => some y117) else (row_sii a2 (v86n : Int) fun x119 x120 x121 => ((rec_spec_suCmp x112 x119).bind fun y124 => (if (0 : Int) < y124 then ((spec_l1Sign x113).bind fun y127 => some y127) else (if y124 < (0 : Int) then ((spec_l1Sign x120).bind fun y130 => some (IntKind.i64.wrap (0 - y130))) else (if (!(decide (x113 = x120) && (decide (x114 = x121) && true))) = true then ((spec_shCmp x113 x114 x120 x121).bind fun y133 => some y133) else (spec_suCmp_l0 rec_spec_suCmp a1 a2 K0 rest (v86n + 1)))))))))
set_option maxHeartbeats 4000000 in
set_option maxRecDepth 100000 in
theorem spec_suCmp_l0_ct {rec_spec_suCmp : Rw → Rw → Option Int} {a1 : Rw} {a2 : Rw} {K0 : Option Int} (hrec_spec_suCmp : ∀ (a1 : Rw) (a2 : Rw) (r : Int), rec_spec_suCmp a1 a2 = some r → Ct prog 171 [.agg [.d (D.sl a1)], .agg [.d (D.sl a2)]] (⟨[], []⟩) (.d (D.int .i64 r)) (⟨[], []⟩)) {r : Int} (hx : a1.length ≤ cap) : ∀ (rest : Rw) (v86n : Nat), a1.drop v86n = rest → spec_suCmp_l0 rec_spec_suCmp a1 a2 K0 rest v86n = some r → LoopOk prog 0 (lp f171 0) (mk 71 [(2, .ptr 128 0), (3, .ptr 192 0), (10, .d (D.sl a1)), (11, .d (D.int .i64 (a1.length : Int))), (12, .d (D.int .i64 (v86n : Int)))] [(128, .box 38 [.d (D.sl a1)]), (192, .box 38 [.d (D.sl a2)])]) (LoopEnd prog f171 0 71 (.d (D.int .i64 r)) (⟨[], []⟩) (fun i ts os => (i = 0 ∧ K0 = some r ∧ ts = [(2, .ptr 128 0), (3, .ptr 192 0)] ∧ os = [(128, .box 38 [.d (D.sl a1)]), (192, .box 38 [.d (D.sl a2)])])))
  | [], v86n, hd, h => by
      rw [spec_suCmp_l0] at h
      have hn := drop_nil hd
      refine LoopOk.step ?_
      conv => whnf
      refine splD (fun g => absurd g hn) (fun _ => ?_)
      conv => whnf
      exact ⟨_, _, [some 128, some 192], [], ⟨rfl, h, rfl, rfl⟩, ⟨⟨rfl, rfl⟩, ⟨rfl, ⟨rfl, rfl, trivial⟩, ⟨rfl, rfl, trivial⟩, trivial⟩, ⟨rfl, rfl⟩, ⟨rfl, rfl⟩, trivial⟩⟩
  | cs :: rest, v86n, hd, h => by
      rw [spec_suCmp_l0] at h
      obtain ⟨hrow, hd1, hlt⟩ := drop_cons hd
      refine LoopOk.step ?_
      conv => whnf
      refine splD (fun _ => ?_) (fun g => absurd hlt g)
      conv => whnf
      obtain ⟨x112, x113, x114, e115, h⟩ := cell_sii_ex h
      rw [e115] at hrow
      refine Req.of (Int.natCast_nonneg _) ?_
      refine Row.of _ hrow ?_
      conv => whnf
      refine splD (fun g116 => ?_) (fun g116 => ?_)
      · replace h := iteP h g116
        conv => whnf
        refine Pick.no ?_
        conv => whnf
        obtain ⟨y117, e118, h⟩ := bind_ex h
        refine CallOk.of (spec_l1Sign_ct e118) ?_
        conv => whnf
        refine CutK.norm [4] [] ?_
        conv => whnf
        cases h
        exact Done.of [] [] rfl rfl ⟨⟨rfl, rfl⟩, ⟨rfl, trivial⟩, rfl, trivial⟩
      · replace h := iteN h g116
        conv => whnf
        refine CutK.norm [2, 3, 5, 6, 10, 11, 12] [128, 192, 384] ?_
        conv => whnf
        obtain ⟨g123, x119, x120, x121, e122, h⟩ := row_sii_ex h
        refine Req.of g123 ?_
        refine Row.of _ e122 ?_
        conv => whnf
        refine Pick.no ?_
        conv => whnf
        obtain ⟨y124, e125, h⟩ := bind_ex h
        refine CallOk.of (hrec_spec_suCmp _ _ _ e125) ?_
        conv => whnf
        refine CutK.norm [2, 3, 6, 7, 8, 10, 11, 12] [128, 192, 384, 448] ?_
        conv => whnf
        refine splD (fun g126 => ?_) (fun g126 => ?_)
        · replace h := iteP h g126
          conv => whnf
          refine Pick.no ?_
          conv => whnf
          obtain ⟨y127, e128, h⟩ := bind_ex h
          refine CallOk.of (spec_l1Sign_ct e128) ?_
          conv => whnf
          refine CutK.norm [4] [] ?_
          conv => whnf
          cases h
          exact Done.of [] [] rfl rfl ⟨⟨rfl, rfl⟩, ⟨rfl, trivial⟩, rfl, trivial⟩
        · replace h := iteN h g126
          conv => whnf
          refine splD (fun g129 => ?_) (fun g129 => ?_)
          · replace h := iteP h g129
            conv => whnf
            refine Pick.no ?_
            conv => whnf
            obtain ⟨y130, e131, h⟩ := bind_ex h
            refine CallOk.of (spec_l1Sign_ct e131) ?_
            conv => whnf
            refine CutK.norm [4] [] ?_
            conv => whnf
            cases h
            exact Done.of [] [] rfl rfl ⟨⟨rfl, rfl⟩, ⟨rfl, trivial⟩, rfl, trivial⟩
          · replace h := iteN h g129
            conv => whnf
            refine Req.of ⟨by kernel_rfl, by kernel_rfl⟩ ?_
            conv => whnf
            refine spl (fun g132 => ?_) (fun g132 => ?_)
            · replace h := iteT h g132
              conv => whnf
              refine Pick.no ?_
              conv => whnf
              obtain ⟨y133, e134, h⟩ := bind_ex h
              refine CallOk.of (spec_shCmp_ct e134) ?_
              conv => whnf
              refine CutK.norm [4] [] ?_
              conv => whnf
              cases h
              exact Done.of [] [] rfl rfl ⟨⟨rfl, rfl⟩, ⟨rfl, trivial⟩, rfl, trivial⟩
            · replace h := iteF h g132
              conv => whnf
              refine CutK.norm [2, 3, 10, 11, 12] [128, 192] ?_
              conv => whnf
              exact LoopOk.back (spec_suCmp_l0_ct hrec_spec_suCmp hx rest (v86n + 1)  hd1 h) [some 128, some 192] [] ⟨⟨rfl, rfl⟩, ⟨rfl, ⟨rfl, rfl, trivial⟩, ⟨rfl, rfl, trivial⟩, trivial⟩, ⟨rfl, rfl⟩, ⟨rfl, rfl⟩, rfl, rfl, i64eq (wrap_up hlt hx), trivial⟩
def spec_suCmp_b (rec_spec_suCmp : Rw → Rw → Option Int) (a1 : Rw) (a2 : Rw) : Option Int :=
  (if a1.length ≤ cap then (spec_suCmp_l0 rec_spec_suCmp a1 a2 (spec_suCmp_p2 a1 a2) a1 0) else none)
set_option maxHeartbeats 4000000 in
set_option maxRecDepth 100000 in
theorem spec_suCmp_b_ct {rec_spec_suCmp : Rw → Rw → Option Int} (hrec_spec_suCmp : ∀ (a1 : Rw) (a2 : Rw) (r : Int), rec_spec_suCmp a1 a2 = some r → Ct prog 171 [.agg [.d (D.sl a1)], .agg [.d (D.sl a2)]] (⟨[], []⟩) (.d (D.int .i64 r)) (⟨[], []⟩)) {a1 : Rw} {a2 : Rw} {r : Int} (h : spec_suCmp_b rec_spec_suCmp a1 a2 = some r) : Ct prog 171 [.agg [.d (D.sl a1)], .agg [.d (D.sl a2)]] (⟨[], []⟩) (.d (D.int .i64 r)) (⟨[], []⟩) := by
  rw [spec_suCmp_b] at h
  refine Ct.of (c := _) mixed func171 ⟨rfl, rfl, rfl⟩ ?_ rfl
  conv => whnf
  obtain ⟨g135, h⟩ := req_ex h
  refine LoopOk.into (spec_suCmp_l0_ct hrec_spec_suCmp g135 _ _  rfl h) [some 128, some 192] [] ⟨⟨rfl, rfl⟩, ⟨rfl, ⟨rfl, rfl, trivial⟩, ⟨rfl, rfl, trivial⟩, trivial⟩, ⟨rfl, rfl⟩, ⟨rfl, rfl⟩, rfl, rfl, rfl, trivial⟩ ?_ (fun _ hs => hs)
  rintro i ts os ⟨rfl, h, rfl, rfl⟩
  conv => whnf
  exact CutK.piece (spec_suCmp_p2_ct  h) [some 128, some 192] [] ⟨⟨rfl, rfl⟩, ⟨rfl, ⟨rfl, rfl, trivial⟩, ⟨rfl, rfl, trivial⟩, trivial⟩, ⟨rfl, rfl⟩, ⟨rfl, rfl⟩, trivial⟩
def spec_suCmp : Nat → Rw → Rw → Option Int
  | 0, _, _ => none
  | k + 1, a1, a2 => spec_suCmp_b (spec_suCmp k) a1 a2
theorem spec_suCmp_ct' : ∀ (k : Nat) (a1 : Rw) (a2 : Rw) (r : Int), spec_suCmp k a1 a2 = some r → Ct prog 171 [.agg [.d (D.sl a1)], .agg [.d (D.sl a2)]] (⟨[], []⟩) (.d (D.int .i64 r)) (⟨[], []⟩)
  | 0, _, _, _, h => by rw [spec_suCmp] at h; cases h
  | k + 1, _, _, _, h => by rw [spec_suCmp] at h; exact spec_suCmp_b_ct (spec_suCmp_ct' k) h
theorem spec_suCmp_ct {k : Nat} {a1 : Rw} {a2 : Rw} {r : Int} (h : spec_suCmp k a1 a2 = some r) : Ct prog 171 [.agg [.d (D.sl a1)], .agg [.d (D.sl a2)]] (⟨[], []⟩) (.d (D.int .i64 r)) (⟨[], []⟩) := spec_suCmp_ct' k _ _ _ h

def spec_suForm_p3  : Option Bool :=
  some true
set_option maxHeartbeats 4000000 in
set_option maxRecDepth 100000 in
theorem spec_suForm_p3_ct  {r : Bool} (h : spec_suForm_p3 = some r) : X prog 0 (tlF f130 3) (mk 53 [] []) (finK prog f130 0 (.d (D.bool r)) (⟨[], []⟩)) := by
  rw [spec_suForm_p3] at h
  conv => whnf
  cases h
  exact Done.of [] [] rfl rfl ⟨⟨rfl, rfl⟩, ⟨rfl, trivial⟩, rfl, trivial⟩
def spec_suForm_l0 (k : Nat) (rec_spec_suForm : Rw → Int → Option Bool) (a1 : Rw) (a2 : Int) (K0 : Option Bool) : Rw → Nat → Option Bool
  | [], v54n => (K0)
  | cs :: rest, v54n => (cell_sii cs fun x77 x78 x79 => ((spec_shGood k x78 x79).bind fun y81 => (if y81 = true then (if x78 = (0 : Int) then some false else ((rec_spec_suForm x77 (IntKind.i64.wrap (a2 - 1))).bind fun y85 => (if y85 = true then (if (0 : Int) < (v54n : Int) then (row_sii a1 (IntKind.i64.wrap ((v54n : Int) - 1)) fun x89 x90 x91 => ((spec_suCmp k x89 x77).bind fun y94 => (if y94 ≤ (0 : Int) then some false else (spec_suForm_l0 k rec_spec_suForm a1 a2 K0 rest (v54n + 1))))) else (spec_suForm_l0 k rec_spec_suForm a1 a2 K0 rest (v54n + 1))) else some false))) else some false)))
set_option maxHeartbeats 4000000 in
set_option maxRecDepth 100000 in
theorem spec_suForm_l0_ct {k : Nat} {rec_spec_suForm : Rw → Int → Option Bool} {a1 : Rw} {a2 : Int} {K0 : Option Bool} (hrec_spec_suForm : ∀ (a1 : Rw) (a2 : Int) (r : Bool), rec_spec_suForm a1 a2 = some r → Ct prog 130 [.agg [.d (D.sl a1)], .d (D.int .i64 a2)] (⟨[], []⟩) (.d (D.bool r)) (⟨[], []⟩)) {r : Bool} (hx : a1.length ≤ cap) : ∀ (rest : Rw) (v54n : Nat), a1.drop v54n = rest → spec_suForm_l0 k rec_spec_suForm a1 a2 K0 rest v54n = some r → LoopOk prog 0 (lp f130 0) (mk 53 [(1, .d (D.int .i64 a2)), (2, .ptr 128 0), (10, .d (D.sl a1)), (11, .d (D.int .i64 (a1.length : Int))), (12, .d (D.int .i64 (v54n : Int)))] [(128, .box 38 [.d (D.sl a1)])]) (LoopEnd prog f130 0 53 (.d (D.bool r)) (⟨[], []⟩) (fun i ts os => (i = 0 ∧ K0 = some r ∧ ts = [] ∧ os = [])))
  | [], v54n, hd, h => by
      rw [spec_suForm_l0] at h
      have hn := drop_nil hd
      refine LoopOk.step ?_
      conv => whnf
      refine splD (fun g => absurd g hn) (fun _ => ?_)
      conv => whnf
      exact ⟨_, _, [], [], ⟨rfl, h, rfl, rfl⟩, ⟨⟨rfl, rfl⟩, ⟨rfl, trivial⟩, trivial⟩⟩
  | cs :: rest, v54n, hd, h => by
      rw [spec_suForm_l0] at h
      obtain ⟨hrow, hd1, hlt⟩ := drop_cons hd
      refine LoopOk.step ?_
      conv => whnf
      refine splD (fun _ => ?_) (fun g => absurd hlt g)
      conv => whnf
      obtain ⟨x77, x78, x79, e80, h⟩ := cell_sii_ex h
      rw [e80] at hrow
      refine Req.of (Int.natCast_nonneg _) ?_
      refine Row.of _ hrow ?_
      conv => whnf
      refine Pick.no ?_
      conv => whnf
      obtain ⟨y81, e82, h⟩ := bind_ex h
      refine CallOk.of (spec_shGood_ct e82) ?_
      conv => whnf
      refine spl (fun g83 => ?_) (fun g83 => ?_)
      · replace h := iteT h g83
        conv => whnf
        refine splD (fun g84 => ?_) (fun g84 => ?_)
        · replace h := iteP h g84
          conv => whnf
          refine CutK.norm [1, 2, 10, 11, 12, 51] [128] ?_
          conv => whnf
          cases h
          exact Done.of [] [] rfl rfl ⟨⟨rfl, rfl⟩, ⟨rfl, trivial⟩, rfl, trivial⟩
        · replace h := iteN h g84
          conv => whnf
          refine Pick.no ?_
          conv => whnf
          obtain ⟨y85, e86, h⟩ := bind_ex h
          refine CallOk.of (hrec_spec_suForm _ _ _ e86) ?_
          conv => whnf
          refine spl (fun g87 => ?_) (fun g87 => ?_)
          · replace h := iteT h g87
            conv => whnf
            refine splD (fun g88 => ?_) (fun g88 => ?_)
            · replace h := iteP h g88
              conv => whnf
              obtain ⟨g93, x89, x90, x91, e92, h⟩ := row_sii_ex h
              refine Req.of g93 ?_
              refine Row.of _ e92 ?_
              conv => whnf
              refine Pick.no ?_
              conv => whnf
              obtain ⟨y94, e95, h⟩ := bind_ex h
              refine CallOk.of (spec_suCmp_ct e95) ?_
              conv => whnf
              refine splD (fun g96 => ?_) (fun g96 => ?_)
              · replace h := iteP h g96
                conv => whnf
                refine CutK.norm [1, 2, 10, 11, 12, 51] [128] ?_
                conv => whnf
                cases h
                exact Done.of [] [] rfl rfl ⟨⟨rfl, rfl⟩, ⟨rfl, trivial⟩, rfl, trivial⟩
              · replace h := iteN h g96
                conv => whnf
                refine CutK.norm [1, 2, 10, 11, 12, 51] [128] ?_
                conv => whnf
                refine CutK.norm [1, 2, 10, 11, 12] [128] ?_
                conv => whnf
                exact LoopOk.back (spec_suForm_l0_ct hrec_spec_suForm hx rest (v54n + 1)  hd1 h) [some 128] [] ⟨⟨rfl, rfl⟩, ⟨rfl, ⟨rfl, rfl, trivial⟩, trivial⟩, rfl, ⟨rfl, rfl⟩, rfl, rfl, i64eq (wrap_up hlt hx), trivial⟩
            · replace h := iteN h g88
              conv => whnf
              refine CutK.norm [1, 2, 10, 11, 12, 51] [128] ?_
              conv => whnf
              refine CutK.norm [1, 2, 10, 11, 12] [128] ?_
              conv => whnf
              exact LoopOk.back (spec_suForm_l0_ct hrec_spec_suForm hx rest (v54n + 1)  hd1 h) [some 128] [] ⟨⟨rfl, rfl⟩, ⟨rfl, ⟨rfl, rfl, trivial⟩, trivial⟩, rfl, ⟨rfl, rfl⟩, rfl, rfl, i64eq (wrap_up hlt hx), trivial⟩
          · replace h := iteF h g87
            conv => whnf
            refine CutK.norm [1, 2, 10, 11, 12, 51] [128] ?_
            conv => whnf
            cases h
            exact Done.of [] [] rfl rfl ⟨⟨rfl, rfl⟩, ⟨rfl, trivial⟩, rfl, trivial⟩
      · replace h := iteF h g83
        conv => whnf
        refine CutK.norm [1, 2, 10, 11, 12, 51] [128] ?_
        conv => whnf
        cases h
        exact Done.of [] [] rfl rfl ⟨⟨rfl, rfl⟩, ⟨rfl, trivial⟩, rfl, trivial⟩
def spec_suForm_b (k : Nat) (rec_spec_suForm : Rw → Int → Option Bool) (a1 : Rw) (a2 : Int) : Option Bool :=
  (if a2 < (0 : Int) then some false else (if a1.length ≤ cap then (spec_suForm_l0 k rec_spec_suForm a1 a2 (spec_suForm_p3) a1 0) else none))
set_option maxHeartbeats 4000000 in
set_option maxRecDepth 100000 in
theorem spec_suForm_b_ct {k : Nat} {rec_spec_suForm : Rw → Int → Option Bool} (hrec_spec_suForm : ∀ (a1 : Rw) (a2 : Int) (r : Bool), rec_spec_suForm a1 a2 = some r → Ct prog 130 [.agg [.d (D.sl a1)], .d (D.int .i64 a2)] (⟨[], []⟩) (.d (D.bool r)) (⟨[], []⟩)) {a1 : Rw} {a2 : Int} {r : Bool} (h : spec_suForm_b k rec_spec_suForm a1 a2 = some r) : Ct prog 130 [.agg [.d (D.sl a1)], .d (D.int .i64 a2)] (⟨[], []⟩) (.d (D.bool r)) (⟨[], []⟩) := by
  rw [spec_suForm_b] at h
  refine Ct.of (c := _) mixed func130 ⟨rfl, rfl, rfl⟩ ?_ rfl
  conv => whnf
  refine splD (fun g40 => ?_) (fun g40 => ?_)
  · replace h := iteP h g40
    conv => whnf
    cases h
    exact Done.of [] [] rfl rfl ⟨⟨rfl, rfl⟩, ⟨rfl, trivial⟩, rfl, trivial⟩
  · replace h := iteN h g40
    conv => whnf
    obtain ⟨g97, h⟩ := req_ex h
    refine LoopOk.into (spec_suForm_l0_ct hrec_spec_suForm g97 _ _  rfl h) [some 128] [] ⟨⟨rfl, rfl⟩, ⟨rfl, ⟨rfl, rfl, trivial⟩, trivial⟩, rfl, ⟨rfl, rfl⟩, rfl, rfl, rfl, trivial⟩ ?_ (fun _ hs => hs)
    rintro i ts os ⟨rfl, h, rfl, rfl⟩
    conv => whnf
    exact CutK.piece (spec_suForm_p3_ct  h) [] [] ⟨⟨rfl, rfl⟩, ⟨rfl, trivial⟩, trivial⟩
def spec_suForm : Nat → Rw → Int → Option Bool
  | 0, _, _ => none
  | k + 1, a1, a2 => spec_suForm_b k (spec_suForm k) a1 a2
theorem spec_suForm_ct' : ∀ (k : Nat) (a1 : Rw) (a2 : Int) (r : Bool), spec_suForm k a1 a2 = some r → Ct prog 130 [.agg [.d (D.sl a1)], .d (D.int .i64 a2)] (⟨[], []⟩) (.d (D.bool r)) (⟨[], []⟩)
  | 0, _, _, _, h => by rw [spec_suForm] at h; cases h
  | k + 1, _, _, _, h => by rw [spec_suForm] at h; exact spec_suForm_b_ct (spec_suForm_ct' k) h
theorem spec_suForm_ct {k : Nat} {a1 : Rw} {a2 : Int} {r : Bool} (h : spec_suForm k a1 a2 = some r) : Ct prog 130 [.agg [.d (D.sl a1)], .d (D.int .i64 a2)] (⟨[], []⟩) (.d (D.bool r)) (⟨[], []⟩) := spec_suForm_ct' k _ _ _ h

def spec_suGood (k : Nat) (a1 : Rw) : Option Bool :=
  ((spec_suLeft k a1 6 60).bind fun y2 => (if (0 : Int) ≤ y2 then ((spec_suForm k a1 6).bind fun y5 => (if y5 = true then some true else some false)) else some false))
set_option maxHeartbeats 4000000 in
set_option maxRecDepth 100000 in
theorem spec_suGood_ct {k : Nat} {a1 : Rw} {r : Bool} (h : spec_suGood k a1 = some r) : Ct prog 61 [.agg [.d (D.sl a1)]] (⟨[], []⟩) (.d (D.bool r)) (⟨[], []⟩) := by
  rw [spec_suGood] at h
  refine Ct.of (c := _) mixed func61 ⟨rfl, rfl, rfl⟩ ?_ rfl
  conv => whnf
  refine Pick.no ?_
  conv => whnf
  obtain ⟨y2, e3, h⟩ := bind_ex h
  refine CallOk.of (spec_suLeft_ct e3) ?_
  conv => whnf
  refine splD (fun g4 => ?_) (fun g4 => ?_)
  · replace h := iteP h g4
    conv => whnf
    refine Pick.no ?_
    conv => whnf
    obtain ⟨y5, e6, h⟩ := bind_ex h
    refine CallOk.of (spec_suForm_ct e6) ?_
    conv => whnf
    refine spl (fun g7 => ?_) (fun g7 => ?_)
    · replace h := iteT h g7
      conv => whnf
      refine CutK.go ?_
      conv => whnf
      cases h
      exact Done.of [] [] rfl rfl ⟨⟨rfl, rfl⟩, ⟨rfl, trivial⟩, rfl, trivial⟩
    · replace h := iteF h g7
      conv => whnf
      refine CutK.go ?_
      conv => whnf
      cases h
      exact Done.of [] [] rfl rfl ⟨⟨rfl, rfl⟩, ⟨rfl, trivial⟩, rfl, trivial⟩
  · replace h := iteN h g4
    conv => whnf
    refine CutK.go ?_
    conv => whnf
    cases h
    exact Done.of [] [] rfl rfl ⟨⟨rfl, rfl⟩, ⟨rfl, trivial⟩, rfl, trivial⟩

def spec_suOwn_l0 (rec_spec_suOwn : Rw → Option Rw) (a1 : Rw) (K0 : Rw → Option Rw) : Rw → Rw → Option Rw
  | [], v11 => (K0 v11)
  | cs :: rest, v11 => (cell_sii cs fun x31 x32 x33 => ((rec_spec_suOwn x31).bind fun y35 => (if v11.length + 1 ≤ cap then (spec_suOwn_l0 rec_spec_suOwn a1 K0 rest (v11 ++ ([[D.sl y35, D.int .i64 x32, D.int .i64 x33]]))) else none)))
set_option maxHeartbeats 4000000 in
set_option maxRecDepth 100000 in
theorem spec_suOwn_l0_ct {rec_spec_suOwn : Rw → Option Rw} {a1 : Rw} {K0 : Rw → Option Rw} (hrec_spec_suOwn : ∀ (a1 : Rw) (r : Rw), rec_spec_suOwn a1 = some r → Ct prog 152 [.agg [.d (D.sl a1)]] (⟨[], []⟩) (.agg [.os 8 r.length]) (⟨[], [(109, true, r)]⟩)) {r : Rw} (hx : a1.length ≤ cap) : ∀ (rest : Rw) (v10n : Nat) (v11 : Rw), a1.drop v10n = rest → spec_suOwn_l0 rec_spec_suOwn a1 K0 rest v11 = some r → LoopOk prog 0 (lp f152 0) (mk 27 [(2, .ptr 128 0), (3, .ptr 192 0), (8, .d (D.sl a1)), (9, .d (D.int .i64 (a1.length : Int))), (10, .d (D.int .i64 (v10n : Int)))] [(128, .box 38 [.es]), (192, .box 38 [.os 64000 v11.length]), (64000, .arr 109 true v11)]) (LoopEnd prog f152 0 27 (.agg [.os 8 r.length]) (⟨[], [(109, true, r)]⟩) (fun i ts os => (i = 0 ∧ ∃ v21 : Rw, K0 v21 = some r ∧ ts = [(2, .ptr 128 0), (3, .ptr 192 0)] ∧ os = [(128, .box 38 [.es]), (192, .box 38 [.os 67001 v21.length]), (67001, .arr 109 true v21)])))
  | [], v10n, v11, hd, h => by
      rw [spec_suOwn_l0] at h
      have hn := drop_nil hd
      refine LoopOk.step ?_
      conv => whnf
      refine splD (fun g => absurd g hn) (fun _ => ?_)
      conv => whnf
      exact ⟨_, _, [some 128, some 192, some 64000], [], ⟨rfl, _, h, rfl, rfl⟩, ⟨⟨rfl, rfl⟩, ⟨rfl, ⟨rfl, trivial, trivial⟩, ⟨rfl, ⟨rfl, rfl⟩, trivial⟩, ⟨rfl, rfl, rows_same⟩, trivial⟩, ⟨rfl, rfl⟩, ⟨rfl, rfl⟩, trivial⟩⟩
  | cs :: rest, v10n, v11, hd, h => by
      rw [spec_suOwn_l0] at h
      obtain ⟨hrow, hd1, hlt⟩ := drop_cons hd
      refine LoopOk.step ?_
      conv => whnf
      refine splD (fun _ => ?_) (fun g => absurd hlt g)
      conv => whnf
      obtain ⟨x31, x32, x33, e34, h⟩ := cell_sii_ex h
      rw [e34] at hrow
      refine Req.of (Int.natCast_nonneg _) ?_
      refine Row.of _ hrow ?_
      conv => whnf
      refine Pick.no ?_
      conv => whnf
      obtain ⟨y35, e36, h⟩ := bind_ex h
      refine CallOk.of (hrec_spec_suOwn _ _ e36) ?_
      conv => whnf
      refine Take.all (rfl) ?_
      conv => whnf
      refine Take.all (rfl) ?_
      conv => whnf
      refine Take.all (by first | rfl | exact List.length_append.symm | (simp; done) | omega) ?_
      conv => whnf
      obtain ⟨g37, h⟩ := req_ex h
      refine Req.of (room (b := 40) (by decide) g37 (wide1 rfl wide0)) ?_
      conv => whnf
      refine CutK.go ?_
      conv => whnf
      exact LoopOk.back (spec_suOwn_l0_ct hrec_spec_suOwn hx rest (v10n + 1) _ hd1 h) [some 128, some 192, some 1472] [] ⟨⟨rfl, rfl⟩, ⟨rfl, ⟨rfl, trivial, trivial⟩, ⟨rfl, ⟨(by first | rfl | exact List.length_append.symm | (simp; done) | omega), rfl⟩, trivial⟩, ⟨rfl, rfl, rows_same⟩, trivial⟩, ⟨rfl, rfl⟩, ⟨rfl, rfl⟩, rfl, rfl, i64eq (wrap_up hlt hx), trivial⟩
def spec_suOwn_b (rec_spec_suOwn : Rw → Option Rw) (a1 : Rw) : Option Rw :=
  (if a1.length ≤ cap then (spec_suOwn_l0 rec_spec_suOwn a1 (fun (v21 : Rw) => some v21) a1 ([] : Rw)) else none)
set_option maxHeartbeats 4000000 in
set_option maxRecDepth 100000 in
theorem spec_suOwn_b_ct {rec_spec_suOwn : Rw → Option Rw} (hrec_spec_suOwn : ∀ (a1 : Rw) (r : Rw), rec_spec_suOwn a1 = some r → Ct prog 152 [.agg [.d (D.sl a1)]] (⟨[], []⟩) (.agg [.os 8 r.length]) (⟨[], [(109, true, r)]⟩)) {a1 : Rw} {r : Rw} (h : spec_suOwn_b rec_spec_suOwn a1 = some r) : Ct prog 152 [.agg [.d (D.sl a1)]] (⟨[], []⟩) (.agg [.os 8 r.length]) (⟨[], [(109, true, r)]⟩) := by
  rw [spec_suOwn_b] at h
  refine Ct.of (c := _) mixed func152 ⟨rfl, rfl, rfl⟩ ?_ rfl
  conv => whnf
  obtain ⟨g38, h⟩ := req_ex h
  refine LoopOk.into (spec_suOwn_l0_ct hrec_spec_suOwn g38 _ _ _ rfl h) [some 128, some 192, none] [] ⟨⟨rfl, rfl⟩, ⟨rfl, ⟨rfl, trivial, trivial⟩, ⟨rfl, ⟨rfl, rfl⟩, trivial⟩, rfl, trivial⟩, ⟨rfl, rfl⟩, ⟨rfl, rfl⟩, rfl, rfl, rfl, trivial⟩ ?_ (fun _ hs => hs)
  rintro i ts os ⟨rfl, v21, h, rfl, rfl⟩
  conv => whnf
  refine CutK.go ?_
  conv => whnf
  cases h
  exact Done.of [some 67001] [] rfl rfl ⟨⟨rfl, rfl⟩, ⟨rfl, ⟨rfl, rfl, rows_same⟩, trivial⟩, ⟨⟨rfl, rfl⟩, trivial⟩, trivial⟩
def spec_suOwn : Nat → Rw → Option Rw
  | 0, _ => none
  | k + 1, a1 => spec_suOwn_b (spec_suOwn k) a1
theorem spec_suOwn_ct' : ∀ (k : Nat) (a1 : Rw) (r : Rw), spec_suOwn k a1 = some r → Ct prog 152 [.agg [.d (D.sl a1)]] (⟨[], []⟩) (.agg [.os 8 r.length]) (⟨[], [(109, true, r)]⟩)
  | 0, _, _, h => by rw [spec_suOwn] at h; cases h
  | k + 1, _, _, h => by rw [spec_suOwn] at h; exact spec_suOwn_b_ct (spec_suOwn_ct' k) h
theorem spec_suOwn_ct {k : Nat} {a1 : Rw} {r : Rw} (h : spec_suOwn k a1 = some r) : Ct prog 152 [.agg [.d (D.sl a1)]] (⟨[], []⟩) (.agg [.os 8 r.length]) (⟨[], [(109, true, r)]⟩) := spec_suOwn_ct' k _ _ h

def spec_suIf (k : Nat) (a1 : Rw) : Option (Rw × Bool) :=
  ((spec_suGood k a1).bind fun y2 => (if y2 = true then ((spec_suOwn k a1).bind fun y5 => some (y5, true)) else some (([] : Rw), false)))
set_option maxHeartbeats 4000000 in
set_option maxRecDepth 100000 in
theorem spec_suIf_ct {k : Nat} {a1 : Rw} {r : Rw × Bool} (h : spec_suIf k a1 = some r) : Ct prog 173 [.agg [.d (D.sl a1)]] (⟨[], []⟩) (.tup [.agg [.os 8 r.1.length], .d (D.bool r.2)]) (⟨[], [(109, true, r.1)]⟩) := by
  rw [spec_suIf] at h
  refine Ct.of (c := _) mixed func173 ⟨rfl, rfl, rfl⟩ ?_ rfl
  conv => whnf
  refine Pick.no ?_
  conv => whnf
  obtain ⟨y2, e3, h⟩ := bind_ex h
  refine CallOk.of (spec_suGood_ct e3) ?_
  conv => whnf
  refine spl (fun g4 => ?_) (fun g4 => ?_)
  · replace h := iteT h g4
    conv => whnf
    refine CutK.go ?_
    conv => whnf
    refine CutK.go ?_
    conv => whnf
    refine Pick.no ?_
    conv => whnf
    obtain ⟨y5, e6, h⟩ := bind_ex h
    refine CallOk.of (spec_suOwn_ct e6) ?_
    conv => whnf
    refine CutK.go ?_
    conv => whnf
    cases h
    exact Done.of [some 576] [] rfl rfl ⟨⟨rfl, rfl⟩, ⟨rfl, ⟨rfl, rfl, rows_same⟩, trivial⟩, ⟨⟨⟨rfl, rfl⟩, trivial⟩, rfl, trivial⟩, trivial⟩
  · replace h := iteF h g4
    conv => whnf
    refine CutK.go ?_
    conv => whnf
    cases h
    exact Done.of [none] [] rfl rfl ⟨⟨rfl, rfl⟩, ⟨rfl, rfl, trivial⟩, ⟨⟨⟨rfl, rfl⟩, trivial⟩, rfl, trivial⟩, trivial⟩

def spec_shMake (k : Nat) (a1 : Int) (a2 : Int) : Option (Int × Int) :=
  ((spec_shGcd k a1 a2).bind fun y3 => (if a2 < (0 : Int) then (if (IntKind.i64.wrap (0 - y3)) ≠ 0 then some (IntKind.i64.wrap (a1.tdiv (IntKind.i64.wrap (0 - y3))), IntKind.i64.wrap (a2.tdiv (IntKind.i64.wrap (0 - y3)))) else none) else (if y3 ≠ 0 then some (IntKind.i64.wrap (a1.tdiv y3), IntKind.i64.wrap (a2.tdiv y3)) else none)))
set_option maxHeartbeats 4000000 in
set_option maxRecDepth 100000 in
theorem spec_shMake_ct {k : Nat} {a1 : Int} {a2 : Int} {r : Int × Int} (h : spec_shMake k a1 a2 = some r) : Ct prog 117 [.d (D.int .i64 a1), .d (D.int .i64 a2)] (⟨[], []⟩) (.agg [.d (D.int .i64 r.1), .d (D.int .i64 r.2)]) (⟨[], []⟩) := by
  rw [spec_shMake] at h
  refine Ct.of (c := _) mixed func117 ⟨rfl, rfl, rfl⟩ ?_ rfl
  conv => whnf
  refine Pick.no ?_
  conv => whnf
  obtain ⟨y3, e4, h⟩ := bind_ex h
  refine CallOk.of (spec_shGcd_ct e4) ?_
  conv => whnf
  refine CutK.go ?_
  conv => whnf
  refine splD (fun g5 => ?_) (fun g5 => ?_)
  · replace h := iteP h g5
    conv => whnf
    obtain ⟨g6, h⟩ := req_ex h
    refine Req.of g6 ?_
    conv => whnf
    refine Req.of g6 ?_
    conv => whnf
    cases h
    exact Done.of [] [] rfl rfl ⟨⟨rfl, rfl⟩, ⟨rfl, trivial⟩, ⟨rfl, rfl, trivial⟩, trivial⟩
  · replace h := iteN h g5
    conv => whnf
    obtain ⟨g7, h⟩ := req_ex h
    refine Req.of g7 ?_
    conv => whnf
    refine Req.of g7 ?_
    conv => whnf
    cases h
    exact Done.of [] [] rfl rfl ⟨⟨rfl, rfl⟩, ⟨rfl, trivial⟩, ⟨rfl, rfl, trivial⟩, trivial⟩

def spec_shAdd (k : Nat) (a1 : Int) (a2 : Int) (a3 : Int) (a4 : Int) : Option (Int × Int) :=
  ((spec_shMake k (IntKind.i64.wrap ((IntKind.i64.wrap (a1 * a4)) + (IntKind.i64.wrap (a3 * a2)))) (IntKind.i64.wrap (a2 * a4))).bind fun y5 => some (y5.1, y5.2))
set_option maxHeartbeats 4000000 in
set_option maxRecDepth 100000 in
theorem spec_shAdd_ct {k : Nat} {a1 : Int} {a2 : Int} {a3 : Int} {a4 : Int} {r : Int × Int} (h : spec_shAdd k a1 a2 a3 a4 = some r) : Ct prog 167 [.agg [.d (D.int .i64 a1), .d (D.int .i64 a2)], .agg [.d (D.int .i64 a3), .d (D.int .i64 a4)]] (⟨[], []⟩) (.agg [.d (D.int .i64 r.1), .d (D.int .i64 r.2)]) (⟨[], []⟩) := by
  rw [spec_shAdd] at h
  refine Ct.of (c := _) mixed func167 ⟨rfl, rfl, rfl⟩ ?_ rfl
  conv => whnf
  refine Pick.no ?_
  conv => whnf
  obtain ⟨y5, e6, h⟩ := bind_ex h
  refine CallOk.of (spec_shMake_ct e6) ?_
  conv => whnf
  refine CutK.go ?_
  conv => whnf
  cases h
  exact Done.of [] [] rfl rfl ⟨⟨rfl, rfl⟩, ⟨rfl, trivial⟩, ⟨rfl, rfl, trivial⟩, trivial⟩

def spec_suTerm  (a1 : Rw) (a2 : Int) (a3 : Int) : Option Rw :=
  (if a2 = (0 : Int) then some ([] : Rw) else some ([[D.sl a1, D.int .i64 a2, D.int .i64 a3]] : Rw))
set_option maxHeartbeats 4000000 in
set_option maxRecDepth 100000 in
theorem spec_suTerm_ct  {a1 : Rw} {a2 : Int} {a3 : Int} {r : Rw} (h : spec_suTerm a1 a2 a3 = some r) : Ct prog 134 [.agg [.d (D.sl a1)], .agg [.d (D.int .i64 a2), .d (D.int .i64 a3)]] (⟨[], []⟩) (.agg [.os 8 r.length]) (⟨[], [(109, false, r)]⟩) := by
  rw [spec_suTerm] at h
  refine Ct.of (c := _) mixed func134 ⟨rfl, rfl, rfl⟩ ?_ rfl
  conv => whnf
  refine splD (fun g4 => ?_) (fun g4 => ?_)
  · replace h := iteP h g4
    conv => whnf
    cases h
    exact Done.of [none] [] rfl rfl ⟨⟨rfl, rfl⟩, ⟨rfl, rfl, trivial⟩, ⟨⟨rfl, rfl⟩, trivial⟩, trivial⟩
  · replace h := iteN h g4
    conv => whnf
    cases h
    exact Done.of [some 768] [] rfl rfl ⟨⟨rfl, rfl⟩, ⟨rfl, ⟨rfl, rfl, rows_same⟩, trivial⟩, ⟨⟨(by first | rfl | exact List.length_append.symm | (simp; done) | omega), rfl⟩, trivial⟩, trivial⟩

def spec_suPut_p4 (a2 : Rw) (a3 : Int) (a4 : Int) (o89 : Rw) (v90 : Bool) : Option (Rw × Bool) :=
  (cond v90 (some (o89, true)) (if o89.length + 1 ≤ cap then some (o89 ++ ([[D.sl a2, D.int .i64 a3, D.int .i64 a4]]), true) else none))
set_option maxHeartbeats 4000000 in
set_option maxRecDepth 100000 in
theorem spec_suPut_p4_ct {a2 : Rw} {a3 : Int} {a4 : Int} {o89 : Rw} {v90 : Bool} {r : Rw × Bool} (h : spec_suPut_p4 a2 a3 a4 o89 v90 = some r) : X prog 0 (tlF f124 4) (mk 73 [(3, .ptr 192 0), (4, .ptr 256 0), (6, .ptr 384 0), (7, .d (D.bool v90))] [(192, .box 109 [.d (D.sl a2), .d (D.int .i64 a3), .d (D.int .i64 a4)]), (256, .box 38 [.es]), (384, .box 38 [.os 1084000 o89.length]), (1084000, .arr 109 false o89)]) (finK prog f124 0 (.tup [.agg [.os 8 r.1.length], .d (D.bool r.2)]) (⟨[], [(109, false, r.1)]⟩)) := by
  rw [spec_suPut_p4] at h
  cases v90
  · replace h := condF h
    conv => whnf
    refine Take.all (rfl) ?_
    conv => whnf
    refine Take.all (by first | rfl | exact List.length_append.symm | (simp; done) | omega) ?_
    conv => whnf
    obtain ⟨g92, h⟩ := req_ex h
    refine Req.of (room (b := 40) (by decide) g92 (wide1 rfl wide0)) ?_
    conv => whnf
    cases h
    exact Done.of [some 4480] [] rfl rfl ⟨⟨rfl, rfl⟩, ⟨rfl, ⟨rfl, rfl, rows_same⟩, trivial⟩, ⟨⟨⟨(by first | rfl | exact List.length_append.symm | (simp; done) | omega), rfl⟩, trivial⟩, rfl, trivial⟩, trivial⟩
  · replace h := condT h
    conv => whnf
    cases h
    exact Done.of [some 1084000] [] rfl rfl ⟨⟨rfl, rfl⟩, ⟨rfl, ⟨rfl, rfl, rows_same⟩, trivial⟩, ⟨⟨⟨rfl, rfl⟩, trivial⟩, rfl, trivial⟩, trivial⟩
def spec_suPut_l0 (k : Nat) (a1 : Rw) (a2 : Rw) (a3 : Int) (a4 : Int) (K0 : Rw → Bool → Option (Rw × Bool)) : Rw → Bool → Rw → Option (Rw × Bool)
  | [], v111, v113 => (cond v111 (K0 v113 true) (K0 v113 false))
  | cs :: rest, v111, v113 => (cond v111 (cell_sii cs fun x196 x197 x198 => ((spec_suCmp k x196 a2).bind fun y200 => (if v113.length + 1 ≤ cap then (spec_suPut_l0 k a1 a2 a3 a4 K0 rest true (v113 ++ ([[D.sl x196, D.int .i64 x197, D.int .i64 x198]]))) else none))) (cell_sii cs fun x177 x178 x179 => ((spec_suCmp k x177 a2).bind fun y181 => (if y181 ≤ (0 : Int) then (if y181 = (0 : Int) then ((spec_shAdd k x178 x179 a3 a4).bind fun y185 => ((spec_shGood k y185.1 y185.2).bind fun y187 => (if y187 = true then ((spec_suTerm a2 y185.1 y185.2).bind fun y190 => (if v113.length + y190.length ≤ cap ∧ (∀ cs ∈ y190, cs.length = 3) then (spec_suPut_l0 k a1 a2 a3 a4 K0 rest true (v113 ++ y190)) else none)) else some (([] : Rw), false)))) else (if v113.length + 1 ≤ cap then (if (v113 ++ ([[D.sl a2, D.int .i64 a3, D.int .i64 a4]])).length + 1 ≤ cap then (spec_suPut_l0 k a1 a2 a3 a4 K0 rest true ((v113 ++ ([[D.sl a2, D.int .i64 a3, D.int .i64 a4]])) ++ ([[D.sl x177, D.int .i64 x178, D.int .i64 x179]]))) else none) else none)) else (if v113.length + 1 ≤ cap then (spec_suPut_l0 k a1 a2 a3 a4 K0 rest false (v113 ++ ([[D.sl x177, D.int .i64 x178, D.int .i64 x179]]))) else none)))))
set_option maxHeartbeats 4000000 in
set_option maxRecDepth 100000 in
theorem spec_suPut_l0_ct {k : Nat} {a1 : Rw} {a2 : Rw} {a3 : Int} {a4 : Int} {K0 : Rw → Bool → Option (Rw × Bool)} {r : Rw × Bool} (hx : a1.length ≤ cap) : ∀ (rest : Rw) (v112n : Nat) (v111 : Bool) (v113 : Rw), a1.drop v112n = rest → spec_suPut_l0 k a1 a2 a3 a4 K0 rest v111 v113 = some r → LoopOk prog 0 (lp f124 0) (mk 73 [(3, .ptr 192 0), (4, .ptr 256 0), (6, .ptr 384 0), (7, .d (D.bool v111)), (14, .d (D.sl a1)), (15, .d (D.int .i64 (a1.length : Int))), (16, .d (D.int .i64 (v112n : Int)))] [(192, .box 109 [.d (D.sl a2), .d (D.int .i64 a3), .d (D.int .i64 a4)]), (256, .box 38 [.es]), (384, .box 38 [.os 64000 v113.length]), (64000, .arr 109 false v113)]) (LoopEnd prog f124 0 73 (.tup [.agg [.os 8 r.1.length], .d (D.bool r.2)]) (⟨[], [(109, false, r.1)]⟩) (fun i ts os => (i = 0 ∧ ∃ v136 : Rw, ∃ v146 : Bool, K0 v136 v146 = some r ∧ ts = [(3, .ptr 192 0), (4, .ptr 256 0), (6, .ptr 384 0), (7, .d (D.bool v146))] ∧ os = [(192, .box 109 [.d (D.sl a2), .d (D.int .i64 a3), .d (D.int .i64 a4)]), (256, .box 38 [.es]), (384, .box 38 [.os 67001 v136.length]), (67001, .arr 109 false v136)])))
  | [], v112n, v111, v113, hd, h => by
      rw [spec_suPut_l0] at h
      have hn := drop_nil hd
      cases v111
      · replace h := condF h
        refine LoopOk.step ?_
        conv => whnf
        refine splD (fun g => absurd g hn) (fun _ => ?_)
        conv => whnf
        exact ⟨_, _, [some 192, some 256, some 384, some 64000], [], ⟨rfl, _, _, h, rfl, rfl⟩, ⟨⟨rfl, rfl⟩, ⟨rfl, ⟨rfl, rfl, rfl, rfl, trivial⟩, ⟨rfl, trivial, trivial⟩, ⟨rfl, ⟨rfl, rfl⟩, trivial⟩, ⟨rfl, rfl, rows_same⟩, trivial⟩, ⟨rfl, rfl⟩, ⟨rfl, rfl⟩, ⟨rfl, rfl⟩, rfl, trivial⟩⟩
      · replace h := condT h
        refine LoopOk.step ?_
        conv => whnf
        refine splD (fun g => absurd g hn) (fun _ => ?_)
        conv => whnf
        exact ⟨_, _, [some 192, some 256, some 384, some 64000], [], ⟨rfl, _, _, h, rfl, rfl⟩, ⟨⟨rfl, rfl⟩, ⟨rfl, ⟨rfl, rfl, rfl, rfl, trivial⟩, ⟨rfl, trivial, trivial⟩, ⟨rfl, ⟨rfl, rfl⟩, trivial⟩, ⟨rfl, rfl, rows_same⟩, trivial⟩, ⟨rfl, rfl⟩, ⟨rfl, rfl⟩, ⟨rfl, rfl⟩, rfl, trivial⟩⟩
  | cs :: rest, v112n, v111, v113, hd, h => by
      rw [spec_suPut_l0] at h
      obtain ⟨hrow, hd1, hlt⟩ := drop_cons hd
      cases v111
      · replace h := condF h
        refine LoopOk.step ?_
        conv => whnf
        refine splD (fun _ => ?_) (fun g => absurd hlt g)
        conv => whnf
        obtain ⟨x177, x178, x179, e180, h⟩ := cell_sii_ex h
        rw [e180] at hrow
        refine Req.of (Int.natCast_nonneg _) ?_
        refine Row.of _ hrow ?_
        conv => whnf
        refine Pick.no ?_
        conv => whnf
        obtain ⟨y181, e182, h⟩ := bind_ex h
        refine CallOk.of (spec_suCmp_ct e182) ?_
        conv => whnf
        refine CutK.norm [3, 4, 6, 7, 9, 10, 14, 15, 16] [192, 256, 384, 576, 64000] ?_
        conv => whnf
        refine splD (fun g183 => ?_) (fun g183 => ?_)
        · replace h := iteP h g183
          conv => whnf
          refine splD (fun g184 => ?_) (fun g184 => ?_)
          · replace h := iteP h g184
            conv => whnf
            refine Pick.no ?_
            conv => whnf
            obtain ⟨y185, e186, h⟩ := bind_ex h
            refine CallOk.of (spec_shAdd_ct e186) ?_
            conv => whnf
            refine CutK.norm [3, 4, 6, 7, 11, 14, 15, 16] [192, 256, 384, 704, 64000] ?_
            conv => whnf
            refine Pick.no ?_
            conv => whnf
            obtain ⟨y187, e188, h⟩ := bind_ex h
            refine CallOk.of (spec_shGood_ct e188) ?_
            conv => whnf
            refine spl (fun g189 => ?_) (fun g189 => ?_)
            · replace h := iteT h g189
              conv => whnf
              refine CutK.norm [3, 4, 6, 7, 11, 14, 15, 16, 40] [192, 256, 384, 704, 64000] ?_
              conv => whnf
              refine CutK.norm [3, 4, 6, 7, 11, 14, 15, 16] [192, 256, 384, 704, 64000] ?_
              conv => whnf
              refine Pick.no ?_
              conv => whnf
              obtain ⟨y190, e191, h⟩ := bind_ex h
              refine CallOk.of (spec_suTerm_ct e191) ?_
              conv => whnf
              refine Take.all (rfl) ?_
              conv => whnf
              refine Take.all (rfl) ?_
              conv => whnf
              obtain ⟨g192, h⟩ := req_ex h
              refine Req.of (room (b := 40) (by decide) g192.1 g192.2) ?_
              conv => whnf
              refine CutK.norm [3, 4, 6, 7, 14, 15, 16] [192, 256, 384, 3136] ?_
              conv => whnf
              refine CutK.norm [3, 4, 6, 7, 14, 15, 16] [192, 256, 384, 3136] ?_
              conv => whnf
              exact LoopOk.back (spec_suPut_l0_ct hx rest (v112n + 1) _ _ hd1 h) [some 192, some 256, some 384, some 3136] [] ⟨⟨rfl, rfl⟩, ⟨rfl, ⟨rfl, rfl, rfl, rfl, trivial⟩, ⟨rfl, trivial, trivial⟩, ⟨rfl, ⟨(by first | rfl | exact List.length_append.symm | (simp; done) | omega), rfl⟩, trivial⟩, ⟨rfl, rfl, rows_same⟩, trivial⟩, ⟨rfl, rfl⟩, ⟨rfl, rfl⟩, ⟨rfl, rfl⟩, rfl, rfl, rfl, i64eq (wrap_up hlt hx), trivial⟩
            · replace h := iteF h g189
              conv => whnf
              refine CutK.norm [3, 4, 6, 7, 11, 14, 15, 16, 40] [192, 256, 384, 704, 64000] ?_
              conv => whnf
              cases h
              exact Done.of [none] [] rfl rfl ⟨⟨rfl, rfl⟩, ⟨rfl, rfl, trivial⟩, ⟨⟨⟨rfl, rfl⟩, trivial⟩, rfl, trivial⟩, trivial⟩
          · replace h := iteN h g184
            conv => whnf
            refine CutK.norm [3, 4, 6, 7, 9, 14, 15, 16] [192, 256, 384, 576, 64000] ?_
            conv => whnf
            refine Take.all (rfl) ?_
            conv => whnf
            refine Take.all (by first | rfl | exact List.length_append.symm | (simp; done) | omega) ?_
            conv => whnf
            obtain ⟨g193, h⟩ := req_ex h
            refine Req.of (room (b := 40) (by decide) g193 (wide1 rfl wide0)) ?_
            conv => whnf
            refine CutK.norm [3, 4, 6, 7, 9, 14, 15, 16] [192, 256, 384, 576, 3520] ?_
            conv => whnf
            refine Take.all (by first | rfl | exact List.length_append.symm | (simp; done) | omega) ?_
            conv => whnf
            refine Take.all (by first | rfl | exact List.length_append.symm | (simp; done) | omega) ?_
            conv => whnf
            obtain ⟨g194, h⟩ := req_ex h
            refine Req.of (room (b := 40) (by decide) g194 (wide1 rfl wide0)) ?_
            conv => whnf
            refine CutK.norm [3, 4, 6, 7, 14, 15, 16] [192, 256, 384, 3904] ?_
            conv => whnf
            exact LoopOk.back (spec_suPut_l0_ct hx rest (v112n + 1) _ _ hd1 h) [some 192, some 256, some 384, some 3904] [] ⟨⟨rfl, rfl⟩, ⟨rfl, ⟨rfl, rfl, rfl, rfl, trivial⟩, ⟨rfl, trivial, trivial⟩, ⟨rfl, ⟨(by first | rfl | exact List.length_append.symm | (simp; done) | omega), rfl⟩, trivial⟩, ⟨rfl, rfl, rows_same⟩, trivial⟩, ⟨rfl, rfl⟩, ⟨rfl, rfl⟩, ⟨rfl, rfl⟩, rfl, rfl, rfl, i64eq (wrap_up hlt hx), trivial⟩
        · replace h := iteN h g183
          conv => whnf
          refine CutK.norm [3, 4, 6, 7, 9, 14, 15, 16] [192, 256, 384, 576, 64000] ?_
          conv => whnf
          refine Take.all (rfl) ?_
          conv => whnf
          refine Take.all (by first | rfl | exact List.length_append.symm | (simp; done) | omega) ?_
          conv => whnf
          obtain ⟨g195, h⟩ := req_ex h
          refine Req.of (room (b := 40) (by decide) g195 (wide1 rfl wide0)) ?_
          conv => whnf
          refine CutK.norm [3, 4, 6, 7, 14, 15, 16] [192, 256, 384, 3904] ?_
          conv => whnf
          exact LoopOk.back (spec_suPut_l0_ct hx rest (v112n + 1) _ _ hd1 h) [some 192, some 256, some 384, some 3904] [] ⟨⟨rfl, rfl⟩, ⟨rfl, ⟨rfl, rfl, rfl, rfl, trivial⟩, ⟨rfl, trivial, trivial⟩, ⟨rfl, ⟨(by first | rfl | exact List.length_append.symm | (simp; done) | omega), rfl⟩, trivial⟩, ⟨rfl, rfl, rows_same⟩, trivial⟩, ⟨rfl, rfl⟩, ⟨rfl, rfl⟩, ⟨rfl, rfl⟩, rfl, rfl, rfl, i64eq (wrap_up hlt hx), trivial⟩
      · replace h := condT h
        refine LoopOk.step ?_
        conv => whnf
        refine splD (fun _ => ?_) (fun g => absurd hlt g)
        conv => whnf
        obtain ⟨x196, x197, x198, e199, h⟩ := cell_sii_ex h
        rw [e199] at hrow
        refine Req.of (Int.natCast_nonneg _) ?_
        refine Row.of _ hrow ?_
        conv => whnf
        refine Pick.no ?_
        conv => whnf
        obtain ⟨y200, e201, h⟩ := bind_ex h
        refine CallOk.of (spec_suCmp_ct e201) ?_
        conv => whnf
        refine CutK.norm [3, 4, 6, 7, 9, 10, 14, 15, 16] [192, 256, 384, 576, 64000] ?_
        conv => whnf
        refine CutK.norm [3, 4, 6, 7, 9, 14, 15, 16] [192, 256, 384, 576, 64000] ?_
        conv => whnf
        refine Take.all (rfl) ?_
        conv => whnf
        refine Take.all (by first | rfl | exact List.length_append.symm | (simp; done) | omega) ?_
        conv => whnf
        obtain ⟨g202, h⟩ := req_ex h
        refine Req.of (room (b := 40) (by decide) g202 (wide1 rfl wide0)) ?_
        conv => whnf
        refine CutK.norm [3, 4, 6, 7, 14, 15, 16] [192, 256, 384, 3904] ?_
        conv => whnf
        exact LoopOk.back (spec_suPut_l0_ct hx rest (v112n + 1) _ _ hd1 h) [some 192, some 256, some 384, some 3904] [] ⟨⟨rfl, rfl⟩, ⟨rfl, ⟨rfl, rfl, rfl, rfl, trivial⟩, ⟨rfl, trivial, trivial⟩, ⟨rfl, ⟨(by first | rfl | exact List.length_append.symm | (simp; done) | omega), rfl⟩, trivial⟩, ⟨rfl, rfl, rows_same⟩, trivial⟩, ⟨rfl, rfl⟩, ⟨rfl, rfl⟩, ⟨rfl, rfl⟩, rfl, rfl, rfl, i64eq (wrap_up hlt hx), trivial⟩
def spec_suPut (k : Nat) (a1 : Rw) (a2 : Rw) (a3 : Int) (a4 : Int) : Option (Rw × Bool) :=
  (if a1.length ≤ cap then (spec_suPut_l0 k a1 a2 a3 a4 (fun (v136 : Rw) (v146 : Bool) => (cond v146 (spec_suPut_p4 a2 a3 a4 v136 true) (spec_suPut_p4 a2 a3 a4 v136 false))) a1 false ([] : Rw)) else none)
set_option maxHeartbeats 4000000 in
set_option maxRecDepth 100000 in
theorem spec_suPut_ct {k : Nat} {a1 : Rw} {a2 : Rw} {a3 : Int} {a4 : Int} {r : Rw × Bool} (h : spec_suPut k a1 a2 a3 a4 = some r) : Ct prog 124 [.agg [.d (D.sl a1)], .agg [.d (D.sl a2), .d (D.int .i64 a3), .d (D.int .i64 a4)]] (⟨[], []⟩) (.tup [.agg [.os 8 r.1.length], .d (D.bool r.2)]) (⟨[], [(109, false, r.1)]⟩) := by
  rw [spec_suPut] at h
  refine Ct.of (c := _) mixed func124 ⟨rfl, rfl, rfl⟩ ?_ rfl
  conv => whnf
  obtain ⟨g203, h⟩ := req_ex h
  refine LoopOk.into (spec_suPut_l0_ct  g203 _ _ _ _ rfl h) [some 192, some 256, some 384, none] [] ⟨⟨rfl, rfl⟩, ⟨rfl, ⟨rfl, rfl, rfl, rfl, trivial⟩, ⟨rfl, trivial, trivial⟩, ⟨rfl, ⟨rfl, rfl⟩, trivial⟩, rfl, trivial⟩, ⟨rfl, rfl⟩, ⟨rfl, rfl⟩, ⟨rfl, rfl⟩, rfl, rfl, rfl, rfl, trivial⟩ ?_ (fun _ hs => hs)
  rintro i ts os ⟨rfl, v136, v146, h, rfl, rfl⟩
  cases v146
  · replace h := condF h
    conv => whnf
    exact CutK.piece (spec_suPut_p4_ct  h) [some 192, some 256, some 384, some 67001] [] ⟨⟨rfl, rfl⟩, ⟨rfl, ⟨rfl, rfl, rfl, rfl, trivial⟩, ⟨rfl, trivial, trivial⟩, ⟨rfl, ⟨rfl, rfl⟩, trivial⟩, ⟨rfl, rfl, rows_same⟩, trivial⟩, ⟨rfl, rfl⟩, ⟨rfl, rfl⟩, ⟨rfl, rfl⟩, rfl, trivial⟩
  · replace h := condT h
    conv => whnf
    exact CutK.piece (spec_suPut_p4_ct  h) [some 192, some 256, some 384, some 67001] [] ⟨⟨rfl, rfl⟩, ⟨rfl, ⟨rfl, rfl, rfl, rfl, trivial⟩, ⟨rfl, trivial, trivial⟩, ⟨rfl, ⟨rfl, rfl⟩, trivial⟩, ⟨rfl, rfl, rows_same⟩, trivial⟩, ⟨rfl, rfl⟩, ⟨rfl, rfl⟩, ⟨rfl, rfl⟩, rfl, trivial⟩

def spec_suPlus_l0 (k : Nat) (a2 : Rw) (K0 : Rw → Option (Rw × Bool)) : Rw → Rw → Option (Rw × Bool)
  | [], v13 => (K0 v13)
  | cs :: rest, v13 => (cell_sii cs fun x33 x34 x35 => ((spec_suPut k v13 x33 x34 x35).bind fun y37 => (if y37.2 = true then (spec_suPlus_l0 k a2 K0 rest y37.1) else some (([] : Rw), false))))
set_option maxHeartbeats 4000000 in
set_option maxRecDepth 100000 in
theorem spec_suPlus_l0_ct {k : Nat} {a2 : Rw} {K0 : Rw → Option (Rw × Bool)} {r : Rw × Bool} (hx : a2.length ≤ cap) : ∀ (rest : Rw) (v12n : Nat) (v13 : Rw), a2.drop v12n = rest → spec_suPlus_l0 k a2 K0 rest v13 = some r → LoopOk prog 0 (lp f172 0) (mk 29 [(4, .ptr 256 0), (6, .ptr 384 0), (12, .d (D.sl a2)), (13, .d (D.int .i64 (a2.length : Int))), (14, .d (D.int .i64 (v12n : Int)))] [(256, .box 38 [.es]), (384, .box 38 [.d (D.sl v13)])]) (LoopEnd prog f172 0 29 (.tup [.agg [.d (D.sl r.1)], .d (D.bool r.2)]) (⟨[], []⟩) (fun i ts os => (i = 0 ∧ ∃ v23 : Rw, K0 v23 = some r ∧ ts = [(4, .ptr 256 0), (6, .ptr 384 0)] ∧ os = [(256, .box 38 [.es]), (384, .box 38 [.d (D.sl v23)])])))
  | [], v12n, v13, hd, h => by
      rw [spec_suPlus_l0] at h
      have hn := drop_nil hd
      refine LoopOk.step ?_
      conv => whnf
      refine splD (fun g => absurd g hn) (fun _ => ?_)
      conv => whnf
      exact ⟨_, _, [some 256, some 384], [], ⟨rfl, _, h, rfl, rfl⟩, ⟨⟨rfl, rfl⟩, ⟨rfl, ⟨rfl, trivial, trivial⟩, ⟨rfl, rfl, trivial⟩, trivial⟩, ⟨rfl, rfl⟩, ⟨rfl, rfl⟩, trivial⟩⟩
  | cs :: rest, v12n, v13, hd, h => by
      rw [spec_suPlus_l0] at h
      obtain ⟨hrow, hd1, hlt⟩ := drop_cons hd
      refine LoopOk.step ?_
      conv => whnf
      refine splD (fun _ => ?_) (fun g => absurd hlt g)
      conv => whnf
      obtain ⟨x33, x34, x35, e36, h⟩ := cell_sii_ex h
      rw [e36] at hrow
      refine Req.of (Int.natCast_nonneg _) ?_
      refine Row.of _ hrow ?_
      conv => whnf
      refine Pick.no ?_
      conv => whnf
      obtain ⟨y37, e38, h⟩ := bind_ex h
      refine CallOk.of (spec_suPut_ct e38) ?_
      conv => whnf
      refine spl (fun g39 => ?_) (fun g39 => ?_)
      · replace h := iteT h g39
        conv => whnf
        refine CutK.go ?_
        conv => whnf
        refine CutK.go ?_
        conv => whnf
        exact LoopOk.back (spec_suPlus_l0_ct hx rest (v12n + 1) _ hd1 h) [some 256, some 384] [1344] ⟨⟨rfl, rfl⟩, ⟨rfl, ⟨rfl, trivial, trivial⟩, ⟨rfl, ⟨rfl, Nat.le_of_eq rfl, eq_take rfl⟩, trivial⟩, trivial⟩, ⟨rfl, rfl⟩, ⟨rfl, rfl⟩, rfl, rfl, i64eq (wrap_up hlt hx), trivial⟩
      · replace h := iteF h g39
        conv => whnf
        refine CutK.go ?_
        conv => whnf
        cases h
        exact Done.of [] [] rfl rfl ⟨⟨rfl, rfl⟩, ⟨rfl, trivial⟩, ⟨⟨rfl, trivial⟩, rfl, trivial⟩, trivial⟩
def spec_suPlus (k : Nat) (a1 : Rw) (a2 : Rw) : Option (Rw × Bool) :=
  (if a2.length ≤ cap then (spec_suPlus_l0 k a2 (fun (v23 : Rw) => some (v23, true)) a2 a1) else none)
set_option maxHeartbeats 4000000 in
set_option maxRecDepth 100000 in
theorem spec_suPlus_ct {k : Nat} {a1 : Rw} {a2 : Rw} {r : Rw × Bool} (h : spec_suPlus k a1 a2 = some r) : Ct prog 172 [.agg [.d (D.sl a1)], .agg [.d (D.sl a2)]] (⟨[], []⟩) (.tup [.agg [.d (D.sl r.1)], .d (D.bool r.2)]) (⟨[], []⟩) := by
  rw [spec_suPlus] at h
  refine Ct.of (c := _) mixed func172 ⟨rfl, rfl, rfl⟩ ?_ rfl
  conv => whnf
  obtain ⟨g40, h⟩ := req_ex h
  refine LoopOk.into (spec_suPlus_l0_ct  g40 _ _ _ rfl h) [some 256, some 384] [] ⟨⟨rfl, rfl⟩, ⟨rfl, ⟨rfl, trivial, trivial⟩, ⟨rfl, rfl, trivial⟩, trivial⟩, ⟨rfl, rfl⟩, ⟨rfl, rfl⟩, rfl, rfl, rfl, trivial⟩ ?_ (fun _ hs => hs)
  rintro i ts os ⟨rfl, v23, h, rfl, rfl⟩
  conv => whnf
  refine CutK.go ?_
  conv => whnf
  cases h
  exact Done.of [] [] rfl rfl ⟨⟨rfl, rfl⟩, ⟨rfl, trivial⟩, ⟨⟨rfl, trivial⟩, rfl, trivial⟩, trivial⟩

def spec_suSum (k : Nat) (a1 : Rw) (a2 : Rw) : Option (Rw × Bool) :=
  ((spec_suPlus k a1 a2).bind fun y3 => (if y3.2 = true then ((spec_suIf k y3.1).bind fun y6 => (if y6.2 = true then some (y6.1, true) else some (y6.1, false))) else some (([] : Rw), false)))
set_option maxHeartbeats 4000000 in
set_option maxRecDepth 100000 in
theorem spec_suSum_ct {k : Nat} {a1 : Rw} {a2 : Rw} {r : Rw × Bool} (h : spec_suSum k a1 a2 = some r) : Ct prog 132 [.agg [.d (D.sl a1)], .agg [.d (D.sl a2)]] (⟨[], []⟩) (.tup [.agg [.os 8 r.1.length], .d (D.bool r.2)]) (⟨[], [(109, true, r.1)]⟩) := by
  rw [spec_suSum] at h
  refine Ct.of (c := _) mixed func132 ⟨rfl, rfl, rfl⟩ ?_ rfl
  conv => whnf
  refine Pick.no ?_
  conv => whnf
  obtain ⟨y3, e4, h⟩ := bind_ex h
  refine CallOk.of (spec_suPlus_ct e4) ?_
  conv => whnf
  refine spl (fun g5 => ?_) (fun g5 => ?_)
  · replace h := iteT h g5
    conv => whnf
    refine CutK.go ?_
    conv => whnf
    refine Pick.no ?_
    conv => whnf
    obtain ⟨y6, e7, h⟩ := bind_ex h
    refine CallOk.of (spec_suIf_ct e7) ?_
    conv => whnf
    refine spl (fun g8 => ?_) (fun g8 => ?_)
    · replace h := iteT h g8
      conv => whnf
      refine CutK.go ?_
      conv => whnf
      cases h
      exact Done.of [some 1152] [] rfl rfl ⟨⟨rfl, rfl⟩, ⟨rfl, ⟨rfl, rfl, rows_same⟩, trivial⟩, ⟨⟨⟨rfl, rfl⟩, trivial⟩, rfl, trivial⟩, trivial⟩
    · replace h := iteF h g8
      conv => whnf
      refine CutK.go ?_
      conv => whnf
      cases h
      exact Done.of [some 1152] [] rfl rfl ⟨⟨rfl, rfl⟩, ⟨rfl, ⟨rfl, rfl, rows_same⟩, trivial⟩, ⟨⟨⟨rfl, rfl⟩, trivial⟩, rfl, trivial⟩, trivial⟩
  · replace h := iteF h g5
    conv => whnf
    refine CutK.go ?_
    conv => whnf
    cases h
    exact Done.of [none] [] rfl rfl ⟨⟨rfl, rfl⟩, ⟨rfl, rfl, trivial⟩, ⟨⟨⟨rfl, rfl⟩, trivial⟩, rfl, trivial⟩, trivial⟩

def spec_shMul (k : Nat) (a1 : Int) (a2 : Int) (a3 : Int) (a4 : Int) : Option (Int × Int) :=
  ((spec_shMake k (IntKind.i64.wrap (a1 * a3)) (IntKind.i64.wrap (a2 * a4))).bind fun y5 => some (y5.1, y5.2))
set_option maxHeartbeats 4000000 in
set_option maxRecDepth 100000 in
theorem spec_shMul_ct {k : Nat} {a1 : Int} {a2 : Int} {a3 : Int} {a4 : Int} {r : Int × Int} (h : spec_shMul k a1 a2 a3 a4 = some r) : Ct prog 166 [.agg [.d (D.int .i64 a1), .d (D.int .i64 a2)], .agg [.d (D.int .i64 a3), .d (D.int .i64 a4)]] (⟨[], []⟩) (.agg [.d (D.int .i64 r.1), .d (D.int .i64 r.2)]) (⟨[], []⟩) := by
  rw [spec_shMul] at h
  refine Ct.of (c := _) mixed func166 ⟨rfl, rfl, rfl⟩ ?_ rfl
  conv => whnf
  refine Pick.no ?_
  conv => whnf
  obtain ⟨y5, e6, h⟩ := bind_ex h
  refine CallOk.of (spec_shMake_ct e6) ?_
  conv => whnf
  refine CutK.go ?_
  conv => whnf
  cases h
  exact Done.of [] [] rfl rfl ⟨⟨rfl, rfl⟩, ⟨rfl, trivial⟩, ⟨rfl, rfl, trivial⟩, trivial⟩

def spec_suTimesTerm (k : Nat) (a1 : Rw) (a2 : Int) (a3 : Int) (a4 : Rw) (a5 : Int) (a6 : Int) : Option (Rw × Int × Int × Bool) :=
  ((spec_suSum k a1 a4).bind fun y7 => (if y7.2 = true then ((spec_shMul k a2 a3 a5 a6).bind fun y10 => ((spec_shGood k y10.1 y10.2).bind fun y12 => (if y12 = true then some (y7.1, y10.1, y10.2, true) else some (y7.1, y10.1, y10.2, false)))) else ((spec_shMul k a2 a3 a5 a6).bind fun y15 => some (y7.1, y15.1, y15.2, false))))
set_option maxHeartbeats 4000000 in
set_option maxRecDepth 100000 in
theorem spec_suTimesTerm_ct {k : Nat} {a1 : Rw} {a2 : Int} {a3 : Int} {a4 : Rw} {a5 : Int} {a6 : Int} {r : Rw × Int × Int × Bool} (h : spec_suTimesTerm k a1 a2 a3 a4 a5 a6 = some r) : Ct prog 174 [.agg [.d (D.sl a1), .d (D.int .i64 a2), .d (D.int .i64 a3)], .agg [.d (D.sl a4), .d (D.int .i64 a5), .d (D.int .i64 a6)]] (⟨[], []⟩) (.tup [.agg [.os 8 r.1.length, .d (D.int .i64 r.2.1), .d (D.int .i64 r.2.2.1)], .d (D.bool r.2.2.2)]) (⟨[], [(109, true, r.1)]⟩) := by
  rw [spec_suTimesTerm] at h
  refine Ct.of (c := _) mixed func174 ⟨rfl, rfl, rfl⟩ ?_ rfl
  conv => whnf
  refine Pick.no ?_
  conv => whnf
  obtain ⟨y7, e8, h⟩ := bind_ex h
  refine CallOk.of (spec_suSum_ct e8) ?_
  conv => whnf
  refine spl (fun g9 => ?_) (fun g9 => ?_)
  · replace h := iteT h g9
    conv => whnf
    refine CutK.go ?_
    conv => whnf
    refine Pick.no ?_
    conv => whnf
    obtain ⟨y10, e11, h⟩ := bind_ex h
    refine CallOk.of (spec_shMul_ct e11) ?_
    conv => whnf
    refine CutK.go ?_
    conv => whnf
    refine Pick.no ?_
    conv => whnf
    obtain ⟨y12, e13, h⟩ := bind_ex h
    refine CallOk.of (spec_shGood_ct e13) ?_
    conv => whnf
    refine spl (fun g14 => ?_) (fun g14 => ?_)
    · replace h := iteT h g14
      conv => whnf
      refine CutK.go ?_
      conv => whnf
      cases h
      exact Done.of [some 896] [] rfl rfl ⟨⟨rfl, rfl⟩, ⟨rfl, ⟨rfl, rfl, rows_same⟩, trivial⟩, ⟨⟨⟨rfl, rfl⟩, rfl, rfl, trivial⟩, rfl, trivial⟩, trivial⟩
    · replace h := iteF h g14
      conv => whnf
      refine CutK.go ?_
      conv => whnf
      cases h
      exact Done.of [some 896] [] rfl rfl ⟨⟨rfl, rfl⟩, ⟨rfl, ⟨rfl, rfl, rows_same⟩, trivial⟩, ⟨⟨⟨rfl, rfl⟩, rfl, rfl, trivial⟩, rfl, trivial⟩, trivial⟩
  · replace h := iteF h g9
    conv => whnf
    refine CutK.go ?_
    conv => whnf
    refine Pick.no ?_
    conv => whnf
    obtain ⟨y15, e16, h⟩ := bind_ex h
    refine CallOk.of (spec_shMul_ct e16) ?_
    conv => whnf
    refine CutK.go ?_
    conv => whnf
    refine CutK.go ?_
    conv => whnf
    cases h
    exact Done.of [some 896] [] rfl rfl ⟨⟨rfl, rfl⟩, ⟨rfl, ⟨rfl, rfl, rows_same⟩, trivial⟩, ⟨⟨⟨rfl, rfl⟩, rfl, rfl, trivial⟩, rfl, trivial⟩, trivial⟩
end
end Go.Proofs.Try
