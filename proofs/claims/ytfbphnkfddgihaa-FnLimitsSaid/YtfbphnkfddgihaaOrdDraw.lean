/- Pure: what the law draws: some ordinal within bounds. -/
import Derived.Test.YtfbphnkfddgihaaOrdSPlus
namespace Go.Proofs.Try
open Go Go.AX T
def bytes (x : Rw) : Prop := ∀ r ∈ x, ∃ b : Int, r = [.int .u8 b] ∧ 0 ≤ b ∧ b < 256
/-- A drawn value: its place moves on by at most n. -/
def Drew {α : Type} (x : Rw) (a n : Int) (r : Option (α × Rw × Int × Int)) (Q : α → Prop) : Prop :=
  ∃ v a' c', r = some (v, x, a', c') ∧ 0 ≤ a' ∧ a' ≤ a + n ∧ Q v
theorem Drew.mono {α : Type} {x : Rw} {a n m : Int} {r : Option (α × Rw × Int × Int)} {Q : α → Prop} (h : Drew x a n r Q) (hn : n ≤ m) : Drew x a m r Q := by
  obtain ⟨v, a', c', e, h1, h2, h3⟩ := h
  exact ⟨v, a', c', e, h1, by omega, h3⟩
theorem Drew.bind {α β : Type} {x : Rw} {a n m : Int} {r : Option (α × Rw × Int × Int)} {Q : α → Prop} {S : β → Prop} {F : α × Rw × Int × Int → Option (β × Rw × Int × Int)} (h : Drew x a n r Q)
    (hF : ∀ v a' c', 0 ≤ a' → a' ≤ a + n → Q v → Drew x a' m (F (v, x, a', c')) S) : Drew x a (n + m) (r.bind F) S := by
  obtain ⟨v, a', c', e, h1, h2, h3⟩ := h
  obtain ⟨u, a2, c2, e2, q1, q2, q3⟩ := hF v a' c' h1 h2 h3
  exact ⟨u, a2, c2, by rw [e, Option.bind_some, e2], q1, by omega, q3⟩
theorem and255 (n : Nat) (b : BitVec n) : (b &&& BitVec.ofInt n 255).toNat ≤ 255 := by
  rw [BitVec.toNat_and]
  refine Nat.le_trans Nat.and_le_right ?_
  rw [BitVec.toNat_ofInt]
  show (((255 : Nat) : Int) % ((2 ^ n : Nat) : Int)).toNat ≤ 255
  rw [← Int.natCast_emod, Int.toNat_natCast]
  exact Nat.mod_le _ _
theorem next_ok {x : Rw} {a c : Int} (hx : bytes x) (h0 : 0 ≤ a) (h1 : a ≤ 1000000000) : Drew x a 1 (spec_l1Cur_next x a c) (fun v => 0 ≤ v ∧ v < 256) := by
  have e1 : IntKind.i64.wrap (a + 1) = a + 1 := wid (by omega) (by omega)
  have big : ∀ b : BitVec (IntKind.u64).bits, 0 ≤ IntKind.i64.wrap (IntKind.u64.wrap (b &&& BitVec.ofInt (IntKind.u64).bits 255).toNat) ∧ IntKind.i64.wrap (IntKind.u64.wrap (b &&& BitVec.ofInt (IntKind.u64).bits 255).toNat) < 256 := by
    intro b
    have := and255 _ b
    generalize (b &&& BitVec.ofInt (IntKind.u64).bits 255).toNat = n at *
    have e2 : IntKind.u64.wrap (n : Int) = n := by
      show ((n : Int)) % 18446744073709551616 = n
      omega
    rw [e2, wid (by omega) (by omega)]; omega
  unfold spec_l1Cur_next
  rw [e1]
  by_cases g : a < (x.length : Int)
  · rw [if_pos g]
    obtain ⟨n, rfl⟩ : ∃ n : Nat, a = n := ⟨a.toNat, by omega⟩
    have hn : n < x.length := by omega
    obtain ⟨b, hb, hb0, hb1⟩ := hx x[n] (List.getElem_mem hn)
    have e3 : ∀ {α : Type} (K : Int → Option α), row_iu8 x (n : Int) K = K b := by
      intro α K
      unfold row_iu8
      rw [if_pos (by omega), Int.toNat_natCast, List.getElem?_eq_getElem hn, hb]
      rfl
    rw [e3, if_pos (by omega)]
    exact ⟨_, _, _, rfl, by omega, by omega, by rw [wid (by omega) (by omega)]; omega⟩
  · rw [if_neg g]
    split
    · exact ⟨_, _, _, rfl, by omega, by omega, by omega⟩
    · exact ⟨_, _, _, rfl, by omega, by omega, big _⟩
theorem pick_ok {x : Rw} {a c m : Int} (hx : bytes x) (h0 : 0 ≤ a) (h1 : a ≤ 100000000) (hm : 1 ≤ m) : Drew x a 2 (spec_l1Cur_pick x a c m) (fun v => 0 ≤ v ∧ v < m) := by
  unfold spec_l1Cur_pick
  by_cases g : m ≤ 1
  · rw [if_pos g]; exact ⟨_, _, _, rfl, h0, by omega, by omega⟩
  · rw [if_neg g]
    refine Drew.bind (n := 1) (m := 1) (next_ok hx h0 (by omega)) fun v a' c' q1 q2 q3 => ?_
    have tm : ∀ u : Int, 0 ≤ u → 0 ≤ u.tmod m ∧ u.tmod m < m := fun u hu => ⟨Int.tmod_nonneg _ hu, Int.tmod_lt_of_pos _ (by omega)⟩
    by_cases g2 : 200 < m
    · rw [if_pos g2]
      refine Drew.mono (Drew.bind (n := 1) (m := 0) (next_ok hx q1 (by omega)) fun v2 a2 c2 p1 p2 p3 => ?_) (by omega)
      rw [if_pos (by omega)]
      refine ⟨_, a2, _, rfl, p1, by omega, tm _ ?_⟩
      have e1 : IntKind.i64.wrap (v * 256) = v * 256 := wid (by omega) (by omega)
      show 0 ≤ IntKind.i64.wrap (IntKind.i64.wrap (v * 256) + v2)
      rw [e1, wid (by omega) (by omega)]; omega
    · rw [if_neg g2, if_pos (by omega)]
      exact ⟨_, a', _, rfl, q1, by omega, tm _ q3.1⟩
theorem among_ok {x : Rw} {a c : Int} {es : Rw} {Q : Int → Prop} (hx : bytes x) (h0 : 0 ≤ a) (h1 : a ≤ 100000000) (he : 1 ≤ es.length) (hQ : ∀ r ∈ es, ∃ i, r = [.int .i64 i] ∧ Q i) : Drew x a 2 (spec_l1Cur_among x a c es) Q := by
  unfold spec_l1Cur_among
  refine Drew.mono (Drew.bind (n := 2) (m := 0) (pick_ok hx h0 h1 (by omega)) fun v a' c' q1 q2 q3 => ?_) (by omega)
  obtain ⟨n, rfl⟩ : ∃ n : Nat, v = n := ⟨v.toNat, by omega⟩
  have hn : n < es.length := by omega
  obtain ⟨i, hi, hq⟩ := hQ es[n] (List.getElem_mem hn)
  have e3 : ∀ {α : Type} (K : Int → Option α), row_i es (n : Int) K = K i := by
    intro α K
    unfold row_i
    rw [if_pos (by omega), Int.toNat_natCast, List.getElem?_eq_getElem hn, hi]
    rfl
  show Drew x a' 0 (row_i es (n : Int) _) Q
  rw [e3]
  exact ⟨_, a', _, rfl, q1, by omega, hq⟩
theorem one_ok {x : Rw} {a c m : Int} (hx : bytes x) (h0 : 0 ≤ a) (h1 : a ≤ 100000000) (hm : 1 ≤ m) : Drew x a 2 (spec_l1Cur_one x a c m) (fun _ => True) := by
  unfold spec_l1Cur_one
  refine Drew.mono (Drew.bind (n := 2) (m := 0) (pick_ok hx h0 h1 hm) fun v a' c' q1 q2 q3 => ?_) (by omega)
  split <;> exact ⟨_, a', _, rfl, q1, by omega, trivial⟩
theorem odInt_eq (n : Int) : spec_odInt n = some (intT n).rows := by
  unfold spec_odInt spec_odTerm intT
  by_cases h : n = 0
  · rw [if_pos h, if_pos h]; rfl
  · rw [if_neg h, if_neg h]; rfl
theorem odTerm_ok (e : T) {n : Int} (hn : n ≠ 0) : spec_odTerm e.rows n = some (cons e n nil).rows := by
  unfold spec_odTerm; rw [if_neg hn]; rfl
/-- What meet has yet to add. -/
def due (f : Bool) (e : T) : Nat := cond f 0 (e.size + 1)
theorem meet_loop {k : Nat} {a e : T} {c C D : Int} {K : Rw → Bool → Option Rw} (he : sm D e) (hc : -D ≤ c ∧ c ≤ D) (hC : 0 ≤ C ∧ 0 ≤ D ∧ C + D ≤ 1000000000000) :
    ∀ (t acc : T) (f : Bool), acc.size + t.size + due f e < k → acc.size + t.size + due f e ≤ cap → sm C t → sm (C + D) acc →
      ∃ r f', spec_odMeet_l0 k a.rows e.rows c K t.rows f acc.rows = K r.rows f' ∧ r.size + due f' e ≤ acc.size + t.size + due f e ∧ sm (C + D) r
  | nil, acc, f, hk, hcap, st, sa => by
    refine ⟨acc, f, ?_, by simp [size], sa⟩
    simp only [rows, spec_odMeet_l0]
    cases f <;> rfl
  | cons x d t, acc, f, hk, hcap, st, sa => by
    have h3 : cap = 1099511627776 := rfl
    obtain ⟨s1, s2, s3⟩ := st
    have hl := acc.len_size
    simp only [size] at hk hcap ⊢
    have hz : ∀ (l y : T) (b : Int), (app l (cons y b nil)).size = l.size + y.size + 1 := fun l y b => by rw [size_app]; simp [size]; omega
    have hs : ∀ (l y : T) (b : Int), sm (C + D) l → sm (C + D) y → (-(C + D) ≤ b ∧ b ≤ C + D) → sm (C + D) (app l (cons y b nil)) := fun l y b h1 h2 h3 => sm_app.2 ⟨h1, h2, h3, trivial⟩
    have hx := sm_mono s1 (show C ≤ C + D by omega)
    have hE := sm_mono he (show D ≤ C + D by omega)
    have qx := sm_calm s1 (by omega)
    have qe := sm_calm he (by omega)
    cases f with
    | true =>
      simp only [due, cond] at hk hcap ⊢
      obtain ⟨r, f', q1, q2, q3⟩ := meet_loop (k := k) (a := a) (K := K) he hc hC t (app acc (cons x d nil)) true (by rw [hz]; simp only [due, cond]; omega) (by rw [hz]; simp only [due, cond]; omega) s3 (hs _ _ _ sa hx (by omega))
      rw [hz] at q2
      simp only [due, cond] at q2
      refine ⟨r, f', ?_, by simp only at *; omega, q3⟩
      rw [← q1]
      simp only [rows, spec_odMeet_l0, cond, cell_T]
      rw [odCmp_eq k x e qx qe (by omega) (by omega), Option.bind_some, if_pos (by rw [rows_len]; omega), snocRows]
    | false =>
      simp only [due, cond] at hk hcap ⊢
      by_cases g : cmpT x e ≤ 0
      · by_cases g0 : cmpT x e = 0
        · obtain rfl := cmpT_eq.1 g0
          have e2 : IntKind.i64.wrap (c + d) = c + d := wid (by omega) (by omega)
          obtain ⟨r, f', q1, q2, q3⟩ := meet_loop (k := k) (a := a) (K := K) he hc hC t (app acc (cons x (IntKind.i64.wrap (c + d)) nil)) true (by rw [hz]; simp only [due, cond]; omega) (by rw [hz]; simp only [due, cond]; omega) s3 (hs _ _ _ sa hx (by rw [e2]; omega))
          rw [hz] at q2
          simp only [due, cond] at q2
          refine ⟨r, f', ?_, by simp only at *; omega, q3⟩
          rw [← q1]
          simp only [rows, spec_odMeet_l0, cond, cell_T]
          rw [odCmp_eq k x x qx qe (by omega) (by omega), Option.bind_some, if_pos g, if_pos g0, if_pos (by rw [rows_len]; omega), snocRows]
        · obtain ⟨r, f', q1, q2, q3⟩ := meet_loop (k := k) (a := a) (K := K) he hc hC t (app (app acc (cons e c nil)) (cons x d nil)) true (by rw [hz, hz]; simp only [due, cond]; omega) (by rw [hz, hz]; simp only [due, cond]; omega) s3 (hs _ _ _ (hs _ _ _ sa hE (by omega)) hx (by omega))
          rw [hz, hz] at q2
          simp only [due, cond] at q2
          refine ⟨r, f', ?_, by simp only at *; omega, q3⟩
          rw [← q1]
          simp only [rows, spec_odMeet_l0, cond, cell_T]
          have hll : (acc.rows ++ [[Go.AX.D.sl e.rows, Go.AX.D.int .i64 c]]).length + 1 ≤ cap := by rw [List.length_append, rows_len]; simp only [List.length_cons, List.length_nil]; omega
          rw [odCmp_eq k x e qx qe (by omega) (by omega), Option.bind_some, if_pos g, if_neg g0, if_pos (by rw [rows_len]; omega), if_pos hll, snocRows, snocRows]
      · obtain ⟨r, f', q1, q2, q3⟩ := meet_loop (k := k) (a := a) (K := K) he hc hC t (app acc (cons x d nil)) false (by rw [hz]; simp only [due, cond]; omega) (by rw [hz]; simp only [due, cond]; omega) s3 (hs _ _ _ sa hx (by omega))
        rw [hz] at q2
        simp only [due, cond] at q2
        refine ⟨r, f', ?_, by simp only at *; omega, q3⟩
        rw [← q1]
        simp only [rows, spec_odMeet_l0, cond, cell_T]
        rw [odCmp_eq k x e qx qe (by omega) (by omega), Option.bind_some, if_neg g, if_pos (by rw [rows_len]; omega), snocRows]
theorem meet_ok {k : Nat} {t e : T} {c C D : Int} (he : sm D e) (hc : -D ≤ c ∧ c ≤ D) (hC : 0 ≤ C ∧ 0 ≤ D ∧ C + D ≤ 1000000000000) (hk : t.size + e.size + 1 < k) (hcap : t.size + e.size + 1 ≤ cap) (st : sm C t) :
    ∃ r : T, spec_odMeet k t.rows e.rows c = some r.rows ∧ r.size ≤ t.size + e.size + 1 ∧ sm (C + D) r := by
  have hl := t.len_size
  unfold spec_odMeet
  rw [if_pos (by rw [rows_len]; omega)]
  obtain ⟨r, f, q1, q2, q3⟩ := meet_loop (k := k) (a := t) (K := fun (v91 : Rw) (v100 : Bool) => (cond v100 (spec_odMeet_p4 e.rows c v91 true) (spec_odMeet_p4 e.rows c v91 false))) he hc hC t nil false (by simp only [due, cond, size]; omega) (by simp only [due, cond, size]; omega) st trivial
  have q1' : spec_odMeet_l0 k t.rows e.rows c (fun (v91 : Rw) (v100 : Bool) => (cond v100 (spec_odMeet_p4 e.rows c v91 true) (spec_odMeet_p4 e.rows c v91 false))) t.rows false [] = _ := q1
  rw [q1']
  simp only [due, cond, size] at q2
  cases f with
  | true => exact ⟨r, rfl, by simp only at q2; omega, q3⟩
  | false =>
    simp only at q2
    have hr := r.len_size
    refine ⟨app r (cons e c nil), ?_, by rw [size_app]; simp only [size]; omega, sm_app.2 ⟨q3, sm_mono he (by omega), by omega, trivial⟩⟩
    show (if r.rows.length + 1 ≤ cap then _ else _) = _
    rw [if_pos (by rw [rows_len]; omega), snocRows]
end Go.Proofs.Try
