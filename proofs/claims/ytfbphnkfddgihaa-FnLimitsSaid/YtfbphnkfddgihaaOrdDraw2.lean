/- Pure: the drawn ordinals. -/
import Derived.Test.YtfbphnkfddgihaaOrdDraw
namespace Go.Proofs.Try
open Go Go.AX T
def IsT (S : Nat) (B : Int) (r : Rw) : Prop := ∃ t : T, r = t.rows ∧ t.size ≤ S ∧ sm B t
theorem ord_loop {k : Nat} {x : Rw} {rec_ : Rw → Int → Int → Int → Option (Rw × Rw × Int × Int)} {d B N BM L : Int} {S M : Nat} (hL : L ≤ 1000000) (hx : bytes x) (hB : 3 ≤ B) (hN : 0 ≤ N)
    (hr : ∀ a c, 0 ≤ a → a ≤ L → Drew x a N (rec_ x a c (IntKind.i64.wrap (d - 1))) (IsT S B)) (hM : M + 1 < k) (hcap : M + 1 ≤ cap) (hBM : BM ≤ 1000000000000) :
    ∀ (n v : Nat) (acc : T) (a c C : Int), v < n → v ≤ 1000 → 0 ≤ a → a + (v : Int) * (8 + N) ≤ L → acc.size + v * (S + 2) ≤ M → sm C acc → 0 ≤ C → C + (v : Int) * (B + 1000) ≤ BM →
      Drew x a ((v : Int) * (8 + N)) (spec_l1Cur_ordinal_l0 k rec_ d (fun (v53 : Rw) (v54 : Int) (v55 : Int) (v56 : Rw) => some (v56, v53, v54, v55)) n (v : Int) x a c acc.rows) (IsT M BM)
  | 0, v, _, _, _, _, h, _, _, _, _, _, _, _ => absurd h (Nat.not_lt_zero _)
  | n + 1, 0, acc, a, c, C, _, _, h0, _, hs, sa, hC, hb => by
    simp only [spec_l1Cur_ordinal_l0]
    rw [if_neg (by omega)]
    exact ⟨_, a, _, rfl, h0, by simp, acc, rfl, by simpa using hs, sm_mono sa (by simpa using hb)⟩
  | n + 1, v + 1, acc, a, c, C, hv, hv2, h0, h1, hs, sa, hC, hb => by
    have h3 : cap = 1099511627776 := rfl
    have e1 : ((v + 1 : Nat) : Int) * (8 + N) = (v : Int) * (8 + N) + (8 + N) := by rw [Int.natCast_succ, Int.add_mul, Int.one_mul]
    have e2 : ((v + 1 : Nat) : Int) * (B + 1000) = (v : Int) * (B + 1000) + (B + 1000) := by rw [Int.natCast_succ, Int.add_mul, Int.one_mul]
    have p1 : 0 ≤ (v : Int) * (8 + N) := Int.mul_nonneg (by omega) (by omega)
    have p2 : 0 ≤ (v : Int) * (B + 1000) := Int.mul_nonneg (by omega) (by omega)
    have ew : IntKind.i64.wrap (((v + 1 : Nat) : Int) - 1) = (v : Int) := by rw [wid (by omega) (by omega)]; omega
    rw [Nat.succ_mul] at hs
    rw [e1] at h1 ⊢
    rw [e2] at hb
    have go : ∀ (e : T) (cc a' c' : Int), e.size ≤ S + 1 → sm B e → (-(B + 1000) ≤ cc ∧ cc ≤ B + 1000) → 0 ≤ a' → a' + (v : Int) * (8 + N) ≤ L →
        Drew x a' ((v : Int) * (8 + N)) ((spec_odMeet k acc.rows e.rows cc).bind fun y => spec_l1Cur_ordinal_l0 k rec_ d (fun (v53 : Rw) (v54 : Int) (v55 : Int) (v56 : Rw) => some (v56, v53, v54, v55)) n (v : Int) x a' c' y) (IsT M BM) := by
      intro e cc a' c' z1 z2 z3 z4 z5
      obtain ⟨r, q1, q2, q3⟩ := meet_ok (k := k) (C := C) (D := B + 1000) (t := acc) (sm_mono z2 (by omega)) z3 (by omega) (by omega) (by omega) sa
      rw [q1, Option.bind_some]
      exact ord_loop hL hx hB hN hr hM hcap hBM n v r a' c' (C + (B + 1000)) (by omega) (by omega) z4 z5 (by omega) q3 (by omega) (by omega)
    simp only [spec_l1Cur_ordinal_l0]
    rw [if_pos (by omega), ew]
    refine Drew.mono (Drew.bind (n := 2) (m := 6 + N + (v : Int) * (8 + N)) (pick_ok hx h0 (by omega) (by omega)) fun v1 a1 c1 i1 i2 i3 => ?_) (by omega)
    simp only [odInt_eq, Option.bind_some]
    refine Drew.mono (Drew.bind (n := 2) (m := 4 + N + (v : Int) * (8 + N)) (pick_ok hx i1 (by omega) (by omega)) fun v2 a2 c2 i4 i5 i6 => ?_) (by omega)
    refine Drew.mono (Drew.bind (n := 2) (m := 2 + N + (v : Int) * (8 + N)) (among_ok (Q := fun i => 0 ≤ i ∧ i ≤ 1000) hx i4 (by omega) (by simp) ?_) fun v3 a3 c3 i7 i8 i9 => ?_) (by omega)
    · have e4 : IntKind.i64.wrap (1 + v2) = 1 + v2 := wid (by omega) (by omega)
      intro r hr
      simp only [List.mem_cons, List.not_mem_nil, or_false] at hr
      rcases hr with rfl | rfl | rfl | rfl | rfl <;> refine ⟨_, rfl, ?_⟩ <;> (try rw [e4]) <;> omega
    refine Drew.mono (Drew.bind (n := 2) (m := N + (v : Int) * (8 + N)) (one_ok hx i7 (by omega) (by omega)) fun v4 a4 c4 i10 i11 _ => ?_) (by omega)
    split
    · refine Drew.bind (n := N) (m := (v : Int) * (8 + N)) (hr a4 c4 i10 (by omega)) fun v5 a5 c5 i12 i13 i14 => ?_
      obtain ⟨e, rfl, z1, z2⟩ := i14
      exact go e v3 a5 c5 (by omega) z2 (by omega) i12 (by omega)
    · have z := intT_size v1
      exact Drew.mono (go (intT v1) v3 a4 c4 (by omega) (intT_sm (by omega)) (by omega) i10 (by omega)) (by omega)
def zS : Nat → Nat
  | 0 => 1
  | d + 1 => 3 * (zS d + 2)
def zB : Nat → Int
  | 0 => 3
  | d + 1 => 3 * (zB d + 1000)
def zN : Nat → Int
  | 0 => 2
  | d + 1 => 2 + 3 * (8 + zN d)
theorem ordinal_ok {x : Rw} (hx : bytes x) : ∀ (d k : Nat) (a c : Int), d ≤ 3 → d + 200 < k → 0 ≤ a → a + 1000 * (d : Int) ≤ 1000000 → Drew x a (zN d) (spec_l1Cur_ordinal k x a c d) (IsT (zS d) (zB d))
  | d, 0, _, _, _, h, _, _ => absurd h (by omega)
  | 0, k + 1, a, c, _, hk, h0, h1 => by
    simp only [spec_l1Cur_ordinal, spec_l1Cur_ordinal_b]
    rw [if_pos (by simp)]
    refine Drew.mono (Drew.bind (n := 2) (m := 0) (pick_ok hx h0 (by omega) (by omega)) fun v a' c' q1 q2 q3 => ?_) (by simp [zN])
    simp only [odInt_eq, Option.bind_some]
    exact ⟨_, a', _, rfl, q1, by omega, intT v, rfl, intT_size v, intT_sm (by simp only [zB]; omega)⟩
  | d + 1, k + 1, a, c, hd, hk, h0, h1 => by
    have h3 : cap = 1099511627776 := rfl
    have b1 : zS d ≤ 33 ∧ 3 ≤ zB d ∧ zB d ≤ 100000 ∧ 0 ≤ zN d ∧ zN d ≤ 122 := by
      have : d = 0 ∨ d = 1 ∨ d = 2 := by omega
      rcases this with rfl | rfl | rfl <;> simp [zS, zB, zN]
    simp only [spec_l1Cur_ordinal, spec_l1Cur_ordinal_b]
    rw [if_neg (by omega)]
    refine Drew.mono (Drew.bind (n := 2) (m := 3 * (8 + zN d)) (among_ok (Q := fun i => ∃ m : Nat, i = m ∧ m ≤ 3) hx h0 (by omega) (by simp) ?_) fun v a' c' q1 q2 q3 => ?_) (by simp [zN])
    · intro r hr
      simp only [List.mem_cons, List.not_mem_nil, or_false] at hr
      rcases hr with rfl | rfl | rfl | rfl | rfl | rfl
      · exact ⟨_, rfl, 0, rfl, by omega⟩
      · exact ⟨_, rfl, 1, rfl, by omega⟩
      · exact ⟨_, rfl, 1, rfl, by omega⟩
      · exact ⟨_, rfl, 2, rfl, by omega⟩
      · exact ⟨_, rfl, 2, rfl, by omega⟩
      · exact ⟨_, rfl, 3, rfl, by omega⟩
    · obtain ⟨m, rfl, hm⟩ := q3
      have f1 : (m : Int) * (8 + zN d) ≤ 3 * (8 + zN d) := Int.mul_le_mul_of_nonneg_right (by omega) (by omega)
      have f2 : (m : Int) * (zB d + 1000) ≤ 3 * (zB d + 1000) := Int.mul_le_mul_of_nonneg_right (by omega) (by omega)
      have f3 : m * (zS d + 2) ≤ 3 * (zS d + 2) := Nat.mul_le_mul_right _ hm
      have ew : IntKind.i64.wrap (((d + 1 : Nat) : Int) - 1) = (d : Int) := by rw [wid (by omega) (by omega)]; omega
      refine Drew.mono (ord_loop (S := zS d) (M := zS (d + 1)) (B := zB d) (BM := zB (d + 1)) (N := zN d) (d := ((d + 1 : Nat) : Int)) (L := 1000000 - 1000 * (d : Int)) (by omega) hx b1.2.1 b1.2.2.2.1 ?_ (by simp only [zS]; omega) (by simp only [zS]; omega) (by simp only [zB]; omega) k m nil a' c' 0 (by omega) (by omega) q1 (by omega) (by simp only [zS, size]; omega) trivial (by omega) (by simp only [zB]; omega)) f1
      intro a c z1 z2
      rw [ew]
      exact ordinal_ok hx d k a c (by omega) (by omega) z1 (by omega)

theorem any_l0 {x : Rw} {y : Int × Rw × Int × Int} {K : Rw → Option (Rw × Rw × Int × Int)} {a n : Int} {Q : Rw → Prop} {M : Nat} (hK : ∀ t : T, t.size ≤ M → sm 40000 t → Drew x a n (K t.rows) Q) :
    ∀ (f v : Nat) (t : T), v < f → v ≤ 1000 → t.size + v ≤ M → sm 40000 t → Drew x a n (spec_l1Cur_anyOrdinal_l0 y K f (v : Int) t.rows) Q
  | 0, v, _, h, _, _, _ => absurd h (Nat.not_lt_zero _)
  | f + 1, 0, t, _, _, hs, st => by
    simp only [spec_l1Cur_anyOrdinal_l0]
    rw [if_neg (by omega)]
    exact hK t (by omega) st
  | f + 1, v + 1, t, h, hv, hs, st => by
    have ew : IntKind.i64.wrap (((v + 1 : Nat) : Int) - 1) = (v : Int) := by rw [wid (by omega) (by omega)]; omega
    simp only [spec_l1Cur_anyOrdinal_l0]
    rw [if_pos (by omega), odTerm_ok t (by omega), Option.bind_some, ew]
    exact any_l0 hK f v (cons t 1 nil) (by omega) (by omega) (by simp only [size]; omega) ⟨st, by omega, trivial⟩
theorem any_l1 {k : Nat} {x : Rw} {y : Int × Rw × Int × Int} {K : Rw → Option (Rw × Rw × Int × Int)} {a n BM : Int} {Q : Rw → Prop} {M : Nat} (hM : M + 1 < k) (hcap : M + 1 ≤ cap) (hBM : BM ≤ 1000000000) (hK : ∀ t : T, t.size ≤ M → sm BM t → Drew x a n (K t.rows) Q) :
    ∀ (f v : Nat) (t : T) (C : Int), v < f → v ≤ 1000 → t.size + 2 * v ≤ M → sm C t → 0 ≤ C → C + 1000000 * (v : Int) ≤ BM → Drew x a n (spec_l1Cur_anyOrdinal_l1 k y K f (v : Int) t.rows) Q
  | 0, v, _, _, h, _, _, _, _, _ => absurd h (Nat.not_lt_zero _)
  | f + 1, 0, t, C, _, _, hs, st, hC, hb => by
    simp only [spec_l1Cur_anyOrdinal_l1]
    rw [if_neg (by omega)]
    exact hK t (by omega) (sm_mono st (by omega))
  | f + 1, v + 1, t, C, h, hv, hs, st, hC, hb => by
    have ew : IntKind.i64.wrap (((v + 1 : Nat) : Int) - 1) = (v : Int) := by rw [wid (by omega) (by omega)]; omega
    have z := intT_size ((v + 1 : Nat) : Int)
    simp only [spec_l1Cur_anyOrdinal_l1]
    obtain ⟨r, q1, q2, q3⟩ := meet_ok (k := k) (C := C) (D := 1000000) (c := 1000000) (t := t) (e := intT ((v + 1 : Nat) : Int)) (intT_sm (by omega)) (by omega) (by omega) (by omega) (by omega) st
    rw [if_pos (by omega), odInt_eq, Option.bind_some, q1, Option.bind_some, ew]
    exact any_l1 hM hcap hBM hK f v r (C + 1000000) (by omega) (by omega) (by omega) q3 (by omega) (by omega)
theorem any_ok {k : Nat} {x : Rw} (hx : bytes x) (hk : 500 < k) {a c : Int} (h0 : 0 ≤ a) (h1 : a ≤ 10000) : Drew x a 500 (spec_l1Cur_anyOrdinal k x a c) (IsT 200 100000000) := by
  have h3 : cap = 1099511627776 := rfl
  unfold spec_l1Cur_anyOrdinal
  refine Drew.mono (Drew.bind (n := 2) (m := 450) (among_ok (Q := fun i => ∃ m : Nat, i = m ∧ m ≤ 3) hx h0 (by omega) (by simp) ?_) fun v a1 c1 q1 q2 q3 => ?_) (by omega)
  · intro r hr
    simp only [List.mem_cons, List.not_mem_nil, or_false] at hr
    rcases hr with rfl | rfl | rfl | rfl
    · exact ⟨_, rfl, 0, rfl, by omega⟩
    · exact ⟨_, rfl, 1, rfl, by omega⟩
    · exact ⟨_, rfl, 2, rfl, by omega⟩
    · exact ⟨_, rfl, 3, rfl, by omega⟩
  obtain ⟨d, rfl, hd⟩ := q3
  have b1 : zS d ≤ 105 ∧ 0 ≤ zB d ∧ zB d ≤ 40000 ∧ 0 ≤ zN d ∧ zN d ≤ 392 := by
    have : d = 0 ∨ d = 1 ∨ d = 2 ∨ d = 3 := by omega
    rcases this with rfl | rfl | rfl | rfl <;> simp [zS, zB, zN]
  refine Drew.mono (Drew.bind (n := 392) (m := 50) (Drew.mono (ordinal_ok hx d k a1 c1 hd (by omega) q1 (by omega)) b1.2.2.2.2) fun r a2 c2 q4 q5 q6 => ?_) (by omega)
  obtain ⟨t, rfl, z1, z2⟩ := q6
  have s4 : sm 40000 t := sm_mono z2 b1.2.2.1
  have s8 : sm 100000000 t := sm_mono z2 (by omega)
  have hl := t.len_size
  have fin : ∀ (t : T) (a' c' : Int), 0 ≤ a' → t.size ≤ 200 → sm 100000000 t → Drew x a' 0 (spec_l1Cur_anyOrdinal_p4 x a' c' t.rows) (IsT 200 100000000) := fun t a' c' h z1 z2 => ⟨_, a', _, rfl, h, by omega, t, rfl, z1, z2⟩
  show Drew x a2 50 (spec_l1Cur_anyOrdinal_p2 k x a2 c2 t.rows) _
  unfold spec_l1Cur_anyOrdinal_p2
  refine Drew.mono (Drew.bind (n := 2) (m := 40) (one_ok hx q4 (by omega) (by omega)) fun v a3 c3 q7 q8 _ => ?_) (by omega)
  simp only
  split
  · unfold spec_l1Cur_anyOrdinal_p3
    refine Drew.mono (Drew.bind (n := 2) (m := 30) (pick_ok hx q7 (by omega) (by omega)) fun u a4 c4 q9 q10 q11 => ?_) (by omega)
    simp only
    have app1 : ∀ (e : T) (n : Int), e.size ≤ 1 → sm 100000000 e → (-100000000 ≤ n ∧ n ≤ 100000000) → ∀ a' c' : Int, 0 ≤ a' → Drew x a' 0 (if t.rows.length + 1 ≤ cap then spec_l1Cur_anyOrdinal_p4 x a' c' (t.rows ++ [[Go.AX.D.sl e.rows, Go.AX.D.int .i64 n]]) else none) (IsT 200 100000000) := by
      intro e n y1 y2 y3 a' c' y4
      rw [if_pos (by rw [rows_len]; omega), snocRows]
      exact fin _ _ _ y4 (by rw [size_app]; simp only [size]; omega) (sm_app.2 ⟨s8, y2, y3, trivial⟩)
    split
    · rw [odInt_eq, Option.bind_some]
      exact Drew.mono (app1 _ 1 (intT_size 7) (intT_sm (by omega)) (by omega) a4 c4 q9) (by omega)
    · split
      · refine Drew.mono (Drew.bind (n := 2) (m := 0) (among_ok (Q := fun i => -100000000 ≤ i ∧ i ≤ 100000000) hx q9 (by omega) (by simp) ?_) fun w a5 c5 q12 q13 q14 => ?_) (by omega)
        · intro r hr
          simp only [List.mem_cons, List.not_mem_nil, or_false] at hr
          rcases hr with rfl | rfl | rfl | rfl <;> exact ⟨_, rfl, by omega, by omega⟩
        · exact app1 nil w (by simp [size]) trivial q14 a5 c5 q12
      · split
        · refine Drew.mono (Drew.bind (n := 2) (m := 0) (pick_ok hx q9 (by omega) (by omega)) fun w a5 c5 q12 q13 q14 => ?_) (by omega)
          obtain ⟨m, rfl⟩ : ∃ m : Nat, w = m := ⟨w.toNat, by omega⟩
          simp only
          exact any_l0 (M := 200) (fun t' y1 y2 => fin t' _ _ q12 y1 (sm_mono y2 (by omega))) k m t (by omega) (by omega) (by omega) s4
        · refine Drew.mono (Drew.bind (n := 2) (m := 0) (pick_ok hx q9 (by omega) (by omega)) fun w a5 c5 q12 q13 q14 => ?_) (by omega)
          obtain ⟨m, rfl⟩ : ∃ m : Nat, w = m := ⟨w.toNat, by omega⟩
          simp only
          exact any_l1 (k := k) (M := 200) (BM := 100000000) (by omega) (by omega) (by omega) (fun t' y1 y2 => fin t' _ _ q12 y1 y2) k m t 40000 (by omega) (by omega) (by omega) s4 (by omega) (by omega)
  · exact ⟨_, a3, _, rfl, q7, by omega, t, rfl, by omega, s8⟩
theorem splus_sm {B : Int} : ∀ (b a : T) (C : Int), sm C a → sm B b → 0 ≤ B → 0 ≤ C → C + B * b.len ≤ 1000000000000 → sm (C + B * b.len) (splus a b)
  | nil, a, C, sa, _, _, _, _ => sm_mono sa (by simp [len])
  | cons f d m, a, C, sa, sb, hB, hC, hs => by
    have e : B * ((m.len + 1 : Nat) : Int) = B * m.len + B := by rw [Int.natCast_add, Int.mul_add]; omega
    simp only [len] at hs ⊢
    have hnn : 0 ≤ B * (m.len : Int) := Int.mul_nonneg hB (by omega)
    rw [e] at hs ⊢
    have := splus_sm m (addL (popT a f) f d) (C + B) (sm_addL (sm_pop sa) sb.1 sb.2.1 ⟨hC, hB, by omega⟩) sb.2.2 hB (by omega) (by omega)
    exact sm_mono this (by omega)
end Go.Proofs.Try
