/- Pure: the law of sums, on terms. -/
import Derived.Test.YtkloidpjgdlpkaaOrdDraw2
namespace Go.Proofs.Try
open Go Go.AX T
theorem gt_of {e f : T} (h : ¬ cmpT e f = 1) (h0 : ¬ cmpT e f = 0) : cmpT e f < 0 := by
  rcases cmpT_range e f with q | q | q <;> omega
theorem gt_trans {e f g : T} (h1 : cmpT e f = 1) (h2 : cmpT f g = 1) : cmpT e g = 1 := by
  have q1 : cmpT f e < 0 := by rw [cmpT_neg e f]; omega
  have q2 : cmpT g f < 0 := by rw [cmpT_neg f g]; omega
  have := cmpT_trans q2 q1
  have q3 := cmpT_neg g e
  rcases cmpT_range e g with q | q | q <;> omega
theorem goP_low {m f g n : T} {h : Int} (hf : falls (some f) m) (hfg : cmpT f g < 0) : goP m g h n = cons g h n := by
  induction m generalizing f with
  | nil => rfl
  | cons x c l _ ih =>
    have h1 := hf.1 f rfl
    have h2 : cmpT x g < 0 := by
      have : cmpT x f < 0 := by rw [cmpT_neg f x]; omega
      exact cmpT_trans this hfg
    simp only [goP]
    rw [if_neg (by omega), if_neg (by omega)]
    exact ih hf.2 h2
theorem goP_A {a f g m n : T} {d h : Int} (hfg : cmpT f g = 1) : goP (goP a f d m) g h n = goP a f d (goP m g h n) := by
  induction a with
  | nil => simp only [goP, if_pos hfg]
  | cons e c l _ ih =>
    simp only [goP]
    split
    · rename_i q; simp only [goP]; rw [if_pos (gt_trans q hfg), ih]
    · split
      · rename_i q; obtain rfl := cmpT_eq.1 q; simp only [goP]; rw [if_pos hfg]
      · exact ih
theorem goP_B {a f m n : T} {d h : Int} (ha : sm 1000000 a) (hd : -1000000 ≤ d ∧ d ≤ 1000000) (hh : -1000000 ≤ h ∧ h ≤ 1000000) : goP (goP a f d m) f h n = goP a f (w (d + h)) n := by
  have r : cmpT f f = 0 := cmpT_refl f
  induction a with
  | nil => simp only [goP]; rw [if_neg (by omega), if_pos r]
  | cons e c l _ ih =>
    simp only [goP]
    split
    · rename_i q; simp only [goP]; rw [if_pos q, ih ha.2.2]
    · rename_i q0
      split
      · rename_i q; simp only [goP]; rw [if_neg q0, if_pos q]
        have hc := ha.2.1
        have e1 : w (c + d) = c + d := wid (by omega) (by omega)
        have e2 : w (d + h) = d + h := wid (by omega) (by omega)
        rw [e1, e2, Int.add_assoc]
      · exact ih ha.2.2
theorem goP_C {a f g m n : T} {d h : Int} : ∀ {p : Option T}, falls p a → falls (some f) m → cmpT f g < 0 → goP (goP a f d m) g h n = goP a g h n := by
  induction a with
  | nil =>
    intro p _ hm hfg
    simp only [goP]
    rw [if_neg (by omega), if_neg (by omega), goP_low hm hfg]
  | cons e c l _ ih =>
    intro p ha hm hfg
    have ih := ih ha.2 hm hfg
    by_cases q : cmpT e f = 1
    · simp only [goP, if_pos q]
      rw [ih]
    · by_cases q0 : cmpT e f = 0
      · obtain rfl := cmpT_eq.1 q0
        simp only [goP, if_neg q, if_pos q0]
        rw [if_neg (by omega), if_neg (by omega), if_neg (by omega), if_neg (by omega), goP_low hm hfg, goP_low ha.2 hfg]
      · have lt := gt_of q q0
        have lt2 := cmpT_trans lt hfg
        simp only [goP, if_neg q, if_neg q0]
        rw [if_neg (by omega), if_neg (by omega)]
        exact ih
theorem plusT_assoc {a b c : T} (ha : formA none a = true) (hb : formA none b = true) (hc : formA none c = true) : plusT a (plusT b c) = plusT (plusT a b) c := by
  cases c with
  | nil => rfl
  | cons g h n =>
    cases b with
    | nil => rfl
    | cons f d m =>
      have sa := form_sm ha
      have sb := form_sm hb
      have sc := form_sm hc
      have fa := form_falls ha
      have fb := form_falls hb
      show plusT a (goP (cons f d m) g h n) = goP (goP a f d m) g h n
      by_cases q : cmpT f g = 1
      · rw [goP_A q]; simp only [goP, if_pos q]; rfl
      · by_cases q0 : cmpT f g = 0
        · obtain rfl := cmpT_eq.1 q0
          rw [goP_B sa (by have := sb.2.1; omega) (by have := sc.2.1; omega)]
          simp only [goP, if_neg q, if_pos q0]; rfl
        · have lt := gt_of q q0
          rw [goP_C fa fb.2 lt]
          simp only [goP, if_neg q, if_neg q0]
          rw [goP_low fb.2 lt]
          rfl
theorem cmpT_cons_eq {e : T} {c : Int} {x y : T} : cmpT (cons e c x) (cons e c y) = cmpT x y := by
  simp only [cmpT, cmpT_refl, cmpI_refl, if_true]
theorem lessT_self {a : T} : lessT a a = nil := by
  induction a with
  | nil => rfl
  | cons e c l _ ih => simp only [lessT, cmpT_refl, if_true, ih]
theorem sub_goP {a f m : T} {d : Int} (ha : formA none a = true) (hd : 1 ≤ d ∧ d ≤ 1000000) : ∀ {p : Option T}, falls p a → sm 1000000 a → lessT (goP a f d m) a = cons f d m ∧ 0 ≤ cmpT (goP a f d m) a := by
  clear ha
  induction a with
  | nil => intro p _ _; exact ⟨rfl, by simp [goP, cmpT]⟩
  | cons e c l _ ih =>
    intro p hf hs
    have ih := ih hf.2 hs.2.2
    have hc := hs.2.1
    by_cases q : cmpT e f = 1
    · simp only [goP, if_pos q, lessT, cmpT_refl, if_true, cmpT_cons_eq]
      exact ih
    · by_cases q0 : cmpT e f = 0
      · obtain rfl := cmpT_eq.1 q0
        have e1 : w (c + d) = c + d := wid (by omega) (by omega)
        have e2 : w (c + d - c) = d := by rw [show w (c + d - c) = c + d - c from wid (by omega) (by omega)]; omega
        simp only [goP, if_neg q, if_pos q0, e1]
        refine ⟨?_, ?_⟩
        · simp only [lessT, cmpT_refl, if_true]
          rw [if_neg (by omega), e2]
        · have e3 : cmpI (c + d) c = 1 := by unfold cmpI; rw [if_neg (by omega), if_pos (by omega)]
          simp only [cmpT, cmpT_refl, e3]
          simp
      · have lt := gt_of q q0
        have e1 : cmpT f e = 1 := by rw [cmpT_neg e f]; rcases cmpT_range e f with z | z | z <;> omega
        have e2 : goP (cons e c l) f d m = cons f d m := by
          simp only [goP, if_neg q, if_neg q0]; exact goP_low hf.2 lt
        rw [e2]
        refine ⟨?_, ?_⟩
        · simp only [lessT]; rw [if_neg (by omega)]
        · simp only [cmpT, e1]; simp
theorem sub_plus {a b : T} (ha : ordP a = true) (hb : ordP b = true) (hs : ordP (plusT a b) = true) : subT (plusT a b) a = (b, true) := by
  have key : lessT (plusT a b) a = b ∧ 0 ≤ cmpT (plusT a b) a := by
    cases b with
    | nil => exact ⟨lessT_self, by show 0 ≤ cmpT a a; rw [cmpT_refl]; omega⟩
    | cons f d m =>
      have hd : 1 ≤ d ∧ d ≤ 1000000 := by
        have := ordP_form hb
        simp only [formA, Bool.and_eq_true, decide_eq_true_eq] at this
        omega
      exact sub_goP (ordP_form ha) hd (form_falls (ordP_form ha)) (form_sm (ordP_form ha))
  unfold subT
  rw [hs, ha, Bool.and_self, if_pos rfl, if_neg (by omega), key.1, toldT, if_pos hb]
end Go.Proofs.Try
