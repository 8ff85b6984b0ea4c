/- A region's operations on abstract states, against the machine's rules. -/
import Derived.Test.YtfbphnkfddgihaaAxRegDef
namespace Go.AX
section
variable {P : Program}

theorem memN_iff {i : Nat} : ∀ {l : List Nat}, memN i l = true ↔ i ∈ l
  | [] => by simp [memN]
  | j :: l => by
    unfold memN
    split
    · rename_i h; simp [Nat.eq_of_beq_eq_true h]
    · rename_i h
      have hne : i ≠ j := fun e => by subst e; simp at h
      rw [memN_iff]; simp [hne]
theorem memN_false {i : Nat} {l : List Nat} (h : memN i l = false) : i ∉ l := fun q => by rw [memN_iff.2 q] at h; cases h
theorem distN_spec : ∀ {l : List Nat}, distN l = true → l.Nodup
  | [], _ => List.nodup_nil
  | i :: l, h => by
    unfold distN at h
    split at h
    · cases h
    · rename_i hm
      exact List.nodup_cons.2 ⟨memN_false hm, distN_spec h⟩
theorem allGe_spec {nb : Nat} : ∀ {l : List Nat}, allGe nb l = true → ∀ d ∈ l, nb ≤ d
  | [], _ => by simp
  | i :: l, h => by
    unfold allGe at h
    split at h
    · rename_i hm
      intro d hd
      rcases List.mem_cons.1 hd with rfl | hd
      · exact Nat.le_of_ble_eq_true hm
      · exact allGe_spec h d hd
    · cases h

/-! ### the scrub -/
mutual
theorem scA_rep {D : List Nat} {w : World} {M : Mu} {own : Nat → List Nat} : ∀ {a : A} {v : Value}, RepA w M a v → RepA w ⟨M.m, own, M.F⟩ (scA D a) v
  | .os id n, v, h => by unfold scA; split <;> first | exact trivial | exact h
  | .ptr id off, v, h => by unfold scA; split <;> first | exact trivial | exact h
  | .pe id i sz off, v, h => by unfold scA; split <;> first | exact trivial | exact h
  | .fn f cap, v, h => by
    simp only [scA, RepA] at h ⊢
    obtain ⟨vs, rfl, hl⟩ := h
    exact ⟨vs, rfl, scL_rep hl⟩
  | .agg cs, v, h => by
    simp only [scA, RepA] at h ⊢
    obtain ⟨vs, rfl, hl⟩ := h
    exact ⟨vs, rfl, scL_rep hl⟩
  | .tup cs, v, h => by
    simp only [scA, RepA] at h ⊢
    obtain ⟨vs, rfl, hl⟩ := h
    exact ⟨vs, rfl, scL_rep hl⟩
  | .d x, v, h => by simpa only [scA, RepA] using h
  | .es, v, h => by simpa only [scA, RepA] using h
  | .dp cs, v, h => by unfold scA; simpa only [RepA] using h
  | .undef, v, h => by simpa only [scA, RepA] using h
  | .junk, v, _ => by simp only [scA, RepA]
theorem scL_rep {D : List Nat} {w : World} {M : Mu} {own : Nat → List Nat} : ∀ {l : List A} {vs : List Value}, RepL w M l vs → RepL w ⟨M.m, own, M.F⟩ (scL D l) vs
  | [], [], _ => by simp [scL, RepL]
  | a :: l, v :: vs, h => by
    simp only [scL, RepL] at h ⊢
    exact ⟨scA_rep h.1, scL_rep h.2⟩
  | [], _ :: _, h => by simp [RepL] at h
  | _ :: _, [], h => by simp [RepL] at h
end
mutual
theorem scA_refs {D : List Nat} {id : Nat} (hid : id / 64 ∈ D) : ∀ {a : A}, id ∉ refsA (scA D a)
  | .os i n => by
    unfold scA
    split
    · simp [refsA]
    · rename_i h; simp only [refsA, List.mem_singleton]; intro q; exact memN_false h (q ▸ hid)
  | .ptr i off => by
    unfold scA
    split
    · simp [refsA]
    · rename_i h; simp only [refsA, List.mem_singleton]; intro q; exact memN_false h (q ▸ hid)
  | .pe i k sz off => by
    unfold scA
    split
    · simp [refsA]
    · rename_i h; simp only [refsA, List.mem_singleton]; intro q; exact memN_false h (q ▸ hid)
  | .fn f cap => by simp only [scA, refsA]; exact scL_refs hid
  | .agg cs => by simp only [scA, refsA]; exact scL_refs hid
  | .tup cs => by simp only [scA, refsA]; exact scL_refs hid
  | .d x => by simp [scA, refsA]
  | .es => by simp [scA, refsA]
  | .dp cs => by unfold scA; simp [refsA]
  | .undef => by simp [scA, refsA]
  | .junk => by simp [scA, refsA]
theorem scL_refs {D : List Nat} {id : Nat} (hid : id / 64 ∈ D) : ∀ {l : List A}, id ∉ refsL (scL D l)
  | [] => by simp [scL, refsL]
  | a :: l => by simp only [scL, refsL, List.mem_append, not_or]; exact ⟨scA_refs hid, scL_refs hid⟩
end
theorem scrub_clean {D : List Nat} {st : St} {d : Nat} (hd : d ∈ D) : Clean d (scrub D st) := by
  intro k hk
  cases D with
  | nil => cases hd
  | cons e l =>
    have hdiv : (d * 64 + k) / 64 = d := by omega
    have hm : memN ((d * 64 + k) / 64) (e :: l) = true := memN_iff.2 (by rw [hdiv]; exact hd)
    refine ⟨by simp only [scrub, hm], fun i => scA_refs (by rw [hdiv]; exact hd), fun i => ?_⟩
    simp only [scrub]
    split
    · simp [refsO]
    · unfold scO
      split <;> simp only [refsO, List.not_mem_nil, not_false_eq_true]
      exact scL_refs (by rw [hdiv]; exact hd)
theorem scrub_n {D : List Nat} {st : St} : (scrub D st).n = st.n := by cases D <;> rfl
theorem scrub_at {D : List Nat} {nb : Nat} {w0 w : World} {M0 : Mu} {st : St} {a : Act} (h : AtX P nb w0 M0 st a w) : AtX P nb w0 M0 (scrub D st) a w := by
  cases D with
  | nil => exact h
  | cons e l =>
    obtain ⟨M, h⟩ := h
    let own : Nat → List Nat := fun id => match memN (id / 64) (e :: l) with | true => [] | false => M.own id
    have hsub : ∀ id b, b ∈ own id → b ∈ M.own id ∧ own id = M.own id := by
      intro id b hb
      simp only [own] at hb ⊢
      split at hb
      · cases hb
      · exact ⟨hb, rfl⟩
    refine ⟨⟨M.m, own, M.F⟩, ⟨fun i => scA_rep (h.sim.tm i), fun id => ?_, fun i j hij b hb hb' => h.sim.dis i j hij b (hsub i b hb).1 (hsub j b hb').1, fun i b hb => h.sim.nf i b (hsub i b hb).1, h.sim.fz⟩, h.size, h.defers, ⟨h.step.os, h.step.tape, h.step.output, h.step.size, h.step.keep, h.step.F1, h.step.F2, fun id b hb => h.step.own id b (hsub id b hb).1⟩, h.m⟩
    have ho := h.sim.ob id
    simp only [scrub]
    split
    · rename_i hm
      simp only [SimO, own, hm]
    · rename_i hm
      have hown : own id = M.own id := by simp only [own, hm]
      cases hh : st.h id with
      | gone => rw [hh] at ho; simpa only [scO, SimO, hown] using ho
      | dead => rw [hh] at ho; simpa only [scO, SimO, hown] using ho
      | box t cs =>
        rw [hh] at ho
        simp only [scO, SimO, hown] at ho ⊢
        obtain ⟨b, c, vs, q1, q2, q3, q4⟩ := ho
        exact ⟨b, c, vs, q1, q2, q3, scL_rep q4⟩
      | arr t own' es =>
        rw [hh] at ho
        exact SimO.mono (M := M) (M' := ⟨M.m, own, M.F⟩) ho (fun b hb => ⟨hb, rfl⟩) (fun _ _ => rfl) rfl hown fun _ _ => rfl
      | frz es =>
        rw [hh] at ho
        exact SimO.mono (M := M) (M' := ⟨M.m, own, M.F⟩) ho (fun b hb => ⟨hb, rfl⟩) (fun _ _ => rfl) rfl hown fun _ _ => rfl

/-! ### in order -/
def Al (o : Oper) : Prop := isAl o.op = true ∨ isCall o.op ≠ none
theorem needs_cons {o : Oper} {l : List Oper} (ha : Al o) : needs (o :: l) = o.dst.getD 0 :: needs l := by
  cases h : isAl o.op with
  | true => simp only [needs, h]
  | false =>
    cases hc : isCall o.op with
    | some x => simp only [needs, h, hc]
    | none => exact absurd ha (by simp [Al, h, hc])
theorem needs_nil {o : Oper} {l : List Oper} (ha : ¬ Al o) : needs (o :: l) = needs l := by
  cases h : isAl o.op with
  | true => exact absurd (.inl h) ha
  | false =>
    cases hc : isCall o.op with
    | some x => exact absurd (.inr (by rw [hc]; simp)) ha
    | none => simp only [needs, h, hc]
theorem needs_al {l : List Oper} {o : Oper} (hm : o ∈ l) (ha : Al o) : o.dst.getD 0 ∈ needs l := by
  induction l with
  | nil => cases hm
  | cons p l ih =>
    rcases List.mem_cons.1 hm with rfl | hm
    · rw [needs_cons ha]; exact List.mem_cons_self
    · by_cases hp : Al p
      · rw [needs_cons hp]; exact List.mem_cons_of_mem _ (ih hm)
      · rw [needs_nil hp]; exact ih hm

theorem nilOp_sound {w : World} {M : Mu} {a : Act} {ρ : Operand → A} (hr : ∀ x, RepA w M (ρ x) (a.eval x)) (o : Oper) {ng : Bool} {es : List (List D)} (h : nilOp P o.op ρ = some (ng, es)) :
    ∃ b, (execOp a.eval o).run P w = .ok (.value (.bool (b != ng))) w ∧ (b = true → ∀ r ∈ es, r = []) := by
  have key : ∀ (op : BinOp) (t : TypeId) (x y : Operand) (yt : TypeId) (e : TypeId), (op = .eql ∨ op = .neq) → o.op = .binOp op t x y yt → P.underlying t = some (.slice e) → ρ x = .d (.sl es) → ρ y = .es → ng = (match op with | .neq => true | _ => false) →
      ∃ b, (execOp a.eval o).run P w = .ok (.value (.bool (b != ng))) w ∧ (b = true → ∀ r ∈ es, r = []) := by
    intro op t x y yt e hop ho hu hx hy hng
    have h1 := hr x
    have h2 := hr y
    rw [hx] at h1
    rw [hy] at h2
    simp only [RepA] at h1 h2
    obtain ⟨ad, n, c, hv, he⟩ : ∃ ad n c, a.eval x = .slice ad n c ∧ (ad = none → ∀ r ∈ es, r = []) := by
      generalize hvx : a.eval x = v at h1
      cases h1 with
      | sl ad c sz es vs hc hsz ha hr' =>
        refine ⟨ad, es.length, c, rfl, fun q => ?_⟩
        subst q
        intro r hr2
        obtain ⟨i, hi⟩ := List.mem_iff_getElem?.1 hr2
        cases r with
        | nil => rfl
        | cons d r =>
          obtain ⟨_, h, _⟩ := ha i 0 d (by simp [at2, hi])
          cases h
    refine ⟨ad.isNone, ?_, fun q => he (by cases ad with | none => rfl | some _ => cases q)⟩
    unfold execOp
    simp only [ho, hv, h2]
    have hg : (eqGuard op t x y (.slice ad n c) (.slice none 0 0)).run P w = .ok () w := by
      unfold eqGuard
      split <;> simp
    have heq : (Op.equalIn 10000 t (.slice ad n c) (.slice none 0 0)).run P w = .ok ad.isNone w := by
      have h1 : (Op.equalIn (9999 + 1) t (.slice ad n c) (.slice none 0 0)).run P w = .ok ad.isNone w := by
        generalize 9999 = d
        cases ad <;> simp [Op.equalIn, run_underlying hu]
      exact h1
    rcases hop with rfl | rfl
    · subst hng
      simp [hg, binOp, Op.equal, Op.maxDepth, heq]
    · subst hng
      simp [hg, binOp, Op.equal, Op.maxDepth, heq]
  unfold nilOp at h
  split at h
  · rename_i op t x y yt ho
    split at h
    · split at h
      · rename_i e hu
        split at h
        · rename_i es' hx hy
          simp only [Option.some.injEq, Prod.mk.injEq] at h
          obtain ⟨rfl, rfl⟩ := h
          exact key .eql t x y yt e (.inl rfl) ho hu hx hy rfl
        · cases h
      · cases h
    · split at h
      · rename_i e hu
        split at h
        · rename_i es' hx hy
          simp only [Option.some.injEq, Prod.mk.injEq] at h
          obtain ⟨rfl, rfl⟩ := h
          exact key .neq t x y yt e (.inr rfl) ho hu hx hy rfl
        · cases h
      · cases h
    · cases h
  · cases h
theorem stepsL_wp {nb : Nat} {w0 : World} {M0 : Mu} {ops : Array Oper} {Q : Exit → Act → World → Prop} {l : List Oper} {st : St} {K : St → Prop} {a : Act} {w : World}
    (hs : stepsL P ops l st K) (hA : AtX P nb w0 M0 st a w) (hnd : (needs l).Nodup) (hcl : ∀ d ∈ needs l, nb ≤ d ∧ Clean d st) (hK : ∀ st', K st' → ∀ a' w', AtX P nb w0 M0 st' a' w' → Q .normal a' w') : wpList P ops Q l a w := by
  induction l generalizing st a w with
  | nil =>
    have hs : K st := hs
    exact hK _ hs a w hA
  | cons o l ih =>
    have hs : (match nilOp P o.op (val st) with
      | none => stepOp P ops o st fun st' => stepsL P ops l st' K
      | some (ng, es) => (match dstOk st o, o.guard with
        | true, none => NilCmp es fun b => (match st with
          | ⟨n, t, h⟩ => fcS (put ⟨n, t, h⟩ o.dst (.d (.bool (b != ng))) h) fun st' => stepsL P ops l st' K)
        | _, _ => False)) := hs
    split at hs
    case h_2 ng es hnil =>
      split at hs
      · rename_i hd hg
        have hna : ¬ Al o := by
          rintro (q | q)
          · unfold nilOp at hnil
            split at hnil
            · rename_i heq; rw [heq] at q; cases q
            · cases hnil
          · unfold nilOp at hnil
            split at hnil
            · rename_i heq; exact q (by rw [heq]; rfl)
            · cases hnil
        rw [needs_nil hna] at hnd hcl
        obtain ⟨M, hA'⟩ := hA
        have hv : ∀ x, RepA w M (val st x) (a.eval x) := fun x => val_rep (n := st.n) (h := st.h) hA'.sim.tm x
        obtain ⟨b, hrun, hb⟩ := nilOp_sound hv o hnil
        have hk : stepsL P ops l (put st o.dst (.d (.bool (b != ng))) st.h) K := by
          cases hs with
          | mk hs =>
            cases b with
            | true => exact hs.1 (hb rfl)
            | false => exact hs.2
        have hw : Region.wanted o (yielded ops a.tmps) = true := by unfold Region.wanted; rw [hg]
        have hrep : RepA w M (.d (.bool (b != ng))) (.bool (b != ng)) := by simp only [RepA]; exact .bool _
        have hcl' : ∀ d ∈ needs l, nb ≤ d ∧ Clean d (put st o.dst (.d (.bool (b != ng))) st.h) := by
          intro d hd'
          obtain ⟨q1, q2⟩ := hcl d hd'
          refine ⟨q1, fun k hk' => ⟨?_, ?_⟩⟩
          · rw [put_h]; exact (q2 k hk').1
          · refine ⟨fun i => ?_, fun i => by rw [put_h]; exact (q2 k hk').2.2 i⟩
            obtain ⟨stn, stt, sth⟩ := st
            cases hdst : o.dst with
            | none => exact (q2 k hk').2.1 i
            | some e =>
              simp only [put]
              by_cases hi : i = e
              · subst hi; simp [upd, refsA]
              · simp only [upd, if_neg hi]; exact (q2 k hk').2.1 i
        refine wpList_step fun K' hK' => ?_
        rw [if_pos hw]
        unfold Oper.wp
        rw [hrun, Oper.upon_value]
        exact hK' _ _ (ih hk ⟨M, hA'.put hd hA'.sim hrep (Step.refl _ _) fun _ _ => rfl⟩ hnd hcl')
      · exact hs.elim
    obtain ⟨r, h', hst, hrest⟩ := stepOp_ex hs
    have hnd' : (needs l).Nodup := by
      by_cases ha : Al o
      · rw [needs_cons ha] at hnd; exact (List.nodup_cons.1 hnd).2
      · rw [needs_nil ha] at hnd; exact hnd
    have hcl' : ∀ d ∈ needs l, nb ≤ d ∧ Clean d (put st o.dst r h') := by
      intro d hd
      by_cases ha : Al o
      · rw [needs_cons ha] at hnd hcl
        obtain ⟨q1, q2⟩ := hcl d (List.mem_cons_of_mem _ hd)
        exact ⟨q1, hst.clean q2 fun _ e => (List.nodup_cons.1 hnd).1 (e ▸ hd)⟩
      · rw [needs_nil ha] at hcl
        obtain ⟨q1, q2⟩ := hcl d hd
        exact ⟨q1, hst.clean q2 fun q => absurd q ha⟩
    refine wpList_step fun K' hK' => ?_
    have hc : Al o → nb ≤ o.dst.getD 0 ∧ Clean (o.dst.getD 0) st := fun ha => hcl _ (by rw [needs_cons ha]; exact List.mem_cons_self)
    refine stR_wp hA hst hc ?_
    intro a' w' hA'
    exact hK' _ _ (ih hrest hA' hnd' hcl')

/-! ### effects -/
def Ef.pair (e : Ef) : Eff × Eff := (⟨e.b, e.i⟩, match e.w with | true => ⟨e.b, e.i⟩ | false => ⟨[], []⟩)
theorem Eff.mem {b i : List Nat} {id : Nat} : id ∈ (⟨b, i⟩ : Eff).l ↔ id / 64 ∈ b ∨ id ∈ i := by
  simp only [Eff.l, List.mem_append, List.mem_flatMap, List.mem_map, List.mem_range]
  constructor
  · rintro (⟨k, hk, j, hj, rfl⟩ | h)
    · exact .inl (by have : (k * 64 + j) / 64 = k := by omega
                     rwa [this])
    · exact .inr h
  · rintro (h | h)
    · exact .inl ⟨_, h, id % 64, by omega, by omega⟩
    · exact .inr h
theorem offB_spec : ∀ {l b : List Nat}, offB l b = true → ∀ k ∈ l, k ∉ b
  | [], _, _ => by simp
  | k :: l, b, h => by
    unfold offB at h
    split at h
    · cases h
    · rename_i hm
      intro j hj
      rcases List.mem_cons.1 hj with rfl | hj
      · exact memN_false hm
      · exact offB_spec h j hj
theorem offI_spec : ∀ {l b i : List Nat}, offI l b i = true → ∀ k ∈ l, k ∉ i ∧ k / 64 ∉ b
  | [], _, _, _ => by simp
  | k :: l, b, i, h => by
    unfold offI at h
    split at h
    · cases h
    · rename_i hm
      split at h
      · cases h
      · rename_i hm'
        intro j hj
        rcases List.mem_cons.1 hj with rfl | hj
        · exact ⟨memN_false hm, memN_false hm'⟩
        · exact offI_spec h j hj
theorem offBI_spec : ∀ {l b : List Nat}, offBI l b = true → ∀ k ∈ l, k / 64 ∉ b
  | [], _, _ => by simp
  | k :: l, b, h => by
    unfold offBI at h
    split at h
    · cases h
    · rename_i hm
      intro j hj
      rcases List.mem_cons.1 hj with rfl | hj
      · exact memN_false hm
      · exact offBI_spec h j hj
theorem pair_sub (e : Ef) : ∀ i ∈ e.pair.2.l, i ∈ e.pair.1.l := by
  obtain ⟨b, i, w⟩ := e
  cases w
  · simp [Ef.pair, Eff.l]
  · exact fun i h => h
theorem disj_spec {e f : Ef} (h : disj e f = true) : Apt e.pair f.pair := by
  unfold disj at h
  split at h
  · rename_i hw
    simp only [Bool.or_eq_false_iff] at hw
    constructor <;> simp [Ef.pair, hw, Eff.l]
  · simp only [Bool.and_eq_true] at h
    obtain ⟨⟨h1, h2⟩, h3⟩ := h
    have key : ∀ id, id ∈ e.pair.1.l → id ∉ f.pair.1.l := by
      intro id hid hid'
      simp only [Ef.pair, Eff.mem] at hid hid'
      rcases hid with hid | hid
      · rcases hid' with hid' | hid'
        · exact offB_spec h1 _ hid hid'
        · exact offBI_spec h3 _ hid' hid
      · rcases hid' with hid' | hid'
        · exact (offI_spec h2 _ hid).2 hid'
        · exact (offI_spec h2 _ hid).1 hid'
    exact ⟨fun i hi => key i (pair_sub e i hi), fun i hi q => key i q (pair_sub f i hi)⟩
theorem efX_spec (o : Oper) (st : St) : effO o st = (efX o st).pair := by
  unfold effO efX
  cases isCall o.op with
  | some fa =>
    obtain ⟨f, args⟩ := fa
    simp only
    cases val st f <;> rfl
  | none =>
    simp only
    split
    · rename_i t a hop
      simp only [hop, effM, Ef.pair]
    · rename_i hne
      have : (effM o.op (site o.dst) (val st)).2 = (effM o.op (site o.dst) (val st)).1 := by
        unfold effM
        split <;> first
          | rfl
          | (rename_i q; exact absurd q (hne _ _))
      simp only [Ef.pair]
      rw [this]
theorem okE_spec {m : Nat} {e : Ef} : ∀ {l : List (Nat × Ef)}, okE m e l = true → ∀ x ∈ l, disj x.2 e = true ∨ bit m x.1 = true
  | [], _ => by simp
  | (i, f) :: l, h => by
    unfold okE at h
    intro x hx
    split at h
    · rename_i hd
      rcases List.mem_cons.1 hx with rfl | hx
      · exact .inl hd
      · exact okE_spec h x hx
    · split at h
      · rename_i hb
        rcases List.mem_cons.1 hx with rfl | hx
        · exact .inr hb
        · exact okE_spec h x hx
      · cases h

/-! ### the masks -/
theorem maskE_spec {ms : List Nat} {i : Nat} : ∀ {l : List Edge} {m : Nat}, bit (maskE ms l m) i = true → bit m i = true ∨ ∃ e ∈ l, Region.binds .any e = true ∧ (e.on = i ∨ bit (ms.getD e.on 0) i = true)
  | [], m, h => .inl h
  | e :: l, m, h => by
    unfold maskE at h
    split at h
    · rename_i hb
      rcases maskE_spec h with q | ⟨e', he', q⟩
      · simp only [bit, Nat.testBit_or, Bool.or_eq_true] at q
        rcases q with (q | q) | q
        · exact .inl q
        · rw [Nat.one_shiftLeft, Nat.testBit_two_pow] at q
          exact .inr ⟨e, by simp, hb, .inl (by simpa using q)⟩
        · exact .inr ⟨e, by simp, hb, .inr q⟩
      · exact .inr ⟨e', by simp [he'], q⟩
    · rcases maskE_spec h with q | ⟨e', he', q⟩
      · exact .inl q
      · exact .inr ⟨e', by simp [he'], q⟩
theorem edgesOk_spec {j : Nat} : ∀ {l : List Edge}, edgesOk j l = true → ∀ e ∈ l, Region.binds .any e = true → e.on < j
  | [], _ => by simp
  | e :: l, h => by
    unfold edgesOk at h
    intro x hx hb
    split at h
    · split at h
      · rename_i hlt
        rcases List.mem_cons.1 hx with rfl | hx
        · exact Nat.lt_of_lt_of_le (Nat.lt_succ_self _) (Nat.le_of_ble_eq_true hlt)
        · exact edgesOk_spec h x hx hb
      · cases h
    · rename_i hb'
      rcases List.mem_cons.1 hx with rfl | hx
      · rw [hb] at hb'; cases hb'
      · exact edgesOk_spec h x hx hb
theorem apartAll_spec {ops : Array Oper} {o : Oper} {m : Nat} : ∀ {l : List Oper} {i : Nat}, apartAll ops o m i l = true → ∀ (k : Nat) p, l[k]? = some p → bit m (i + k) = true ∨ p.apart ops o = true
  | [], _, _, k, p, hk => by simp at hk
  | q :: l, i, h, k, p, hk => by
    unfold apartAll at h
    have next : apartAll ops o m (i + 1) l = true → ∀ k', k = k' + 1 → bit m (i + k) = true ∨ p.apart ops o = true := by
      intro h k' e
      subst e
      have := apartAll_spec h k' p (by simpa using hk)
      rwa [Nat.add_assoc, Nat.add_comm 1 k'] at this
    cases k with
    | zero =>
      simp only [List.getElem?_cons_zero, Option.some.injEq] at hk
      subst hk
      split at h
      · rename_i hb; exact .inl hb
      · split at h
        · rename_i ha; exact .inr ha
        · cases h
    | succ k =>
      split at h
      · exact next h k rfl
      · split at h
        · exact next h k rfl
        · cases h
/-- The masks are good for these operations. -/
structure Masks (ops : Array Oper) (l : List Oper) (ms : List Nat) : Prop where
  len : ms.length = l.length
  edge : ∀ (j : Nat) o, l[j]? = some o → ∀ e ∈ o.after, Region.binds .any e = true → e.on < j
  mask : ∀ (j : Nat) o, l[j]? = some o → ∀ i, bit (ms.getD j 0) i = true → ∃ e ∈ o.after, Region.binds .any e = true ∧ (e.on = i ∨ bit (ms.getD e.on 0) i = true)
  apart : ∀ (i j : Nat) p o, i < j → l[i]? = some p → l[j]? = some o → bit (ms.getD j 0) i = true ∨ p.apart ops o = true
theorem masksK_spec {ops : Array Oper} {k : List Nat → Prop} : ∀ {l done : List Oper} {ms : List Nat}, masksK ops False k done ms l → Masks ops done ms → ∃ ms', k ms' ∧ Masks ops (done ++ l) ms'
  | [], done, ms, h, hm => ⟨ms, h, by simpa using hm⟩
  | o :: l, done, ms, h, hm => by
    have h : forceN (maskE ms o.after.toList 0) (fun m => match edgesOk ms.length o.after.toList with
      | true => (match apartAll ops o m 0 done with
        | true => masksK ops False k (done ++ [o]) (ms ++ [m]) l
        | false => False)
      | false => False) := h
    rw [forceN_eq] at h
    split at h
    · rename_i he
      split at h
      · rename_i ha
        obtain ⟨ms', hk, hM⟩ := masksK_spec h (by
          have get : ∀ {j : Nat} {x : Oper}, (done ++ [o])[j]? = some x → (j < done.length ∧ done[j]? = some x) ∨ (j = done.length ∧ x = o) := by
            intro j x hx
            rw [List.getElem?_append] at hx
            split at hx
            · rename_i hlt; exact .inl ⟨hlt, hx⟩
            · rename_i hlt
              have := (List.getElem?_eq_some_iff.1 hx).1
              simp only [List.length_singleton] at this
              have hj : j - done.length = 0 := by omega
              rw [hj] at hx
              simp at hx
              exact .inr ⟨by omega, hx.symm⟩
          have gd : ∀ j, j < done.length → (ms ++ [maskE ms o.after.toList 0]).getD j 0 = ms.getD j 0 := by
            intro j hj
            rw [List.getD_eq_getElem?_getD, List.getD_eq_getElem?_getD, List.getElem?_append_left (by rw [hm.len]; exact hj)]
          have gn : (ms ++ [maskE ms o.after.toList 0]).getD done.length 0 = maskE ms o.after.toList 0 := by
            rw [List.getD_eq_getElem?_getD, ← hm.len]; simp
          have hedge := edgesOk_spec he
          rw [hm.len] at hedge
          refine ⟨by simp [hm.len], fun j x hx e hq hb => ?_, fun j x hx i hi => ?_, fun i j p x hij hp hx => ?_⟩
          · rcases get hx with ⟨hj, hx⟩ | ⟨rfl, rfl⟩
            · exact hm.edge j x hx e hq hb
            · exact hedge e (by simpa using hq) hb
          · rcases get hx with ⟨hj, hx⟩ | ⟨rfl, rfl⟩
            · rw [gd j hj] at hi
              obtain ⟨e, hq, hb, hc⟩ := hm.mask j x hx i hi
              have hlt := hm.edge j x hx e hq hb
              exact ⟨e, hq, hb, by rw [gd _ (by omega)]; exact hc⟩
            · rw [gn] at hi
              rcases maskE_spec hi with q | ⟨e, hq, hb, hc⟩
              · simp [bit] at q
              · have hlt := hedge e hq hb
                exact ⟨e, by simpa using hq, hb, by rw [gd _ hlt]; exact hc⟩
          · rcases get hx with ⟨hj, hx⟩ | ⟨rfl, rfl⟩
            · rcases get hp with ⟨hi, hp⟩ | ⟨rfl, rfl⟩
              · rw [gd j hj]; exact hm.apart i j p x hij hp hx
              · omega
            · rcases get hp with ⟨hi, hp⟩ | ⟨rfl, rfl⟩
              · rw [gn]
                have := apartAll_spec ha i p hp
                rwa [Nat.zero_add] at this
              · omega)
        exact ⟨ms', hk, by simpa using hM⟩
      · exact h.elim
    · exact h.elim
end
end Go.AX
