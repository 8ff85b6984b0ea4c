/- One operation of a region, for the machine's rule. -/
import Derived.Test.YtfbphnkfddgihaaAxOp2
namespace Go.AX
section
variable {P : Program}

/-- The activation is as the state says; since (w0, M0) only this call's own has changed. -/
structure At (P : Program) (nb : Nat) (w0 : World) (M0 : Mu) (st : St) (a : Act) (w : World) (M : Mu) : Prop where
  sim : Sim P w M st.t st.h a.tmps
  size : a.tmps.size = st.n
  defers : a.defers = []
  step : Step w0 M0 w M
  m : ∀ b, b < nb → M.m (64 * b) = M0.m (64 * b)
def AtX (P : Program) (nb : Nat) (w0 : World) (M0 : Mu) (st : St) (a : Act) (w : World) : Prop := ∃ M, At P nb w0 M0 st a w M

theorem At.put {nb : Nat} {w0 w w' : World} {M0 M M' : Mu} {st : St} {a : Act} (h : At P nb w0 M0 st a w M) {o : Oper} (hd : dstOk st o = true) {r : A} {z : Value} {h' : Heap} (hs : Sim P w' M' st.t h' a.tmps) (hr : RepA w' M' r z)
    (hst : Step w M w' M') (hm : ∀ b, b < nb → M'.m (64 * b) = M.m (64 * b)) : At P nb w0 M0 (Go.AX.put st o.dst r h') (a.put o.dst z) w' M' := by
  have e : Go.AX.put st o.dst r h' = (match o.dst with | some d => ⟨st.n, upd st.t d r, h'⟩ | none => ⟨st.n, st.t, h'⟩) := by cases st; rfl
  rw [e]
  cases hdst : o.dst with
  | none => exact ⟨hs, h.size, h.defers, h.step.trans hst, fun b hb => (hm b hb).trans (h.m b hb)⟩
  | some d =>
    simp only [dstOk, hdst, decide_eq_true_eq] at hd
    exact ⟨hs.put (by rw [h.size]; exact hd) hr, by simpa [Act.put, Go.AX.put] using h.size, h.defers, h.step.trans hst, fun b hb => (hm b hb).trans (h.m b hb)⟩

theorem wanted_sound {w : World} {M : Mu} {st : St} {a : Act} (hs : Sim P w M st.t st.h a.tmps) {ops : Array Oper} {o : Oper} {b : Bool} (h : wantedA ops st o = some b) : Region.wanted o (yielded ops a.tmps) = b := by
  unfold wantedA at h
  unfold Region.wanted
  split at h
  · rename_i hg
    injection h with h
    rw [hg]; exact h
  · rename_i g want hg
    simp only [hg]
    split at h
    · rename_i d hd
      have ht := hs.tm d
      have hq : ∀ v : Value, v ≠ undef → a.tmps.getD d undef = v → a.tmps[d]? = some v := by
        intro v hv he
        cases hx : a.tmps[d]? with
        | none => rw [Array.getD_eq_getD_getElem?, hx] at he; exact absurd he.symm hv
        | some u => rw [Array.getD_eq_getD_getElem?, hx] at he; simp at he; rw [he]
      split at h
      · rename_i c hc
        injection h with h; subst h
        rw [hc] at ht
        simp only [RepA] at ht
        have e : a.tmps.getD d undef = .bool c := by
          generalize hv : a.tmps.getD d undef = v at ht
          cases ht
          rfl
        have := hq _ (by simp [undef]) e
        simp only [yielded, hd, Option.bind_some, this]
        cases c <;> cases want <;> rfl
      · rename_i hc
        injection h with h; subst h
        rw [hc] at ht
        simp only [RepA] at ht
        have : ∀ c, a.tmps[d]? ≠ some (Value.bool c) := by
          intro c hx
          rw [Array.getD_eq_getD_getElem?, hx] at ht
          simp [undef] at ht
        simp only [yielded, hd, Option.bind_some]
        first
          | rfl
          | (split <;> first
              | rfl
              | (rename_i c hx; exact absurd hx (this c)))
      · cases h
    · cases h

theorem stR_wp {nb : Nat} {w0 w : World} {M0 : Mu} {st : St} {a : Act} (hA : AtX P nb w0 M0 st a w) {ops : Array Oper} {o : Oper} {r : A} {h' : Heap} (hs : StR P ops o st r h')
    (hc : (isAl o.op = true ∨ isCall o.op ≠ none) → nb ≤ o.dst.getD 0 ∧ Clean (o.dst.getD 0) st) {K : Act → World → Prop} {Q : Exit → Act → World → Prop}
    (hK : ∀ a' w', AtX P nb w0 M0 (put st o.dst r h') a' w' → K a' w') :
    if Region.wanted o (yielded ops a.tmps) then o.wp P a w K Q else K (a.put o.dst undef) w := by
  obtain ⟨M, hA⟩ := hA
  obtain ⟨hd, hs⟩ := hs
  rcases hs with ⟨hw, hs⟩ | ⟨hw, rfl, rfl⟩
  · rw [if_pos (wanted_sound hA.sim hw)]
    have hv : ∀ x, RepA w M (val st x) (a.eval x) := fun x => val_rep (n := st.n) (h := st.h) hA.sim.tm x
    unfold DoR at hs
    split at hs
    · rename_i f args hcl
      obtain ⟨g, cap, xs, p, r0, H', hg, hp, hok, hct, rfl, rfl⟩ := hs
      obtain ⟨hnb, hcl'⟩ := hc (.inr (by rw [hcl]; simp))
      have hf := hv f
      rw [hg] at hf
      simp only [RepA] at hf
      obtain ⟨cvs, hfv, hcap⟩ := hf
      have hl : RepL w M (args.map (val st) ++ cap) (args.map a.eval ++ cvs) := by
        have h1 : RepL w M (args.map (val st)) (args.map a.eval) := repL_map fun x _ => hv x
        revert h1
        generalize args.map (val st) = l
        generalize args.map a.eval = vs
        intro h1
        induction l generalizing vs with
        | nil => cases vs with
          | nil => exact hcap
          | cons _ _ => simp [RepL] at h1
        | cons x l ih => cases vs with
          | nil => simp [RepL] at h1
          | cons v vs =>
            simp only [RepL, List.cons_append] at h1 ⊢
            exact ⟨h1.1, ih vs h1.2⟩
      have hcall := call_sound hA.sim hl hp hok hct fun k hk => by
        obtain ⟨q1, q2⟩ := hcl' k (by omega)
        have e : site o.dst + k = o.dst.getD 0 * 64 + k := rfl
        rw [e]
        have := hA.sim.ob (o.dst.getD 0 * 64 + k)
        rw [q1] at this
        exact ⟨this, q2⟩
      obtain ⟨fn, hfn, hbody, hname⟩ := hct.1
      have hop : ∃ at', o.op = .call { callee := .value f, args := args.toArray, argTypes := at' } := by
        revert hcl
        unfold isCall
        split
        · rename_i f' args' at' heq
          intro q
          simp only [Option.some.injEq, Prod.mk.injEq] at q
          obtain ⟨rfl, rfl⟩ := q
          exact ⟨at', by simpa using heq⟩
        · intro q; cases q
      obtain ⟨at', hop⟩ := hop
      have hrun : (execOp a.eval o).run P w = .ok (.enter g (args.map a.eval ++ cvs).toArray) w := by
        unfold execOp
        simp only [hop]
        have hbn : fn.body ≠ none := by intro hb; simp [hb] at hbody
        have hname : fn.name ≠ "runtime.NumGoroutine" := by simpa using hname
        simp [resolve, hfv, Deferred.ofValue, invoke, callFunc, hfn, hname, hbn]
      unfold Oper.wp
      rw [hrun, Oper.upon_enter]
      refine hcall.mono fun e w' => ?_
      rintro ⟨v, M', rfl, q1, q2, q3, q4⟩
      exact hK _ _ ⟨M', hA.put hd q1 q2 q3 fun b hb => q4 _ (.inl (by simp only [site]; omega))⟩
    · rename_i hcl
      rcases hs with ⟨hr, rfl⟩ | hm
      · obtain ⟨z, hz, hrz⟩ := pure_sound hv o hr
        unfold Oper.wp
        rw [hz, Oper.upon_value]
        exact hK _ _ ⟨M, hA.put hd hA.sim hrz (Step.refl _ _) fun _ _ => rfl⟩
      · obtain ⟨nx, z, w', M', hz, hnx, q1, q2, q3, q4⟩ := mem_sound hA.sim hv o (fun hal => by
          obtain ⟨_, hcl'⟩ := hc (.inl hal)
          obtain ⟨p1, p2⟩ := hcl' 0 (by omega)
          have := hA.sim.ob (o.dst.getD 0 * 64 + 0)
          rw [p1] at this
          exact ⟨this, p2, refs_val p2.1⟩) hm
        have hm' : ∀ b, b < nb → M'.m (64 * b) = M.m (64 * b) := by
          intro b hb
          refine q4 _ ?_
          cases hal : isAl o.op with
          | false => exact .inr rfl
          | true =>
            have := (hc (.inl hal)).1
            exact .inl (by simp only [site]; omega)
        unfold Oper.wp
        rw [hz]
        rcases hnx with rfl | ⟨rfl, rfl⟩
        · rw [Oper.upon_value]
          exact hK _ _ ⟨M', hA.put hd q1 q2 q3 hm'⟩
        · rw [Oper.upon_skip]
          exact hK _ _ ⟨M', hA.put hd q1 q2 q3 hm'⟩
  · have := wanted_sound hA.sim hw
    rw [this]
    exact hK _ _ ⟨M, hA.put hd hA.sim (by simp only [RepA]) (Step.refl _ _) fun _ _ => rfl⟩
end
end Go.AX
