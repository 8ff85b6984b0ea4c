/- Calls: what comes back. -/
import Derived.Test.YtfbphnkfddgihaaAxCall
namespace Go.AX
section
variable {P : Program} {w w' : World} {M : Mu} {t : Nat → A} {h : Heap} {tm : Array Value}

theorem idx_some : ∀ {l : List Nat} {i b : Nat}, idx l i = some b → l[b]? = some i
  | [], i, b, h => by simp [idx] at h
  | j :: l, i, b, h => by
    unfold idx at h
    split at h
    · rename_i e; injection h with h; subst h; subst e; rfl
    · split at h
      · rename_i k hk; injection h with h; subst h; simpa using idx_some hk
      · cases h
theorem idx_none : ∀ {l : List Nat} {i : Nat}, idx l i = none → i ∉ l
  | [], i, _ => by simp
  | j :: l, i, h => by
    unfold idx at h
    split at h
    · cases h
    · rename_i e
      split at h
      · cases h
      · rename_i hk
        intro hm
        rcases List.mem_cons.1 hm with rfl | hm
        · exact e rfl
        · exact idx_none hk hm

/-- The places behind a call. -/
def muOut (M M' : Mu) (s : Nat) (p : Pass) (n : Nat) (back : Bool) : Mu where
  m id := if s ≤ id ∧ id < s + n then M'.m (8 + (id - s)) else M.m id
  own id := if s ≤ id ∧ id < s + n then M'.own (8 + (id - s)) else
    match idx (p.bs.map (·.1)) id with
    | some b => M'.own (64 * b)
    | none => if (p.os.map (·.1)).contains id = true then [] else if p.br.contains id = true then (if back = true then M.own id else []) else M.own id
  F := if back = true then M.F else M'.F


/-- Reading a callee's value under the caller's names. 'Q': what may be read without the blocks of M'. -/
theorem rep_drop {F F' : Nat → Prop} {v : Value} {x : D} (h : Rep w F v x) (hx : notSl x = true) : Rep w F' v x := by
  cases h with
  | int k n => exact .int k n
  | bool b => exact .bool b
  | str s => exact .str s
  | sl => cases hx

mutual
theorem ren_rep {M1 M2 : Mu} {s : Nat} {ids : List Nat} {back : Bool} (hF : back = false → ∀ b, M1.F b → M2.F b) {no : Nat} (hos : ∀ id, 8 ≤ id → id < 8 + no → M2.m (s + (id - 8)) = M1.m id) (hbx : ∀ (b i : Nat), ids[b]? = some i → M2.m i = M1.m (64 * b)) :
    ∀ {a : A} {v : Value}, RepA w M1 a v → okA no a = true → (back = true → noSl a = true) → RepA w M2 (ren s ids a) v
  | .d x, v, h, _, hb => by
    simp only [ren, RepA] at h ⊢
    cases back with
    | false => exact h.mono fun b q => ⟨hF rfl b q, rfl⟩
    | true => exact rep_drop h (by simpa [noSl] using hb rfl)
  | .es, v, h, _, _ => by simpa only [ren, RepA] using h
  | .os id n, v, h, hk, _ => by
    simp only [okA, Bool.and_eq_true, decide_eq_true_eq] at hk
    simp only [ren]
    simp only [RepA, hos id hk.1 hk.2] at h ⊢
    exact h
  | .ptr id off, v, h, hk, _ => by
    simp only [okA, beq_iff_eq] at hk
    simp only [ren]
    split
    · rename_i i hi
      have := hbx _ _ hi
      have e : 64 * (id / 64) = id := by omega
      rw [e] at this
      simp only [RepA] at h ⊢
      rw [this]; exact h
    · simp only [RepA]
  | .pe id i sz off, v, h, _, _ => by rw [ren]; simp only [RepA]
  | .dp cs, v, h, _, hb => by
    cases back with
    | false =>
      rw [ren]
      exact RepA.mono (M := M1) (M' := M2) (a := .dp cs) (fun b q => ⟨hF rfl b q, rfl⟩) h (fun k hk => by simp [refsA] at hk)
    | true => exact absurd (hb rfl) (by simp [noSl])
  | .fn f cap, v, h, hk, hb => by
    simp only [ren, RepA] at h ⊢
    obtain ⟨vs, rfl, hl⟩ := h
    exact ⟨vs, rfl, ren_repL hF hos hbx hl (by simpa [okA] using hk) (by simpa [noSl] using hb)⟩
  | .agg cs, v, h, hk, hb => by
    simp only [ren, RepA] at h ⊢
    obtain ⟨vs, rfl, hl⟩ := h
    exact ⟨vs, rfl, ren_repL hF hos hbx hl (by simpa [okA] using hk) (by simpa [noSl] using hb)⟩
  | .tup cs, v, h, hk, hb => by
    simp only [ren, RepA] at h ⊢
    obtain ⟨vs, rfl, hl⟩ := h
    exact ⟨vs, rfl, ren_repL hF hos hbx hl (by simpa [okA] using hk) (by simpa [noSl] using hb)⟩
  | .undef, v, h, _, _ => by simpa only [ren, RepA] using h
  | .junk, v, _, _, _ => by simp only [ren, RepA]
theorem ren_repL {M1 M2 : Mu} {s : Nat} {ids : List Nat} {back : Bool} (hF : back = false → ∀ b, M1.F b → M2.F b) {no : Nat} (hos : ∀ id, 8 ≤ id → id < 8 + no → M2.m (s + (id - 8)) = M1.m id) (hbx : ∀ (b i : Nat), ids[b]? = some i → M2.m i = M1.m (64 * b)) :
    ∀ {l : List A} {vs : List Value}, RepL w M1 l vs → okL no l = true → (back = true → noSlL l = true) → RepL w M2 (renL s ids l) vs
  | [], [], _, _, _ => by simp [renL, RepL]
  | a :: l, v :: vs, h, hk, hb => by
    simp only [okL, Bool.and_eq_true] at hk
    simp only [renL, RepL] at h ⊢
    refine ⟨ren_rep hF hos hbx h.1 hk.1 fun q => ?_, ren_repL hF hos hbx h.2 hk.2 fun q => ?_⟩
    · have := hb q; simp [noSlL] at this; exact this.1
    · have := hb q; simp [noSlL] at this; exact this.2
  | [], _ :: _, h, _, _ => by simp [RepL] at h
  | _ :: _, [], h, _, _ => by simp [RepL] at h
end

/-- A call. -/
theorem call_sound (hs : Sim P w M t h tm) {l0 xs : List A} {vs : List Value} {p : Pass} {f : FuncId} {r : A} {H' : Hp} {s : Nat} (hl0 : RepL w M l0 vs) (hp : passL h ⟨[], [], []⟩ (unfnL l0) = some (xs, p)) (hok : passOk p s = true) (hct : Ct P f (refnL l0 xs) p.hp r H')
    (hfresh : ∀ k, k < 56 → M.own (s + k) = [] ∧ NoRef (s + k) t h) :
    Calls P f vs.toArray w fun e w' => ∃ v M', e = .returned v ∧ Sim P w' M' t (backH h s p r H') tm ∧ RepA w' M' (ren s (p.bs.map (·.1)) r) v ∧ Step w M w' M' ∧ ∀ k, (k < s ∨ s + 56 ≤ k) → M'.m k = M.m k := by
  have hl := unfn_rep hl0
  obtain ⟨_, hg, har⟩ := passL_sound (unfnL l0) hp (Le.refl p) (q := p) ⟨by simp, by simp, by simp⟩
  simp only [passOk, Bool.and_eq_true, decide_eq_true_eq] at hok
  obtain ⟨⟨⟨hsite, hdist⟩, hbr⟩, hno⟩ := hok
  have hbr' : ∀ i ∈ p.br, i ∉ p.bs.map (·.1) ++ p.os.map (·.1) := by
    intro i hi
    have := List.all_eq_true.1 hbr i hi
    simpa only [List.contains_eq_mem, Bool.not_eq_true', decide_eq_false_iff_not] using this
  have hsite' : ∀ i ∈ p.bs.map (·.1) ++ p.os.map (·.1) ++ p.br, ¬ (s ≤ i ∧ i < s + 56) := by
    intro i hi
    have := List.all_eq_true.1 hsite i hi
    intro hq
    simp [hq] at this
  have hin := sim_in hs hg hdist hbr' hno
  obtain ⟨_, ⟨hnb, hnr, hokr, hokb⟩, hcall⟩ := hct
  refine (hcall w _ vs hin (refn_rep hl0 (har.rep hs hl))).mono fun e w' => ?_
  rintro ⟨v, M', rfl, hS, hr, hst, hbm⟩
  let back := lentBack r H'
  let ids := p.bs.map (·.1)
  let n := H'.os.length
  refine ⟨v, muOut M M' s p n back, rfl, ?_⟩
  -- the callee's own
  have ownc : ∀ id b, b ∈ (muIn M p).own id → ∃ i, cid p id = some i ∧ b ∈ M.own i := by
    intro id b hb
    simp only [muIn] at hb
    cases hc : cid p id with
    | none => rw [hc] at hb; cases hb
    | some i => rw [hc] at hb; exact ⟨i, rfl, hb⟩
  have hbl : H'.bs.length = p.bs.length := by rw [hnb]; simp [Pass.hp]
  have kept : ∀ b, b < w.heap.size → (∀ i ∈ ids ++ p.os.map (·.1), b ∉ M.own i) → w'.heap[b]? = w.heap[b]? := by
    intro b hb hq
    refine hst.keep b hb fun id hid => ?_
    obtain ⟨i, hi, hbi⟩ := ownc id b hid
    exact hq i (cid_mem hi) hbi
  have keptF : ∀ b, M.F b → w'.heap[b]? = w.heap[b]? := fun b hb => kept b (hs.fz b hb) fun i _ hbi => (hs.nf i b hbi).1 hb
  have keptO : ∀ id, id ∉ ids ++ p.os.map (·.1) → ∀ b ∈ M.own id, w'.heap[b]? = w.heap[b]? := fun id hid b hb => kept b (hs.nf id b hb).2 fun i hi hbi => hs.dis id i (fun e => hid (e ▸ hi)) b hb hbi
  have F1 : ∀ b, M.F b → (muOut M M' s p n back).F b := by
    intro b hb
    simp only [muOut]
    split
    · exact hb
    · exact hst.F1 b (.inl hb)
  have F2 : ∀ b, (muOut M M' s p n back).F b → M'.F b := by
    intro b hb
    simp only [muOut] at hb
    split at hb
    · exact hst.F1 b (.inl hb)
    · exact hb
  have mOut : ∀ k, ¬ (s ≤ k ∧ k < s + 56) → (muOut M M' s p n back).m k = M.m k := by
    intro k hk
    simp only [muOut]
    rw [if_neg (by omega)]
  have noSite : ∀ k, (s ≤ k ∧ k < s + 56) → NoRef k t h := by
    intro k hk
    have := (hfresh (k - s) (by omega)).2
    rwa [show s + (k - s) = k by omega] at this
  have idsM : ∀ (b i : Nat), ids[b]? = some i → (muOut M M' s p n back).m i = M'.m (64 * b) := by
    intro b i hbi
    have hlt : b < p.bs.length := by have := (List.getElem?_eq_some_iff.1 hbi).1; simpa [ids] using this
    have hx : ∃ x, p.bs[b]? = some x ∧ x.1 = i := by
      simp only [ids, List.getElem?_map] at hbi
      cases hx : p.bs[b]? with
      | none => simp [hx] at hbi
      | some x => exact ⟨x, rfl, by simpa [hx] using hbi⟩
    obtain ⟨x, hx, rfl⟩ := hx
    rw [mOut _ (hsite' x.1 (by simp only [List.mem_append]; exact .inl (.inl (List.mem_of_getElem? hbi))))]
    rw [hbm b (by simpa [Pass.hp] using hlt), (muIn_box hx).1]
  have hren : ∀ {a : A} {u : Value}, RepA w' M' a u → okA n a = true → (back = true → noSl a = true) → RepA w' (muOut M M' s p n back) (ren s ids a) u := by
    intro a u ha hk hb
    refine ren_rep (back := back) (no := n) ?_ ?_ idsM ha hk hb
    · intro hbk b hb
      simp only [muOut, hbk, Bool.false_eq_true, if_false]; exact hb
    · intro id h1 h2
      simp only [muOut]
      rw [if_pos (by omega), show 8 + (s + (id - 8) - s) = id by omega]
  have hrenL : ∀ {a : List A} {u : List Value}, RepL w' M' a u → okL n a = true → (back = true → noSlL a = true) → RepL w' (muOut M M' s p n back) (renL s ids a) u := by
    intro a u ha hk hb
    refine ren_repL (back := back) (no := n) ?_ ?_ idsM ha hk hb
    · intro hbk b hb
      simp only [muOut, hbk, Bool.false_eq_true, if_false]; exact hb
    · intro id h1 h2
      simp only [muOut]
      rw [if_pos (by omega), show 8 + (s + (id - 8) - s) = id by omega]
  have backs : back = true → noSl r = true ∧ (∀ x ∈ H'.os, x.2.1 = true) ∧ ∀ x ∈ H'.bs, noSlL x.2 = true := by
    intro hb
    simp only [back, lentBack, Bool.and_eq_true] at hb
    exact ⟨hb.1.1, fun x hx => List.all_eq_true.1 hb.1.2 x hx, fun x hx => List.all_eq_true.1 hb.2 x hx⟩
  -- where the blocks of an object lie now
  have ownOut : ∀ id b, b ∈ (muOut M M' s p n back).own id →
      ((s ≤ id ∧ id < s + n) ∧ b ∈ M'.own (8 + (id - s))) ∨ (¬ (s ≤ id ∧ id < s + n) ∧ ∃ k, idx ids id = some k ∧ b ∈ M'.own (64 * k)) ∨
      (¬ (s ≤ id ∧ id < s + n) ∧ id ∉ ids ++ p.os.map (·.1) ∧ b ∈ M.own id ∧ (id ∈ p.br → back = true)) := by
    intro id b hb
    simp only [muOut] at hb
    split at hb
    · rename_i hq; exact .inl ⟨hq, hb⟩
    · rename_i hq
      split at hb
      · rename_i k hk; exact .inr (.inl ⟨hq, k, hk, hb⟩)
      · rename_i hk
        split at hb
        · cases hb
        · rename_i hm
          refine .inr (.inr ⟨hq, ?_, ?_⟩)
          · rw [List.mem_append]
            rintro (q | q)
            · exact idx_none hk q
            · exact hm (by rw [List.contains_eq_mem]; simpa using q)
          · split at hb
            · rename_i hbr
              split at hb
              · rename_i hbk; exact ⟨hb, fun _ => hbk⟩
              · cases hb
            · rename_i hbr
              exact ⟨hb, fun q => absurd (by rw [List.contains_eq_mem]; simpa using q) hbr⟩
  have fromM' : ∀ k b, b ∈ M'.own k → (∃ i ∈ ids ++ p.os.map (·.1), b ∈ M.own i) ∨ w.heap.size ≤ b := by
    intro k b hb
    rcases hst.own k b hb with ⟨id, q⟩ | q
    · obtain ⟨i, hi, hbi⟩ := ownc id b q
      exact .inl ⟨i, cid_mem hi, hbi⟩
    · exact .inr q
  refine ⟨⟨fun i => ?_, fun id => ?_, fun i j hij b hb hb' => ?_, fun i b hb => ?_, fun b hb => hS.fz b (F2 b hb)⟩, hren hr hokr fun hb => (backs hb).1, ⟨hst.os, hst.tape, hst.output, hst.size, fun b hb hq => kept b hb fun i _ => hq i, F1, fun b hb => ?_, fun id b hb => ?_⟩, fun k hk => mOut k (by omega)⟩
  · exact RepA.mono (M := M) (M' := muOut M M' s p n back) (fun b hb => ⟨F1 b hb, keptF b hb⟩) (hs.tm i) fun k hk => mOut k fun hq => (noSite k hq).1 i hk
  · -- the objects
    have oldO : id ∉ ids ++ p.os.map (·.1) → ¬ (s ≤ id ∧ id < s + 56) → (muOut M M' s p n back).own id = M.own id → SimO P w' (muOut M M' s p n back) id (h id) := fun h1 h2 h3 =>
      SimO.mono (M := M) (M' := muOut M M' s p n back) (hs.ob id) (fun b hb => ⟨F1 b hb, keptF b hb⟩) (keptO id h1) (mOut id h2) h3 fun k hk => mOut k fun hq => (noSite k hq).2 id hk
    unfold backH
    split
    · rename_i hq
      have hlt : id - s < H'.os.length := by omega
      have hx : H'.os[id - s]? = some H'.os[id - s] := List.getElem?_eq_getElem hlt
      rw [hx]
      have ho := hS.ob (8 + (id - s))
      have e1 : ¬ (8 + (id - s)) % 64 = 0 := by omega
      have e2 : 8 ≤ 8 + (id - s) ∧ 8 + (id - s) < 64 := by omega
      have e3 : 8 + (id - s) - 8 = id - s := by omega
      simp only [hpH, e1, if_false, e2, and_self, if_true, e3, hx] at ho
      have hm : (muOut M M' s p n back).m id = M'.m (8 + (id - s)) := by simp only [muOut]; rw [if_pos hq]
      have hown : (muOut M M' s p n back).own id = M'.own (8 + (id - s)) := by simp only [muOut]; rw [if_pos hq]
      simp only [SimO, SimArr] at ho ⊢
      rw [hm, hown]
      cases hmm : M'.m (8 + (id - s)) with
      | none => rw [hmm] at ho; exact ho
      | some bc =>
        obtain ⟨b, c⟩ := bc
        rw [hmm] at ho
        obtain ⟨cur, vs', Bs, q1, q2, q3, q4, q5, q6, q7, q8⟩ := ho
        refine ⟨cur, vs', Bs, q1, q2, q3, q4, q5, q6, fun i j x hx' => ?_, q8⟩
        obtain ⟨r1, r2, r3⟩ := q7 i j x hx'
        refine ⟨r1, ?_, r3⟩
        cases hb : back with
        | false =>
          have : (muOut M M' s p n false).F = M'.F := by simp [muOut]
          rw [this]; exact r2
        | true =>
          have := (backs hb).2.1 _ (List.getElem_mem hlt)
          rw [this] at r2 ⊢
          exact r2
    · rename_i hq
      split
      · rename_i k hk
        have hidk := idx_some hk
        have hsid : ¬ (s ≤ id ∧ id < s + 56) := hsite' id (by simp only [List.mem_append]; exact .inl (.inl (List.mem_of_getElem? hidk)))
        have hklt : k < H'.bs.length := by
          have := (List.getElem?_eq_some_iff.1 hidk).1
          rw [hbl]; simpa using this
        have hx : H'.bs[k]? = some H'.bs[k] := List.getElem?_eq_getElem hklt
        rw [hx]
        have ho := hS.ob (64 * k)
        have e1 : 64 * k % 64 = 0 := by omega
        have e2 : 64 * k / 64 = k := by omega
        simp only [hpH, e1, if_true, e2, hx] at ho
        simp only [SimO] at ho ⊢
        obtain ⟨b, c, vs', q1, q2, q3, q4⟩ := ho
        refine ⟨b, c, vs', by rw [idsM k id hidk, q1], ?_, q3, hrenL q4 (hokb _ (List.getElem_mem hklt)) fun hb => (backs hb).2.2 _ (List.getElem_mem hklt)⟩
        simp only [muOut]
        rw [if_neg hq, hk]
        exact q2
      · rename_i hk
        have hnid : id ∉ ids := idx_none hk
        split
        · rename_i hm
          simp only [SimO, muOut]
          rw [if_neg hq, hk]
          simp only [hm, if_true]
        · rename_i hm
          have hnm : id ∉ p.os.map (·.1) := fun q => hm (by rw [List.contains_eq_mem]; simpa using q)
          have hnn : id ∉ ids ++ p.os.map (·.1) := fun q => (List.mem_append.1 q).elim hnid hnm
          split
          · rename_i hbq
            have hbr2 : id ∈ p.br := by rw [List.contains_eq_mem] at hbq; simpa using hbq
            have hsid : ¬ (s ≤ id ∧ id < s + 56) := hsite' id (by simp only [List.mem_append]; exact .inr hbr2)
            split
            · rename_i hbk
              refine oldO hnn hsid ?_
              simp only [muOut]
              rw [if_neg hq, hk]
              have hbk' : back = true := hbk
              simp only [hm, if_false, Bool.false_eq_true, hbq, if_true, hbk']
            · rename_i hbk
              have hbk' : back = false := by simpa using hbk
              obtain ⟨ty, own, es, hi⟩ := hg.2.2 id hbr2
              have ho := hs.ob id
              rw [hi] at ho ⊢
              simp only [SimO, SimArr, frzO] at ho ⊢
              have hFo : ∀ b ∈ M.own id, (muOut M M' s p n back).F b := by
                intro b hb
                simp only [muOut, hbk', Bool.false_eq_true, if_false]
                exact hst.F1 b (.inr ⟨id, hbr2, hb⟩)
              refine ⟨?_, ?_⟩
              · simp only [muOut]
                rw [if_neg hq, hk]
                simp only [hm, if_false, Bool.false_eq_true, hbq, if_true, hbk']
              · rw [mOut id hsid]
                cases hmm : M.m id with
                | none => rw [hmm] at ho; exact ho.1
                | some bc =>
                  obtain ⟨b, c⟩ := bc
                  rw [hmm] at ho
                  obtain ⟨cur, vs', Bs, q1, q2, q3, q4, q5, q6, q7, q8⟩ := ho
                  refine ⟨q1, szT P ty, vs', q3, fun i j x hx => ?_⟩
                  obtain ⟨r1, r2, r3⟩ := q7 i j x hx
                  refine ⟨hFo b q6, ?_, ?_⟩
                  · rw [cell_same (w := w) (keptO id hnn b q6), cell_block q4]; exact r1
                  · cases own with
                    | true => exact (RepX.rep r2 (F := fun b' => b' ∈ Bs i j) fun _ h => h).mono fun b' hb' => ⟨hFo b' (r3 b' hb').1, keptO id hnn b' (r3 b' hb').1⟩
                    | false => exact r2.2.mono fun b' hb' => ⟨F1 b' hb', keptF b' hb'⟩
          · rename_i hbq
            by_cases hsid : s ≤ id ∧ id < s + 56
            · have h0 := (hfresh (id - s) (by omega)).1
              rw [show s + (id - s) = id by omega] at h0
              have hown : (muOut M M' s p n back).own id = [] := by
                simp only [muOut]
                rw [if_neg hq, hk]
                simp only [hm, if_false, Bool.false_eq_true, hbq, h0]
              exact SimO.mono (M := M) (M' := ⟨upd (muOut M M' s p n back).m id (M.m id), (muOut M M' s p n back).own, (muOut M M' s p n back).F⟩) (hs.ob id) (fun b hb => ⟨F1 b hb, keptF b hb⟩) (keptO id hnn) (upd_same _ _ _) (by simp only; rw [hown, h0]) (fun k hk' => by
                by_cases e : k = id
                · rw [e]; exact upd_same _ _ _
                · exact (upd_ne _ _ e).trans (mOut k fun hq' => (noSite k hq').2 id hk')) |> fun q => by
                  have e : (muOut M M' s p n back).m id = M.m id := by simp only [muOut]; rw [if_neg hq]
                  rw [← e, upd_self] at q
                  exact q
            · refine oldO hnn hsid ?_
              simp only [muOut]
              rw [if_neg hq, hk]
              simp only [hm, if_false, Bool.false_eq_true, hbq]
  · -- disjoint
    rcases ownOut i b hb with ⟨q1, q2⟩ | ⟨q1, k, qk, q2⟩ | ⟨q1, q3, q2, _⟩ <;> rcases ownOut j b hb' with ⟨r1, r2⟩ | ⟨r1, l, rl, r2⟩ | ⟨r1, r3, r2, _⟩
    · exact hS.dis (8 + (i - s)) (8 + (j - s)) (by omega) b q2 r2
    · exact hS.dis (8 + (i - s)) (64 * l) (by omega) b q2 r2
    · rcases fromM' _ b q2 with ⟨i', hi', hbi⟩ | hbig
      · exact hs.dis j i' (fun e => r3 (by rw [e]; exact hi')) b r2 hbi
      · have := (hs.nf j b r2).2; omega
    · exact hS.dis (64 * k) (8 + (j - s)) (by omega) b q2 r2
    · refine hS.dis (64 * k) (64 * l) (fun e => ?_) b q2 r2
      have : k = l := by omega
      subst this
      have h1 := idx_some qk
      have h2 := idx_some rl
      rw [h1] at h2
      injection h2 with h2
      exact hij h2
    · rcases fromM' _ b q2 with ⟨i', hi', hbi⟩ | hbig
      · exact hs.dis j i' (fun e => r3 (by rw [e]; exact hi')) b r2 hbi
      · have := (hs.nf j b r2).2; omega
    · rcases fromM' _ b r2 with ⟨i', hi', hbi⟩ | hbig
      · exact hs.dis i i' (fun e => q3 (by rw [e]; exact hi')) b q2 hbi
      · have := (hs.nf i b q2).2; omega
    · rcases fromM' _ b r2 with ⟨i', hi', hbi⟩ | hbig
      · exact hs.dis i i' (fun e => q3 (by rw [e]; exact hi')) b q2 hbi
      · have := (hs.nf i b q2).2; omega
    · exact hs.dis i j hij b q2 r2
  · -- not frozen
    rcases ownOut i b hb with ⟨q1, q2⟩ | ⟨q1, k, qk, q2⟩ | ⟨q1, q3, q2, q4⟩
    · exact ⟨fun hF => (hS.nf _ b q2).1 (F2 b hF), (hS.nf _ b q2).2⟩
    · exact ⟨fun hF => (hS.nf _ b q2).1 (F2 b hF), (hS.nf _ b q2).2⟩
    · refine ⟨fun hF => ?_, Nat.lt_of_lt_of_le (hs.nf i b q2).2 hst.size⟩
      simp only [muOut] at hF
      split at hF
      · exact (hs.nf i b q2).1 hF
      · rename_i hbk
        rcases hst.F2 b hF with q | ⟨id, q⟩ | q
        · rcases q with q | ⟨j, hj, q⟩
          · exact (hs.nf i b q2).1 q
          · refine hs.dis i j (fun e => ?_) b q2 q
            subst e
            exact hbk (q4 hj)
        · obtain ⟨i', hi', hbi⟩ := ownc id b q
          exact hs.dis i i' (fun e => q3 (by rw [e]; exact cid_mem hi')) b q2 hbi
        · have := (hs.nf i b q2).2; omega
  · rcases hst.F2 b (F2 b hb) with q | ⟨id, q⟩ | q
    · rcases q with q | ⟨j, hj, q⟩
      · exact .inl q
      · exact .inr (.inl ⟨j, q⟩)
    · obtain ⟨i', hi', hbi⟩ := ownc id b q
      exact .inr (.inl ⟨i', hbi⟩)
    · exact .inr (.inr q)
  · rcases ownOut id b hb with ⟨q1, q2⟩ | ⟨q1, k, qk, q2⟩ | ⟨q1, q3, q2, q4⟩
    · rcases fromM' _ b q2 with ⟨i', _, hbi⟩ | hbig
      · exact .inl ⟨i', hbi⟩
      · exact .inr hbig
    · rcases fromM' _ b q2 with ⟨i', _, hbi⟩ | hbig
      · exact .inl ⟨i', hbi⟩
      · exact .inr hbig
    · exact .inl ⟨id, q2⟩
end
end Go.AX
