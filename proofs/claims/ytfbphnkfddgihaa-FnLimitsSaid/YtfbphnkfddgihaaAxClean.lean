/- Objects that nobody names stay so. -/
import Derived.Test.YtfbphnkfddgihaaAxLoc2
namespace Go.AX
section
variable {P : Program}

/-- A place for new objects. -/
def Clean (d : Nat) (st : St) : Prop := ∀ k, k < 64 → st.h (d * 64 + k) = .gone ∧ NoRef (d * 64 + k) st.t st.h

theorem sink_refsO {id : Nat} : ∀ (l : List A) {h h1 : Heap} {xs : List D} {o : Bool}, sink h l = some (xs, o, h1) → (∀ k, id ∉ refsO (h k)) → ∀ k, id ∉ refsO (h1 k)
  | [], h, h1, xs, o, hk, hr => by
    simp only [sink, Option.some.injEq, Prod.mk.injEq] at hk
    obtain ⟨rfl, rfl, rfl⟩ := hk
    exact hr
  | a :: l, h, h1, xs, o, hk, hr => by
    simp only [sink] at hk
    split at hk
    · rename_i x o1 h' heq
      split at hk
      · rename_i xs' o2 h2 hl
        simp only [Option.some.injEq, Prod.mk.injEq] at hk
        obtain ⟨rfl, rfl, rfl⟩ := hk
        refine sink_refsO l hl fun k => ?_
        split at heq <;> first
          | (simp only [Option.some.injEq, Prod.mk.injEq] at heq; obtain ⟨rfl, rfl, rfl⟩ := heq; exact hr k)
          | (split at heq
             · split at heq
               · simp only [Option.some.injEq, Prod.mk.injEq] at heq
                 obtain ⟨rfl, rfl, rfl⟩ := heq
                 simp only [upd]
                 split
                 · simp [refsO]
                 · exact hr k
               · cases heq
             · split at heq
               · simp only [Option.some.injEq, Prod.mk.injEq] at heq
                 obtain ⟨rfl, rfl, rfl⟩ := heq
                 exact hr k
               · cases heq
             · cases heq)
          | cases heq
      · cases hk
    · cases hk
theorem upd_refsO {id s : Nat} {h : Heap} {o : O} (hr : ∀ k, id ∉ refsO (h k)) (ho : id ∉ refsO o) : ∀ k, id ∉ refsO (upd h s o k) := by
  intro k
  simp only [upd]
  split
  · exact ho
  · exact hr k
theorem rd_refs {id n : Nat} {h : Heap} {a : A} {cs : List A} (hk : rd h n a = some cs) (hr : ∀ k, id ∉ refsO (h k)) : id ∉ refsL cs := by
  have hd : ∀ l : List D, id ∉ refsL (l.map .d) := by
    intro l
    rw [not_refsL]
    intro a ha
    simp only [List.mem_map] at ha
    obtain ⟨x, _, rfl⟩ := ha
    simp [refsA]
  unfold rd at hk
  split at hk
  · rename_i i off
    split at hk
    · rename_i t l hi
      split at hk
      · simp only [Option.some.injEq] at hk
        subst hk
        have := hr i
        rw [hi] at this
        simp only [refsO] at this
        rw [not_refsL] at this ⊢
        exact fun a ha => this a (List.mem_of_mem_drop (List.mem_of_mem_take ha))
      · cases hk
    · cases hk
  · split at hk
    · split at hk
      · split at hk
        · simp only [Option.some.injEq] at hk; subst hk; exact hd _
        · cases hk
      · cases hk
    · split at hk
      · split at hk
        · simp only [Option.some.injEq] at hk; subst hk; exact hd _
        · cases hk
      · cases hk
    · cases hk
  · split at hk
    · simp only [Option.some.injEq] at hk; subst hk; exact hd _
    · cases hk
  · cases hk
theorem wr_refsO {id : Nat} {h h1 : Heap} {l : List A} {a : A} (hk : wr h l a = some h1) (hr : ∀ k, id ∉ refsO (h k)) (hl : id ∉ refsL l) : ∀ k, id ∉ refsO (h1 k) := by
  unfold wr at hk
  split at hk
  · rename_i i off
    split at hk
    · rename_i t cs hi
      split at hk
      · simp only [Option.some.injEq] at hk
        subst hk
        refine upd_refsO hr ?_
        simp only [refsO]
        have := hr i
        rw [hi] at this
        simp only [refsO] at this
        rw [not_refsL] at this hl ⊢
        intro a ha
        exact (putAt_mem ha).elim (this a) (hl a)
      · cases hk
    · cases hk
  · split at hk
    · rename_i xs o h' hs
      split at hk
      · split at hk
        · split at hk
          · simp only [Option.some.injEq] at hk
            subst hk
            exact upd_refsO (sink_refsO l hs hr) (by simp [refsO])
          · cases hk
        · cases hk
      · cases hk
    · cases hk
  · cases hk
theorem baseA_refsO {id : Nat} {h h1 : Heap} {e : TypeId} {a : A} {es : List (List D)} {o : Bool} (hk : baseA h e a = some (es, o, h1)) (hr : ∀ k, id ∉ refsO (h k)) : ∀ k, id ∉ refsO (h1 k) := by
  unfold baseA at hk
  split at hk
  · simp only [Option.some.injEq, Prod.mk.injEq] at hk; obtain ⟨rfl, rfl, rfl⟩ := hk; exact hr
  · split at hk
    · split at hk
      · simp only [Option.some.injEq, Prod.mk.injEq] at hk; obtain ⟨rfl, rfl, rfl⟩ := hk; exact upd_refsO hr (by simp [refsO])
      · cases hk
    · cases hk
  · cases hk
theorem moreA_refsO {id : Nat} {h h1 : Heap} {a : A} {es : List (List D)} {o : Bool} (hk : moreA h a = some (es, o, h1)) (hr : ∀ k, id ∉ refsO (h k)) : ∀ k, id ∉ refsO (h1 k) := by
  unfold moreA at hk
  split at hk
  · simp only [Option.some.injEq, Prod.mk.injEq] at hk; obtain ⟨rfl, rfl, rfl⟩ := hk; exact hr
  · simp only [Option.some.injEq, Prod.mk.injEq] at hk; obtain ⟨rfl, rfl, rfl⟩ := hk; exact hr
  · split at hk
    · split at hk
      · simp only [Option.some.injEq, Prod.mk.injEq] at hk; obtain ⟨rfl, rfl, rfl⟩ := hk; exact upd_refsO hr (by simp [refsO])
      · cases hk
    · split at hk
      · simp only [Option.some.injEq, Prod.mk.injEq] at hk; obtain ⟨rfl, rfl, rfl⟩ := hk; exact hr
      · cases hk
    · cases hk
  · cases hk
theorem memA_refs {o : Op} {s id : Nat} {ρ : Operand → A} {h h1 : Heap} {r : A} (hk : memA P o s ρ h = some (r, h1)) (hρ : ∀ x, id ∉ refsA (ρ x)) (hr : ∀ k, id ∉ refsO (h k)) (hs : isAl o = true → s ≠ id) :
    id ∉ refsA r ∧ ∀ k, id ∉ refsO (h1 k) := by
  unfold memA at hk
  split at hk
  · have hs := hs rfl
    split at hk
    · rename_i z hz
      simp only [Option.some.injEq, Prod.mk.injEq] at hk
      obtain ⟨rfl, rfl⟩ := hk
      exact ⟨by simp [refsA]; exact fun q => hs q.symm, upd_refsO hr (by simp only [refsO]; rw [refs_zeroT hz]; simp)⟩
    · cases hk
  · have hs := hs rfl
    split at hk
    · rename_i l hl
      simp only [Option.some.injEq, Prod.mk.injEq] at hk
      obtain ⟨rfl, rfl⟩ := hk
      exact ⟨by simp [refsA]; exact fun q => hs q.symm, upd_refsO hr (by simp only [refsO]; exact leafs_refs hl (hρ _))⟩
    · cases hk
  · have hs := hs rfl
    split at hk
    · split at hk
      · rename_i z es own h' hz hl
        split at hk
        · simp only [Option.some.injEq, Prod.mk.injEq] at hk
          obtain ⟨rfl, rfl⟩ := hk
          refine ⟨by simp [refsA]; exact fun q => hs q.symm, upd_refsO ?_ (by simp [refsO])⟩
          unfold litA at hl
          split at hl
          · split at hl
            · rename_i hq
              simp only [Option.some.injEq, Prod.mk.injEq] at hl
              obtain ⟨rfl, rfl, rfl⟩ := hl
              exact sink_refsO _ hq hr
            · cases hl
          · cases hl
        · cases hk
      · cases hk
    · cases hk
  · split at hk
    · split at hk
      · rename_i cs hrd
        have := rd_refs hrd hr
        split at hk
        · cases hk
        · split at hk
          · simp only [Option.some.injEq, Prod.mk.injEq] at hk
            obtain ⟨rfl, rfl⟩ := hk
            exact ⟨by simpa only [refsA] using this, hr⟩
          · split at hk
            · simp only [Option.some.injEq, Prod.mk.injEq] at hk
              obtain ⟨rfl, rfl⟩ := hk
              exact ⟨by simpa [refsL] using this, hr⟩
            · cases hk
      · cases hk
    · cases hk
  · split at hk
    · rename_i l hl
      split at hk
      · split at hk
        · rename_i h' hw
          simp only [Option.some.injEq, Prod.mk.injEq] at hk
          obtain ⟨rfl, rfl⟩ := hk
          exact ⟨by simp [refsA], wr_refsO hw hr (leafs_refs hl (hρ _))⟩
        · cases hk
      · cases hk
    · cases hk
  · have hs := hs rfl
    split at hk
    · split at hk
      · split at hk
        · split at hk
          · simp only [Option.some.injEq, Prod.mk.injEq] at hk
            obtain ⟨rfl, rfl⟩ := hk
            exact ⟨by simp [refsA]; exact fun q => hs q.symm, upd_refsO hr (by simp [refsO])⟩
          · cases hk
        · cases hk
      · cases hk
    · cases hk
  · have hs := hs rfl
    split at hk
    · split at hk
      · split at hk
        · rename_i hb hz
          split at hk
          · rename_i hm
            split at hk
            · simp only [Option.some.injEq, Prod.mk.injEq] at hk
              obtain ⟨rfl, rfl⟩ := hk
              exact ⟨by simp [refsA]; exact fun q => hs q.symm, upd_refsO (moreA_refsO hm (baseA_refsO hb hr)) (by simp [refsO])⟩
            · cases hk
          · cases hk
        · cases hk
      · cases hk
    · cases hk
  · cases hk

mutual
theorem ren_refs {s no id : Nat} {bs : List Nat} (h1 : ¬ (s ≤ id ∧ id < s + no)) (h2 : id ∉ bs) : ∀ {a : A}, okA no a = true → id ∉ refsA (ren s bs a)
  | .os i n, h => by
    simp only [okA, Bool.and_eq_true, decide_eq_true_eq] at h
    simp only [ren, refsA, List.mem_singleton]
    omega
  | .ptr i off, h => by
    simp only [ren]
    split
    · rename_i j hj
      simp only [refsA, List.mem_singleton]
      intro q
      exact h2 (q ▸ List.mem_of_getElem? hj)
    · simp [refsA]
  | .pe _ _ _ _, _ => by rw [ren]; simp [refsA]
  | .fn f cap, h => by
    simp only [okA] at h
    simp only [ren, refsA]
    exact renL_refs h1 h2 h
  | .agg cs, h => by
    simp only [okA] at h
    simp only [ren, refsA]
    exact renL_refs h1 h2 h
  | .tup cs, h => by
    simp only [okA] at h
    simp only [ren, refsA]
    exact renL_refs h1 h2 h
  | .d x, _ => by simp [ren, refsA]
  | .es, _ => by simp [ren, refsA]
  | .dp cs, _ => by rw [ren]; simp [refsA]
  | .undef, _ => by simp [ren, refsA]
  | .junk, _ => by simp [ren, refsA]
theorem renL_refs {s no id : Nat} {bs : List Nat} (h1 : ¬ (s ≤ id ∧ id < s + no)) (h2 : id ∉ bs) : ∀ {l : List A}, okL no l = true → id ∉ refsL (renL s bs l)
  | [], _ => by simp [renL, refsL]
  | a :: l, h => by
    simp only [okL, Bool.and_eq_true] at h
    simp only [renL, refsL, List.mem_append, not_or]
    exact ⟨ren_refs h1 h2 h.1, renL_refs h1 h2 h.2⟩
end

theorem DoR.refs {o : Oper} {st : St} {r : A} {h' : Heap} (hs : DoR P o st r h') {id : Nat} (hn : NoRef id st.t st.h) (hsite : (isAl o.op = true ∨ isCall o.op ≠ none) → id / 64 ≠ o.dst.getD 0) :
    id ∉ refsA r ∧ ∀ k, id ∉ refsO (h' k) := by
  have hv : ∀ x, id ∉ refsA (val st x) := refs_val hn.1
  unfold DoR at hs
  split at hs
  · rename_i f args hc
    have hsite := hsite (.inr (by rw [hc]; simp))
    obtain ⟨g, cap, xs, p, r0, H', hg, hp, hok, hct, rfl, rfl⟩ := hs
    have hcap : id ∉ refsL cap := by have := hv f; rw [hg] at this; simpa only [refsA] using this
    have hl : id ∉ refsL (args.map (val st) ++ cap) := by
      rw [refsL_append, List.mem_append, not_or]
      refine ⟨?_, hcap⟩
      rw [not_refsL]
      intro a ha
      simp only [List.mem_map] at ha
      obtain ⟨x, _, rfl⟩ := ha
      exact hv x
    have hrc : id ∉ reach st.h (args.map (val st) ++ cap) := by
      simp only [reach, List.mem_append, List.mem_flatMap, not_or, not_exists, not_and]
      exact ⟨hl, fun i _ => hn.2 i⟩
    have hids : id ∉ p.ids := fun q => (passL_sub hp id q).elim (by simp [Pass.ids]) (by rw [reach_unfn]; exact hrc)
    have hbs : id ∉ p.bs.map (·.1) := fun q => hids (by simp only [Pass.ids, List.mem_append]; exact .inl (.inl q))
    obtain ⟨_, ⟨_, hno, hokr, hokb⟩, _⟩ := hct
    have hblk : ¬ (site o.dst ≤ id ∧ id < site o.dst + H'.os.length) := by
      simp only [site]
      intro q
      apply hsite
      omega
    refine ⟨ren_refs hblk hbs hokr, fun k => ?_⟩
    unfold backH
    split
    · split <;> simp [refsO]
    · split
      · split
        · rename_i x hx
          simp only [refsO]
          exact renL_refs hblk hbs (hokb x (List.mem_of_getElem? hx))
        · simp [refsO]
      · split
        · simp [refsO]
        · split
          · split
            · exact hn.2 k
            · have := hn.2 k
              unfold frzO
              split
              · simp [refsO]
              · exact this
          · exact hn.2 k
  · rename_i hc
    rcases hs with ⟨hr, rfl⟩ | hm
    · exact ⟨pureA_refs hv hr, hn.2⟩
    · refine memA_refs hm hv hn.2 fun ha q => ?_
      have := hsite (.inl ha)
      apply this
      rw [← q]
      simp only [site]
      omega

theorem effM_site {o : Op} {s : Nat} {ρ : Operand → A} {id : Nat} (hid : id ∈ (effM o s ρ).1) (hρ : ∀ x, id ∉ refsA (ρ x)) : isAl o = true ∧ id = s := by
  have hm : ∀ {ι : Type} (l : List ι) (f : ι → Operand), id ∉ refsL (l.map fun x => ρ (f x)) := by
    intro ι l f
    rw [not_refsL]
    intro a ha
    simp only [List.mem_map] at ha
    obtain ⟨x, _, rfl⟩ := ha
    exact hρ _
  unfold effM at hid
  split at hid
  · exact ⟨rfl, by simpa using hid⟩
  · exact ⟨rfl, by simpa using hid⟩
  · exact ⟨rfl, by simpa using hid⟩
  · rename_i t n ps
    simp only [List.mem_cons] at hid
    exact ⟨rfl, hid.resolve_right (hm ps.toList (·.2))⟩
  · exact absurd hid (hρ _)
  · simp only [List.mem_append] at hid
    exact hid.elim (fun q => absurd q (hρ _)) fun q => absurd q (hρ _)
  · rename_i args ts
    simp only [List.mem_cons] at hid
    exact ⟨rfl, hid.resolve_right (hm args.toList (fun x => x))⟩
  · simp at hid

theorem StR.clean {ops : Array Oper} {o : Oper} {st : St} {r : A} {h' : Heap} (hs : StR P ops o st r h') {d : Nat} (hc : Clean d st) (hsite : (isAl o.op = true ∨ isCall o.op ≠ none) → o.dst.getD 0 ≠ d) : Clean d (put st o.dst r h') := by
  intro k hk
  obtain ⟨hg, hn⟩ := hc k hk
  have hdiv : (d * 64 + k) / 64 = d := by omega
  have hsite' : (isAl o.op = true ∨ isCall o.op ≠ none) → (d * 64 + k) / 64 ≠ o.dst.getD 0 := fun q e => hsite q (e.symm.trans hdiv)
  have hr : d * 64 + k ∉ refsA r ∧ ∀ j, d * 64 + k ∉ refsO (h' j) := by
    rcases hs.2 with ⟨_, q⟩ | ⟨_, rfl, rfl⟩
    · exact q.refs hn hsite'
    · exact ⟨by simp [refsA], hn.2⟩
  have hv : ∀ x, d * 64 + k ∉ refsA (val st x) := refs_val hn.1
  refine ⟨?_, fun i => ?_, by rw [put_h]; exact hr.2⟩
  · rw [put_h, hs.loc.1 _ ?_, hg]
    intro hw
    have hw := effO_sub _ _ _ hw
    unfold effO at hw
    · split at hw
      · rename_i f args hcl
        split at hw
        · rename_i g cap hf
          simp only [Eff.l, List.flatMap_cons, List.flatMap_nil, List.append_nil, List.mem_append, List.mem_map, List.mem_range] at hw
          rcases hw with ⟨j, hj, e⟩ | hw
          · exact hsite' (.inr (by rw [hcl]; simp)) (by omega)
          · simp only [reach, List.mem_append, List.mem_flatMap] at hw
            rcases hw with hw | ⟨i, _, hw⟩
            · rw [refsL_append, List.mem_append] at hw
              rcases hw with hw | hw
              · refine absurd hw ?_
                rw [not_refsL]
                intro a ha
                simp only [List.mem_map] at ha
                obtain ⟨x, _, rfl⟩ := ha
                exact hv x
              · have := hv f
                rw [hf] at this
                exact this (by simpa only [refsA] using hw)
            · exact hn.2 i hw
        · simp [Eff.l] at hw
      · simp only [Eff.l, List.flatMap_nil, List.nil_append] at hw
        obtain ⟨q1, q2⟩ := effM_site hw hv
        refine hsite' (.inl q1) ?_
        rw [q2]
        simp only [site]
        omega
  · cases hd : o.dst with
    | none => exact hn.1 i
    | some e =>
      simp only [put, upd]
      split
      · exact hr.1
      · exact hn.1 i
end
end Go.AX
