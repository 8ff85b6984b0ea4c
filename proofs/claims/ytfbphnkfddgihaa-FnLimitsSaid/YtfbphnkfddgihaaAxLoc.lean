/- What an operation does, it does at the objects it names alone. -/
import Derived.Test.YtfbphnkfddgihaaAxRefs
namespace Go.AX
section
variable {P : Program}

def Agr (T : List Nat) (u h : Heap) : Prop := ∀ id, id ∈ T → u id = h id
def Sh (T : List Nat) (h1 u u1 : Heap) : Prop := (∀ id, id ∈ T → u1 id = h1 id) ∧ ∀ id, id ∉ T → u1 id = u id
theorem Agr.sub {T T' : List Nat} {u h : Heap} (ha : Agr T u h) (hs : ∀ i ∈ T', i ∈ T) : Agr T' u h := fun i hi => ha i (hs i hi)
theorem Sh.agr {T : List Nat} {h1 u u1 : Heap} (h : Sh T h1 u u1) : Agr T u1 h1 := h.1
theorem Sh.refl {T : List Nat} {h u : Heap} (ha : Agr T u h) : Sh T h u u := ⟨ha, fun _ _ => rfl⟩
/-- At more places, which were left alone. -/
theorem Sh.sup {T T' : List Nat} {h h1 u u1 : Heap} (hs : Sh T h1 u u1) (hk : ∀ id, id ∉ T → h1 id = h id) (ha : Agr T' u h) (hsub : ∀ i ∈ T, i ∈ T') : Sh T' h1 u u1 := by
  refine ⟨fun id hid => ?_, fun id hid => hs.2 id fun q => hid (hsub id q)⟩
  by_cases hq : id ∈ T
  · exact hs.1 id hq
  · rw [hs.2 id hq, hk id hq, ha id hid]
theorem Agr.step {T T' : List Nat} {h h1 u u1 : Heap} (ha : Agr T' u h) (hs : Sh T h1 u u1) (hk : ∀ id, id ∉ T → h1 id = h id) : Agr T' u1 h1 := by
  intro id hid
  by_cases hq : id ∈ T
  · exact hs.1 id hq
  · rw [hs.2 id hq, hk id hq, ha id hid]
theorem Sh.trans {T : List Nat} {h1 h2 u u1 u2 : Heap} (h : Sh T h1 u u1) (h' : Sh T h2 u1 u2) : Sh T h2 u u2 :=
  ⟨h'.1, fun id hid => (h'.2 id hid).trans (h.2 id hid)⟩
theorem Sh.upd {h u : Heap} (id : Nat) (o : O) : Sh [id] (upd h id o) u (upd u id o) :=
  ⟨fun i hi => by simp only [List.mem_singleton] at hi; subst hi; rw [upd_same, upd_same], fun i hi => upd_ne _ _ (by simpa using hi)⟩
theorem keep_upd {h : Heap} {id : Nat} {o : O} : ∀ i, i ∉ [id] → Go.AX.upd h id o i = h i := fun i hi => upd_ne _ _ (by simpa using hi)

theorem sink_loc : ∀ (l : List A) {h h1 : Heap} {xs : List D} {o : Bool}, sink h l = some (xs, o, h1) → (∀ id, id ∉ refsL l → h1 id = h id) ∧ ∀ u, Agr (refsL l) u h → ∃ u1, sink u l = some (xs, o, u1) ∧ Sh (refsL l) h1 u u1
  | [], h, h1, xs, o, hk => by
    simp only [sink, Option.some.injEq, Prod.mk.injEq] at hk
    obtain ⟨rfl, rfl, rfl⟩ := hk
    exact ⟨fun _ _ => rfl, fun u ha => ⟨u, rfl, Sh.refl ha⟩⟩
  | a :: l, h, h1, xs, o, hk => by
    simp only [sink] at hk
    split at hk
    · rename_i x o1 h' heq
      split at hk
      · rename_i xs' o2 h2 hl
        simp only [Option.some.injEq, Prod.mk.injEq] at hk
        obtain ⟨rfl, rfl, rfl⟩ := hk
        obtain ⟨k1, k2⟩ := sink_loc l hl
        -- one cell
        have one : (∀ id, id ∉ refsA a → h' id = h id) ∧ ∀ u, Agr (refsA a) u h → ∃ u', (∀ xs o2 h2, sink u' l = some (xs, o2, h2) → sink u (a :: l) = some (x :: xs, o1 && o2, h2)) ∧ Sh (refsA a) h' u u' := by
          cases a with
          | d y =>
            cases y <;>
              (simp only [Option.some.injEq, Prod.mk.injEq] at heq
               obtain ⟨rfl, rfl, rfl⟩ := heq
               exact ⟨fun _ _ => rfl, fun u ha => ⟨u, fun xs o2 h2 q => by simp only [sink, q], Sh.refl ha⟩⟩)
          | es =>
            simp only [Option.some.injEq, Prod.mk.injEq] at heq
            obtain ⟨rfl, rfl, rfl⟩ := heq
            exact ⟨fun _ _ => rfl, fun u ha => ⟨u, fun xs o2 h2 q => by simp only [sink, q], Sh.refl ha⟩⟩
          | os id n =>
            simp only [refsA]
            simp only at heq
            split at heq
            · rename_i ty own es hi
              split at heq
              · rename_i hn
                simp only [Option.some.injEq, Prod.mk.injEq] at heq
                obtain ⟨rfl, rfl, rfl⟩ := heq
                refine ⟨keep_upd, fun u ha => ⟨upd u id .dead, fun xs o2 h2 q => ?_, Sh.upd _ _⟩⟩
                simp only [sink, ha id (by simp), hi, if_pos hn, q]
              · cases heq
            · rename_i es hi
              split at heq
              · rename_i hn
                simp only [Option.some.injEq, Prod.mk.injEq] at heq
                obtain ⟨rfl, rfl, rfl⟩ := heq
                refine ⟨fun _ _ => rfl, fun u ha => ⟨u, fun xs o2 h2 q => ?_, Sh.refl ha⟩⟩
                simp only [sink, ha id (by simp), hi, if_pos hn, q]
              · cases heq
            · cases heq
          | _ => cases heq
        obtain ⟨p1, p2⟩ := one
        simp only [refsL, List.mem_append, not_or]
        refine ⟨fun id hid => (k1 id hid.2).trans (p1 id hid.1), fun u ha => ?_⟩
        obtain ⟨u', q1, q2⟩ := p2 u (ha.sub fun i hi => by simp [hi])
        obtain ⟨u1, r1, r2⟩ := k2 u' ((ha.sub fun i hi => by simp [hi]).step q2 p1)
        refine ⟨u1, ?_, ?_⟩
        · exact q1 _ _ _ r1
        · have hagr : Agr (refsA a ++ refsL l) u h := ha.sub fun i hi => by simpa [refsL] using hi
          exact (q2.sup p1 hagr (by simp +contextual)).trans (r2.sup k1 (hagr.step q2 p1) (by simp +contextual))
      · cases hk
    · cases hk

theorem rd_loc {h u : Heap} {n : Nat} {a : A} (ha : Agr (refsA a) u h) : rd u n a = rd h n a := by
  cases a <;> first
    | rfl
    | (simp only [rd]; rw [ha _ (by simp [refsA])])

theorem wr_loc {h h1 : Heap} {l : List A} {a : A} (hk : wr h l a = some h1) : (∀ id, id ∉ refsA a ++ refsL l → h1 id = h id) ∧ ∀ u, Agr (refsA a ++ refsL l) u h → ∃ u1, wr u l a = some u1 ∧ Sh (refsA a ++ refsL l) h1 u u1 := by
  unfold wr at hk
  split at hk
  · rename_i id off
    split at hk
    · rename_i ty cs hi
      split at hk
      · rename_i hn
        simp only [Option.some.injEq] at hk
        subst hk
        simp only [refsA]
        refine ⟨fun i q => upd_ne _ _ (by simp at q; exact q.1), fun u ha => ⟨upd u id (.box ty (putAt cs off l)), ?_, (Sh.upd id _).sup (h := h) keep_upd ha (by simp)⟩⟩
        simp only [wr, ha id (by simp), hi, if_pos hn]
      · cases hk
    · cases hk
  · rename_i id i sz off
    split at hk
    · rename_i xs o h' hs
      split at hk
      · rename_i ty own es hi
        split at hk
        · rename_i cs hc
          split at hk
          · rename_i hn
            simp only [Option.some.injEq] at hk
            subst hk
            simp only [refsA]
            obtain ⟨k1, k2⟩ := sink_loc l hs
            refine ⟨fun j q => ?_, fun u ha => ?_⟩
            · simp only [List.singleton_append, List.mem_cons, not_or] at q
              rw [upd_ne _ _ q.1, k1 j q.2]
            · obtain ⟨u', q1, q2⟩ := k2 u (ha.sub (by simp +contextual))
              have a1 : Agr ([id] ++ refsL l) u' h' := ha.step q2 k1
              refine ⟨upd u' id (.arr ty (own && o) (es.set i (putAt cs off xs))), ?_, (q2.sup k1 ha (by simp +contextual)).trans ((Sh.upd id _).sup (h := h') keep_upd a1 (by simp))⟩
              simp only [wr, q1, a1 id (by simp), hi, hc, if_pos hn]
          · cases hk
        · cases hk
      · cases hk
    · cases hk
  · cases hk

theorem litL_refs {sz : Nat} : ∀ {parts : List (Nat × A)} {k : Nat} {l : List A}, litL sz k parts = some l → ∀ i ∈ refsL l, i ∈ refsL (parts.map (·.2))
  | [], k, l, h => by simp [litL] at h; subst h; simp [refsL]
  | (j, v) :: parts, k, l, h => by
    simp only [litL] at h
    split at h
    · rename_i l0 hl
      split at h
      · split at h
        · rename_i l' hl'
          injection h with h; subst h
          intro i hi
          rw [refsL_append, List.mem_append] at hi
          simp only [List.map_cons, refsL, List.mem_append]
          rcases hi with hi | hi
          · refine .inl (Classical.byContradiction fun q => ?_)
            exact leafs_refs hl q hi
          · exact .inr (litL_refs hl' i hi)
        · cases h
      · cases h
    · cases h
theorem litA_loc {h h1 : Heap} {sz : Nat} {parts : List (Nat × A)} {es : List (List D)} {o : Bool} (hk : litA h sz parts = some (es, o, h1)) :
    (∀ id, id ∉ refsL (parts.map (·.2)) → h1 id = h id) ∧ ∀ u, Agr (refsL (parts.map (·.2))) u h → ∃ u1, litA u sz parts = some (es, o, u1) ∧ Sh (refsL (parts.map (·.2))) h1 u u1 := by
  unfold litA at hk
  split at hk
  · rename_i l hl
    split at hk
    · rename_i xs o' h' hs
      simp only [Option.some.injEq, Prod.mk.injEq] at hk
      obtain ⟨rfl, rfl, rfl⟩ := hk
      obtain ⟨k1, k2⟩ := sink_loc l hs
      have hsub := litL_refs hl
      refine ⟨fun id hid => k1 id fun q => hid (hsub id q), fun u ha => ?_⟩
      obtain ⟨u1, q1, q2⟩ := k2 u (ha.sub hsub)
      exact ⟨u1, by simp only [litA, hl, q1], q2.sup k1 ha hsub⟩
    · cases hk
  · cases hk
theorem baseA_loc {h h1 : Heap} {e : TypeId} {a : A} {es : List (List D)} {o : Bool} (hk : baseA h e a = some (es, o, h1)) :
    (∀ id, id ∉ refsA a → h1 id = h id) ∧ ∀ u, Agr (refsA a) u h → ∃ u1, baseA u e a = some (es, o, u1) ∧ Sh (refsA a) h1 u u1 := by
  unfold baseA at hk
  split at hk
  · simp only [Option.some.injEq, Prod.mk.injEq] at hk
    obtain ⟨rfl, rfl, rfl⟩ := hk
    exact ⟨fun _ _ => rfl, fun u ha => ⟨u, rfl, Sh.refl ha⟩⟩
  · rename_i id n
    simp only [refsA]
    split at hk
    · rename_i e' own es' hi
      split at hk
      · rename_i hn
        simp only [Option.some.injEq, Prod.mk.injEq] at hk
        obtain ⟨rfl, rfl, rfl⟩ := hk
        refine ⟨keep_upd, fun u ha => ⟨upd u id .dead, ?_, Sh.upd _ _⟩⟩
        simp only [baseA, ha id (by simp), hi, if_pos hn]
      · cases hk
    · cases hk
  · cases hk
theorem moreA_loc {h h1 : Heap} {a : A} {es : List (List D)} {o : Bool} (hk : moreA h a = some (es, o, h1)) :
    (∀ id, id ∉ refsA a → h1 id = h id) ∧ ∀ u, Agr (refsA a) u h → ∃ u1, moreA u a = some (es, o, u1) ∧ Sh (refsA a) h1 u u1 := by
  unfold moreA at hk
  split at hk
  · simp only [Option.some.injEq, Prod.mk.injEq] at hk
    obtain ⟨rfl, rfl, rfl⟩ := hk
    exact ⟨fun _ _ => rfl, fun u ha => ⟨u, rfl, Sh.refl ha⟩⟩
  · simp only [Option.some.injEq, Prod.mk.injEq] at hk
    obtain ⟨rfl, rfl, rfl⟩ := hk
    exact ⟨fun _ _ => rfl, fun u ha => ⟨u, rfl, Sh.refl ha⟩⟩
  · rename_i id n
    simp only [refsA]
    split at hk
    · rename_i e' own es' hi
      split at hk
      · rename_i hn
        simp only [Option.some.injEq, Prod.mk.injEq] at hk
        obtain ⟨rfl, rfl, rfl⟩ := hk
        refine ⟨keep_upd, fun u ha => ⟨upd u id .dead, ?_, Sh.upd _ _⟩⟩
        simp only [moreA, ha id (by simp), hi, if_pos hn]
      · cases hk
    · rename_i es' hi
      split at hk
      · rename_i hn
        simp only [Option.some.injEq, Prod.mk.injEq] at hk
        obtain ⟨rfl, rfl, rfl⟩ := hk
        refine ⟨fun _ _ => rfl, fun u ha => ⟨u, ?_, Sh.refl ha⟩⟩
        simp only [moreA, ha id (by simp), hi, if_pos hn]
      · cases hk
    · cases hk
  · cases hk

/-- The objects that a memory operation looks at, and those that it changes. -/
def effM (o : Op) (s : Nat) (ρ : Operand → A) : List Nat × List Nat :=
  match o with
  | .alloc _ => ([s], [s])
  | .box _ _ => ([s], [s])
  | .makeSlice _ _ _ => ([s], [s])
  | .buildSlice _ _ ps => let l := s :: refsL (ps.toList.map fun x => ρ x.2); (l, l)
  | .load _ a => (refsA (ρ a), [])
  | .store _ a x => let l := refsA (ρ a) ++ refsA (ρ x); (l, l)
  | .call { callee := .builtin .append, args, .. } => let l := s :: refsL (args.toList.map ρ); (l, l)
  | _ => ([], [])
theorem effM_sub (o : Op) (s : Nat) (ρ : Operand → A) : ∀ i ∈ (effM o s ρ).2, i ∈ (effM o s ρ).1 := by
  unfold effM
  split <;> simp
theorem effM_congr {o : Op} {s : Nat} {ρ σ : Operand → A} (h : ∀ x ∈ o.operands.toList, ρ x = σ x) : effM o s ρ = effM o s σ := by
  unfold effM
  split
  · rfl
  · rfl
  · rfl
  · rename_i t n ps
    rw [show (ps.toList.map fun x => ρ x.2) = ps.toList.map fun x => σ x.2 from List.map_congr_left fun x hx => by rw [h x.2 (by simp only [Op.operands, List.toList_toArray, List.mem_map]; exact ⟨x, hx, rfl⟩)]]
  · rw [h _ (by simp [Op.operands])]
  · rename_i t a x
    rw [h a (by simp [Op.operands]), h x (by simp [Op.operands])]
  · rename_i args ts
    rw [map_congr' (xs := args.toList) (f := ρ) (g := σ) fun x hx => h x (by simp only [Op.operands, Call.operands, Array.toList_append, List.mem_append]; exact .inr hx)]
  · rfl

theorem memA_loc {o : Op} {s : Nat} {ρ : Operand → A} {h h1 : Heap} {r : A} (hk : memA P o s ρ h = some (r, h1)) :
    (∀ id, id ∉ (effM o s ρ).2 → h1 id = h id) ∧ ∀ u, Agr (effM o s ρ).1 u h → ∃ u1, memA P o s ρ u = some (r, u1) ∧ Sh (effM o s ρ).2 h1 u u1 := by
  unfold memA at hk
  split at hk
  · rename_i t
    split at hk
    · rename_i z hz
      simp only [Option.some.injEq, Prod.mk.injEq] at hk
      obtain ⟨rfl, rfl⟩ := hk
      exact ⟨keep_upd, fun u ha => ⟨upd u s (.box t z), by simp only [memA, hz], Sh.upd _ _⟩⟩
    · cases hk
  · rename_i t x
    split at hk
    · rename_i l hl
      simp only [Option.some.injEq, Prod.mk.injEq] at hk
      obtain ⟨rfl, rfl⟩ := hk
      exact ⟨keep_upd, fun u ha => ⟨upd u s (.box t l), by simp only [memA, hl], Sh.upd _ _⟩⟩
    · cases hk
  · rename_i t n ps
    split at hk
    · rename_i e he
      split at hk
      · rename_i z es own h' hz hl
        split at hk
        · rename_i hc
          simp only [Option.some.injEq, Prod.mk.injEq] at hk
          obtain ⟨rfl, rfl⟩ := hk
          obtain ⟨k1, k2⟩ := litA_loc hl
          have hm : (ps.toList.map fun x => ((x.1, ρ x.2) : Nat × A)).map (·.2) = ps.toList.map fun x => ρ x.2 := by simp
          rw [hm] at k1 k2
          simp only [effM]
          refine ⟨fun id hid => ?_, fun u ha => ?_⟩
          · simp only [List.mem_cons, not_or] at hid
            rw [upd_ne _ _ hid.1, k1 id hid.2]
          · obtain ⟨u', q1, q2⟩ := k2 u (ha.sub (by simp +contextual))
            refine ⟨upd u' s (.arr e own es), by simp only [memA, he, hz, q1, if_pos hc], (q2.sup k1 ha (by simp +contextual)).trans ((Sh.upd s _).sup (h := h') keep_upd (ha.step q2 k1) (by simp))⟩
        · cases hk
      · cases hk
    · cases hk
  · rename_i t a
    split at hk
    · rename_i ut hu
      split at hk
      · rename_i cs hr
        have hh : h1 = h := by
          split at hk
          · cases hk
          · split at hk
            · simp only [Option.some.injEq, Prod.mk.injEq] at hk; exact hk.2.symm
            · split at hk
              · simp only [Option.some.injEq, Prod.mk.injEq] at hk; exact hk.2.symm
              · cases hk
        subst hh
        refine ⟨fun _ _ => rfl, fun u ha => ⟨u, ?_, Sh.refl (by intro i hi; simp [effM] at hi)⟩⟩
        simp only [effM] at ha
        simp only [memA, hu, rd_loc ha, hr]
        split at hk
        · cases hk
        · rename_i hz
          rw [if_neg hz]
          split at hk
          · rename_i hg
            simp only [Option.some.injEq, Prod.mk.injEq] at hk
            rw [if_pos hg, hk.1]
          · rename_i hg
            rw [if_neg hg]
            split at hk
            · simp only [Option.some.injEq, Prod.mk.injEq] at hk
              simp only [hk.1]
            · cases hk
      · cases hk
    · cases hk
  · rename_i t a x
    split at hk
    · rename_i l hl
      split at hk
      · rename_i hc
        split at hk
        · rename_i h' hw
          simp only [Option.some.injEq, Prod.mk.injEq] at hk
          obtain ⟨rfl, rfl⟩ := hk
          obtain ⟨k1, k2⟩ := wr_loc hw
          have hsub : ∀ i ∈ refsA (ρ a) ++ refsL l, i ∈ refsA (ρ a) ++ refsA (ρ x) := by
            intro i hi
            rw [List.mem_append] at hi ⊢
            exact hi.imp id fun hi => Classical.byContradiction fun q => leafs_refs hl q hi
          simp only [effM]
          refine ⟨fun id hid => k1 id fun q => hid (hsub id q), fun u ha => ?_⟩
          obtain ⟨u1, q1, q2⟩ := k2 u (ha.sub hsub)
          exact ⟨u1, by simp only [memA, hl, if_pos hc, q1], q2.sup k1 ha hsub⟩
        · cases hk
      · cases hk
    · cases hk
  · rename_i t l c
    split at hk
    · rename_i e l' c' he hl hc
      split at hk
      · rename_i z hz
        split at hk
        · rename_i zs h' hs
          split at hk
          · rename_i hq
            simp only [Option.some.injEq, Prod.mk.injEq] at hk
            obtain ⟨rfl, rfl⟩ := hk
            exact ⟨keep_upd, fun u ha => ⟨_, by simp only [memA, he, hl, hc, hz, hs, if_pos hq], Sh.upd _ _⟩⟩
          · cases hk
        · cases hk
      · cases hk
    · cases hk
  · rename_i args ts
    split at hk
    · rename_i x y t u0 hx ht
      split at hk
      · rename_i e e2 he he2
        split at hk
        · rename_i es own h' z hb hz
          split at hk
          · rename_i ys own' h'' hm
            split at hk
            · rename_i hq
              simp only [Option.some.injEq, Prod.mk.injEq] at hk
              obtain ⟨rfl, rfl⟩ := hk
              obtain ⟨k1, k2⟩ := baseA_loc hb
              obtain ⟨l1, l2⟩ := moreA_loc hm
              simp only [effM, hx, List.map_cons, List.map_nil, refsL, List.append_nil]
              refine ⟨fun id hid => ?_, fun u ha => ?_⟩
              · simp only [List.mem_cons, List.mem_append, not_or] at hid
                rw [upd_ne _ _ hid.1, l1 id hid.2.2, k1 id hid.2.1]
              · obtain ⟨u', q1, q2⟩ := k2 u (ha.sub (by simp +contextual))
                have a1 := ha.step q2 k1
                obtain ⟨u'', p1, p2⟩ := l2 u' (a1.sub (by simp +contextual))
                refine ⟨upd u'' s (.arr e (own && own') (es ++ ys)), by simp only [memA, hx, ht, he, he2, hz, q1, p1, if_pos hq], ?_⟩
                exact ((q2.sup k1 ha (by simp +contextual)).trans (p2.sup l1 a1 (by simp +contextual))).trans ((Sh.upd s _).sup (h := h'') keep_upd (a1.step p2 l1) (by simp))
            · cases hk
          · cases hk
        · cases hk
      · cases hk
    · cases hk
  · cases hk
end
end Go.AX
