/- Steps, calls and all: what they look at, what they change; two steps that do not meet go either way. -/
import Derived.Test.YtfbphnkfddgihaaAxLoc
namespace Go.AX
section
variable {P : Program}

def reach (h : Heap) (l : List A) : List Nat := refsL l ++ (refsL l).flatMap fun i => refsO (h i)
theorem reach_unfn {h : Heap} {l : List A} : reach h (unfnL l) = reach h l := by unfold reach; rw [refs_unfn]
def Pass.ids (p : Pass) : List Nat := p.bs.map (·.1) ++ p.os.map (·.1) ++ p.br

theorem deepA_loc {h u : Heap} {a : A} (ha : Agr (refsA a) u h) : deepA u a = deepA h a := by
  cases a <;> first
    | rfl
    | (simp only [deepA]; rw [ha _ (by simp [refsA])])
    | (rename_i f cap; cases cap <;> rfl)
theorem deepL_loc {h u : Heap} : ∀ {l : List A}, Agr (refsL l) u h → deepL u l = deepL h l
  | [], _ => rfl
  | a :: l, ha => by
    simp only [deepL]
    rw [deepA_loc (ha.sub fun i hi => by simp [refsL, hi]), deepL_loc (l := l) (ha.sub fun i hi => by simp [refsL, hi])]
theorem moveL_loc {h u : Heap} : ∀ {l : List A} {k : Nat}, Agr (refsL l) u h → moveL u k l = moveL h k l
  | [], _, _ => by simp [moveL]
  | a :: l, k, ha => by
    have hl : ∀ k, moveL u k l = moveL h k l := fun k => moveL_loc (ha.sub fun i hi => by simp [refsL, hi])
    cases a <;> first
      | (simp only [moveL, hl]; done)
      | (simp only [moveL, hl]; rw [ha _ (by simp [refsL, refsA])])
theorem passA_loc {h u : Heap} {p : Pass} {a : A} (ha : Agr (reach h [a]) u h) : passA u p a = passA h p a := by
  have h1 : Agr (refsA a) u h := ha.sub fun i hi => by simp [reach, refsL, hi]
  cases a with
  | ptr id off =>
    cases off with
    | succ n => rfl
    | zero =>
      simp only [passA]
      rw [h1 id (by simp [refsA])]
      split
      · rename_i t cs hi
        rw [moveL_loc (ha.sub fun i hi' => by simp [reach, refsL, refsA, hi, refsO, hi'])]
      · rfl
  | agg cs =>
    simp only [passA]
    rw [deepL_loc (by simpa [refsA] using h1)]
  | _ => simp only [passA]; rw [deepA_loc h1]
theorem passL_loc {h u : Heap} : ∀ {l : List A} {p : Pass}, Agr (reach h l) u h → passL u p l = passL h p l
  | [], _, _ => rfl
  | a :: l, p, ha => by
    simp only [passL]
    rw [passA_loc (ha.sub fun i hi => by
      simp only [reach, refsL, List.append_nil, List.mem_append, List.mem_flatMap] at hi ⊢
      rcases hi with hi | ⟨j, hj, hi⟩
      · exact .inl (.inl hi)
      · exact .inr ⟨j, .inl hj, hi⟩)]
    split
    · rename_i x p1 _
      rw [passL_loc (l := l) (p := p1) (ha.sub fun i hi => by
        simp only [reach, refsL, List.mem_append, List.mem_flatMap] at hi ⊢
        rcases hi with hi | ⟨j, hj, hi⟩
        · exact .inl (.inr hi)
        · exact .inr ⟨j, .inr hj, hi⟩)]
    · rfl

theorem deepA_sub {h : Heap} {a x : A} {b : List Nat} (hd : deepA h a = some (x, b)) : ∀ i ∈ b, i ∈ refsA a := by
  cases a <;> (try (rename_i cap; cases cap)) <;> simp only [deepA] at hd <;> first
    | (simp only [Option.some.injEq, Prod.mk.injEq] at hd; obtain ⟨rfl, rfl⟩ := hd; simp; done)
    | (split at hd
       · split at hd
         · simp only [Option.some.injEq, Prod.mk.injEq] at hd
           obtain ⟨rfl, rfl⟩ := hd
           simp [refsA]
         · cases hd
       · split at hd
         · simp only [Option.some.injEq, Prod.mk.injEq] at hd
           obtain ⟨rfl, rfl⟩ := hd
           simp
         · cases hd
       · cases hd)
    | cases hd
theorem deepL_sub {h : Heap} : ∀ {l xs : List A} {b : List Nat}, deepL h l = some (xs, b) → ∀ i ∈ b, i ∈ refsL l
  | [], xs, b, hd => by simp [deepL] at hd; obtain ⟨rfl, rfl⟩ := hd; simp
  | a :: l, xs, b, hd => by
    simp only [deepL] at hd
    split at hd
    · rename_i x b1 h1
      split at hd
      · rename_i xs' b2 h2
        simp only [Option.some.injEq, Prod.mk.injEq] at hd
        obtain ⟨rfl, rfl⟩ := hd
        intro i hi
        simp only [refsL, List.mem_append] at hi ⊢
        exact hi.imp (deepA_sub h1 i) (deepL_sub h2 i)
      · cases hd
    · cases hd
theorem moveL_sub {h : Heap} : ∀ {l xs : List A} {k : Nat} {m : List (Nat × TypeId × Bool × List (List D))}, moveL h k l = some (xs, m) → ∀ i ∈ m.map (·.1), i ∈ refsL l
  | [], xs, k, m, hd => by simp [moveL] at hd; obtain ⟨rfl, rfl⟩ := hd; simp
  | a :: l, xs, k, m, hd => by
    cases a with
    | os id n =>
      simp only [moveL] at hd
      split at hd
      · split at hd
        · rename_i xs' m' hm
          split at hd
          · simp only [Option.some.injEq, Prod.mk.injEq] at hd
            obtain ⟨rfl, rfl⟩ := hd
            intro i hi
            simp only [List.map_cons, List.mem_cons] at hi
            simp only [refsL, refsA, List.singleton_append, List.mem_cons]
            exact hi.imp_right (moveL_sub hm i)
          · cases hd
        · cases hd
      · split at hd
        · rename_i xs' m' hm
          split at hd
          · simp only [Option.some.injEq, Prod.mk.injEq] at hd
            obtain ⟨rfl, rfl⟩ := hd
            intro i hi
            simp only [refsL, List.mem_append]
            exact .inr (moveL_sub hm i hi)
          · cases hd
        · cases hd
      · cases hd
    | _ =>
      simp only [moveL] at hd
      first
        | (split at hd
           · rename_i xs' m' hm
             simp only [Option.some.injEq, Prod.mk.injEq] at hd
             obtain ⟨rfl, rfl⟩ := hd
             intro i hi
             simp only [refsL, List.mem_append]
             exact .inr (moveL_sub hm i hi)
           · cases hd)
        | cases hd
theorem passA_sub {h : Heap} {p q : Pass} {a x : A} (hd : passA h p a = some (x, q)) : ∀ i ∈ q.ids, i ∈ p.ids ∨ i ∈ reach h [a] := by
  have deep : ∀ (a : A) (x : A) (b : List Nat), deepA h a = some (x, b) → q = ⟨p.bs, p.os, p.br ++ b⟩ → ∀ i ∈ q.ids, i ∈ p.ids ∨ i ∈ reach h [a] := by
    intro a x b hx hq i hi
    subst hq
    simp only [Pass.ids, List.mem_append] at hi ⊢
    rcases hi with hi | hi | hi
    · exact .inl (.inl hi)
    · exact .inl (.inr hi)
    · exact .inr (by simp only [reach, refsL, List.append_nil, List.mem_append]; exact .inl (deepA_sub hx i hi))
  cases a with
  | ptr id off =>
    cases off with
    | succ n => cases hd
    | zero =>
      simp only [passA] at hd
      split at hd
      · rename_i t cs hi
        split at hd
        · rename_i cs' m hm
          simp only [Option.some.injEq, Prod.mk.injEq] at hd
          obtain ⟨rfl, rfl⟩ := hd
          intro i hq
          simp only [Pass.ids, List.map_append, List.map_cons, List.map_nil, List.mem_append, List.mem_singleton] at hq ⊢
          rcases hq with (((hq | hq) | (hq | hq)) | hq)
          · exact .inl (.inl (.inl hq))
          · subst hq; exact .inr (by simp [reach, refsL, refsA])
          · exact .inl (.inl (.inr hq))
          · exact .inr (by simp only [reach, refsL, refsA, List.append_nil, List.mem_append, List.flatMap_cons, List.flatMap_nil]; rw [hi]; exact .inr (moveL_sub hm i hq))
          · exact .inl (.inr hq)
        · cases hd
      · cases hd
  | agg cs =>
    simp only [passA] at hd
    split at hd
    · rename_i xs l hl
      simp only [Option.some.injEq, Prod.mk.injEq] at hd
      obtain ⟨rfl, rfl⟩ := hd
      intro i hi
      simp only [Pass.ids, List.mem_append] at hi ⊢
      rcases hi with hi | hi | hi
      · exact .inl (.inl hi)
      · exact .inl (.inr hi)
      · exact .inr (by simp only [reach, refsL, refsA, List.append_nil, List.mem_append]; exact .inl (deepL_sub hl i hi))
    · cases hd
  | _ =>
    simp only [passA] at hd
    split at hd
    · rename_i x' l hl
      simp only [Option.some.injEq, Prod.mk.injEq] at hd
      exact deep _ _ _ hl hd.2.symm
    · cases hd
theorem passL_sub {h : Heap} : ∀ {l xs : List A} {p q : Pass}, passL h p l = some (xs, q) → ∀ i ∈ q.ids, i ∈ p.ids ∨ i ∈ reach h l
  | [], xs, p, q, hd => by simp [passL] at hd; obtain ⟨rfl, rfl⟩ := hd; exact fun i hi => .inl hi
  | a :: l, xs, p, q, hd => by
    simp only [passL] at hd
    split at hd
    · rename_i x p1 h1
      split at hd
      · rename_i xs' p2 h2
        simp only [Option.some.injEq, Prod.mk.injEq] at hd
        obtain ⟨rfl, rfl⟩ := hd
        intro i hi
        simp only [reach, refsL, List.mem_append, List.flatMap_append]
        rcases passL_sub h2 i hi with hi | hi
        · rcases passA_sub h1 i hi with hi | hi
          · exact .inl hi
          · simp only [reach, refsL, List.append_nil, List.mem_append] at hi
            exact .inr (hi.elim (fun q => .inl (.inl q)) fun q => .inr (.inl q))
        · simp only [reach, List.mem_append] at hi
          exact .inr (hi.elim (fun q => .inl (.inr q)) fun q => .inr (.inr q))
      · cases hd
    · cases hd

theorem idx_mem : ∀ {l : List Nat} {i : Nat}, i ∈ l → ∃ b, idx l i = some b
  | j :: l, i, h => by
    unfold idx
    split
    · exact ⟨_, rfl⟩
    · rename_i e
      obtain ⟨b, hb⟩ := idx_mem ((List.mem_cons.1 h).resolve_left e)
      rw [hb]
      exact ⟨_, rfl⟩
theorem backH_congr {h u : Heap} {s : Nat} {p : Pass} {r : A} {H : Hp} {id : Nat} (e : u id = h id) : backH u s p r H id = backH h s p r H id := by
  unfold backH
  rw [e]
theorem backH_far {h : Heap} {s : Nat} {p : Pass} {r : A} {H : Hp} {id : Nat} (h1 : ¬ (s ≤ id ∧ id < s + H.os.length)) (h2 : id ∉ p.ids) : backH h s p r H id = h id := by
  simp only [Pass.ids, List.mem_append, not_or] at h2
  unfold backH
  rw [if_neg h1]
  split
  · rename_i b hb
    exact absurd (List.mem_of_getElem? (idx_some hb)) h2.1.1
  · rw [if_neg (by simpa using h2.1.2), if_neg (by simpa using h2.2)]

/-! ### steps -/
def DoR (P : Program) (o : Oper) (st : St) (r : A) (h' : Heap) : Prop :=
  match isCall o.op with
  | some (f, args) => ∃ g cap xs p r0 H', val st f = .fn g cap ∧ passL st.h ⟨[], [], []⟩ (unfnL (args.map (val st) ++ cap)) = some (xs, p) ∧ passOk p (site o.dst) = true ∧ Ct P g (refnL (args.map (val st) ++ cap) xs) p.hp r0 H' ∧ r = ren (site o.dst) (p.bs.map (·.1)) r0 ∧ h' = backH st.h (site o.dst) p r0 H'
  | none => (pureA P o.op (val st) = some r ∧ h' = st.h) ∨ memA P o.op (site o.dst) (val st) st.h = some (r, h')
def StR (P : Program) (ops : Array Oper) (o : Oper) (st : St) (r : A) (h' : Heap) : Prop :=
  dstOk st o = true ∧ ((wantedA ops st o = some true ∧ DoR P o st r h') ∨ (wantedA ops st o = some false ∧ r = .undef ∧ h' = st.h))
structure Eff where
  b : List Nat
  i : List Nat
def Eff.l (e : Eff) : List Nat := (e.b.flatMap fun k => (List.range 64).map (k * 64 + ·)) ++ e.i
/-- What a step looks at, and what it changes. -/
def effO (o : Oper) (st : St) : Eff × Eff :=
  match isCall o.op with
  | some (f, args) => match val st f with
    | .fn _ cap => let e : Eff := ⟨[o.dst.getD 0], reach st.h (args.map (val st) ++ cap)⟩; (e, e)
    | _ => (⟨[], []⟩, ⟨[], []⟩)
  | none => match effM o.op (site o.dst) (val st) with
    | (t, w) => (⟨[], t⟩, ⟨[], w⟩)
theorem effO_sub (o : Oper) (st : St) : ∀ i ∈ (effO o st).2.l, i ∈ (effO o st).1.l := by
  unfold effO
  split
  · split
    · exact fun i hi => hi
    · simp [Eff.l]
  · simp only [Eff.l, List.flatMap_nil, List.nil_append]
    exact effM_sub _ _ _

theorem isCall_ops {op : Op} {f : Operand} {args : List Operand} (h : isCall op = some (f, args)) : op.operands.toList = f :: args := by
  unfold isCall at h
  split at h
  · simp only [Option.some.injEq, Prod.mk.injEq] at h
    obtain ⟨rfl, rfl⟩ := h
    simp [Op.operands, Call.operands]
  · cases h
theorem val_congr {st u : St} {ops : Array Oper} {o : Oper} (h : ∀ x ∈ o.looksAt ops, u.t x = st.t x) : ∀ x ∈ o.op.operands.toList, val u x = val st x := by
  intro x hx
  cases x with
  | tmp i => exact h i (List.mem_append_left _ (List.mem_filterMap.2 ⟨.tmp i, hx, rfl⟩))
  | const v => rfl
  | global g => rfl
  | func f => rfl
theorem wantedA_congr {st u : St} {ops : Array Oper} {o : Oper} (h : ∀ x ∈ o.looksAt ops, u.t x = st.t x) : wantedA ops u o = wantedA ops st o := by
  unfold wantedA
  split
  · rfl
  · rename_i g want hg
    split
    · rename_i d hd
      rw [h d (List.mem_append_right _ (by simp [hg, hd]))]
    · rfl

theorem effO_loc {ops : Array Oper} {o : Oper} {st u : St} (ht : ∀ x ∈ o.looksAt ops, u.t x = st.t x) (ha : Agr (effO o st).1.l u.h st.h) : effO o u = effO o st := by
  have hvc := val_congr ht
  cases hc : isCall o.op with
  | some fa =>
    obtain ⟨f, args⟩ := fa
    have hmap : args.map (val u) = args.map (val st) := List.map_congr_left fun x hx => hvc x (by rw [isCall_ops hc]; simp [hx])
    have hf : val u f = val st f := hvc f (by rw [isCall_ops hc]; simp)
    simp only [effO, hc, hf, hmap] at ha ⊢
    split
    · rename_i g cap hv
      simp only [hv] at ha
      have ha' : Agr (reach st.h (args.map (val st) ++ cap)) u.h st.h := ha.sub fun i hi => by simp [Eff.l, hi]
      have hreach : reach u.h (args.map (val st) ++ cap) = reach st.h (args.map (val st) ++ cap) := by
        unfold reach
        congr 1
        simp only [List.flatMap]
        congr 1
        refine List.map_congr_left fun i hi => ?_
        rw [ha' i (by simp [reach, hi])]
      rw [hreach]
    · rfl
  | none => simp only [effO, hc, effM_congr (s := site o.dst) hvc]
theorem StR.loc {ops : Array Oper} {o : Oper} {st : St} {r : A} {h' : Heap} (hs : StR P ops o st r h') :
    (∀ id, id ∉ (effO o st).2.l → h' id = st.h id) ∧ ∀ u : St, u.n = st.n → (∀ x ∈ o.looksAt ops, u.t x = st.t x) → Agr (effO o st).1.l u.h st.h →
      effO o u = effO o st ∧ ∃ u', StR P ops o u r u' ∧ Sh (effO o st).2.l h' u.h u' := by
  obtain ⟨hd, hs⟩ := hs
  have dok : ∀ u : St, u.n = st.n → dstOk u o = true := by
    intro u hn; unfold dstOk at hd ⊢; rw [hn]; exact hd
  rcases hs with ⟨hw, hs⟩ | ⟨hw, rfl, rfl⟩
  · unfold DoR at hs
    split at hs
    · rename_i f args hc
      obtain ⟨g, cap, xs, p, r0, H', hv, hp, hok, hct, rfl, rfl⟩ := hs
      have he : effO o st = (⟨[o.dst.getD 0], reach st.h (args.map (val st) ++ cap)⟩, ⟨[o.dst.getD 0], reach st.h (args.map (val st) ++ cap)⟩) := by simp only [effO, hc, hv]
      have hblk : ∀ id, id ∉ (⟨[o.dst.getD 0], reach st.h (args.map (val st) ++ cap)⟩ : Eff).l → ¬ (site o.dst ≤ id ∧ id < site o.dst + H'.os.length) ∧ id ∉ p.ids := by
        intro id hid
        simp only [Eff.l, List.mem_append, not_or, List.flatMap_cons, List.flatMap_nil, List.append_nil, List.mem_map, List.mem_range] at hid
        refine ⟨fun q => hid.1 ⟨id - site o.dst, ?_, ?_⟩, fun q => ?_⟩
        · have := hct.2.1.2.1; omega
        · have := q.1; simp only [site] at this ⊢; omega
        · rcases passL_sub hp id q with q | q
          · simp [Pass.ids] at q
          · exact hid.2 (by rwa [reach_unfn] at q)
      refine ⟨fun id hid => ?_, fun u hn ht ha => ⟨effO_loc ht ha, ?_⟩⟩
      · rw [he] at hid
        obtain ⟨h1, h2⟩ := hblk id hid
        exact backH_far h1 h2
      · rw [he] at ha ⊢
        have hvc := val_congr ht
        have hmap : args.map (val u) = args.map (val st) := List.map_congr_left fun x hx => hvc x (by rw [isCall_ops hc]; simp [hx])
        have hf : val u f = .fn g cap := by rw [hvc f (by rw [isCall_ops hc]; simp), hv]
        have ha' : Agr (reach st.h (args.map (val st) ++ cap)) u.h st.h := ha.sub fun i hi => by simp [Eff.l, hi]
        refine ⟨backH u.h (site o.dst) p r0 H', ⟨dok u hn, .inl ⟨by rw [wantedA_congr ht]; exact hw, ?_⟩⟩, ?_⟩
        · simp only [DoR, hc]
          exact ⟨g, cap, xs, p, r0, H', hf, by rw [hmap, passL_loc (by rw [reach_unfn]; exact ha')]; exact hp, hok, by rw [hmap]; exact hct, rfl, rfl⟩
        · refine ⟨fun id hid => backH_congr (ha id hid), fun id hid => ?_⟩
          obtain ⟨h1, h2⟩ := hblk id hid
          exact backH_far h1 h2
    · rename_i hc
      have he : effO o st = (⟨[], (effM o.op (site o.dst) (val st)).1⟩, ⟨[], (effM o.op (site o.dst) (val st)).2⟩) := by simp only [effO, hc]
      have main : (∀ id, id ∉ (effM o.op (site o.dst) (val st)).2 → h' id = st.h id) ∧ ∀ u : St, u.n = st.n → (∀ x ∈ o.looksAt ops, u.t x = st.t x) → Agr (effM o.op (site o.dst) (val st)).1 u.h st.h →
          ∃ u', StR P ops o u r u' ∧ Sh (effM o.op (site o.dst) (val st)).2 h' u.h u' := by
        rcases hs with ⟨hr, rfl⟩ | hm
        · refine ⟨fun _ _ => rfl, fun u hn ht ha => ⟨u.h, ⟨dok u hn, .inl ⟨by rw [wantedA_congr ht]; exact hw, ?_⟩⟩, Sh.refl (ha.sub (effM_sub _ _ _))⟩⟩
          simp only [DoR, hc]
          exact .inl ⟨by rw [pureA_congr (val_congr ht)]; exact hr, trivial⟩
        · obtain ⟨k1, k2⟩ := memA_loc hm
          refine ⟨k1, fun u hn ht ha => ?_⟩
          obtain ⟨u1, q1, q2⟩ := k2 u.h ha
          refine ⟨u1, ⟨dok u hn, .inl ⟨by rw [wantedA_congr ht]; exact hw, ?_⟩⟩, q2⟩
          simp only [DoR, hc]
          exact .inr (by rw [memA_congr (val_congr ht)]; exact q1)
      refine ⟨fun id hid => main.1 id ?_, fun u hn ht ha => ⟨effO_loc ht ha, ?_⟩⟩
      · rw [he] at hid
        simpa only [Eff.l, List.flatMap_nil, List.nil_append] using hid
      · rw [he] at ha ⊢
        simp only [Eff.l, List.flatMap_nil, List.nil_append] at ha ⊢
        exact main.2 u hn ht ha
  · exact ⟨fun _ _ => rfl, fun u hn ht ha => ⟨effO_loc ht ha, u.h, ⟨dok u hn, .inr ⟨by rw [wantedA_congr ht]; exact hw, rfl, rfl⟩⟩, Sh.refl (ha.sub (effO_sub _ _))⟩⟩

/-! ### two steps -/
def Apt (e f : Eff × Eff) : Prop := (∀ i ∈ e.2.l, i ∉ f.1.l) ∧ ∀ i ∈ f.2.l, i ∉ e.1.l
theorem put_n (st : St) (d : Option Tmp) (r : A) (h : Heap) : (put st d r h).n = st.n := by cases st; cases d <;> rfl
theorem put_h (st : St) (d : Option Tmp) (r : A) (h : Heap) : (put st d r h).h = h := by cases st; cases d <;> rfl
theorem put_t (st : St) {d : Option Tmp} (r : A) (h : Heap) {x : Nat} (hx : ∀ e, d = some e → e ≠ x) : (put st d r h).t x = st.t x := by
  cases st
  cases d with
  | none => rfl
  | some e => exact upd_ne _ _ fun q => hx e rfl q.symm
theorem put_put (st : St) {d e : Option Tmp} (r r' : A) (h1 h2 h3 : Heap) (hde : ∀ x, d = some x → e ≠ some x) : put (put st d r h1) e r' h2 = put (put st e r' h3) d r h2 := by
  cases st
  cases d with
  | none => cases e <;> rfl
  | some x =>
    cases e with
    | none => rfl
    | some y =>
      have hne : x ≠ y := fun q => hde x rfl (by rw [q])
      simp only [put, St.mk.injEq, true_and, and_true]
      funext j
      simp only [upd]
      split <;> split <;> simp_all
theorem swap {ops : Array Oper} {o1 o2 : Oper} {st : St} {r1 r2 : A} {h1 h2 : Heap} (s1 : StR P ops o1 st r1 h1) (s2 : StR P ops o2 (put st o1.dst r1 h1) r2 h2)
    (hap : o1.apart ops o2 = true) (hef : Apt (effO o1 st) (effO o2 (put st o1.dst r1 h1))) :
    ∃ u1, StR P ops o2 st r2 u1 ∧ StR P ops o1 (put st o2.dst r2 u1) r1 h2 ∧ put (put st o2.dst r2 u1) o1.dst r1 h2 = put (put st o1.dst r1 h1) o2.dst r2 h2 ∧
      effO o2 st = effO o2 (put st o1.dst r1 h1) ∧ effO o1 (put st o2.dst r2 u1) = effO o1 st := by
  obtain ⟨a1, a2, a3⟩ := Oper.apart_spec hap
  obtain ⟨k1, l1⟩ := s1.loc
  obtain ⟨k2, l2⟩ := s2.loc
  rw [put_h] at k2 l2
  obtain ⟨e2, u1, q1, q2⟩ := l2 st (put_n _ _ _ _).symm (fun x hx => (put_t _ _ _ fun d hd e => a1 d hd (by subst e; exact hx)).symm) fun id hid => (k1 id fun q => hef.1 id q hid).symm
  obtain ⟨e1, u2, p1, p2⟩ := l1 (put st o2.dst r2 u1) (put_n _ _ _ _) (fun x hx => put_t _ _ _ fun d hd e => a3 d hd (by subst e; exact hx)) (by
    rw [put_h]
    intro id hid
    exact q2.2 id fun q => hef.2 id q hid)
  rw [put_h] at p2
  have hu : u2 = h2 := by
    funext id
    by_cases h : id ∈ (effO o1 st).2.l
    · rw [p2.1 id h, k2 id fun q => hef.1 id h (effO_sub _ _ id q)]
    · rw [p2.2 id h]
      by_cases h' : id ∈ (effO o2 (put st o1.dst r1 h1)).2.l
      · exact q2.1 id h'
      · rw [q2.2 id h', k2 id h', k1 id h]
  subst hu
  exact ⟨u1, q1, p1, (put_put _ _ _ _ _ _ a2).symm, e2, e1⟩
end
end Go.AX
