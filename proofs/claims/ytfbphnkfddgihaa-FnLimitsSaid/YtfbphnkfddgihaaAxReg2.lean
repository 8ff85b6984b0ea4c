/- A region that draws its order: any order comes to the same. -/
import Derived.Test.YtfbphnkfddgihaaAxReg
namespace Go.AX
section
variable {P : Program} {ops : Array Oper}

/-- Operations run one after another, each with its effect. -/
def RunE (P : Program) (ops : Array Oper) : List (Nat × Oper × Eff × Eff) → St → St → Prop
  | [], st, st' => st = st'
  | (j, o, e) :: l, st, st' => ops[j]? = some o ∧ effO o st = e ∧ ∃ r h', StR P ops o st r h' ∧ RunE P ops l (put st o.dst r h') st'
def Free (ops : Array Oper) (x y : Nat × Oper × Eff × Eff) : Prop := x.2.1.apart ops y.2.1 = true ∧ Apt x.2.2 y.2.2

theorem bubble {x : Nat × Oper × Eff × Eff} {post : List (Nat × Oper × Eff × Eff)} {st' : St} {pre : List (Nat × Oper × Eff × Eff)} {st : St} (h : RunE P ops (pre ++ x :: post) st st') (hf : ∀ p ∈ pre, Free ops p x) :
    RunE P ops (x :: (pre ++ post)) st st' := by
  induction pre generalizing st with
  | nil => exact h
  | cons p pre ih =>
    obtain ⟨jp, op, ep⟩ := p
    obtain ⟨h1, h2, r1, g1, hs1, hrest⟩ := h
    have hx := ih hrest fun q hq => hf q (by simp [hq])
    obtain ⟨jx, ox, ex⟩ := x
    obtain ⟨k1, k2, r2, g2, hs2, hrest2⟩ := hx
    obtain ⟨f1, f2⟩ := hf (jp, op, ep) (by simp)
    subst h2 k2
    obtain ⟨u1, q1, q2, q3, q4, q5⟩ := swap hs1 hs2 f1 f2
    exact ⟨k1, q4, r2, u1, q1, h1, q5, r1, g2, q2, by rw [q3]; exact hrest2⟩

theorem stepsD_run {K : St → Prop} {l : List (Nat × Nat × Oper)} {acc prev : List (Nat × Ef)} {st : St} (h : stepsD P ops l acc st K) (ho : ∀ x ∈ l, ops[x.1]? = some x.2.2) (hp : ∀ x ∈ prev, x ∈ acc ∨ x.2.b = [] ∧ x.2.i = []) :
    ∃ L st', RunE P ops L st st' ∧ K st' ∧ L.map (fun x => (x.1, x.2.1)) = l.map (fun x => (x.1, x.2.2)) ∧
      List.Pairwise (fun x y => Apt x.2.2 y.2.2 ∨ ∃ z ∈ l, z.1 = y.1 ∧ bit z.2.1 x.1 = true) L ∧ ∀ x ∈ prev, ∀ y ∈ L, Apt x.2.pair y.2.2 ∨ ∃ z ∈ l, z.1 = y.1 ∧ bit z.2.1 x.1 = true := by
  induction l generalizing acc prev st with
  | nil => exact ⟨[], st, rfl, h, rfl, .nil, fun _ _ y hy => by cases hy⟩
  | cons x l ih =>
    obtain ⟨j, m, o⟩ := x
    have h : (match efX o st with
      | ⟨b, i, w⟩ => forceL i fun i => match okE m ⟨b, i, w⟩ acc with
        | true => stepOp P ops o st fun st' => stepsD P ops l (addE j ⟨b, i, w⟩ acc) st' K
        | false => False) := h
    generalize he : efX o st = ef at h
    obtain ⟨b, i, w⟩ := ef
    simp only at h
    rw [forceL_eq] at h
    split at h
    · rename_i hok
      obtain ⟨r, h', hst, hrest⟩ := stepOp_ex h
      have hadd : ∀ y ∈ (j, (⟨b, i, w⟩ : Ef)) :: prev, y ∈ addE j ⟨b, i, w⟩ acc ∨ y.2.b = [] ∧ y.2.i = [] := by
        intro y hy
        rcases List.mem_cons.1 hy with rfl | hy
        · cases b with
          | nil => cases i with
            | nil => exact .inr ⟨rfl, rfl⟩
            | cons _ _ => exact .inl (by simp [addE])
          | cons _ _ => exact .inl (by simp [addE])
        · rcases hp y hy with hy | hy
          · refine .inl ?_
            unfold addE
            split
            · exact hy
            · exact List.mem_cons_of_mem _ hy
          · exact .inr hy
      obtain ⟨L, st', q1, q2, q3, q4, q5⟩ := ih hrest (fun y hy => ho y (by simp [hy])) hadd
      have hpair : effO o st = (⟨b, i, w⟩ : Ef).pair := by rw [efX_spec, he]
      refine ⟨(j, o, effO o st) :: L, st', ⟨ho (j, m, o) (by simp), rfl, r, h', hst, q1⟩, q2, by simp [q3], .cons ?_ (q4.imp fun hh => ?_), fun x hx y hy => ?_⟩
      · intro y hy
        rcases q5 (j, ⟨b, i, w⟩) (by simp) y hy with q | ⟨z, hz, q⟩
        · exact .inl (by rw [hpair]; exact q)
        · exact .inr ⟨z, by simp [hz], q⟩
      · rcases hh with q | ⟨z, hz, q⟩
        · exact .inl q
        · exact .inr ⟨z, by simp [hz], q⟩
      · rcases List.mem_cons.1 hy with rfl | hy
        · rcases hp x hx with hq | ⟨e1, e2⟩
          · rcases okE_spec hok x hq with hd | hb
            · exact .inl (by rw [hpair]; exact disj_spec hd)
            · exact .inr ⟨(j, m, o), by simp, rfl, hb⟩
          · refine .inl ?_
            obtain ⟨xj, xb, xi, xw⟩ := x
            simp only at e1 e2
            subst e1 e2
            constructor
            · intro k hk; cases xw <;> simp [Ef.pair, Eff.l] at hk
            · intro k hk; simp [Ef.pair, Eff.l]
        · rcases q5 x (by simp [hx]) y hy with q | ⟨z, hz, q⟩
          · exact .inl q
          · exact .inr ⟨z, by simp [hz], q⟩
    · exact h.elim

theorem drawn_wp {nb : Nat} {w0 : World} {M0 : Mu} {Q : Exit → Act → World → Prop} {st' : St} {anc : Nat → Nat → Prop} (hanc : ∀ j o i, ops[j]? = some o → anc j i → ∃ e ∈ o.after, Region.binds .any e = true ∧ (e.on = i ∨ anc e.on i))
    (hedge : ∀ j o, ops[j]? = some o → ∀ e ∈ o.after, Region.binds .any e = true → e.on < j) (hK : ∀ a' w', AtX P nb w0 M0 st' a' w' → Q .normal a' w') :
    ∀ (fuel : Nat) {L : List (Nat × Oper × Eff × Eff)} {st : St} {listed : Array Bool} {a : Act} {w : World}, RunE P ops L st st' → L.length ≤ fuel → List.Pairwise (fun x y => x.1 < y.1) L →
      List.Pairwise (fun x y => anc y.1 x.1 ∨ Free ops x y) L → (∀ x ∈ L, ops[x.1]? = some x.2.1) → (∀ j, j < ops.size → (listed.getD j true = false ↔ ∃ x ∈ L, x.1 = j)) → listed.size = ops.size →
      (∀ j i, j < ops.size → listed.getD j true = true → i < ops.size → anc j i → listed.getD i true = true) →
      List.Pairwise (fun x y => Al x.2.1 → Al y.2.1 → x.2.1.dst.getD 0 ≠ y.2.1.dst.getD 0) L → (∀ x ∈ L, Al x.2.1 → nb ≤ x.2.1.dst.getD 0 ∧ Clean (x.2.1.dst.getD 0) st) → AtX P nb w0 M0 st a w →
      wpAny P .any ops Q fuel listed a w := by
  intro fuel
  induction fuel with
  | zero =>
    intro L st listed a w hr hlen _ _ _ hset hsz _ _ _ hA
    have hL : L = [] := List.eq_nil_of_length_eq_zero (by omega)
    subst hL
    cases hr
    refine ⟨?_, hK a w hA⟩
    unfold Region.ready
    rw [List.filter_eq_nil_iff]
    intro i hi
    rw [List.mem_range] at hi
    have := (hset i hi).1
    cases hx : listed.getD i true with
    | true => simp
    | false => obtain ⟨x, hx, _⟩ := this hx; cases hx
  | succ fuel ih =>
    intro L st listed a w hr hlen hlt hpw ho hset hsz hdc hdist hcl hA
    refine ⟨fun hno => ?_, fun j hj => ?_⟩
    · cases L with
      | nil => cases hr; exact hK a w hA
      | cons x L =>
        exfalso
        have hx := ho x (by simp)
        have hxs : x.1 < ops.size := (Array.getElem?_eq_some_iff.1 hx).1
        have : x.1 ∈ Region.ready .any ops listed := by
          rw [mem_ready]
          refine ⟨(hset x.1 hxs).2 ⟨x, by simp, rfl⟩, x.2.1, hx, fun e he hb => ?_⟩
          have hlt' := hedge x.1 x.2.1 hx e he hb
          have hes : e.on < ops.size := by omega
          cases hq : listed.getD e.on true with
          | true =>
            rw [Array.getD_eq_getD_getElem?] at hq ⊢
            rw [Array.getElem?_eq_getElem (by omega)] at hq ⊢
            simpa using hq
          | false =>
            obtain ⟨y, hy, hye⟩ := (hset e.on hes).1 hq
            rcases List.mem_cons.1 hy with rfl | hy
            · omega
            · have := (List.pairwise_cons.1 hlt).1 y hy
              omega
        rw [hno] at this
        cases this
    · obtain ⟨hun, oj, hoj, hall⟩ := mem_ready.1 hj
      have hjs : j < ops.size := (Array.getElem?_eq_some_iff.1 hoj).1
      obtain ⟨x, hx, hxj⟩ := (hset j hjs).1 hun
      have hxo : x.2.1 = oj := by
        have := ho x hx
        rw [hxj, hoj] at this
        exact (Option.some.inj this).symm
      -- its forerunners are listed
      have hfore : ∀ i, i < ops.size → anc j i → listed.getD i true = true := by
        intro i hi ha
        obtain ⟨e, he, hb, hc⟩ := hanc j oj i hoj ha
        have hel := hall e he hb
        have hes : e.on < ops.size := by have := hedge j oj hoj e he hb; omega
        have hel' : listed.getD e.on true = true := by
          rw [Array.getD_eq_getD_getElem?] at hel ⊢
          rw [Array.getElem?_eq_getElem (by omega)] at hel ⊢
          simpa using hel
        rcases hc with rfl | hc
        · exact hel'
        · exact hdc e.on i hes hel' hi hc
      obtain ⟨pre, post, rfl⟩ := List.append_of_mem hx
      have hpre : ∀ p ∈ pre, Free ops p x := by
        intro p hp
        have := (List.pairwise_append.1 hpw).2.2 p hp x (by simp)
        refine this.resolve_left fun ha => ?_
        have hps : p.1 < ops.size := (Array.getElem?_eq_some_iff.1 (ho p (by simp [hp]))).1
        have h1 := hfore p.1 hps (hxj ▸ ha)
        have h2 := (hset p.1 hps).2 ⟨p, by simp [hp], rfl⟩
        rw [h1] at h2
        cases h2
      have hr' := bubble hr hpre
      obtain ⟨jx, ox, ex⟩ := x
      simp only at hxj hxo
      subst hxj hxo
      obtain ⟨_, _, r, h', hst, hrest⟩ := hr'
      have hsub : ∀ y ∈ pre ++ post, y ∈ pre ++ (jx, ox, ex) :: post := by
        intro y hy
        rcases List.mem_append.1 hy with hy | hy
        · simp [hy]
        · simp [hy]
      have hsl : List.Sublist (pre ++ post) (pre ++ (jx, ox, ex) :: post) := (List.sublist_cons_self _ _).append_left pre
      have hne : ∀ y ∈ pre ++ post, y.1 ≠ jx := by
        intro y hy
        rcases List.mem_append.1 hy with hy | hy
        · have := (List.pairwise_append.1 hlt).2.2 y hy (jx, ox, ex) (by simp)
          simp only at this; omega
        · have := (List.pairwise_cons.1 (List.pairwise_append.1 hlt).2.1).1 y hy
          simp only at this; omega
      have hdne : Al ox → ∀ y ∈ pre ++ post, Al y.2.1 → ox.dst.getD 0 ≠ y.2.1.dst.getD 0 := by
        intro ha y hy hay
        rcases List.mem_append.1 hy with hy | hy
        · exact fun e => (List.pairwise_append.1 hdist).2.2 y hy (jx, ox, ex) (by simp) hay ha e.symm
        · exact (List.pairwise_cons.1 (List.pairwise_append.1 hdist).2.1).1 y hy ha hay
      have hset' : ∀ i, i < ops.size → ((listed.setIfInBounds jx true).getD i true = false ↔ ∃ x ∈ pre ++ post, x.1 = i) := by
        intro i hi
        by_cases hij : jx = i
        · subst hij
          have h1 : (listed.setIfInBounds jx true).getD jx true = true := by
            rw [Array.getD_eq_getD_getElem?, Array.getElem?_setIfInBounds_self]
            split <;> simp
          rw [h1]
          constructor
          · intro q; cases q
          · rintro ⟨y, hy, e⟩; exact absurd e (hne y hy)
        · rw [getD_set_ne true hij, hset i hi]
          constructor
          · rintro ⟨y, hy, e⟩
            rcases List.mem_append.1 hy with hy | hy
            · exact ⟨y, by simp [hy], e⟩
            · rcases List.mem_cons.1 hy with rfl | hy
              · exact absurd e hij
              · exact ⟨y, by simp [hy], e⟩
          · rintro ⟨y, hy, e⟩; exact ⟨y, hsub y hy, e⟩
      have hrec : ∀ a' w', AtX P nb w0 M0 (put st ox.dst r h') a' w' → wpAny P .any ops Q fuel (listed.setIfInBounds jx true) a' w' := by
        intro a' w' hA'
        refine ih hrest ?_ (hlt.sublist hsl) (hpw.sublist hsl) (fun y hy => ho y (hsub y hy)) hset' (by simpa using hsz) ?_ (hdist.sublist hsl) ?_ hA'
        · simp only [List.length_append, List.length_cons] at hlen ⊢; omega
        · intro y i hy hly hi ha
          have up : listed.getD i true = true → (listed.setIfInBounds jx true).getD i true = true := by
            intro q
            by_cases hij : jx = i
            · subst hij
              rw [Array.getD_eq_getD_getElem?, Array.getElem?_setIfInBounds_self]
              split <;> simp
            · rw [getD_set_ne true hij]; exact q
          by_cases hij : jx = y
          · subst hij; exact up (hfore i hi ha)
          · rw [getD_set_ne true hij] at hly
            exact up (hdc y i hy hly hi ha)
        · intro y hy hay
          obtain ⟨q1, q2⟩ := hcl y (hsub y hy) hay
          exact ⟨q1, hst.clean q2 fun hax => hdne hax y hy hay⟩
      unfold wpOp
      simp only [hoj]
      have hw := stR_wp (Q := Q) (K := wpAny P .any ops Q fuel (listed.setIfInBounds jx true)) hA hst (fun ha => hcl (jx, ox, ex) hx ha) hrec
      split
      · rename_i hq; rw [if_pos hq] at hw; exact .inl hw
      · rename_i hq; rw [if_neg hq] at hw; exact hw

theorem zip3_spec : ∀ {l : List Oper} {ms : List Nat} {j : Nat}, ms.length = l.length → (zip3 j ms l).map (fun x => (x.1, x.2.2)) = (List.range' j l.length).zip l ∧ ∀ x ∈ zip3 j ms l, j ≤ x.1 ∧ l[x.1 - j]? = some x.2.2 ∧ ms.getD (x.1 - j) 0 = x.2.1
  | [], ms, j, h => by
    have : ms = [] := List.eq_nil_of_length_eq_zero (by simpa using h)
    subst this
    simp [zip3]
  | o :: l, [], j, h => by simp at h
  | o :: l, m :: ms, j, h => by
    obtain ⟨q1, q2⟩ := zip3_spec (l := l) (ms := ms) (j := j + 1) (by simpa using h)
    refine ⟨by simp [zip3, q1, List.range'_succ], fun x hx => ?_⟩
    simp only [zip3, List.mem_cons] at hx
    rcases hx with rfl | hx
    · simp
    · obtain ⟨r1, r2, r3⟩ := q2 x hx
      have e : x.1 - j = (x.1 - (j + 1)) + 1 := by omega
      refine ⟨by omega, by rw [e]; simpa using r2, by rw [e]; simpa using r3⟩

theorem regX_wp {nb : Nat} {w0 w : World} {M0 : Mu} {draw : Bool} {id : Nat} {st : St} {K : St → Prop} {Q : Exit → Act → World → Prop} {a : Act} (hm : P.follows .mixedOrders = true) (h : regX P nb ops draw st K) (hA : AtX P nb w0 M0 st a w)
    (hK : ∀ st', K st' → ∀ a' w', AtX P nb w0 M0 st' a' w' → Q .normal a' w') : (Code.region id ops draw).wp P Q a w := by
  unfold regX at h
  rw [forceL_eq] at h
  split at h
  · exact h.elim
  · rename_i hd
    rw [fcS_eq] at h
    simp only [Bool.and_eq_true] at hd
    have hnd := distN_spec hd.1
    have hge := allGe_spec hd.2
    have hA' := scrub_at (D := needs ops.toList) hA
    have hcl : ∀ d ∈ needs ops.toList, nb ≤ d ∧ Clean d (scrub (needs ops.toList) st) := fun d hd => ⟨hge d hd, scrub_clean hd⟩
    split at h
    · exact wp_region_list (stepsL_wp h hA' hnd hcl hK)
    · obtain ⟨ms, hrun, hM⟩ := masksK_spec h ⟨rfl, by simp, by simp, by simp⟩
      rw [List.nil_append] at hM
      have hlen := hM.len
      obtain ⟨z1, z2⟩ := zip3_spec (l := ops.toList) (ms := ms) (j := 0) hlen
      simp only [Nat.sub_zero] at z2
      obtain ⟨L, st', q1, q2, q3, q4, _⟩ := stepsD_run (prev := []) hrun (fun x hx => by
        have := (z2 x hx).2.1
        simpa using this) (by simp)
      rw [z1] at q3
      have ho : ∀ x ∈ L, ops[x.1]? = some x.2.1 := by
        intro x hx
        have : (x.1, x.2.1) ∈ (List.range' 0 ops.toList.length).zip ops.toList := by rw [← q3]; exact List.mem_map.2 ⟨x, hx, rfl⟩
        obtain ⟨k, hk⟩ := List.mem_iff_getElem?.1 this
        rw [List.getElem?_zip_eq_some] at hk
        obtain ⟨k1, k2⟩ := hk
        have hk' := (List.getElem?_eq_some_iff.1 k2).1
        rw [List.getElem?_range' hk'] at k1
        simp at k1
        rw [← k1]
        simpa using k2
      have hfst : L.map (·.1) = List.range' 0 ops.toList.length := by
        have := congrArg (List.map (·.1)) q3
        rw [List.map_map, List.map_fst_zip (by simp)] at this
        exact this
      have hlt : List.Pairwise (fun x y => x.1 < y.1) L := by
        have := List.pairwise_lt_range' (s := 0) (n := ops.toList.length) (step := 1)
        rw [← hfst, List.pairwise_map] at this
        exact this
      have hof : ∀ j o, ops[j]? = some o → ops.toList[j]? = some o := fun j o h => by rw [Array.getElem?_toList]; exact h
      refine wp_region_any hm (drawn_wp (anc := fun j i => bit (ms.getD j 0) i = true) (st' := st') ?_ ?_ (hK st' q2) ops.size q1 ?_ hlt ?_ ho ?_ (by simp) ?_ ?_ ?_ ?_)
      · exact fun j o i ho' hb => hM.mask j o (hof j o ho') i hb
      · exact fun j o ho' => hM.edge j o (hof j o ho')
      · have := congrArg List.length hfst
        simp at this; omega
      · refine (hlt.and q4).imp_of_mem fun {x y} hx hy hh => ?_
        obtain ⟨hxy, hh⟩ := hh
        have anc_z : (∃ z ∈ zip3 0 ms ops.toList, z.1 = y.1 ∧ bit z.2.1 x.1 = true) → bit (ms.getD y.1 0) x.1 = true := by
          rintro ⟨z, hz, e, hb⟩
          rw [← e, (z2 z hz).2.2]; exact hb
        rcases hM.apart x.1 y.1 x.2.1 y.2.1 hxy (hof _ _ (ho x hx)) (hof _ _ (ho y hy)) with hb | hap
        · exact .inl hb
        · rcases hh with hh | hh
          · exact .inr ⟨hap, hh⟩
          · exact .inl (anc_z hh)
      · intro j hj
        have : j ∈ L.map (·.1) := by rw [hfst]; simp [List.mem_range']; omega
        simp only [List.mem_map] at this
        obtain ⟨x, hx, e⟩ := this
        rw [Array.getD_eq_getD_getElem?]
        simp only [Array.getElem?_replicate, hj, if_true, Option.getD_some, true_iff]
        exact ⟨x, hx, e⟩
      · intro j i hj hl
        rw [Array.getD_eq_getD_getElem?] at hl
        simp [Array.getElem?_replicate, hj] at hl
      · have hops : L.map (fun x => x.2.1) = ops.toList := by
          have := congrArg (List.map (·.2)) q3
          rw [List.map_map, List.map_snd_zip (by simp)] at this
          exact this
        have key : ∀ l : List Oper, (needs l).Nodup → l.Pairwise fun x y => Al x → Al y → x.dst.getD 0 ≠ y.dst.getD 0 := by
          intro l
          induction l with
          | nil => intro _; exact .nil
          | cons o l ih =>
            intro hn
            by_cases ha : Al o
            · rw [needs_cons ha] at hn
              obtain ⟨n1, n2⟩ := List.nodup_cons.1 hn
              exact .cons (fun y hy _ hay e => n1 (by rw [e]; exact needs_al hy hay)) (ih n2)
            · rw [needs_nil ha] at hn
              exact .cons (fun y hy hax => absurd hax ha) (ih hn)
        have := key _ hnd
        rw [← hops, List.pairwise_map] at this
        exact this
      · intro x hx ha
        exact hcl _ (needs_al (by have := ho x hx; exact List.mem_of_getElem? (hof _ _ this)) ha)
      · obtain ⟨M, hA'⟩ := hA'
        exact ⟨M, ⟨hA'.sim.world (fun _ _ => rfl) (fun _ _ _ => rfl) (Nat.le_refl _), hA'.size, hA'.defers, hA'.step.trans ⟨rfl, rfl, rfl, Nat.le_refl _, fun _ _ _ => rfl, fun _ h => h, fun _ h => .inl h, fun id b h => .inl ⟨id, h⟩⟩, hA'.m⟩⟩
end
end Go.AX
