/- A state seen another way: objects under other names, some forgotten, some frozen. -/
import Derived.Test.YtfbphnkfddgihaaAxReg2
namespace Go.AX

abbrev Ent := List (Nat × Option Nat × O)
def lookE : Ent → Nat → Option (Option Nat × O)
  | [], _ => none
  | (x, s, o) :: l, i => match Nat.beq i x with
    | true => some (s, o)
    | false => lookE l i
def entH (E : Ent) : Heap := fun id => match lookE E id with
  | some (_, o) => o
  | none => .gone
def lookT : List (Nat × A) → Nat → A
  | [], _ => .junk
  | (j, a) :: l, i => match Nat.beq i j with
    | true => a
    | false => lookT l i
def srcs : Ent → List Nat
  | [] => []
  | (_, some i, _) :: l => i :: srcs l
  | (_, none, _) :: l => srcs l

mutual
def wkA (h : Heap) (E : Ent) (Z : List Nat) : A → A → Prop
  | a, .junk => True
  | .d x, .d y => x = y
  | .es, .es => True
  | .es, .d (.sl y) => y = []
  | .es, .os x n => n = 0 ∧ (lookE E x).map (·.1) = some none
  | .os i n, .os x m => n = m ∧ (lookE E x).map (·.1) = some (some i)
  | .os i n, .d (.sl y) => match h i with
    | .arr _ _ es => memN i Z = true ∧ n ≤ es.length ∧ y = es.take n
    | .frz es => n ≤ es.length ∧ y = es.take n
    | _ => False
  | .ptr i off, .ptr x off' => off = off' ∧ (lookE E x).map (·.1) = some (some i)
  | .pe i k sz off, .pe x k' sz' off' => k = k' ∧ sz = sz' ∧ off = off' ∧ (lookE E x).map (·.1) = some (some i)
  | .dp cs, .dp cs' => cs = cs'
  | .fn f cap, .fn f' cap' => f = f' ∧ wkL h E Z cap cap'
  | .agg cs, .agg cs' => wkL h E Z cs cs'
  | .tup cs, .tup cs' => wkL h E Z cs cs'
  | .undef, .undef => True
  | _, _ => False
def wkL (h : Heap) (E : Ent) (Z : List Nat) : List A → List A → Prop
  | [], [] => True
  | a :: l, b :: m => wkA h E Z a b ∧ wkL h E Z l m
  | _, _ => False
end
def wkO (h : Heap) (E : Ent) (Z : List Nat) : Option Nat → O → Prop
  | none, .arr _ _ es => es = []
  | none, _ => False
  | some i, o => match h i, o with
    | .box t cs, .box t' cs' => t = t' ∧ wkL h E Z cs cs'
    | .arr t own es, .arr t' own' es' => t = t' ∧ own = own' ∧ ∃ m, es' = es.take m
    | .frz es, .frz es' => es = es'
    | _, _ => False
def wkE (h : Heap) (E : Ent) (Z : List Nat) : Ent → Prop
  | [] => True
  | (_, s, o) :: l => wkO h E Z s o ∧ wkE h E Z l
def wkT (h : Heap) (E : Ent) (Z : List Nat) (t : Nat → A) : List (Nat × A) → Prop
  | [] => True
  | (j, a) :: l => wkA h E Z (t j) a ∧ wkT h E Z t l
def offL : List Nat → List Nat → Bool
  | [], _ => true
  | z :: l, s => match memN z s with
    | true => false
    | false => offL l s
/-- The state (t, h), seen as the temporaries ts and the objects E. -/
def Wk (t : Nat → A) (h : Heap) (E : Ent) (Z : List Nat) (ts : List (Nat × A)) : Prop :=
  ((distN (srcs E) && offL Z (srcs E)) = true ∧ wkE h E Z E) ∧ wkT h E Z t ts

section
variable {P : Program} {w : World} {M : Mu} {t : Nat → A} {h : Heap} {tm : Array Value} {E : Ent} {Z : List Nat}

def srcOf (E : Ent) (x : Nat) : Option (Option Nat) := (lookE E x).map (·.1)
def muWk (M : Mu) (E : Ent) (Z : List Nat) : Mu where
  m x := match srcOf E x with
    | some (some i) => M.m i
    | _ => none
  own x := match srcOf E x with
    | some (some i) => M.own i
    | _ => []
  F b := M.F b ∨ ∃ i ∈ Z, b ∈ M.own i
theorem muWk_m {x i : Nat} (h : srcOf E x = some (some i)) : (muWk M E Z).m x = M.m i := by simp only [muWk, h]
theorem muWk_own {x i : Nat} (h : srcOf E x = some (some i)) : (muWk M E Z).own x = M.own i := by simp only [muWk, h]
theorem muWk_none {x : Nat} (h : srcOf E x = some none) : (muWk M E Z).m x = none := by simp only [muWk, h]

mutual
theorem wkA_rep (hs : Sim P w M t h tm) : ∀ {a b : A} {v : Value}, wkA h E Z a b → RepA w M a v → RepA w (muWk M E Z) b v
  | a, .junk, v, _, _ => by simp only [RepA]
  | .d x, .d y, v, hw, hr => by
    simp only [wkA] at hw
    subst hw
    simp only [RepA] at hr ⊢
    exact hr.mono fun b hb => ⟨.inl hb, rfl⟩
  | .es, .es, v, _, hr => by simpa only [RepA] using hr
  | .es, .d (.sl y), v, hw, hr => by
    simp only [wkA] at hw
    subst hw
    simp only [RepA] at hr ⊢
    subst hr
    exact .sl none 0 0 [] (fun _ _ => undef) (by simp) (by simp) (by simp [at2]) (by simp [at2])
  | .es, .os x n, v, hw, hr => by
    simp only [wkA] at hw
    simp only [RepA] at hr ⊢
    rw [muWk_none hw.2]
    exact ⟨hw.1, hr⟩
  | .os i n, .os x m, v, hw, hr => by
    simp only [wkA] at hw
    obtain ⟨rfl, hx⟩ := hw
    simp only [RepA] at hr ⊢
    rw [muWk_m hx]
    exact hr
  | .os i n, .d (.sl y), v, hw, hr => by
    simp only [wkA] at hw
    simp only [RepA.eq_1]
    split at hw
    · rename_i ty own es hi
      obtain ⟨hz, hn, rfl⟩ := hw
      obtain ⟨B, q1, q2, _⟩ := arr_out hs hi hn hr
      exact q2.mono fun b hb => ⟨hb.imp_right fun hb => ⟨i, memN_iff.1 hz, q1 b hb⟩, rfl⟩
    · rename_i es hi
      obtain ⟨hn, rfl⟩ := hw
      exact (frz_out hs hi hn hr).mono fun b hb => ⟨.inl hb, rfl⟩
    · exact hw.elim
  | .ptr i off, .ptr x off', v, hw, hr => by
    simp only [wkA] at hw
    obtain ⟨rfl, hx⟩ := hw
    simp only [RepA] at hr ⊢
    rw [muWk_m hx]
    exact hr
  | .pe i k sz off, .pe x k' sz' off', v, hw, hr => by
    simp only [wkA] at hw
    obtain ⟨rfl, rfl, rfl, hx⟩ := hw
    simp only [RepA] at hr ⊢
    rw [muWk_m hx]
    exact hr
  | .dp cs, .dp cs', v, hw, hr => by
    simp only [wkA] at hw
    subst hw
    exact RepA.mono (M := M) (M' := muWk M E Z) (a := .dp cs) (fun b q => ⟨.inl q, rfl⟩) hr (fun k hk => by simp [refsA] at hk)
  | .fn f cap, .fn f' cap', v, hw, hr => by
    simp only [wkA] at hw
    obtain ⟨rfl, hl⟩ := hw
    simp only [RepA] at hr ⊢
    obtain ⟨vs, rfl, hv⟩ := hr
    exact ⟨vs, rfl, wkL_rep hs hl hv⟩
  | .agg cs, .agg cs', v, hw, hr => by
    simp only [wkA] at hw
    simp only [RepA] at hr ⊢
    obtain ⟨vs, rfl, hv⟩ := hr
    exact ⟨vs, rfl, wkL_rep hs hw hv⟩
  | .tup cs, .tup cs', v, hw, hr => by
    simp only [wkA] at hw
    simp only [RepA] at hr ⊢
    obtain ⟨vs, rfl, hv⟩ := hr
    exact ⟨vs, rfl, wkL_rep hs hw hv⟩
  | .undef, .undef, v, _, hr => by simpa only [RepA] using hr
theorem wkL_rep (hs : Sim P w M t h tm) : ∀ {l l' : List A} {vs : List Value}, wkL h E Z l l' → RepL w M l vs → RepL w (muWk M E Z) l' vs
  | [], [], [], _, _ => by simp only [RepL]
  | a :: l, b :: m, v :: vs, hw, hr => by
    simp only [wkL] at hw
    simp only [RepL] at hr ⊢
    exact ⟨wkA_rep hs hw.1 hr.1, wkL_rep hs hw.2 hr.2⟩
  | [], [], _ :: _, _, hr => by simp [RepL] at hr
  | _ :: _, _, [], _, hr => by simp [RepL] at hr
  | [], _ :: _, _, hw, _ => by simp [wkL] at hw
  | _ :: _, [], _, hw, _ => by simp [wkL] at hw
end

theorem lookE_mem : ∀ {E : Ent} {x : Nat} {s : Option Nat} {o : O}, lookE E x = some (s, o) → (x, s, o) ∈ E
  | (y, s', o') :: l, x, s, o, h => by
    unfold lookE at h
    split at h
    · rename_i hb
      simp only [Option.some.injEq, Prod.mk.injEq] at h
      obtain ⟨rfl, rfl⟩ := h
      rw [Nat.eq_of_beq_eq_true hb]
      exact List.mem_cons_self
    · exact List.mem_cons_of_mem _ (lookE_mem h)
  | [], x, s, o, h => by simp [lookE] at h
theorem srcs_mem : ∀ {E : Ent} {x i : Nat} {o : O}, (x, some i, o) ∈ E → i ∈ srcs E
  | (y, s', o') :: l, x, i, o, h => by
    rcases List.mem_cons.1 h with h | h
    · simp only [Prod.mk.injEq] at h
      obtain ⟨rfl, rfl, rfl⟩ := h
      simp [srcs]
    · have := srcs_mem h
      cases s' <;> simp [srcs, this]
theorem srcs_inj : ∀ {E : Ent}, (srcs E).Nodup → ∀ {x y i : Nat} {o o' : O}, (x, some i, o) ∈ E → (y, some i, o') ∈ E → x = y
  | (z, s', o1) :: l, hn, x, y, i, o, o', hx, hy => by
    have tail : (srcs l).Nodup := by
      cases s' with
      | none => simpa [srcs] using hn
      | some k => simp only [srcs] at hn; exact (List.nodup_cons.1 hn).2
    have head : ∀ {x : Nat} {o : O}, (x, some i, o) ∈ l → s' ≠ some i := by
      intro x o hm e
      subst e
      simp only [srcs] at hn
      exact (List.nodup_cons.1 hn).1 (srcs_mem hm)
    rcases List.mem_cons.1 hx with hx | hx
    · rcases List.mem_cons.1 hy with hy | hy
      · simp only [Prod.mk.injEq] at hx hy
        rw [hx.1, hy.1]
      · simp only [Prod.mk.injEq] at hx
        exact absurd hx.2.1.symm (head hy)
    · rcases List.mem_cons.1 hy with hy | hy
      · simp only [Prod.mk.injEq] at hy
        exact absurd hy.2.1.symm (head hx)
      · exact srcs_inj tail hx hy
theorem wkE_mem {x : Nat} {s : Option Nat} {o : O} : ∀ {L : Ent}, wkE h E Z L → (x, s, o) ∈ L → wkO h E Z s o
  | (y, s', o') :: l, hw, hm => by
    simp only [wkE] at hw
    rcases List.mem_cons.1 hm with hm | hm
    · simp only [Prod.mk.injEq] at hm
      obtain ⟨rfl, rfl, rfl⟩ := hm
      exact hw.1
    · exact wkE_mem hw.2 hm
theorem wkT_look {i : Nat} : ∀ {ts : List (Nat × A)}, wkT h E Z t ts → lookT ts i = .junk ∨ wkA h E Z (t i) (lookT ts i)
  | [], _ => .inl rfl
  | (j, a) :: l, hw => by
    simp only [wkT] at hw
    unfold lookT
    split
    · rename_i hb
      rw [Nat.eq_of_beq_eq_true hb]
      exact .inr hw.1
    · exact wkT_look hw.2
theorem offL_spec : ∀ {Z s : List Nat}, offL Z s = true → ∀ z ∈ Z, z ∉ s
  | [], _, _ => by simp
  | z :: l, s, h => by
    unfold offL at h
    split at h
    · cases h
    · rename_i hm
      intro y hy
      rcases List.mem_cons.1 hy with rfl | hy
      · exact memN_false hm
      · exact offL_spec h y hy

/-- A row seen as a shorter one. -/
theorem SimArr.take {id : Nat} {ty : TypeId} {own : Bool} {es : List (List D)} (h : SimArr P w M id ty own es) (m : Nat) : SimArr P w M id ty own (es.take m) := by
  unfold SimArr at h ⊢
  split at h
  · rename_i hm
    obtain ⟨rfl, h2⟩ := h
    exact ⟨by simp, h2⟩
  · rename_i b c hm
    obtain ⟨cs, vs, Bs, h1, h2, h3, h4, h5, h6, h7, h8⟩ := h
    refine ⟨cs, vs, Bs, ?_, h2, fun e he => h3 e (List.mem_of_mem_take he), h4, h5, h6, fun i j x hx => h7 i j x (at2_take hx).2, fun i j x i' j' x' hx hx' => h8 i j x i' j' x' (at2_take hx).2 (at2_take hx').2⟩
    rw [List.length_take]; omega

theorem wk_sim (hs : Sim P w M t h tm) {ts : List (Nat × A)} (hw : Wk t h E Z ts) : Sim P w (muWk M E Z) (lookT ts) (entH E) tm ∧ Step w M w (muWk M E Z) := by
  obtain ⟨⟨hd, hE⟩, hT⟩ := hw
  simp only [Bool.and_eq_true] at hd
  have hnd := distN_spec hd.1
  have hoff := offL_spec hd.2
  have src : ∀ x b, b ∈ (muWk M E Z).own x → ∃ i o, (x, some i, o) ∈ E ∧ b ∈ M.own i := by
    intro x b hb
    simp only [muWk, srcOf] at hb
    cases hl : lookE E x with
    | none => rw [hl] at hb; cases hb
    | some q =>
      obtain ⟨s, o⟩ := q
      rw [hl] at hb
      cases s with
      | none => cases hb
      | some i => exact ⟨i, o, lookE_mem hl, hb⟩
  refine ⟨⟨fun i => ?_, fun x => ?_, fun x y hxy b hb hb' => ?_, fun x b hb => ?_, fun b hb => ?_⟩, ⟨rfl, rfl, rfl, Nat.le_refl _, fun _ _ _ => rfl, fun b hb => .inl hb, fun b hb => ?_, fun x b hb => ?_⟩⟩
  · rcases wkT_look (i := i) hT with q | q
    · rw [q]; simp only [RepA]
    · exact wkA_rep hs q (hs.tm i)
  · unfold entH
    cases hl : lookE E x with
    | none => simp only [SimO, muWk, srcOf, hl, Option.map_none]
    | some q =>
      obtain ⟨s, o⟩ := q
      have hO := wkE_mem hE (lookE_mem hl)
      have hsrc : srcOf E x = some s := by simp [srcOf, hl]
      simp only
      cases s with
      | none =>
        cases o with
        | arr ty own es =>
          simp only [wkO] at hO
          subst hO
          simp only [SimO, SimArr, muWk, hsrc, and_self]
        | _ => simp [wkO] at hO
      | some i =>
        have ho := hs.ob i
        simp only [wkO] at hO
        have em := muWk_m (M := M) (Z := Z) hsrc
        have eo := muWk_own (M := M) (Z := Z) hsrc
        split at hO
        · rename_i ty cs ty' cs' hi
          obtain ⟨rfl, hl'⟩ := hO
          rw [hi] at ho
          simp only [SimO, em, eo] at ho ⊢
          obtain ⟨b, c, vs, q1, q2, q3, q4⟩ := ho
          exact ⟨b, c, vs, q1, q2, q3, wkL_rep hs hl' q4⟩
        · rename_i ty own es ty' own' es' hi
          obtain ⟨rfl, rfl, m, rfl⟩ := hO
          rw [hi] at ho
          have ho : SimO P w M i (.arr ty own (es.take m)) := SimArr.take ho m
          have := SimO.mono (M := M) (M' := ⟨upd M.m i ((muWk M E Z).m x), upd M.own i ((muWk M E Z).own x), (muWk M E Z).F⟩) ho (fun b hb => ⟨.inl hb, rfl⟩) (fun _ _ => rfl) (by simp only [upd_same]; exact em) (by simp only [upd_same]; exact eo) (by simp [refsO])
          simp only [SimO, SimArr, upd_same] at this ⊢
          exact this
        · rename_i es es' hi
          subst hO
          rw [hi] at ho
          have := SimO.mono (M := M) (M' := ⟨upd M.m i ((muWk M E Z).m x), upd M.own i ((muWk M E Z).own x), (muWk M E Z).F⟩) ho (fun b hb => ⟨.inl hb, rfl⟩) (fun _ _ => rfl) (by simp only [upd_same]; exact em) (by simp only [upd_same]; exact eo) (by simp [refsO])
          simp only [SimO, upd_same] at this ⊢
          exact this
        · exact hO.elim
  · obtain ⟨i, o, hi, hbi⟩ := src x b hb
    obtain ⟨j, o', hj, hbj⟩ := src y b hb'
    by_cases e : i = j
    · subst e; exact hxy (srcs_inj hnd hi hj)
    · exact hs.dis i j e b hbi hbj
  · obtain ⟨i, o, hi, hbi⟩ := src x b hb
    refine ⟨fun q => ?_, (hs.nf i b hbi).2⟩
    rcases q with q | ⟨z, hz, q⟩
    · exact (hs.nf i b hbi).1 q
    · have hne : i ≠ z := fun e => hoff z hz (e ▸ srcs_mem hi)
      exact hs.dis i z hne b hbi q
  · rcases hb with hb | ⟨z, hz, hb⟩
    · exact hs.fz b hb
    · exact (hs.nf z b hb).2
  · rcases hb with hb | ⟨z, _, hb⟩
    · exact .inl hb
    · exact .inr (.inl ⟨z, hb⟩)
  · obtain ⟨i, o, hi, hbi⟩ := src x b hb
    exact .inl ⟨i, hbi⟩
end
end Go.AX
