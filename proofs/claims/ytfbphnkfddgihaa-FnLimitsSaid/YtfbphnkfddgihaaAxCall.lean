/- Calls. -/
import Derived.Test.YtfbphnkfddgihaaAxRun
namespace Go.AX
section
variable {P : Program} {w w' : World} {M : Mu} {t : Nat → A} {h : Heap} {tm : Array Value}

/-! ### what goes over -/
def Mv (h : Heap) (os : List (Nat × TypeId × Bool × List (List D))) : A → A → Prop
  | .os id n, a' => (∃ k t own es, h id = .arr t own es ∧ n ≤ es.length ∧ os[k]? = some (id, t, own, es) ∧ a' = .os (8 + k) n) ∨ (∃ es, h id = .frz es ∧ n ≤ es.length ∧ a' = .d (.sl (es.take n)))
  | .d x, a' => a' = .d x
  | .es, a' => a' = .es
  | .undef, a' => a' = .undef
  | .junk, a' => a' = .junk
  | _, _ => False
def MvL (h : Heap) (os : List (Nat × TypeId × Bool × List (List D))) : List A → List A → Prop
  | [], [] => True
  | a :: l, b :: m => Mv h os a b ∧ MvL h os l m
  | [], _ :: _ => False
  | _ :: _, [] => False
theorem moveL_sound : ∀ (l : List A) {k : Nat} {l' : List A} {m os : List (Nat × TypeId × Bool × List (List D))}, moveL h k l = some (l', m) → (∀ (i : Nat) x, m[i]? = some x → os[k + i]? = some x) →
    MvL h os l l' ∧ ∀ x ∈ m, h x.1 = .arr x.2.1 x.2.2.1 x.2.2.2
  | [], k, l', m, os, hk, ho => by
    simp only [moveL, Option.some.injEq, Prod.mk.injEq] at hk
    obtain ⟨rfl, rfl⟩ := hk
    exact ⟨trivial, by simp⟩
  | a :: l, k, l', m, os, hk, ho => by
    unfold moveL at hk
    split at hk
    · rename_i hq; cases hq
    · rename_i id n l0 heq
      simp only [List.cons.injEq] at heq
      obtain ⟨rfl, rfl⟩ := heq
      split at hk
      · rename_i ty own es hi
        split at hk
        · rename_i xs m' hm
          split at hk
          · rename_i hn
            simp only [Option.some.injEq, Prod.mk.injEq] at hk
            obtain ⟨rfl, rfl⟩ := hk
            obtain ⟨q1, q2⟩ := moveL_sound l (os := os) hm (fun i x hx => by
              have := ho (i + 1) x (by simpa using hx)
              rwa [← Nat.add_assoc, Nat.add_right_comm] at this)
            refine ⟨⟨.inl ⟨_, ty, own, es, hi, hn, by simpa using ho 0 _ rfl, rfl⟩, q1⟩, fun x hx => ?_⟩
            rcases List.mem_cons.1 hx with rfl | hx
            · exact hi
            · exact q2 x hx
          · cases hk
        · cases hk
      · rename_i es hi
        split at hk
        · rename_i xs m' hm
          split at hk
          · rename_i hn
            simp only [Option.some.injEq, Prod.mk.injEq] at hk
            obtain ⟨rfl, rfl⟩ := hk
            obtain ⟨q1, q2⟩ := moveL_sound l (os := os) hm ho
            exact ⟨⟨.inr ⟨es, hi, hn, rfl⟩, q1⟩, q2⟩
          · cases hk
        · cases hk
      · cases hk
    all_goals first
      | (rename_i l0 heq
         simp only [List.cons.injEq] at heq
         obtain ⟨rfl, rfl⟩ := heq
         split at hk
         · rename_i xs m' hm
           simp only [Option.some.injEq, Prod.mk.injEq] at hk
           obtain ⟨rfl, rfl⟩ := hk
           obtain ⟨q1, q2⟩ := moveL_sound l (os := os) hm ho
           exact ⟨⟨rfl, q1⟩, q2⟩
         · cases hk)
      | cases hk

/-- An argument as the callee has it. -/
def Ar (h : Heap) (p : Pass) : A → A → Prop
  | .ptr id off, x => off = 0 ∧ ∃ b t cs cs', h id = .box t cs ∧ p.bs[b]? = some (id, t, cs') ∧ MvL h p.os cs cs' ∧ x = .ptr (64 * b) 0
  | .agg l, x => ∃ l' b, deepL h l = some (l', b) ∧ (∀ i ∈ b, i ∈ p.br) ∧ x = .agg l'
  | a, x => ∃ b, deepA h a = some (x, b) ∧ ∀ i ∈ b, i ∈ p.br
def ArL (h : Heap) (p : Pass) : List A → List A → Prop
  | [], [] => True
  | a :: l, b :: m => Ar h p a b ∧ ArL h p l m
  | [], _ :: _ => False
  | _ :: _, [] => False
def Le (p q : Pass) : Prop := (∃ l, q.bs = p.bs ++ l) ∧ (∃ l, q.os = p.os ++ l) ∧ ∃ l, q.br = p.br ++ l
theorem Le.refl (p : Pass) : Le p p := ⟨⟨[], by simp⟩, ⟨[], by simp⟩, ⟨[], by simp⟩⟩
theorem Le.trans {p q r : Pass} (h : Le p q) (k : Le q r) : Le p r := by
  obtain ⟨⟨a, ha⟩, ⟨b, hb⟩, ⟨c, hc⟩⟩ := h
  obtain ⟨⟨a', ha'⟩, ⟨b', hb'⟩, ⟨c', hc'⟩⟩ := k
  exact ⟨⟨a ++ a', by rw [ha', ha, List.append_assoc]⟩, ⟨b ++ b', by rw [hb', hb, List.append_assoc]⟩, ⟨c ++ c', by rw [hc', hc, List.append_assoc]⟩⟩
def Good (h : Heap) (q p : Pass) : Prop := (∀ x ∈ p.bs, ∃ cs, h x.1 = .box x.2.1 cs ∧ MvL h q.os cs x.2.2) ∧ (∀ x ∈ p.os, h x.1 = .arr x.2.1 x.2.2.1 x.2.2.2) ∧ ∀ i ∈ p.br, ∃ ty own es, h i = .arr ty own es
theorem deepA_ids {a x : A} {b : List Nat} (hd : deepA h a = some (x, b)) : ∀ i ∈ b, ∃ ty own es, h i = .arr ty own es := by
  unfold deepA at hd
  split at hd <;> first
    | (simp only [Option.some.injEq, Prod.mk.injEq] at hd; obtain ⟨rfl, rfl⟩ := hd; intro i hi; simp at hi; done)
    | (split at hd
       · rename_i hi'
         split at hd
         · simp only [Option.some.injEq, Prod.mk.injEq] at hd
           obtain ⟨rfl, rfl⟩ := hd
           intro i hi
           simp only [List.mem_singleton] at hi
           subst hi
           exact ⟨_, _, _, hi'⟩
         · cases hd
       · split at hd
         · simp only [Option.some.injEq, Prod.mk.injEq] at hd
           obtain ⟨rfl, rfl⟩ := hd
           intro i hi
           simp at hi
         · cases hd
       · cases hd)
    | cases hd
theorem deepL_ids : ∀ {l l' : List A} {b : List Nat}, deepL h l = some (l', b) → ∀ i ∈ b, ∃ ty own es, h i = .arr ty own es
  | [], l', b, hd => by
    simp only [deepL, Option.some.injEq, Prod.mk.injEq] at hd
    obtain ⟨rfl, rfl⟩ := hd
    intro i hi; simp at hi
  | a :: l, l', b, hd => by
    simp only [deepL] at hd
    split at hd
    · rename_i x b1 hx
      split at hd
      · rename_i xs b2 hl
        simp only [Option.some.injEq, Prod.mk.injEq] at hd
        obtain ⟨rfl, rfl⟩ := hd
        intro i hi
        rcases List.mem_append.1 hi with hi | hi
        · exact deepA_ids hx i hi
        · exact deepL_ids hl i hi
      · cases hd
    · cases hd
theorem passA_sound {p p1 q : Pass} {a x : A} (hk : passA h p a = some (x, p1)) (hq : Le p1 q) (hg : Good h q p) : Le p p1 ∧ Good h q p1 ∧ Ar h q a x := by
  have deep : ∀ {a : A}, (∀ id off, a ≠ .ptr id off) → (∀ l, a ≠ .agg l) → (match deepA h a with
      | some (x, l) => some (x, (⟨p.bs, p.os, p.br ++ l⟩ : Pass))
      | none => none) = some (x, p1) → Le p p1 ∧ Good h q p1 ∧ Ar h q a x := by
    intro a h1 h2 hk
    split at hk
    · rename_i x' l hd
      simp only [Option.some.injEq, Prod.mk.injEq] at hk
      obtain ⟨rfl, rfl⟩ := hk
      refine ⟨⟨⟨[], by simp⟩, ⟨[], by simp⟩, ⟨l, rfl⟩⟩, ⟨hg.1, hg.2.1, fun i hi => by
        rcases List.mem_append.1 hi with hi | hi
        · exact hg.2.2 i hi
        · exact deepA_ids hd i hi⟩, ?_⟩
      obtain ⟨_, _, c, hc⟩ := hq
      have : ∀ i ∈ l, i ∈ q.br := fun i hi => by rw [hc]; simp [hi]
      cases a with
      | ptr id off => exact absurd rfl (h1 id off)
      | agg l' => exact absurd rfl (h2 l')
      | _ => exact ⟨l, hd, this⟩
    · cases hk
  unfold passA at hk
  split at hk
  · rename_i id
    split at hk
    · rename_i ty cs hi
      split at hk
      · rename_i cs' m hm
        simp only [Option.some.injEq, Prod.mk.injEq] at hk
        obtain ⟨rfl, rfl⟩ := hk
        obtain ⟨⟨b, hb⟩, ⟨o, ho⟩, _⟩ := hq
        simp only at hb ho
        obtain ⟨q1, q2⟩ := moveL_sound cs (os := q.os) hm (fun i x hx => by
          rw [ho, List.getElem?_append_left (by have := (List.getElem?_eq_some_iff.1 hx).1; simp; omega), List.getElem?_append_right (by omega)]
          simpa using hx)
        refine ⟨⟨⟨[(id, ty, cs')], rfl⟩, ⟨m, rfl⟩, ⟨[], by simp⟩⟩, ⟨fun x hx => ?_, fun x hx => ?_, hg.2.2⟩, rfl, p.bs.length, ty, cs, cs', hi, ?_, q1, rfl⟩
        · rcases List.mem_append.1 hx with hx | hx
          · exact hg.1 x hx
          · simp only [List.mem_singleton] at hx
            subst hx
            exact ⟨cs, hi, q1⟩
        · rcases List.mem_append.1 hx with hx | hx
          · exact hg.2.1 x hx
          · exact q2 x hx
        · rw [hb, List.getElem?_append_left (by simp), List.getElem?_append_right (by omega)]; simp
      · cases hk
    · cases hk
  · rename_i l
    split at hk
    · rename_i xs b hd
      simp only [Option.some.injEq, Prod.mk.injEq] at hk
      obtain ⟨rfl, rfl⟩ := hk
      obtain ⟨_, _, c, hc⟩ := hq
      exact ⟨⟨⟨[], by simp⟩, ⟨[], by simp⟩, ⟨b, rfl⟩⟩, ⟨hg.1, hg.2.1, fun i hi => by
        rcases List.mem_append.1 hi with hi | hi
        · exact hg.2.2 i hi
        · exact deepL_ids hd i hi⟩, xs, b, hd, fun i hi => by rw [hc]; simp [hi], rfl⟩
    · cases hk
  · cases hk
  · rename_i h1 h2 h3
    refine deep (fun id off e => ?_) (fun l e => h2 l e) hk
    cases off with
    | zero => exact h1 id e
    | succ n => exact h3 id n e
theorem passL_sound : ∀ (l : List A) {p p1 q : Pass} {xs : List A}, passL h p l = some (xs, p1) → Le p1 q → Good h q p → Le p p1 ∧ Good h q p1 ∧ ArL h q l xs
  | [], p, p1, q, xs, hk, hq, hg => by
    simp only [passL, Option.some.injEq, Prod.mk.injEq] at hk
    obtain ⟨rfl, rfl⟩ := hk
    exact ⟨Le.refl _, hg, trivial⟩
  | a :: l, p, p1, q, xs, hk, hq, hg => by
    simp only [passL] at hk
    split at hk
    · rename_i x p2 ha
      split at hk
      · rename_i ys p3 hl
        simp only [Option.some.injEq, Prod.mk.injEq] at hk
        obtain ⟨rfl, rfl⟩ := hk
        -- the list's part only grows
        have grow : ∀ (l : List A) {p p1 : Pass} {xs : List A}, passL h p l = some (xs, p1) → Le p p1 := by
          intro l
          induction l with
          | nil => intro p p1 xs hk; simp only [passL, Option.some.injEq, Prod.mk.injEq] at hk; rw [hk.2]; exact Le.refl _
          | cons a l ih =>
            intro p p1 xs hk
            simp only [passL] at hk
            split at hk
            · rename_i x p2 ha
              split at hk
              · rename_i ys p3 hl
                simp only [Option.some.injEq, Prod.mk.injEq] at hk
                obtain ⟨rfl, rfl⟩ := hk
                refine Le.trans ?_ (ih hl)
                unfold passA at ha
                split at ha
                · split at ha
                  · split at ha
                    · simp only [Option.some.injEq, Prod.mk.injEq] at ha
                      obtain ⟨_, rfl⟩ := ha
                      exact ⟨⟨_, rfl⟩, ⟨_, rfl⟩, ⟨[], by simp⟩⟩
                    · cases ha
                  · cases ha
                · split at ha
                  · simp only [Option.some.injEq, Prod.mk.injEq] at ha
                    obtain ⟨_, rfl⟩ := ha
                    exact ⟨⟨[], by simp⟩, ⟨[], by simp⟩, ⟨_, rfl⟩⟩
                  · cases ha
                · cases ha
                · split at ha
                  · simp only [Option.some.injEq, Prod.mk.injEq] at ha
                    obtain ⟨_, rfl⟩ := ha
                    exact ⟨⟨[], by simp⟩, ⟨[], by simp⟩, ⟨_, rfl⟩⟩
                  · cases ha
              · cases hk
            · cases hk
        obtain ⟨q1, q2, q3⟩ := passA_sound ha ((grow l hl).trans hq) hg
        obtain ⟨r1, r2, r3⟩ := passL_sound l hl hq q2
        exact ⟨q1.trans r1, r2, q3, r3⟩
      · cases hk
    · cases hk

/-! ### the callee's places -/
/-- The caller's object behind a callee's. -/
def cid (p : Pass) (id : Nat) : Option Nat :=
  if id % 64 = 0 then (p.bs.map (·.1))[id / 64]? else if 8 ≤ id ∧ id < 64 then (p.os.map (·.1))[id - 8]? else none
def muIn (M : Mu) (p : Pass) : Mu where
  m id := match cid p id with
    | some i => M.m i
    | none => none
  own id := match cid p id with
    | some i => M.own i
    | none => []
  F b := M.F b ∨ ∃ i ∈ p.br, b ∈ M.own i
theorem cid_box {p : Pass} {b : Nat} {x : Nat × TypeId × List A} (hx : p.bs[b]? = some x) : cid p (64 * b) = some x.1 := by
  have e1 : 64 * b % 64 = 0 := by omega
  have e2 : 64 * b / 64 = b := by omega
  simp [cid, e1, e2, hx]
theorem cid_row {p : Pass} {k : Nat} (hk : k < 56) {x : Nat × TypeId × Bool × List (List D)} (hx : p.os[k]? = some x) : cid p (8 + k) = some x.1 := by
  have e1 : ¬ (8 + k) % 64 = 0 := by omega
  have e2 : 8 ≤ 8 + k ∧ 8 + k < 64 := by omega
  have e3 : 8 + k - 8 = k := by omega
  simp only [cid, e1, if_false, e2, and_self, if_true, e3, List.getElem?_map, hx, Option.map_some]
theorem muIn_box {p : Pass} {b : Nat} {x : Nat × TypeId × List A} (hx : p.bs[b]? = some x) : (muIn M p).m (64 * b) = M.m x.1 ∧ (muIn M p).own (64 * b) = M.own x.1 := by
  simp [muIn, cid_box hx]
theorem muIn_row {p : Pass} {k : Nat} (hk : k < 56) {x : Nat × TypeId × Bool × List (List D)} (hx : p.os[k]? = some x) : (muIn M p).m (8 + k) = M.m x.1 ∧ (muIn M p).own (8 + k) = M.own x.1 := by
  simp [muIn, cid_row hk hx]
theorem distinct_inj : ∀ {l : List Nat}, distinct l = true → ∀ {i j : Nat} {a : Nat}, l[i]? = some a → l[j]? = some a → i = j
  | [], _, i, j, a, hi, _ => by simp at hi
  | x :: l, hd, i, j, a, hi, hj => by
    simp only [distinct, Bool.and_eq_true, Bool.not_eq_true', List.contains_eq_mem] at hd
    have hx : x ∉ l := by simpa using hd.1
    cases i with
    | zero =>
      cases j with
      | zero => rfl
      | succ j =>
        simp only [List.getElem?_cons_zero, Option.some.injEq, List.getElem?_cons_succ] at hi hj
        subst hi
        exact absurd (List.mem_of_getElem? hj) hx
    | succ i =>
      cases j with
      | zero =>
        simp only [List.getElem?_cons_zero, Option.some.injEq, List.getElem?_cons_succ] at hi hj
        subst hj
        exact absurd (List.mem_of_getElem? hi) hx
      | succ j =>
        simp only [List.getElem?_cons_succ] at hi hj
        rw [distinct_inj hd.2 hi hj]
theorem cid_pos {p : Pass} {id i : Nat} (h : cid p id = some i) : ∃ k, (p.bs.map (·.1) ++ p.os.map (·.1))[k]? = some i ∧ ((id = 64 * k ∧ k < p.bs.length) ∨ (p.bs.length ≤ k ∧ id = 8 + (k - p.bs.length) ∧ id < 64)) := by
  unfold cid at h
  split at h
  · have hlt := (List.getElem?_eq_some_iff.1 h).1
    refine ⟨id / 64, by rw [List.getElem?_append_left hlt]; exact h, .inl ⟨by omega, by simpa using hlt⟩⟩
  · split at h
    · refine ⟨p.bs.length + (id - 8), ?_, .inr ⟨by omega, by omega, by omega⟩⟩
      rw [List.getElem?_append_right (by simp)]
      simpa using h
    · cases h
theorem cid_inj {p : Pass} (hd : distinct (p.bs.map (·.1) ++ p.os.map (·.1)) = true) {i j a : Nat} (hi : cid p i = some a) (hj : cid p j = some a) : i = j := by
  obtain ⟨k, hk, hk'⟩ := cid_pos hi
  obtain ⟨l, hl, hl'⟩ := cid_pos hj
  have := distinct_inj hd hk hl
  subst this
  rcases hk' with hk' | hk' <;> rcases hl' with hl' | hl' <;> omega
theorem cid_mem {p : Pass} {id i : Nat} (h : cid p id = some i) : i ∈ p.bs.map (·.1) ++ p.os.map (·.1) := by
  obtain ⟨k, hk, _⟩ := cid_pos h
  exact List.mem_of_getElem? hk

theorem Mv.rep (hs : Sim P w M t h tm) {p : Pass} (hp : p.os.length ≤ 56) {a a' : A} {v : Value} (hm : Mv h p.os a a') (hr : RepA w M a v) : RepA w (muIn M p) a' v := by
  have hF : ∀ b, M.F b → (muIn M p).F b ∧ w.heap[b]? = w.heap[b]? := fun b hb => ⟨.inl hb, rfl⟩
  cases a with
  | os id n =>
    rcases hm with ⟨k, ty, own, es, hi, hn, ho, rfl⟩ | ⟨es, hi, hn, rfl⟩
    · have hk : k < 56 := by have := (List.getElem?_eq_some_iff.1 ho).1; omega
      simp only [RepA] at hr ⊢
      rw [(muIn_row hk ho).1]
      exact hr
    · simp only [RepA]
      exact (frz_out hs hi hn hr).mono hF
  | d x => rw [hm]; simp only [RepA] at hr ⊢; exact hr.mono hF
  | es => rw [hm]; simpa only [RepA] using hr
  | undef => rw [hm]; simpa only [RepA] using hr
  | junk => rw [hm]; simp only [RepA]
  | _ => exact hm.elim
theorem MvL.rep (hs : Sim P w M t h tm) {p : Pass} (hp : p.os.length ≤ 56) : ∀ {l l' : List A} {vs : List Value}, MvL h p.os l l' → RepL w M l vs → RepL w (muIn M p) l' vs
  | [], [], vs, _, hr => by cases vs <;> simp_all [RepL]
  | a :: l, b :: l', [], _, hr => by simp [RepL] at hr
  | a :: l, b :: l', v :: vs, hm, hr => by simp only [RepL] at hr ⊢; exact ⟨hm.1.rep hs hp hr.1, MvL.rep hs hp hm.2 hr.2⟩
  | [], _ :: _, _, hm, _ => hm.elim
  | _ :: _, [], _, hm, _ => hm.elim
theorem deepA_rep (hs : Sim P w M t h tm) {p : Pass} {a x : A} {b : List Nat} {v : Value} (hd : deepA h a = some (x, b)) (hb : ∀ i ∈ b, i ∈ p.br) (hr : RepA w M a v) : RepA w (muIn M p) x v := by
  have hF : ∀ b, M.F b → (muIn M p).F b ∧ w.heap[b]? = w.heap[b]? := fun b hb => ⟨.inl hb, rfl⟩
  unfold deepA at hd
  split at hd
  · simp only [Option.some.injEq, Prod.mk.injEq] at hd
    obtain ⟨rfl, rfl⟩ := hd
    simp only [RepA] at hr ⊢
    exact hr.mono hF
  · simp only [Option.some.injEq, Prod.mk.injEq] at hd
    obtain ⟨rfl, rfl⟩ := hd
    simp only [RepA] at hr ⊢
    subst hr
    exact .sl none 0 0 [] (fun _ _ => undef) (by simp) (by simp) (by simp [at2]) (by simp [at2])
  · rename_i id n
    split at hd
    · rename_i ty own es hi
      split at hd
      · rename_i hn
        simp only [Option.some.injEq, Prod.mk.injEq] at hd
        obtain ⟨rfl, rfl⟩ := hd
        obtain ⟨B, hB, hR, _⟩ := arr_out hs hi hn hr
        simp only [RepA]
        exact hR.mono fun b' hb' => ⟨hb'.elim .inl fun q => .inr ⟨id, hb id (by simp), hB b' q⟩, rfl⟩
      · cases hd
    · rename_i es hi
      split at hd
      · rename_i hn
        simp only [Option.some.injEq, Prod.mk.injEq] at hd
        obtain ⟨rfl, rfl⟩ := hd
        simp only [RepA]
        exact (frz_out hs hi hn hr).mono hF
      · cases hd
    · cases hd
  · simp only [Option.some.injEq, Prod.mk.injEq] at hd
    obtain ⟨rfl, rfl⟩ := hd
    exact RepA.mono (M := M) (M' := muIn M p) hF hr (by simp [refsA])
  · simp only [Option.some.injEq, Prod.mk.injEq] at hd
    obtain ⟨rfl, rfl⟩ := hd
    simpa only [RepA] using hr
  · simp only [Option.some.injEq, Prod.mk.injEq] at hd
    obtain ⟨rfl, rfl⟩ := hd
    simp only [RepA]
  · rename_i f
    simp only [Option.some.injEq, Prod.mk.injEq] at hd
    obtain ⟨rfl, rfl⟩ := hd
    exact RepA.mono (M := M) (M' := muIn M p) hF hr (by simp [refsA, refsL])
  · cases hd
theorem deepL_rep (hs : Sim P w M t h tm) {p : Pass} : ∀ {l l' : List A} {b : List Nat} {vs : List Value}, deepL h l = some (l', b) → (∀ i ∈ b, i ∈ p.br) → RepL w M l vs → RepL w (muIn M p) l' vs
  | [], l', b, vs, hd, hb, hr => by
    simp only [deepL, Option.some.injEq, Prod.mk.injEq] at hd
    obtain ⟨rfl, rfl⟩ := hd
    cases vs <;> simp_all [RepL]
  | a :: l, l', b, [], hd, hb, hr => by simp [RepL] at hr
  | a :: l, l', b, v :: vs, hd, hb, hr => by
    simp only [deepL] at hd
    split at hd
    · rename_i x b1 hx
      split at hd
      · rename_i xs b2 hl
        simp only [Option.some.injEq, Prod.mk.injEq] at hd
        obtain ⟨rfl, rfl⟩ := hd
        simp only [RepL] at hr ⊢
        exact ⟨deepA_rep hs hx (fun i hi => hb i (by simp [hi])) hr.1, deepL_rep hs hl (fun i hi => hb i (by simp [hi])) hr.2⟩
      · cases hd
    · cases hd
theorem Ar.rep (hs : Sim P w M t h tm) {p : Pass} {a x : A} {v : Value} (ha : Ar h p a x) (hr : RepA w M a v) : RepA w (muIn M p) x v := by
  cases a with
  | ptr id off =>
    obtain ⟨rfl, b, ty, cs, cs', hi, hb, _, rfl⟩ := ha
    simp only [RepA] at hr ⊢
    rw [(muIn_box hb).1]
    exact hr
  | agg l =>
    obtain ⟨l', b, hd, hb, rfl⟩ := ha
    simp only [RepA] at hr ⊢
    obtain ⟨vs, rfl, hl⟩ := hr
    exact ⟨vs, rfl, deepL_rep hs hd hb hl⟩
  | _ => obtain ⟨b, hd, hb⟩ := ha; exact deepA_rep hs hd hb hr
theorem ArL.rep (hs : Sim P w M t h tm) {p : Pass} : ∀ {l l' : List A} {vs : List Value}, ArL h p l l' → RepL w M l vs → RepL w (muIn M p) l' vs
  | [], [], vs, _, hr => by cases vs <;> simp_all [RepL]
  | a :: l, b :: l', [], _, hr => by simp [RepL] at hr
  | a :: l, b :: l', v :: vs, hm, hr => by simp only [RepL] at hr ⊢; exact ⟨hm.1.rep hs hr.1, ArL.rep hs hm.2 hr.2⟩
  | [], _ :: _, _, hm, _ => hm.elim
  | _ :: _, [], _, hm, _ => hm.elim

/-- What the callee is given. -/
theorem sim_in (hs : Sim P w M t h tm) {p : Pass} (hg : Good h p p) (hd : distinct (p.bs.map (·.1) ++ p.os.map (·.1)) = true) (hbr : ∀ i ∈ p.br, i ∉ p.bs.map (·.1) ++ p.os.map (·.1)) (hn : p.os.length ≤ 56) :
    Sim P w (muIn M p) (fun _ => .junk) (hpH p.hp) #[] := by
  have ownc : ∀ id b, b ∈ (muIn M p).own id → ∃ i, cid p id = some i ∧ b ∈ M.own i := by
    intro id b hb
    simp only [muIn] at hb
    cases hc : cid p id with
    | none => rw [hc] at hb; cases hb
    | some i => rw [hc] at hb; exact ⟨i, rfl, hb⟩
  have hF : ∀ b, M.F b → (muIn M p).F b ∧ w.heap[b]? = w.heap[b]? := fun b hb => ⟨.inl hb, rfl⟩
  refine ⟨fun i => by simp [RepA], fun id => ?_, fun i j hij b hb hb' => ?_, fun i b hb => ?_, fun b hb => ?_⟩
  · unfold hpH
    split
    · rename_i h0
      have hid : 64 * (id / 64) = id := by omega
      cases hb : p.bs[id / 64]? with
      | none =>
        simp only [Pass.hp, List.getElem?_map, hb, Option.map_none]
        simp only [SimO, muIn, cid, h0, if_true, List.getElem?_map, hb, Option.map_none]
      | some x =>
        obtain ⟨i, ty, cs'⟩ := x
        simp only [Pass.hp, List.getElem?_map, hb, Option.map_some]
        obtain ⟨cs, hi, hmv⟩ := hg.1 _ (List.mem_of_getElem? hb)
        have ho := hs.ob i
        simp only at hi hmv
        rw [hi] at ho
        simp only [SimO] at ho ⊢
        obtain ⟨b, c, vs, h1, h2, h3, h4⟩ := ho
        have hmi := muIn_box (M := M) hb
        rw [hid] at hmi
        exact ⟨b, c, vs, by rw [hmi.1, h1], by rw [hmi.2, h2], h3, hmv.rep hs hn h4⟩
    · rename_i h0
      split
      · rename_i h1
        have hid : 8 + (id - 8) = id := by omega
        cases hb : p.os[id - 8]? with
        | none =>
          simp only [Pass.hp, List.getElem?_map, hb, Option.map_none]
          simp only [SimO, muIn, cid, h0, if_false, h1, and_self, if_true, List.getElem?_map, hb, Option.map_none]
        | some x =>
          obtain ⟨i, ty, own, es⟩ := x
          simp only [Pass.hp, List.getElem?_map, hb, Option.map_some]
          have hi := hg.2.1 _ (List.mem_of_getElem? hb)
          simp only at hi
          have ho := hs.ob i
          rw [hi] at ho
          have hmi := muIn_row (M := M) (p := p) (k := id - 8) (by omega) hb
          rw [hid] at hmi
          have := SimO.mono (M := M) (M' := ⟨upd M.m i ((muIn M p).m id), upd M.own i ((muIn M p).own id), (muIn M p).F⟩) ho hF (fun _ _ => rfl) (by simp only [upd_same]; exact hmi.1) (by simp only [upd_same]; exact hmi.2) (by simp [refsO])
          simp only [SimO, SimArr, upd_same] at this ⊢
          exact this
      · rename_i h1
        simp only [SimO, muIn, cid, h0, if_false, h1, if_false]
  · obtain ⟨i', hi', hb1⟩ := ownc i b hb
    obtain ⟨j', hj', hb2⟩ := ownc j b hb'
    refine hs.dis i' j' (fun e => ?_) b hb1 hb2
    subst e
    exact hij (cid_inj hd hi' hj')
  · obtain ⟨i', hi', hb1⟩ := ownc i b hb
    refine ⟨fun hq => ?_, (hs.nf i' b hb1).2⟩
    rcases hq with hq | ⟨j, hj, hq⟩
    · exact (hs.nf i' b hb1).1 hq
    · refine hs.dis i' j (fun e => ?_) b hb1 hq
      subst e
      exact hbr i' hj (cid_mem hi')
  · rcases hb with hb | ⟨j, hj, hq⟩
    · exact hs.fz b hb
    · exact (hs.nf j b hq).2
end
end Go.AX
