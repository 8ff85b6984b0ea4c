/- The operations that read or write memory: the machine comes to what the abstract executor says. -/
import Derived.Test.YtfbphnkfddgihaaAxKeep
import Derived.Laws.CopyRow
namespace Go.AX
section
variable {P : Program} {w w' : World} {M : Mu} {t : Nat → A} {h : Heap} {tm : Array Value}

theorem at2_take {es : List (List D)} {n i j : Nat} {x : D} (q : at2 (es.take n) i j = some x) : i < n ∧ at2 es i j = some x := by
  have := at2_drop_take (es := es) (l := 0) (h := n) (i := i) (j := j) (by simpa using q)
  simpa using this
theorem Rep.scalar {F : Nat → Prop} {v : Value} {x : D} (hr : Rep w F v x) (hx : ∀ es, x ≠ .sl es) : RepX w [] v x := by
  cases hr with
  | int k n => exact .int k n
  | bool b => exact .bool b
  | str s => exact .str s
  | sl a c sz es => exact absurd rfl (hx es)

/-- An array's row, or the first part of it, on its way into another row. -/
theorem arr_out (hs : Sim P w M t h tm) {id n : Nat} {u : Value} {e : TypeId} {own : Bool} {es : List (List D)} (hi : h id = .arr e own es) (hn : n ≤ es.length) (hr : RepA w M (.os id n) u) :
    ∃ B, (∀ b ∈ B, b ∈ M.own id) ∧ Rep w (fun b => M.F b ∨ b ∈ B) u (.sl (es.take n)) ∧ (own = true → RepX w B u (.sl (es.take n))) := by
  have ho := hs.ob id
  rw [hi] at ho
  simp only [SimO, SimArr] at ho
  simp only [RepA] at hr
  cases hm : M.m id with
  | none =>
    rw [hm] at ho hr
    obtain ⟨rfl, _⟩ := ho
    obtain ⟨rfl, rfl⟩ := hr
    have : RepX w [] (.slice none 0 0) (.sl (List.take 0 ([] : List (List D)))) := .nil none 0
    exact ⟨[], by simp, this.rep (by simp), fun _ => this⟩
  | some bc =>
    obtain ⟨b, c⟩ := bc
    rw [hm] at ho hr
    obtain ⟨hnc, rfl⟩ := hr
    obtain ⟨cs, vs, Bs, h1, h2, h3, h4, h5, h6, h7, h8⟩ := ho
    have hlen : (es.take n).length = n := by simp; omega
    have hsz' : ∀ e' ∈ es.take n, e'.length = szT P e := fun e' he' => h3 e' (List.mem_of_mem_take he')
    cases own with
    | true =>
      have hX : RepX w (M.own id) (.slice (some ⟨b, 0, none⟩) n c) (.sl (es.take n)) := by
        have := RepX.sl (w := w) b c (szT P e) (es.take n) cs e vs Bs h4 (by omega) hsz' (fun i j x hx => (h7 i j x (at2_take hx).2).1) (fun i j x hx => (h7 i j x (at2_take hx).2).2.1)
          (M.own id) h6 (fun i j x hx => (h7 i j x (at2_take hx).2).2.2) (fun i j x i' j' x' hx hx' => h8 i j x i' j' x' (at2_take hx).2 (at2_take hx').2)
        rwa [hlen] at this
      exact ⟨_, fun _ h => h, hX.rep fun b' hb' => .inr hb', fun _ => hX⟩
    | false =>
      refine ⟨[b], by simpa using h6, ?_, fun hq => by cases hq⟩
      have := Rep.sl (w := w) (F := fun b' => M.F b' ∨ b' ∈ [b]) (some ⟨b, 0, none⟩) c (szT P e) (es.take n) vs (by omega) hsz' (fun i j x hx => ⟨_, rfl, .inr (by simp), by
        rw [add0]; simp [World.cell?, h4, (h7 i j x (at2_take hx).2).1]⟩) (fun i j x hx => ((h7 i j x (at2_take hx).2).2.1.2).mono fun b' hb' => ⟨.inl hb', rfl⟩)
      rwa [hlen] at this
theorem frz_out (hs : Sim P w M t h tm) {id n : Nat} {u : Value} {es : List (List D)} (hi : h id = .frz es) (hn : n ≤ es.length) (hr : RepA w M (.os id n) u) : Rep w M.F u (.sl (es.take n)) := by
  have ho := hs.ob id
  rw [hi] at ho
  simp only [SimO] at ho
  simp only [RepA] at hr
  obtain ⟨_, ho⟩ := ho
  have hlen : (es.take n).length = n := by simp; omega
  cases hm : M.m id with
  | none =>
    rw [hm] at ho hr
    subst ho
    obtain ⟨rfl, rfl⟩ := hr
    exact .sl none 0 0 [] (fun _ _ => undef) (by simp) (by simp) (by simp [at2]) (by simp [at2])
  | some bc =>
    obtain ⟨b, c⟩ := bc
    rw [hm] at ho hr
    obtain ⟨hnc, rfl⟩ := hr
    obtain ⟨h1, sz, vs, h3, h4⟩ := ho
    have := Rep.sl (w := w) (F := M.F) (some ⟨b, 0, none⟩) c sz (es.take n) vs (by omega) (fun e' he' => h3 e' (List.mem_of_mem_take he')) (fun i j x hx => ⟨_, rfl, (h4 i j x (at2_take hx).2).1, by
      rw [add0]; exact (h4 i j x (at2_take hx).2).2.1⟩) (fun i j x hx => (h4 i j x (at2_take hx).2).2.2)
    rwa [hlen] at this

/-- What the sink says of one cell. -/
theorem sink_sound : ∀ (l : List A) {us : List Value} {h h1 : Heap} {xs : List D} {o : Bool} {M : Mu}, Sim P w M t h tm → RepL w M l us → sink h l = some (xs, o, h1) →
    ∃ (own1 : Nat → List Nat) (Bl : List (List Nat)), Sim P w ⟨M.m, own1, M.F⟩ t h1 tm ∧ Limbo w ⟨M.m, own1, M.F⟩ Bl.flatten ∧ Bl.length = xs.length ∧ xs.length = us.length ∧
      (∀ (k : Nat) (x : D) (u : Value) (B : List Nat), xs[k]? = some x → us[k]? = some u → Bl[k]? = some B → Rep w (fun b => M.F b ∨ b ∈ B) u x ∧ (o = true → RepX w B u x)) ∧ (∀ (k k' : Nat) (B B' : List Nat), k ≠ k' → Bl[k]? = some B → Bl[k']? = some B' → ∀ b ∈ B, b ∉ B') ∧
      (∀ b ∈ Bl.flatten, ∃ id, b ∈ M.own id) ∧ (∀ id, (own1 id = M.own id ∧ h1 id = h id) ∨ (own1 id = [] ∧ h1 id = .dead))
  | [], us, h, h1, xs, o, M, hs, hr, hk => by
    simp only [sink, Option.some.injEq, Prod.mk.injEq] at hk
    obtain ⟨rfl, rfl, rfl⟩ := hk
    have hl := hr.length
    exact ⟨M.own, [], hs, by simp [Limbo], rfl, by simpa using hl, by simp, by simp, by simp, fun id => .inl ⟨rfl, rfl⟩⟩
  | a :: l, us, h, h1, xs, o, M, hs, hr, hk => by
    cases us with
    | nil => simp [RepL] at hr
    | cons u us =>
    simp only [RepL] at hr
    obtain ⟨ha, hr⟩ := hr
    simp only [sink] at hk
    split at hk
    · rename_i x o1 h' hx
      split at hk
      · rename_i xs' o2 h2 hk'
        simp only [Option.some.injEq, Prod.mk.injEq] at hk
        obtain ⟨rfl, rfl, rfl⟩ := hk
        have one : ∃ (own' : Nat → List Nat) (B : List Nat), Sim P w ⟨M.m, own', M.F⟩ t h' tm ∧ Limbo w ⟨M.m, own', M.F⟩ B ∧ Rep w (fun b => M.F b ∨ b ∈ B) u x ∧ (o1 = true → RepX w B u x) ∧
            (∀ b ∈ B, ∃ id, b ∈ M.own id) ∧ (∀ id, (own' id = M.own id ∧ h' id = h id) ∨ (own' id = [] ∧ h' id = .dead)) := by
          split at hx
          · simp only [Option.some.injEq, Prod.mk.injEq] at hx
            obtain ⟨rfl, rfl, rfl⟩ := hx
            simp only [RepA] at ha
            exact ⟨M.own, [], hs, by simp [Limbo], ha.mono fun b hb => ⟨.inl hb, rfl⟩, by simp, by simp, fun id => .inl ⟨rfl, rfl⟩⟩
          · rename_i hne
            simp only [Option.some.injEq, Prod.mk.injEq] at hx
            obtain ⟨rfl, rfl, rfl⟩ := hx
            simp only [RepA] at ha
            exact ⟨M.own, [], hs, by simp [Limbo], ha.mono fun b hb => ⟨.inl hb, rfl⟩, fun _ => ha.scalar fun es he => hne es (by rw [he]), by simp, fun id => .inl ⟨rfl, rfl⟩⟩
          · simp only [Option.some.injEq, Prod.mk.injEq] at hx
            obtain ⟨rfl, rfl, rfl⟩ := hx
            simp only [RepA] at ha
            subst ha
            have hX : RepX w [] (.slice none 0 0) (.sl []) := .nil none 0
            exact ⟨M.own, [], hs, by simp [Limbo], hX.rep (by simp), fun _ => hX, by simp, fun id => .inl ⟨rfl, rfl⟩⟩
          · rename_i id n
            split at hx
            · rename_i e own es hi
              split at hx
              · rename_i hn
                simp only [Option.some.injEq, Prod.mk.injEq] at hx
                obtain ⟨rfl, rfl, rfl⟩ := hx
                obtain ⟨B, hB, hR, hX⟩ := arr_out hs hi hn ha
                obtain ⟨k1, k2⟩ := hs.kill id .dead (by simp [SimO, upd_same]) (by simp)
                refine ⟨_, B, k1, k2.sub hB, hR, hX, fun b hb => ⟨id, hB b hb⟩, fun i => ?_⟩
                by_cases hid : i = id
                · subst hid; exact .inr ⟨upd_same _ _ _, upd_same _ _ _⟩
                · exact .inl ⟨upd_ne _ _ hid, upd_ne _ _ hid⟩
              · cases hx
            · rename_i es hi
              split at hx
              · rename_i hn
                simp only [Option.some.injEq, Prod.mk.injEq] at hx
                obtain ⟨rfl, rfl, rfl⟩ := hx
                exact ⟨M.own, [], hs, by simp [Limbo], (frz_out hs hi hn ha).mono fun b hb => ⟨.inl hb, rfl⟩, by simp, by simp, fun id => .inl ⟨rfl, rfl⟩⟩
              · cases hx
            · cases hx
          · cases hx
        obtain ⟨own', B, s1, l1, R1, X1, O1, D1⟩ := one
        have hr' : RepL w ⟨M.m, own', M.F⟩ l us := RepL.mono (M := M) (M' := ⟨M.m, own', M.F⟩) (fun b hb => ⟨hb, rfl⟩) hr fun _ _ => rfl
        obtain ⟨own2, Bl, s2, l2, n1, n2, R2, E2, O2, D2⟩ := sink_sound l s1 hr' hk'
        have disj : ∀ b ∈ B, b ∉ Bl.flatten := by
          intro b hb hb'
          obtain ⟨id, hid⟩ := O2 b hb'
          exact (l1 b hb).2.2 id hid
        refine ⟨own2, B :: Bl, s2, fun b hb => ?_, by simp [n1], by simp [n2], fun k y v C hy hv hC => ?_, fun k k' C C' hkk hC hC' b hb hb' => ?_, fun b hb => ?_, fun id => ?_⟩
        · rw [List.flatten_cons, List.mem_append] at hb
          rcases hb with hb | hb
          · refine ⟨(l1 b hb).1, (l1 b hb).2.1, fun id hid => ?_⟩
            rcases D2 id with ⟨q, _⟩ | ⟨q, _⟩
            · exact (l1 b hb).2.2 id (by rw [← q]; exact hid)
            · simp only at hid; rw [q] at hid; cases hid
          · exact l2 b hb
        · cases k with
          | zero =>
            simp only [List.getElem?_cons_zero, Option.some.injEq] at hy hv hC
            subst hy; subst hv; subst hC
            exact ⟨R1, fun hq => X1 (by revert hq; cases o1 <;> simp)⟩
          | succ k =>
            simp only [List.getElem?_cons_succ] at hy hv hC
            obtain ⟨q1, q2⟩ := R2 k y v C hy hv hC
            exact ⟨q1, fun hq => q2 (by revert hq; cases o1 <;> simp)⟩
        · cases k with
          | zero =>
            cases k' with
            | zero => exact hkk rfl
            | succ k' =>
              simp only [List.getElem?_cons_zero, List.getElem?_cons_succ, Option.some.injEq] at hC hC'
              subst hC
              exact disj b hb (List.mem_flatten.2 ⟨C', List.mem_of_getElem? hC', hb'⟩)
          | succ k =>
            cases k' with
            | zero =>
              simp only [List.getElem?_cons_zero, List.getElem?_cons_succ, Option.some.injEq] at hC hC'
              subst hC'
              exact disj b hb' (List.mem_flatten.2 ⟨C, List.mem_of_getElem? hC, hb⟩)
            | succ k' =>
              simp only [List.getElem?_cons_succ] at hC hC'
              exact E2 k k' C C' (fun e => hkk (by rw [e])) hC hC' b hb hb'
        · rw [List.flatten_cons, List.mem_append] at hb
          rcases hb with hb | hb
          · exact O1 b hb
          · obtain ⟨id, hid⟩ := O2 b hb
            rcases D1 id with ⟨q, _⟩ | ⟨q, _⟩
            · exact ⟨id, by rw [← q]; exact hid⟩
            · simp only at hid; rw [q] at hid; cases hid
        · rcases D2 id with ⟨q, q'⟩ | q
          · rcases D1 id with ⟨r, r'⟩ | ⟨r, r'⟩
            · exact .inl ⟨q.trans r, q'.trans r'⟩
            · exact .inr ⟨q.trans r, q'.trans r'⟩
          · exact .inr q
      · cases hk
    · cases hk
end
end Go.AX
