/- Loads, stores, new boxes. -/
import Derived.Test.YtfbphnkfddgihaaAxMem
namespace Go.AX
section
variable {P : Program} {w w' : World} {M : Mu} {t : Nat → A} {h : Heap} {tm : Array Value}

theorem RepX.one {B : List Nat} {v : Value} {x : D} (h : RepX w B v x) (hx : notSl x = true) {F : Nat → Prop} : Rep w F v x := by
  cases h with
  | int k n => exact .int k n
  | bool b => exact .bool b
  | str s => exact .str s
  | nil => cases hx
  | sl => cases hx
theorem cell_block {b o : Nat} {cs : Array Value} {e : TypeId} {fr : Nat × Nat} (hb : w.heap[b]? = some (.cells cs e fr)) : w.cell? ⟨b, o, none⟩ = cs[o]? := by simp [World.cell?, hb]

theorem rd_sound (hs : Sim P w M t h tm) {n : Nat} {a : A} {v : Value} {cs : List A} (hr : RepA w M a v) (hk : rd h n a = some cs) :
    ∃ (ad : Addr) (us : List Value), v = .pointer (some ad) ∧ us.length = n ∧ (∀ (j : Nat) (u : Value), us[j]? = some u → w.cell? (ad.add j) = some u) ∧ RepL w M cs us := by
  unfold rd at hk
  split at hk
  · rename_i id off
    split at hk
    · rename_i e bs hi
      split at hk
      · rename_i hl
        injection hk with hk; subst hk
        have ho := hs.ob id
        rw [hi] at ho
        simp only [SimO] at ho
        simp only [RepA] at hr
        obtain ⟨b, c, vs, h1, _, h3, h4⟩ := ho
        obtain ⟨b', c', h1', rfl⟩ := hr
        rw [h1] at h1'
        simp only [Option.some.injEq, Prod.mk.injEq] at h1'
        obtain ⟨rfl, rfl⟩ := h1'
        have hlen := h4.length
        refine ⟨_, (vs.toList.drop off).take n, rfl, by simp at hlen ⊢; omega, fun j u hu => ?_, (h4.drop off).take n⟩
        have hj : j < n := by
          rcases Nat.lt_or_ge j n with q | q
          · exact q
          · rw [List.getElem?_take_eq_none q] at hu; cases hu
        rw [List.getElem?_take_of_lt hj, List.getElem?_drop] at hu
        rw [addb, cell_block h3]
        simpa using hu
      · cases hk
    · cases hk
  · rename_i id i sz off
    split at hk
    · rename_i e own es hi
      split at hk
      · rename_i ecs hecs
        split at hk
        · rename_i hl
          injection hk with hk; subst hk
          have ho := hs.ob id
          rw [hi] at ho
          simp only [SimO, SimArr] at ho
          simp only [RepA] at hr
          obtain ⟨b, c, hm, rfl⟩ := hr
          rw [hm] at ho
          obtain ⟨cur, vs, Bs, h1, h2, h3, h4, h5, h6, h7, h8⟩ := ho
          have hsz : szT P e = sz := by rw [← h3 ecs (List.mem_of_getElem? hecs)]; exact hl.1
          have hat : ∀ j x, ecs[off + j]? = some x → at2 es i (off + j) = some x := by intro j x hx; simp [at2, hecs, hx]
          refine ⟨_, (List.range n).map fun j => vs i (off + j), rfl, by simp, fun j u hu => ?_, repL_of_get (by simp; omega) fun k a u ha hu => ?_⟩
          · have hj : j < n := by
              rcases Nat.lt_or_ge j n with q | q
              · exact q
              · simp [List.getElem?_eq_none (show (List.range n).length ≤ j by simpa using q)] at hu
            simp [List.getElem?_map, List.getElem?_range hj] at hu
            subst hu
            obtain ⟨x, hx⟩ : ∃ x, ecs[off + j]? = some x := ⟨_, List.getElem?_eq_getElem (by omega)⟩
            have := (h7 _ _ _ (hat j x hx)).1
            rw [addb, cell_block h4, ← this, hsz]
            congr 1; omega
          · have hkn : k < n := by
              rcases Nat.lt_or_ge k n with q | q
              · exact q
              · simp [List.getElem?_eq_none (show (List.range n).length ≤ k by simpa using q)] at hu
            simp [List.getElem?_map, List.getElem?_range hkn] at hu
            subst hu
            rw [List.getElem?_map, List.getElem?_take_of_lt hkn, List.getElem?_drop] at ha
            cases hx : ecs[off + k]? with
            | none => simp [hx] at ha
            | some x =>
              simp [hx] at ha
              subst ha
              simp only [RepA]
              have h9 := (h7 _ _ _ (hat k x hx)).2.1
              cases own with
              | false => exact h9.2
              | true =>
                refine RepX.one h9 ?_
                have := List.all_eq_true.1 (hl.2.2 rfl) x (by
                  refine List.mem_iff_getElem?.2 ⟨k, ?_⟩
                  rw [List.getElem?_take_of_lt hkn, List.getElem?_drop]; exact hx)
                exact this
        · cases hk
      · cases hk
    · rename_i es hi
      split at hk
      · rename_i ecs hecs
        split at hk
        · rename_i hl
          injection hk with hk; subst hk
          have ho := hs.ob id
          rw [hi] at ho
          simp only [SimO] at ho
          simp only [RepA] at hr
          obtain ⟨b, c, hm, rfl⟩ := hr
          rw [hm] at ho
          obtain ⟨_, h1, sz', vs, h3, h4⟩ := ho
          have hsz : sz' = sz := by rw [← h3 ecs (List.mem_of_getElem? hecs)]; exact hl.1
          subst hsz
          have hat : ∀ j x, ecs[off + j]? = some x → at2 es i (off + j) = some x := by intro j x hx; simp [at2, hecs, hx]
          refine ⟨_, (List.range n).map fun j => vs i (off + j), rfl, by simp, fun j u hu => ?_, repL_of_get (by simp; omega) fun k a u ha hu => ?_⟩
          · have hj : j < n := by
              rcases Nat.lt_or_ge j n with q | q
              · exact q
              · simp [List.getElem?_eq_none (show (List.range n).length ≤ j by simpa using q)] at hu
            simp [List.getElem?_map, List.getElem?_range hj] at hu
            subst hu
            obtain ⟨x, hx⟩ : ∃ x, ecs[off + j]? = some x := ⟨_, List.getElem?_eq_getElem (by omega)⟩
            have := (h4 _ _ _ (hat j x hx)).2.1
            rw [addb, ← this]
            congr 2; omega
          · have hkn : k < n := by
              rcases Nat.lt_or_ge k n with q | q
              · exact q
              · simp [List.getElem?_eq_none (show (List.range n).length ≤ k by simpa using q)] at hu
            simp [List.getElem?_map, List.getElem?_range hkn] at hu
            subst hu
            rw [List.getElem?_map, List.getElem?_take_of_lt hkn, List.getElem?_drop] at ha
            cases hx : ecs[off + k]? with
            | none => simp [hx] at ha
            | some x =>
              simp [hx] at ha
              subst ha
              simp only [RepA]
              exact (h4 _ _ _ (hat k x hx)).2.2
        · cases hk
      · cases hk
    · cases hk
  · rename_i ds
    split at hk
    · rename_i hl
      injection hk with hk; subst hk
      simp only [RepA] at hr
      obtain ⟨ad, vs, rfl, hc⟩ := hr
      refine ⟨ad, (List.range n).map vs, rfl, by simp, fun j u hu => ?_, repL_of_get (by simp; omega) fun k a u ha hu => ?_⟩
      · have hj : j < n := by
          rcases Nat.lt_or_ge j n with q | q
          · exact q
          · simp [List.getElem?_eq_none (show (List.range n).length ≤ j by simpa using q)] at hu
        simp [List.getElem?_map, List.getElem?_range hj] at hu
        subst hu
        exact (hc j _ (List.getElem?_eq_getElem (by omega))).2.1
      · have hkn : k < n := by
          rcases Nat.lt_or_ge k n with q | q
          · exact q
          · simp [List.getElem?_eq_none (show (List.range n).length ≤ k by simpa using q)] at hu
        simp [List.getElem?_map, List.getElem?_range hkn] at hu
        subst hu
        rw [List.getElem?_map, List.getElem?_take_of_lt hkn] at ha
        cases hx : ds[k]? with
        | none => simp [hx] at ha
        | some x =>
          simp [hx] at ha
          subst ha
          simp only [RepA]
          exact (hc k _ hx).2.2
    · cases hk
  · cases hk

theorem add_zero' (ad : Addr) : ad.add 0 = ad := by simp [Addr.add]

theorem load_sound (hs : Sim P w M t h tm) {ty : TypeId} {a r : A} {v : Value} {hp : Heap} (hr : RepA w M a v) (hk : (match P.underlying ty with
    | some _ => match rd h (szT P ty) a with
      | some cs => if szT P ty = 0 then none else if aggT P ty = true then some (.agg cs, h) else (match cs with
        | [c] => some (c, h)
        | _ => none)
      | none => none
    | none => none : Out) = some (r, hp)) : hp = h ∧ ∃ z, (Instr.loadAt ty v).run P w = .ok z w ∧ RepA w M r z := by
  split at hk
  · rename_i d hu
    split at hk
    · rename_i cs hrd
      obtain ⟨ad, us, rfl, hl, hc, hL⟩ := rd_sound hs hr hrd
      split at hk
      · cases hk
      · rename_i hz
        split at hk
        · rename_i hag
          simp only [Option.some.injEq, Prod.mk.injEq] at hk
          obtain ⟨rfl, rfl⟩ := hk
          refine ⟨rfl, .agg us.toArray, ?_, by simp only [RepA]; exact ⟨us, rfl, hL⟩⟩
          unfold Instr.loadAt
          simp only [Instr.sureAddr, Sem.run_bind, Sem.run_pure, Result.andThen_ok]
          unfold loadVar
          simp only [Sem.run_bind, aggT_run hu, Result.andThen_ok, hag, if_true, run_sz hz, ← hl, run_loadCells_list w ad us hc, Sem.run_pure]
        · rename_i hag
          split at hk
          · rename_i c
            simp only [Option.some.injEq, Prod.mk.injEq] at hk
            obtain ⟨rfl, rfl⟩ := hk
            have h1 := hL.length
            match us, h1, hL, hc with
            | [u], _, hL, hc =>
              simp only [RepL] at hL
              refine ⟨rfl, u, ?_, hL.1⟩
              have := hc 0 u rfl
              rw [add_zero'] at this
              unfold Instr.loadAt
              simp only [Instr.sureAddr, Sem.run_bind, Sem.run_pure, Result.andThen_ok]
              unfold loadVar
              simp only [Sem.run_bind, aggT_run hu, Result.andThen_ok, hag, Bool.false_eq_true, if_false]
              simp [this]
          · cases hk
    · cases hk
  · cases hk

theorem leaf_one {a : A} {v : Value} (ha : leafOk a = true) (hr : RepA w M a v) : v.oneCell' = true := by
  cases a with
  | d x => simp only [RepA] at hr; cases hr <;> rfl
  | es => simp only [RepA] at hr; rw [hr]; rfl
  | os id n => simp only [RepA] at hr; split at hr
               · rw [hr.2]; rfl
               · rw [hr.2]; rfl
  | ptr id off => simp only [RepA] at hr; obtain ⟨_, _, _, rfl⟩ := hr; rfl
  | pe id i sz off => simp only [RepA] at hr; obtain ⟨_, _, _, rfl⟩ := hr; rfl
  | dp cs => simp only [RepA] at hr; obtain ⟨_, _, rfl, _⟩ := hr; rfl
  | fn f cap => simp only [RepA] at hr; obtain ⟨_, rfl, _⟩ := hr; rfl
  | agg cs => cases ha
  | tup cs => cases ha
  | undef => cases ha
  | junk => cases ha
theorem leafs_one {l : List A} {us : List Value} (ha : l.all leafOk = true) (hr : RepL w M l us) : ∀ u ∈ us, u.oneCell' = true := by
  intro u hu
  obtain ⟨k, hk⟩ := List.mem_iff_getElem?.1 hu
  have hlt := (List.getElem?_eq_some_iff.1 hk).1
  obtain ⟨u', hu', hru⟩ := hr.get (List.getElem?_eq_getElem (show k < l.length by rw [hr.length]; exact hlt))
  rw [hk] at hu'
  injection hu' with hu'
  subst hu'
  exact leaf_one (List.all_eq_true.1 ha _ (List.getElem_mem _)) hru

theorem setRow_other {g b : Nat} {cs : Array Value} (h : b ≠ g) : (w.setRow g cs).heap[b]? = w.heap[b]? := by
  simp only [World.setRow, Array.getElem?_modify]
  split
  · rename_i e; exact absurd e.symm h
  · rfl
theorem setRow_size {g : Nat} {cs : Array Value} : (w.setRow g cs).heap.size = w.heap.size := by simp [World.setRow]

/-- A box is written. -/
theorem store_box (hs : Sim P w M t h tm) {id off : Nat} {e : TypeId} {bs l : List A} {us : List Value} (hi : h id = .box e bs) (hl : off + l.length ≤ bs.length) (hr : RepL w M l us) {v : Value} (hv : RepA w M (.ptr id off) v) :
    ∃ g cur, v = .pointer (some ⟨g, off, none⟩) ∧ w.heap[g]? = some (.cells cur e (0, 0)) ∧ off + us.length ≤ cur.size ∧ g ∈ M.own id ∧
      Sim P (w.setRow g (putAt cur.toList off us).toArray) M t (upd h id (.box e (putAt bs off l))) tm := by
  have ho := hs.ob id
  rw [hi] at ho
  simp only [SimO] at ho
  simp only [RepA] at hv
  obtain ⟨b, c, vs, h1, h2, h3, h4⟩ := ho
  obtain ⟨b', c', h1', rfl⟩ := hv
  rw [h1] at h1'
  simp only [Option.some.injEq, Prod.mk.injEq] at h1'
  obtain ⟨rfl, rfl⟩ := h1'
  have hlen := h4.length
  have hlu := hr.length
  simp at hlen
  refine ⟨b, vs, rfl, h3, by omega, by rw [h2]; simp, ?_⟩
  obtain ⟨k1, k2⟩ := hs.kill id .dead (by simp [SimO, upd_same]) (by simp)
  have k3 : Sim P (w.setRow b (putAt vs.toList off us).toArray) ⟨M.m, upd M.own id [], M.F⟩ t (upd h id .dead) tm :=
    k1.world (fun b' hb' => setRow_other fun e => (k2 b (by rw [h2]; simp)).2.1 (by rw [← e]; exact hb')) (fun i b' hb' => setRow_other fun e => (k2 b (by rw [h2]; simp)).2.2 i (by rw [← e]; exact hb')) (by rw [setRow_size]; exact Nat.le_refl _)
  have k4 : Limbo (w.setRow b (putAt vs.toList off us).toArray) ⟨M.m, upd M.own id [], M.F⟩ (M.own id) := fun b' hb' => ⟨by rw [setRow_size]; exact (k2 b' hb').1, (k2 b' hb').2⟩
  have k5 := k3.setO (s := id) (mv := M.m id) (o := .box e (putAt bs off l)) (upd_same _ _ _) (.inr rfl) k4 (by
    simp only [SimO, upd_upd, upd_self, upd_same]
    refine ⟨b, c, (putAt vs.toList off us).toArray, h1, h2, setRow_heap w b vs _ e (0, 0) h3, ?_⟩
    refine RepL.mono (M := M) (M' := ⟨M.m, M.own, M.F⟩) (fun b' hb' => ⟨hb', setRow_other fun e => ?_⟩) (by simpa using h4.putAt hr off) fun _ _ => rfl
    exact (hs.nf id b (by rw [h2]; simp)).1 (by rw [← e]; exact hb'))
  simpa only [upd_upd, upd_self] using k5
end
end Go.AX
