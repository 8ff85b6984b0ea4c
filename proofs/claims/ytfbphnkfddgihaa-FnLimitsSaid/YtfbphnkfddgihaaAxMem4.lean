/- Stores as a whole; new boxes; literals; make. -/
import Derived.Test.YtfbphnkfddgihaaAxMem3
namespace Go.AX
section
variable {P : Program} {w w' : World} {M : Mu} {t : Nat → A} {h : Heap} {tm : Array Value}

theorem storeAt_run {ty : TypeId} {g off : Nat} {cur : Array Value} {e : TypeId} {v : Value} (hg : w.heap[g]? = some (.cells cur e (0, 0))) (hz : szT P ty ≠ 0) (hl : v.cells.toList.length = szT P ty) (hb : off + v.cells.toList.length ≤ cur.size) (h1 : ∀ u ∈ v.cells.toList, u.oneCell' = true) :
    (Instr.storeAt ty (.pointer (some ⟨g, off, none⟩)) v).run P w = .ok () (w.setRow g (putAt cur.toList off v.cells.toList).toArray) := by
  unfold Instr.storeAt
  simp only [Instr.sureAddr, Sem.run_bind, Sem.run_pure, Result.andThen_ok]
  unfold storeVar
  simp only [Sem.run_bind, run_sz hz, Result.andThen_ok]
  rw [if_neg (by simpa using hl)]
  have := run_storeCells_at (P := P) g off e v.cells.toList 0 cur w hg (by omega) h1
  simpa [putAt] using this

theorem store_sound (hs : Sim P w M t h tm) {ty : TypeId} {x a r : A} {v u : Value} {h' : Heap} (hx : RepA w M x u) (ha : RepA w M a v)
    (hk : (match leafs x with
    | some l => if l.length = szT P ty ∧ szT P ty ≠ 0 ∧ l.all leafOk = true then
        (match wr h l a with
        | some h' => some (A.undef, h')
        | none => none) else none
    | none => none : Out) = some (r, h')) :
    r = .undef ∧ ∃ w' M', (Instr.storeAt ty v u).run P w = .ok () w' ∧ Sim P w' M' t h' tm ∧ Step w M w' M' ∧ M'.m = M.m := by
  split at hk
  · rename_i l hl
    split at hk
    · rename_i hq
      obtain ⟨q1, q2, q3⟩ := hq
      have hL := leafs_sound hl hx
      have hlen := hL.length
      have h1 := leafs_one q3 hL
      split at hk
      · rename_i h'' hw
        simp only [Option.some.injEq, Prod.mk.injEq] at hk
        obtain ⟨rfl, rfl⟩ := hk
        refine ⟨rfl, ?_⟩
        unfold wr at hw
        split at hw
        · rename_i id off
          split at hw
          · rename_i e bs hi
            split at hw
            · rename_i hb
              injection hw with hw; subst hw
              obtain ⟨g, cur, rfl, hg, hb', hm, k⟩ := store_box hs hi hb hL ha
              exact ⟨_, M, storeAt_run hg q2 (by omega) hb' h1, k, ⟨rfl, rfl, rfl, by rw [setRow_size]; exact Nat.le_refl _, fun b _ hn => setRow_other fun e => hn id (by rw [e]; exact hm), fun b hb => hb, fun b hb => .inl hb, fun i b hb => .inl ⟨i, hb⟩⟩, rfl⟩
            · cases hw
          · cases hw
        · rename_i id i sz off
          split at hw
          · rename_i xs o h1' hk'
            split at hw
            · rename_i e own es hi
              split at hw
              · rename_i cs hc
                split at hw
                · rename_i hb
                  injection hw with hw; subst hw
                  obtain ⟨g, cur, M', rfl, hg, hb', hm, k, st, mm⟩ := store_arr hs hL hk' hi hc hb.1 hb.2 ha
                  exact ⟨_, M', storeAt_run hg q2 (by omega) hb' h1, k, st, mm⟩
                · cases hw
              · cases hw
            · cases hw
          · cases hw
        · cases hw
      · cases hk
    · cases hk
  · cases hk

theorem alloc_heap (o : Obj) : (w.alloc o).heap = w.heap.push o := rfl
theorem alloc_old {o : Obj} {b : Nat} (hb : b < w.heap.size) : (w.alloc o).heap[b]? = w.heap[b]? := by
  rw [alloc_heap, Array.getElem?_push, if_neg (by omega)]
theorem alloc_new {o : Obj} : (w.alloc o).heap[w.heap.size]? = some o := by
  rw [alloc_heap, Array.getElem?_push, if_pos rfl]
theorem alloc_size {o : Obj} : (w.alloc o).heap.size = w.heap.size + 1 := by rw [alloc_heap]; simp

/-- A new box. -/
theorem new_box (hs : Sim P w M t h tm) {s : Nat} (hown : M.own s = []) (hn : NoRef s t h) {l : List A} {us : List Value} (hr : RepL w M l us) (hl : s ∉ refsL l) (e : TypeId) :
    ∃ M', Sim P (w.alloc (.cells us.toArray e)) M' t (upd h s (.box e l)) tm ∧ RepA (w.alloc (.cells us.toArray e)) M' (.ptr s 0) (.pointer (some ⟨w.heap.size, 0, none⟩)) ∧ Step w M (w.alloc (.cells us.toArray e)) M' ∧ M'.m = upd M.m s (some (w.heap.size, 0)) := by
  obtain ⟨k1, k2⟩ := hs.alloc (.cells us.toArray e)
  refine ⟨⟨upd M.m s (some (w.heap.size, 0)), upd M.own s [w.heap.size], M.F⟩, k1.setO (L := [w.heap.size]) hown (.inl hn) k2 ?_, ?_, ?_, rfl⟩
  · simp only [SimO, upd_same]
    refine ⟨_, 0, us.toArray, rfl, rfl, alloc_new, ?_⟩
    exact RepL.mono (M := M) (M' := ⟨upd M.m s (some (w.heap.size, 0)), upd M.own s [w.heap.size], M.F⟩) (fun b hb => ⟨hb, alloc_old (hs.fz b hb)⟩) hr fun k hk => upd_ne _ _ fun e => hl (by rw [← e]; exact hk)
  · simp only [RepA, upd_same]
    exact ⟨_, _, rfl, rfl⟩
  · refine ⟨rfl, rfl, rfl, by rw [alloc_size]; omega, fun b hb _ => alloc_old hb, fun b hb => hb, fun b hb => .inl hb, fun i b hb => ?_⟩
    simp only at hb
    by_cases hi : i = s
    · subst hi; rw [upd_same] at hb; simp at hb; exact .inr (by omega)
    · rw [upd_ne _ _ hi] at hb; exact .inl ⟨i, hb⟩
theorem box_run (e : TypeId) (v : Value) : (Instr.box e v).run P w = .ok (.pointer (some ⟨w.heap.size, 0, none⟩)) (w.alloc (.cells v.cells e)) := rfl
theorem zeroT_run {ty : TypeId} {z : List A} (hz : zeroT P ty = some z) : ∃ v, (zeroValue ty).run P w = .ok v w ∧ RepL w M z v.cells.toList := by
  unfold zeroT at hz
  cases hi : P.info? ty with
  | none => simp [hi] at hz
  | some i =>
    cases hv : i.zero with
    | none => simp [hi, hv] at hz
    | some v =>
      simp [hi, hv] at hz
      refine ⟨v, by simp [zeroValue, typeInfo, hi, hv], ?_⟩
      subst hz
      have := repL_map (w := w) (M := M) (xs := v.cells.toList) (f := ofLeaf) (g := id) fun x _ => ofLeaf_rep x
      simpa using this
theorem refs_ofLeaf (v : Value) : refsA (ofLeaf v) = [] := by unfold ofLeaf; split <;> simp [refsA]
theorem refs_map_ofLeaf (l : List Value) : refsL (l.map ofLeaf) = [] := by
  induction l with
  | nil => rfl
  | cons v l ih => simp [refsL, refs_ofLeaf, ih]
theorem refs_zeroT {ty : TypeId} {z : List A} (hz : zeroT P ty = some z) : refsL z = [] := by
  unfold zeroT at hz
  cases hi : (P.info? ty).bind (·.zero) with
  | none => simp [hi] at hz
  | some v => simp [hi] at hz; rw [← hz]; simpa using refs_map_ofLeaf v.cells.toList
theorem alloc_run {ty : TypeId} {v : Value} (hz : (zeroValue ty).run P w = .ok v w) : (Instr.alloc ty true (.tuple #[])).run P w = .ok (.pointer (some ⟨w.heap.size, 0, none⟩)) (w.alloc (.cells v.cells ty)) := by
  unfold Instr.alloc
  simp only [Sem.run_bind, hz, Result.andThen_ok]
  rfl

/-! ### literals of slices -/
theorem at2_chunk {n sz : Nat} {xs : List D} {i j : Nat} {x : D} (hq : at2 (chunk n sz xs) i j = some x) : i < n ∧ j < sz ∧ xs[i * sz + j]? = some x := by
  unfold at2 chunk at hq
  rw [List.getElem?_map] at hq
  by_cases hi : i < n
  · rw [List.getElem?_range hi] at hq
    simp only [Option.map_some, Option.bind_some] at hq
    by_cases hj : j < sz
    · rw [List.getElem?_take_of_lt hj, List.getElem?_drop] at hq
      exact ⟨hi, hj, hq⟩
    · rw [List.getElem?_take_eq_none (by omega)] at hq; cases hq
  · rw [List.getElem?_eq_none (by simpa using hi)] at hq; simp at hq
theorem chunk_len {n sz : Nat} {xs : List D} (hl : xs.length = n * sz) : (chunk n sz xs).length = n ∧ ∀ e ∈ chunk n sz xs, e.length = sz := by
  refine ⟨by simp [chunk], fun e he => ?_⟩
  simp only [chunk, List.mem_map, List.mem_range] at he
  obtain ⟨i, hi, rfl⟩ := he
  simp only [List.length_take, List.length_drop, hl]
  have : (i + 1) * sz ≤ n * sz := Nat.mul_le_mul_right _ hi
  rw [Nat.succ_mul] at this
  omega
open Instr in
theorem fill_lit {sz : Nat} : ∀ (parts : List (Nat × A)) {ps : List (Nat × Value)} {k : Nat} {l : List A} {cs : Array Value}, litL sz k parts = some l → RepP w M parts ps → cs.size = (k + parts.length) * sz →
    ∃ (cs' : Array Value) (us : List Value), fill (fun i => some (i * sz, sz)) cs ps = some cs' ∧ cs'.toList = cs.toList.take (k * sz) ++ us ∧ RepL w M l us ∧ us.length = parts.length * sz
  | [], ps, k, l, cs, hl, hp, hc => by
    cases ps with
    | cons p ps => simp [RepP] at hp
    | nil =>
      simp only [litL, Option.some.injEq] at hl
      subst hl
      refine ⟨cs, [], rfl, ?_, by simp [RepL], by simp⟩
      rw [List.take_of_length_le (by simp at hc ⊢; omega)]; simp
  | (i, a) :: parts, ps, k, l, cs, hl, hp, hc => by
    cases ps with
    | nil => simp [RepP] at hp
    | cons p ps =>
      obtain ⟨i', v⟩ := p
      simp only [RepP] at hp
      obtain ⟨rfl, ha, hp⟩ := hp
      simp only [litL] at hl
      split at hl
      · rename_i l0 hl0
        split at hl
        · rename_i hq
          obtain ⟨rfl, hsz⟩ := hq
          split at hl
          · rename_i l' hl'
            injection hl with hl
            subst hl
            have hL := leafs_sound hl0 ha
            have hlen := hL.length
            simp only [List.length_cons] at hc
            have hsz2 : v.cells.size = sz := by simp at hlen; omega
            have hbig : i * sz + sz ≤ cs.size := by
              rw [hc, ← Nat.succ_mul]
              exact Nat.mul_le_mul_right _ (by omega)
            have hf := fold_put v.cells.toList (i * sz) 0 cs (by simp; omega)
            let cs1 := v.cells.zipIdx.foldl (fun cs (c, j) => cs.setIfInBounds (i * sz + j) c) cs
            have hcs1 : cs1.toList = putAt cs.toList (i * sz) v.cells.toList := by
              rw [show cs1 = v.cells.zipIdx.foldl (fun cs (c, j) => cs.setIfInBounds (i * sz + j) c) cs from rfl, ← Array.foldl_toList, Array.toList_zipIdx]
              exact hf
            have hcz : cs1.size = cs.size := by
              have := congrArg List.length hcs1
              simp [putAt] at this
              omega
            obtain ⟨cs', us, h1, h2, h3, h4⟩ := fill_lit parts (k := i + 1) (cs := cs1) hl' hp (by rw [hcz, hc]; congr 1; omega)
            refine ⟨cs', v.cells.toList ++ us, ?_, ?_, hL.append h3, by simp [h4, hsz2, Nat.add_mul]; omega⟩
            · simp only [fill]
              rw [if_neg (by simp; omega)]
              exact h1
            · rw [h2, hcs1]
              have : (putAt cs.toList (i * sz) v.cells.toList).take ((i + 1) * sz) = cs.toList.take (i * sz) ++ v.cells.toList := by
                unfold putAt
                rw [List.take_append_of_le_length (by simp; rw [Nat.succ_mul]; omega)]
                exact List.take_of_length_le (by simp; rw [Nat.succ_mul]; omega)
              rw [this, List.append_assoc]
          · cases hl
        · cases hl
      · cases hl
end
end Go.AX
