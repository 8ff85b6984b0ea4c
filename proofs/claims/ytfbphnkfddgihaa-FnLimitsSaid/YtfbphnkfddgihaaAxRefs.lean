/- What an operation looks at, and which objects its result may name. -/
import Derived.Test.YtfbphnkfddgihaaAxCall2
namespace Go.AX
section
variable {P : Program}

/-! ### an operation looks at its operands alone -/
theorem map_congr' {ι : Type} {xs : List ι} {f g : ι → A} (h : ∀ x ∈ xs, f x = g x) : xs.map f = xs.map g := List.map_congr_left h
theorem opt_congr {ρ σ : Operand → A} {x : Option Operand} (h : ∀ y ∈ x.toList, ρ y = σ y) : x.map ρ = x.map σ := by
  cases x with
  | none => rfl
  | some y => simp [h y (by simp)]
theorem pureA_congr {o : Op} {ρ σ : Operand → A} (h : ∀ x ∈ o.operands.toList, ρ x = σ x) : pureA P o ρ = pureA P o σ := by
  unfold pureA
  split
  · rw [h _ (by simp [Op.operands])]
  · rw [h _ (by simp [Op.operands])]
  · rename_i c a b
    rw [h c (by simp [Op.operands]), h a (by simp [Op.operands]), h b (by simp [Op.operands])]
  · rename_i t ps
    rw [show (ps.toList.map fun x => (x.1, ρ x.2)) = ps.toList.map fun x => (x.1, σ x.2) from List.map_congr_left fun x hx => by rw [h x.2 (by simp only [Op.operands, List.toList_toArray, List.mem_map]; exact ⟨x, hx, rfl⟩)]]
  · rw [h _ (by simp [Op.operands])]
  · rename_i op t x y t'
    rw [h x (by simp [Op.operands]), h y (by simp [Op.operands])]
  · rw [h _ (by simp [Op.operands])]
  · rw [h _ (by simp [Op.operands])]
  · rename_i t x lo hi
    rw [h x (by simp [Op.operands]), opt_congr (ρ := ρ) (σ := σ) (x := lo) (fun y hy => h y (by simp [Op.operands]; right; left; simpa using hy)), opt_congr (ρ := ρ) (σ := σ) (x := hi) (fun y hy => h y (by simp [Op.operands]; right; right; simpa using hy))]
  · rw [h _ (by simp [Op.operands])]
  · rw [h _ (by simp [Op.operands])]
  · rename_i t x i
    rw [h x (by simp [Op.operands]), h i (by simp [Op.operands])]
  · rename_i t x i
    rw [h x (by simp [Op.operands]), h i (by simp [Op.operands])]
  · rename_i f first cap
    rw [map_congr' (xs := cap.toList) (f := ρ) (g := σ) fun x hx => h x (by simp only [Op.operands, Array.toList_append, List.mem_append]; exact .inr hx)]
  · rw [h _ (by simp [Op.operands])]
  · rename_i xs ts
    split
    · rename_i x t hx ht
      rw [h x (by simp [Op.operands, Call.operands, hx])]
    · rfl
  · rename_i xs ts
    split
    · rename_i x y hx
      rw [h x (by simp [Op.operands, Call.operands, hx]), h y (by simp [Op.operands, Call.operands, hx])]
    · rfl
  · rename_i xs ts
    split
    · rename_i x y hx
      rw [h x (by simp [Op.operands, Call.operands, hx]), h y (by simp [Op.operands, Call.operands, hx])]
    · rfl
  · rfl
theorem memA_congr {o : Op} {s : Nat} {ρ σ : Operand → A} {h : Heap} (hq : ∀ x ∈ o.operands.toList, ρ x = σ x) : memA P o s ρ h = memA P o s σ h := by
  unfold memA
  split
  · rfl
  · rw [hq _ (by simp [Op.operands])]
  · rename_i t n ps
    rw [show (ps.toList.map fun x => (x.1, ρ x.2)) = ps.toList.map fun x => (x.1, σ x.2) from List.map_congr_left fun x hx => by rw [hq x.2 (by simp only [Op.operands, List.toList_toArray, List.mem_map]; exact ⟨x, hx, rfl⟩)]]
  · rw [hq _ (by simp [Op.operands])]
  · rename_i t a x
    rw [hq a (by simp [Op.operands]), hq x (by simp [Op.operands])]
  · rename_i t l c
    rw [hq l (by simp [Op.operands]), hq c (by simp [Op.operands])]
  · rename_i xs ts
    split
    · rename_i x y t u hx ht
      rw [hq x (by simp [Op.operands, Call.operands, hx]), hq y (by simp [Op.operands, Call.operands, hx])]
    · rfl
  · rfl

/-! ### which objects a result may name -/
theorem refs_ofV (v : Value) : refsA (ofV v) = [] := by
  unfold ofV
  split
  · simp only [refsA]; exact refs_map_ofLeaf _
  · exact refs_ofLeaf _
theorem refs_val {id : Nat} {st : St} (h : ∀ i, id ∉ refsA (st.t i)) (x : Operand) : id ∉ refsA (val st x) := by
  cases x with
  | tmp i => exact h i
  | const v => simp [val, refs_ofV]
  | global g => simp [val, refsA]
  | func f => simp [val, refsA, refsL]
theorem not_refsL {id : Nat} {l : List A} : (id ∉ refsL l) ↔ ∀ a ∈ l, id ∉ refsA a := by
  induction l with
  | nil => simp [refsL]
  | cons a l ih => simp [refsL, ih]
theorem leafs_refs {id : Nat} {a : A} {l : List A} (h : leafs a = some l) (hn : id ∉ refsA a) : id ∉ refsL l := by
  cases a with
  | agg cs => simp [leafs] at h; subst h; simpa [refsA] using hn
  | tup cs => simp [leafs] at h
  | junk => simp [leafs] at h
  | _ => simp [leafs] at h; subst h; simpa [refsL] using hn
theorem putAt_mem {α : Type} {cs xs : List α} {off : Nat} {a : α} (h : a ∈ putAt cs off xs) : a ∈ cs ∨ a ∈ xs := by
  unfold putAt at h
  simp only [List.mem_append] at h
  rcases h with (h | h) | h
  · exact .inl (List.mem_of_mem_take h)
  · exact .inr h
  · exact .inl (List.mem_of_mem_drop h)
theorem fillA_refs {id : Nat} {fs : Nat → Option (Nat × Nat)} : ∀ {parts : List (Nat × A)} {cells r : List A}, fillA P fs cells parts = some r → id ∉ refsL cells → (∀ p ∈ parts, id ∉ refsA p.2) → id ∉ refsL r
  | [], cells, r, h, hc, _ => by simp [fillA] at h; subst h; exact hc
  | (i, v) :: parts, cells, r, h, hc, hp => by
    simp only [fillA] at h
    split at h
    · rename_i off size l hf hl
      split at h
      · refine fillA_refs h ?_ fun p hq => hp p (by simp [hq])
        rw [not_refsL]
        intro a ha
        rcases putAt_mem ha with q | q
        · exact not_refsL.1 hc a q
        · exact not_refsL.1 (leafs_refs hl (hp (i, v) (by simp))) a q
      · cases h
    · cases h
theorem pureA_refs {id : Nat} {o : Op} {ρ : Operand → A} (hρ : ∀ x, id ∉ refsA (ρ x)) {r : A} (h : pureA P o ρ = some r) : id ∉ refsA r := by
  unfold pureA at h
  split at h
  · injection h with h; subst h; exact hρ _
  · injection h with h; subst h; exact hρ _
  · split at h
    · injection h with h; subst h; exact hρ _
    · injection h with h; subst h; exact hρ _
    · cases h
  · rename_i t ps
    unfold buildA at h
    split at h
    · rename_i z fs hz hu
      split at h
      · cases hf : fillA P (fun i => (fldT P t i).map fun x => (x.1, szT P x.2)) z (ps.toList.map fun x => (x.1, ρ x.2)) with
        | none => simp [hf] at h
        | some r' =>
          simp [hf] at h; subst h
          simp only [refsA]
          exact fillA_refs hf (by rw [refs_zeroT hz]; simp) fun p hp => by
            simp only [List.mem_map] at hp; obtain ⟨x, _, rfl⟩ := hp; exact hρ _
      · cases h
    · rename_i z n e hz hu
      split at h
      · cases hf : fillA P (fun i => some (i * szT P e, szT P e)) z (ps.toList.map fun x => (x.1, ρ x.2)) with
        | none => simp [hf] at h
        | some r' =>
          simp [hf] at h; subst h
          simp only [refsA]
          exact fillA_refs hf (by rw [refs_zeroT hz]; simp) fun p hp => by
            simp only [List.mem_map] at hp; obtain ⟨x, _, rfl⟩ := hp; exact hρ _
      · cases h
    · cases h
  · rename_i x
    have hx := hρ x
    split at h <;> first
      | (rename_i hq; injection h with h; subst h; rw [hq] at hx; exact hx)
      | cases h
  · unfold binA at h
    split at h
    · split at h
      · split at h
        · injection h with h; subst h; simp [refsA]
        · cases h
      · split at h
        · injection h with h; subst h; simp [refsA]
        · cases h
      · split at h
        · split at h <;> first
            | (injection h with h; subst h; simp [refsA])
            | (split at h
               · cases h
               · injection h with h; subst h; simp [refsA])
            | cases h
        · cases h
    · split at h <;> first
        | (split at h
           · injection h with h; subst h; simp [refsA]
           · cases h)
        | cases h
    · split at h <;> first
        | (simp only [Option.map_eq_some_iff] at h; obtain ⟨b, _, rfl⟩ := h; simp [refsA])
        | cases h
    · split at h <;> first
        | (injection h with h; subst h; simp [refsA])
        | (split at h
           · injection h with h; subst h; simp [refsA]
           · cases h)
        | cases h
    · cases h
  · unfold unA at h
    split at h
    · split at h
      · injection h with h; subst h; simp [refsA]
      · cases h
    · split at h
      · injection h with h; subst h; simp [refsA]
      · cases h
    · cases h
  · unfold convA at h
    split at h
    · split at h
      · injection h with h; subst h; simp [refsA]
      · cases h
    · split at h
      · injection h with h; subst h; simp [refsA]
      · cases h
    · cases h
  · rename_i t x lo hi
    have hx := hρ x
    unfold sliceA at h
    split at h
    · split at h
      · split at h
        · split at h
          · injection h with h; subst h; simp [refsA]
          · cases h
        · cases h
      · rename_i hq
        rw [hq] at hx
        split at h
        · split at h
          · injection h with h; subst h; exact hx
          · cases h
        · cases h
      · split at h
        · split at h
          · injection h with h; subst h; simp [refsA]
          · cases h
        · cases h
      · split at h
        · split at h
          · injection h with h; subst h; simp [refsA]
          · cases h
        · cases h
      · cases h
    · cases h
  · rename_i s x f
    have hx := hρ x
    unfold fldA at h
    split at h
    · rename_i hq
      rw [hq] at hx
      split at h
      · split at h
        · cases h
        · injection h with h; subst h; exact hx
      · cases h
    · rename_i hq
      rw [hq] at hx
      split at h
      · split at h
        · cases h
        · injection h with h; subst h; exact hx
      · cases h
    · split at h
      · split at h
        · cases h
        · injection h with h; subst h; simp [refsA]
      · cases h
    · cases h
  · rename_i t x f
    have hx := hρ x
    split at h
    · rename_i cs off u hq hf
      rw [hq] at hx
      simp only [refsA] at hx
      unfold partA at h
      split at h
      · cases h
      · split at h
        · split at h
          · injection h with h; subst h
            simp only [refsA]
            rw [not_refsL] at hx ⊢
            exact fun a ha => hx a (List.mem_of_mem_drop (List.mem_of_mem_take ha))
          · cases h
        · exact not_refsL.1 hx r (List.mem_of_getElem? h)
    · cases h
  · rename_i t x i
    have hx := hρ x
    unfold idxA at h
    split at h
    · split at h
      · split at h
        · split at h
          · split at h
            · injection h with h; subst h; simp [refsA]
            · cases h
          · cases h
        · cases h
      · cases h
    · rename_i hq _
      rw [hq] at hx
      split at h
      · split at h
        · injection h with h; subst h; exact hx
        · cases h
      · cases h
    · cases h
  · unfold indexA at h
    split at h
    · split at h
      · split at h
        · split at h
          · injection h with h; subst h; simp [refsA]
          · cases h
        · cases h
      · cases h
    · cases h
  · split at h
    · injection h with h; subst h
      simp only [refsA]
      rw [not_refsL]
      intro a ha
      simp only [List.mem_map] at ha
      obtain ⟨x, _, rfl⟩ := ha
      exact hρ x
    · cases h
  · rename_i x i
    have hx := hρ x
    split at h
    · rename_i vs hq
      rw [hq] at hx
      simp only [refsA] at hx
      exact not_refsL.1 hx r (List.mem_of_getElem? h)
    · cases h
  · have len : ∀ {a r : A}, lenA a = some r → id ∉ refsA r := by
      intro a r h
      unfold lenA at h
      split at h <;> first
        | (injection h with h; subst h; simp [refsA])
        | cases h
    split at h
    · split at h
      · split at h
        · cases h
        · exact len h
      · split at h
        · exact len h
        · cases h
      · cases h
    · cases h
  · split at h
    · split at h
      · split at h
        · injection h with h; subst h; simp [refsA]
        · cases h
      · cases h
    · cases h
  · split at h
    · split at h
      · split at h
        · injection h with h; subst h; simp [refsA]
        · cases h
      · cases h
    · cases h
  · cases h
end
end Go.AX
