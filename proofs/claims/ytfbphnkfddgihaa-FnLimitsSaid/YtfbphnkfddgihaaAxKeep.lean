/- How the relation between abstract states and worlds is carried on: a new world, an object consumed, frozen, set; a temporary put. -/
import Derived.Test.YtfbphnkfddgihaaAxSim
import Derived.Test.YtfbphnkfddgihaaAxMemDef
namespace Go.AX
section
variable {P : Program} {w w' : World} {M : Mu} {t : Nat → A} {h : Heap} {tm : Array Value}

def NoRef (s : Nat) (t : Nat → A) (h : Heap) : Prop := (∀ i, s ∉ refsA (t i)) ∧ ∀ k, s ∉ refsO (h k)
def Limbo (w : World) (M : Mu) (L : List Nat) : Prop := ∀ b ∈ L, b < w.heap.size ∧ ¬ M.F b ∧ ∀ id, b ∉ M.own id

theorem upd_same {α : Type} (f : Nat → α) (i : Nat) (v : α) : upd f i v i = v := by simp [upd]
theorem upd_ne {α : Type} (f : Nat → α) {i j : Nat} (v : α) (h : j ≠ i) : upd f i v j = f j := by simp [upd, h]

theorem Sim.world (hs : Sim P w M t h tm) (hF : ∀ b, M.F b → w'.heap[b]? = w.heap[b]?) (ho : ∀ id, ∀ b ∈ M.own id, w'.heap[b]? = w.heap[b]?) (hz : w.heap.size ≤ w'.heap.size) : Sim P w' M t h tm where
  tm i := (hs.tm i).mono (fun b hb => ⟨hb, hF b hb⟩) fun _ _ => rfl
  ob id := (hs.ob id).mono (fun b hb => ⟨hb, hF b hb⟩) (ho id) rfl rfl fun _ _ => rfl
  dis := hs.dis
  nf i b hb := ⟨(hs.nf i b hb).1, Nat.lt_of_lt_of_le (hs.nf i b hb).2 hz⟩
  fz b hb := Nat.lt_of_lt_of_le (hs.fz b hb) hz

theorem Sim.put (hs : Sim P w M t h tm) {d : Nat} (hd : d < tm.size) {a : A} {v : Value} (hr : RepA w M a v) : Sim P w M (upd t d a) h (tm.setIfInBounds d v) where
  tm i := by
    by_cases hi : i = d
    · subst hi
      rw [upd_same]
      simpa [Array.getD_eq_getD_getElem?, Array.getElem?_setIfInBounds, hd] using hr
    · rw [upd_ne _ _ hi]
      have := hs.tm i
      rw [Array.getD_eq_getD_getElem?] at this ⊢
      rwa [Array.getElem?_setIfInBounds_ne (fun e => hi e.symm)]
  ob := hs.ob
  dis := hs.dis
  nf := hs.nf
  fz := hs.fz

theorem Sim.freeze (hs : Sim P w M t h tm) {L : List Nat} (hl : Limbo w M L) : Sim P w ⟨M.m, M.own, fun b => M.F b ∨ b ∈ L⟩ t h tm where
  tm i := RepA.mono (M := M) (M' := ⟨M.m, M.own, fun b => M.F b ∨ b ∈ L⟩) (fun b hb => ⟨Or.inl hb, rfl⟩) (hs.tm i) fun _ _ => rfl
  ob id := SimO.mono (M := M) (M' := ⟨M.m, M.own, fun b => M.F b ∨ b ∈ L⟩) (hs.ob id) (fun b hb => ⟨Or.inl hb, rfl⟩) (fun _ _ => rfl) rfl rfl fun _ _ => rfl
  dis := hs.dis
  nf i b hb := ⟨fun hq => hq.elim (hs.nf i b hb).1 fun hm => (hl b hm).2.2 i hb, (hs.nf i b hb).2⟩
  fz b hb := hb.elim (hs.fz b) fun hm => (hl b hm).1

/-- What was object id's own goes into limbo. -/
theorem Sim.kill (hs : Sim P w M t h tm) (id : Nat) (o : O) (ho : SimO P w ⟨M.m, upd M.own id [], M.F⟩ id o) (hr : ∀ k ∈ refsO o, True) :
    Sim P w ⟨M.m, upd M.own id [], M.F⟩ t (upd h id o) tm ∧ Limbo w ⟨M.m, upd M.own id [], M.F⟩ (M.own id) := by
  have own_sub : ∀ i b, b ∈ upd M.own id [] i → b ∈ M.own i ∧ i ≠ id := by
    intro i b hb
    by_cases hi : i = id
    · subst hi; rw [upd_same] at hb; cases hb
    · rw [upd_ne _ _ hi] at hb; exact ⟨hb, hi⟩
  refine ⟨⟨fun i => RepA.mono (M := M) (M' := ⟨M.m, upd M.own id [], M.F⟩) (fun b hb => ⟨hb, rfl⟩) (hs.tm i) fun _ _ => rfl, fun i => ?_, fun i j hij b hb hb' => ?_, fun i b hb => hs.nf i b (own_sub i b hb).1, hs.fz⟩, fun b hb => ⟨(hs.nf id b hb).2, (hs.nf id b hb).1, fun i hi => ?_⟩⟩
  · by_cases hi : i = id
    · subst hi; rw [upd_same]; exact ho
    · rw [upd_ne _ _ hi]
      exact (hs.ob i).mono (fun b hb => ⟨hb, rfl⟩) (fun _ _ => rfl) rfl (upd_ne _ _ hi) fun _ _ => rfl
  · exact hs.dis i j hij b (own_sub i b hb).1 (own_sub j b hb').1
  · exact hs.dis id i (fun e => (own_sub i b hi).2 e.symm) b hb (own_sub i b hi).1

theorem Sim.setO (hs : Sim P w M t h tm) {s : Nat} (hown : M.own s = []) {mv : Option (Nat × Nat)} (hn : NoRef s t h ∨ mv = M.m s) {L : List Nat} (hl : Limbo w M L) {o : O}
    (ho : SimO P w ⟨upd M.m s mv, upd M.own s L, M.F⟩ s o) : Sim P w ⟨upd M.m s mv, upd M.own s L, M.F⟩ t (upd h s o) tm where
  tm i := RepA.mono (M := M) (M' := ⟨upd M.m s mv, upd M.own s L, M.F⟩) (fun b hb => ⟨hb, rfl⟩) (hs.tm i) fun k hk => by
    by_cases e : k = s
    · subst e
      rcases hn with hn | rfl
      · exact absurd hk (hn.1 i)
      · exact upd_same _ _ _
    · exact upd_ne M.m mv e
  ob id := by
    by_cases hi : id = s
    · subst hi; rw [upd_same]; exact ho
    · rw [upd_ne _ _ hi]
      exact (hs.ob id).mono (fun b hb => ⟨hb, rfl⟩) (fun _ _ => rfl) (upd_ne _ _ hi) (upd_ne _ _ hi) fun k hk => by
        by_cases e : k = s
        · subst e
          rcases hn with hn | rfl
          · exact absurd hk (hn.2 id)
          · exact upd_same _ _ _
        · exact upd_ne M.m mv e
  dis i j hij b hb hb' := by
    simp only at hb hb'
    by_cases hi : i = s
    · subst hi
      rw [upd_same] at hb
      rw [upd_ne _ _ (fun e => hij e.symm)] at hb'
      exact (hl b hb).2.2 j hb'
    · rw [upd_ne _ _ hi] at hb
      by_cases hj : j = s
      · subst hj
        rw [upd_same] at hb'
        exact (hl b hb').2.2 i hb
      · rw [upd_ne _ _ hj] at hb'
        exact hs.dis i j hij b hb hb'
  nf i b hb := by
    simp only at hb ⊢
    by_cases hi : i = s
    · subst hi; rw [upd_same] at hb; exact ⟨(hl b hb).2.1, (hl b hb).1⟩
    · rw [upd_ne _ _ hi] at hb; exact hs.nf i b hb
  fz := hs.fz

theorem Limbo.sub {L L' : List Nat} (hl : Limbo w M L) (h : ∀ b ∈ L', b ∈ L) : Limbo w M L' := fun b hb => hl b (h b hb)

/-- A new block: it is in limbo. -/
theorem Sim.alloc (hs : Sim P w M t h tm) (o : Obj) : Sim P (w.alloc o) M t h tm ∧ Limbo (w.alloc o) M [w.heap.size] := by
  have hsz : (w.alloc o).heap.size = w.heap.size + 1 := by show (w.heap.push o).size = _; simp
  have old : ∀ b, b < w.heap.size → (w.alloc o).heap[b]? = w.heap[b]? := by
    intro b hb
    show (w.heap.push o)[b]? = _
    rw [Array.getElem?_push, if_neg (by omega)]
  refine ⟨hs.world (fun b hb => old b (hs.fz b hb)) (fun id b hb => old b (hs.nf id b hb).2) (by rw [hsz]; omega), fun b hb => ?_⟩
  simp only [List.mem_singleton] at hb
  subst hb
  exact ⟨by rw [hsz]; omega, fun hF => absurd (hs.fz _ hF) (Nat.lt_irrefl _), fun id hid => absurd (hs.nf id _ hid).2 (Nat.lt_irrefl _)⟩

/-- What a piece of a call does to the world and to the places. -/
structure Step (w : World) (M : Mu) (w' : World) (M' : Mu) : Prop where
  os : w'.os = w.os
  tape : w'.tape = w.tape
  output : w'.output = w.output
  size : w.heap.size ≤ w'.heap.size
  keep : ∀ b, b < w.heap.size → (∀ id, b ∉ M.own id) → w'.heap[b]? = w.heap[b]?
  F1 : ∀ b, M.F b → M'.F b
  F2 : ∀ b, M'.F b → M.F b ∨ (∃ id, b ∈ M.own id) ∨ w.heap.size ≤ b
  own : ∀ id b, b ∈ M'.own id → (∃ id, b ∈ M.own id) ∨ w.heap.size ≤ b
theorem Step.refl (w : World) (M : Mu) : Step w M w M := ⟨rfl, rfl, rfl, Nat.le_refl _, fun _ _ _ => rfl, fun _ h => h, fun _ h => .inl h, fun id b h => .inl ⟨id, h⟩⟩
theorem Step.trans {w1 w2 w3 : World} {M1 M2 M3 : Mu} (h : Step w1 M1 w2 M2) (k : Step w2 M2 w3 M3) : Step w1 M1 w3 M3 where
  os := k.os.trans h.os
  tape := k.tape.trans h.tape
  output := k.output.trans h.output
  size := Nat.le_trans h.size k.size
  keep b hb hn := (k.keep b (Nat.lt_of_lt_of_le hb h.size) fun id hid => by
    rcases h.own id b hid with ⟨i, hi⟩ | hi
    · exact hn i hi
    · omega).trans (h.keep b hb hn)
  F1 b hb := k.F1 b (h.F1 b hb)
  F2 b hb := by
    rcases k.F2 b hb with q | ⟨id, q⟩ | q
    · exact h.F2 b q
    · rcases h.own id b q with q | q
      · exact .inr (.inl q)
      · exact .inr (.inr q)
    · exact .inr (.inr (Nat.le_trans h.size q))
  own id b hb := by
    rcases k.own id b hb with ⟨i, q⟩ | q
    · exact h.own i b q
    · exact .inr (Nat.le_trans h.size q)
theorem upd_upd {α : Type} (f : Nat → α) (i : Nat) (u v : α) : upd (upd f i u) i v = upd f i v := by funext j; unfold upd; split <;> rfl
theorem upd_self {α : Type} (f : Nat → α) (i : Nat) : upd f i (f i) = f := by funext j; unfold upd; split <;> simp_all
theorem repL_of_get {l : List A} {us : List Value} (hl : l.length = us.length) (h : ∀ (k : Nat) (a : A) (u : Value), l[k]? = some a → us[k]? = some u → RepA w M a u) : RepL w M l us := by
  induction l generalizing us with
  | nil => cases us <;> simp_all [RepL]
  | cons a l ih => cases us with
    | nil => simp at hl
    | cons u us => exact ⟨h 0 a u rfl rfl, ih (by simpa using hl) fun k => h (k + 1)⟩
theorem putAt_get {α : Type} {cs xs : List α} {off : Nat} (hb : off + xs.length ≤ cs.length) (j : Nat) : (putAt cs off xs)[j]? = if off ≤ j ∧ j < off + xs.length then xs[j - off]? else cs[j]? := by
  unfold putAt
  have h1 : (cs.take off).length = off := by simp; omega
  by_cases h : off ≤ j
  · by_cases h' : j < off + xs.length
    · rw [if_pos ⟨h, h'⟩, List.getElem?_append_left (by simp; omega), List.getElem?_append_right (by omega), h1]
    · rw [if_neg (by omega), List.getElem?_append_right (by simp; omega), List.getElem?_drop]
      congr 1; simp; omega
  · rw [if_neg (by omega), List.getElem?_append_left (by simp; omega), List.getElem?_append_left (by omega), List.getElem?_take_of_lt (by omega)]
end
end Go.AX
