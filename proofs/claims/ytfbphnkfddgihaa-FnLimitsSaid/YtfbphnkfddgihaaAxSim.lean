/- The relation between abstract states and worlds, and what it keeps. -/
import Derived.Test.YtfbphnkfddgihaaAxPure
namespace Go.AX

mutual
def refsA : A → List Nat
  | .os id _ => [id]
  | .ptr id _ => [id]
  | .pe id _ _ _ => [id]
  | .fn _ cap => refsL cap
  | .agg cs => refsL cs
  | .tup cs => refsL cs
  | .d _ => []
  | .es => []
  | .dp _ => []
  | .undef => []
  | .junk => []
def refsL : List A → List Nat
  | [] => []
  | a :: l => refsA a ++ refsL l
end
def refsO : O → List Nat
  | .box _ cs => refsL cs
  | _ => []
theorem refsL_mem {l : List A} {a : A} (h : a ∈ l) {i : Nat} (hi : i ∈ refsA a) : i ∈ refsL l := by
  induction l with
  | nil => cases h
  | cons b l ih =>
    simp only [refsL, List.mem_append]
    rcases List.mem_cons.1 h with rfl | h
    · exact .inl hi
    · exact .inr (ih h)
theorem refsL_sub {l l' : List A} (h : ∀ a ∈ l, a ∈ l') {i : Nat} (hi : i ∈ refsL l) : i ∈ refsL l' := by
  induction l with
  | nil => simp [refsL] at hi
  | cons b l ih =>
    simp only [refsL, List.mem_append] at hi
    rcases hi with hi | hi
    · exact refsL_mem (h b (by simp)) hi
    · exact ih (fun a ha => h a (by simp [ha])) hi
theorem refsL_append (l l' : List A) : refsL (l ++ l') = refsL l ++ refsL l' := by
  induction l with
  | nil => simp [refsL]
  | cons a l ih => simp [refsL, ih]

/-! ### more blocks, other blocks -/
theorem cell_same {w w' : World} {ad : Addr} (h : w'.heap[ad.block]? = w.heap[ad.block]?) : w'.cell? ad = w.cell? ad := by
  unfold World.cell?; rw [h]
theorem add_block (ad : Addr) (n : Nat) : (ad.add n).block = ad.block := by unfold Addr.add; split <;> rfl
theorem Rep.mono {w w' : World} {F F' : Nat → Prop} {v : Value} {x : D} (h : Rep w F v x) (hw : ∀ b, F b → F' b ∧ w'.heap[b]? = w.heap[b]?) : Rep w' F' v x := by
  induction h with
  | int k n => exact .int k n
  | bool b => exact .bool b
  | str s => exact .str s
  | sl a c sz es vs hc hsz ha hr ih =>
    refine .sl a c sz es vs hc hsz (fun i j x hx => ?_) (fun i j x hx => ih i j x hx)
    obtain ⟨ad, rfl, hF, hcell⟩ := ha i j x hx
    exact ⟨ad, rfl, (hw _ hF).1, (cell_same (by rw [add_block]; exact (hw _ hF).2)).trans hcell⟩

theorem at2_lt {es : List (List D)} {i j : Nat} {x : D} (h : at2 es i j = some x) {sz : Nat} (hsz : ∀ e ∈ es, e.length = sz) : i < es.length ∧ j < sz := by
  unfold at2 at h
  cases he : es[i]? with
  | none => simp [he] at h
  | some e =>
    simp [he] at h
    have h1 := (List.getElem?_eq_some_iff.1 he).1
    have h2 := (List.getElem?_eq_some_iff.1 h).1
    exact ⟨h1, by rw [← hsz e (List.mem_of_getElem? he)]; exact h2⟩
theorem at2_some {es : List (List D)} {i j sz : Nat} (hi : i < es.length) (hj : j < sz) (hsz : ∀ e ∈ es, e.length = sz) : ∃ x, at2 es i j = some x := by
  unfold at2
  rw [List.getElem?_eq_getElem hi]
  have := hsz es[i] (List.getElem_mem hi)
  exact ⟨_, List.getElem?_eq_getElem (by omega)⟩
theorem RepX.mono {w w' : World} {B : List Nat} {v : Value} {x : D} (h : RepX w B v x) (hw : ∀ b ∈ B, w'.heap[b]? = w.heap[b]?) : RepX w' B v x := by
  induction h with
  | int k n => exact .int k n
  | bool b => exact .bool b
  | str s => exact .str s
  | nil a c => exact .nil a c
  | sl b c sz es cs t vs Bs hb hc hsz ha hr B hB hsub hdis ih =>
    exact .sl b c sz es cs t vs Bs (by rw [hw b hB]; exact hb) hc hsz ha (fun i j x hx => ih i j x hx fun b' hb' => hw b' (hsub i j x hx b' hb').1) B hB hsub hdis
theorem RepX.sup {w : World} {B B' : List Nat} {v : Value} {x : D} (h : RepX w B v x) (hs : ∀ b ∈ B, b ∈ B') (hn : B = [] → B' = []) : RepX w B' v x := by
  cases h with
  | int k n => rw [hn rfl]; exact .int k n
  | bool b => rw [hn rfl]; exact .bool b
  | str s => rw [hn rfl]; exact .str s
  | nil a c => rw [hn rfl]; exact .nil a c
  | sl b c sz es cs t vs Bs hb hc hsz ha hr B hB hsub hdis => exact .sl b c sz es cs t vs Bs hb hc hsz ha hr B' (hs b hB) (fun i j x hx b' hb' => ⟨hs b' (hsub i j x hx b' hb').1, (hsub i j x hx b' hb').2⟩) hdis
theorem RepX.rep {w : World} {B : List Nat} {v : Value} {x : D} (h : RepX w B v x) {F : Nat → Prop} (hF : ∀ b ∈ B, F b) : Rep w F v x := by
  induction h with
  | int k n => exact .int k n
  | bool b => exact .bool b
  | str s => exact .str s
  | nil a c => exact .sl a c 0 [] (fun _ _ => undef) (by simp) (by simp) (by simp [at2]) (by simp [at2])
  | sl b c sz es cs t vs Bs hb hc hsz ha hr B hB hsub hdis ih =>
    refine .sl _ c sz es vs hc hsz (fun i j x hx => ⟨_, rfl, hF b hB, ?_⟩) (fun i j x hx => ih i j x hx fun b' hb' => hF b' (hsub i j x hx b' hb').1)
    rw [add0]
    have := ha i j x hx
    simp [World.cell?, hb, this]

mutual
theorem RepA.mono {w w' : World} {M M' : Mu} (hw : ∀ b, M.F b → M'.F b ∧ w'.heap[b]? = w.heap[b]?) : ∀ {a : A} {v : Value}, RepA w M a v → (∀ id ∈ refsA a, M'.m id = M.m id) → RepA w' M' a v
  | .d x, v, h, _ => by simp only [RepA] at h ⊢; exact h.mono hw
  | .es, v, h, _ => by simpa only [RepA] using h
  | .os id n, v, h, hm => by simp only [RepA] at h ⊢; rw [hm id (by simp [refsA])]; exact h
  | .ptr id off, v, h, hm => by simp only [RepA] at h ⊢; rw [hm id (by simp [refsA])]; exact h
  | .pe id i sz off, v, h, hm => by simp only [RepA] at h ⊢; rw [hm id (by simp [refsA])]; exact h
  | .dp cs, v, h, _ => by
    simp only [RepA] at h ⊢
    obtain ⟨ad, vs, rfl, hc⟩ := h
    refine ⟨ad, vs, rfl, fun j x hx => ?_⟩
    obtain ⟨h1, h2, h3⟩ := hc j x hx
    exact ⟨(hw _ h1).1, (cell_same (by rw [add_block]; exact (hw _ h1).2)).trans h2, h3.mono hw⟩
  | .fn f cap, v, h, hm => by
    simp only [RepA] at h ⊢
    obtain ⟨vs, rfl, hl⟩ := h
    exact ⟨vs, rfl, RepL.mono hw hl (by simpa only [refsA] using hm)⟩
  | .agg cs, v, h, hm => by
    simp only [RepA] at h ⊢
    obtain ⟨vs, rfl, hl⟩ := h
    exact ⟨vs, rfl, RepL.mono hw hl (by simpa only [refsA] using hm)⟩
  | .tup cs, v, h, hm => by
    simp only [RepA] at h ⊢
    obtain ⟨vs, rfl, hl⟩ := h
    exact ⟨vs, rfl, RepL.mono hw hl (by simpa only [refsA] using hm)⟩
  | .undef, v, h, _ => by simpa only [RepA] using h
  | .junk, v, _, _ => by simp only [RepA]
theorem RepL.mono {w w' : World} {M M' : Mu} (hw : ∀ b, M.F b → M'.F b ∧ w'.heap[b]? = w.heap[b]?) : ∀ {l : List A} {vs : List Value}, RepL w M l vs → (∀ id ∈ refsL l, M'.m id = M.m id) → RepL w' M' l vs
  | [], [], _, _ => by simp [RepL]
  | a :: l, v :: vs, h, hm => by
    simp only [RepL] at h ⊢
    exact ⟨RepA.mono hw h.1 fun id hi => hm id (by simp [refsL, hi]), RepL.mono hw h.2 fun id hi => hm id (by simp [refsL, hi])⟩
  | [], _ :: _, h, _ => by simp [RepL] at h
  | _ :: _, [], h, _ => by simp [RepL] at h
end

/-! ### objects -/
def RepB (own : Bool) (w : World) (F : Nat → Prop) (B : List Nat) (v : Value) (x : D) : Prop :=
  match own with
  | true => RepX w B v x
  | false => B = [] ∧ Rep w F v x

/-- The cells of a row: what each reads as; the blocks that they lead to lie in O, beside b, no two the same. -/
def Parts (own : Bool) (w : World) (F : Nat → Prop) (b : Nat) (O : List Nat) (es : List (List D)) (cs : Array Value) (sz : Nat) (vs : Nat → Nat → Value) (Bs : Nat → Nat → List Nat) : Prop :=
  (∀ i j x, at2 es i j = some x → cs[i * sz + j]? = some (vs i j) ∧ RepB own w F (Bs i j) (vs i j) x ∧ ∀ b' ∈ Bs i j, b' ∈ O ∧ b' ≠ b) ∧
  ∀ i j x i' j' x', at2 es i j = some x → at2 es i' j' = some x' → i ≠ i' ∨ j ≠ j' → ∀ b' ∈ Bs i j, b' ∉ Bs i' j'

def SimArr (P : Program) (w : World) (M : Mu) (id : Nat) (t : TypeId) (own : Bool) (es : List (List D)) : Prop :=
  match M.m id with
  | none => es = [] ∧ M.own id = []
  | some (b, c) => ∃ (cs : Array Value) (vs : Nat → Nat → Value) (Bs : Nat → Nat → List Nat), es.length ≤ c ∧ c ≤ maxLen ∧ (∀ e ∈ es, e.length = szT P t) ∧ w.heap[b]? = some (.cells cs t (0, 0)) ∧ cs.size = c * szT P t ∧
      b ∈ M.own id ∧ Parts own w M.F b (M.own id) es cs (szT P t) vs Bs

def SimO (P : Program) (w : World) (M : Mu) (id : Nat) : O → Prop
  | .gone => M.own id = []
  | .dead => M.own id = []
  | .box t cs => ∃ b c vs, M.m id = some (b, c) ∧ M.own id = [b] ∧ w.heap[b]? = some (.cells vs t (0, 0)) ∧ RepL w M cs vs.toList
  | .arr t own es => SimArr P w M id t own es
  | .frz es => M.own id = [] ∧ match M.m id with
    | none => es = []
    | some (b, c) => es.length ≤ c ∧ ∃ (sz : Nat) (vs : Nat → Nat → Value), (∀ e ∈ es, e.length = sz) ∧ ∀ i j x, at2 es i j = some x → M.F b ∧ w.cell? ⟨b, i * sz + j, none⟩ = some (vs i j) ∧ Rep w M.F (vs i j) x

structure Sim (P : Program) (w : World) (M : Mu) (t : Nat → A) (h : Nat → O) (tm : Array Value) : Prop where
  tm : ∀ i, RepA w M (t i) (tm.getD i undef)
  ob : ∀ id, SimO P w M id (h id)
  dis : ∀ i j, i ≠ j → ∀ b, b ∈ M.own i → b ∉ M.own j
  nf : ∀ i b, b ∈ M.own i → ¬ M.F b ∧ b < w.heap.size
  fz : ∀ b, M.F b → b < w.heap.size

/-- Another world, other places: the object at id reads as it did. -/
theorem SimO.mono {P : Program} {w w' : World} {M M' : Mu} {id : Nat} {o : O} (h : SimO P w M id o) (hF : ∀ b, M.F b → M'.F b ∧ w'.heap[b]? = w.heap[b]?) (hown : ∀ b ∈ M.own id, w'.heap[b]? = w.heap[b]?)
    (hm : M'.m id = M.m id) (ho : M'.own id = M.own id) (hr : ∀ k ∈ refsO o, M'.m k = M.m k) : SimO P w' M' id o := by
  cases o with
  | gone => simpa only [SimO, ho] using h
  | dead => simpa only [SimO, ho] using h
  | box t cs =>
    simp only [SimO] at h ⊢
    obtain ⟨b, c, vs, h1, h2, h3, h4⟩ := h
    exact ⟨b, c, vs, by rw [hm, h1], by rw [ho, h2], by rw [hown b (by rw [h2]; simp), h3], h4.mono hF (by simpa only [refsO] using hr)⟩
  | arr t own es =>
    simp only [SimO, SimArr] at h ⊢
    rw [hm]
    cases hmi : M.m id with
    | none => rw [hmi] at h; rw [ho]; exact h
    | some bc =>
      obtain ⟨b, c⟩ := bc
      rw [hmi] at h
      obtain ⟨cs, vs, Bs, h1, h2, h3, h4, h5, h6, h7, h8⟩ := h
      refine ⟨cs, vs, Bs, h1, h2, h3, by rw [hown b h6, h4], h5, by rw [ho]; exact h6, fun i j x hx => ?_, h8⟩
      obtain ⟨q1, q2, q3⟩ := h7 i j x hx
      refine ⟨q1, ?_, by rw [ho]; exact q3⟩
      cases own with
      | true => exact RepX.mono q2 fun b' hb' => hown b' (q3 b' hb').1
      | false => exact ⟨q2.1, q2.2.mono hF⟩
  | frz es =>
    simp only [SimO] at h ⊢
    rw [hm, ho]
    refine ⟨h.1, ?_⟩
    have h2 := h.2
    cases hmi : M.m id with
    | none => rw [hmi] at h2; exact h2
    | some bc =>
      obtain ⟨b, c⟩ := bc
      rw [hmi] at h2
      obtain ⟨h1, sz, vs, h3, h4⟩ := h2
      refine ⟨h1, sz, vs, h3, fun i j x hx => ?_⟩
      obtain ⟨q1, q2, q3⟩ := h4 i j x hx
      exact ⟨(hF b q1).1, (cell_same (hF b q1).2).trans q2, q3.mono hF⟩
end Go.AX
