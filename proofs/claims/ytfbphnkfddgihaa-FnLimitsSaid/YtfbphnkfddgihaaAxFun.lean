/- A function: from its body to its contract. -/
import Derived.Test.YtfbphnkfddgihaaAxCode
namespace Go.AX

def boxL : Nat → List (TypeId × List A) → List (Nat × O)
  | _, [] => []
  | b, (t, cs) :: l => (64 * b, .box t cs) :: boxL (b + 1) l
def rowL : Nat → List (TypeId × Bool × List (List D)) → List (Nat × O)
  | _, [] => []
  | j, (t, own, es) :: l => (8 + j, .arr t own es) :: rowL (j + 1) l
def hpL (H : Hp) : List (Nat × O) := boxL 0 H.bs ++ rowL 0 H.os
def resOne (P : Program) (st : St) : ResultVar → Option A
  | .tmp t => some (st.t t)
  | .cell a ty => match st.t a with
    | .ptr _ _ => match memA P (.load ty (.tmp a)) 0 (val st) st.h with
      | some (r, _) => some r
      | none => none
    | _ => none
def resL (P : Program) (st : St) : List ResultVar → Option (List A)
  | [] => some []
  | r :: l => match resOne P st r with
    | some x => match resL P st l with
      | some xs => some (x :: xs)
      | none => none
    | none => none
def resV (P : Program) (fn : Func) (st : St) : Option A :=
  match resL P st fn.results.toList with
  | some [r] => some r
  | some rs => some (.tup rs)
  | none => none
def leB (n m : Nat) : Bool := Nat.ble n m
def okBs (no : Nat) : List (TypeId × List A) → Bool
  | [] => true
  | (_, l) :: m => okL no l && okBs no m
/-- The function has come to its end: the result r and what it hands back, H'. -/
def DoneD (P : Program) (fn : Func) (nb : Nat) (s : St) (r : A) (H' : Hp) : Prop :=
  match resV P fn s with
  | some v => (Nat.beq H'.bs.length nb && leB H'.os.length 56 && okA H'.os.length r && okBs H'.os.length H'.bs) = true ∧ ∃ ss Z, To nb ⟨s.n, fun _ => v, s.h⟩ s.n [(0, r)] (hpL H') ss Z
  | none => False
inductive Done (P : Program) (fn : Func) (nb : Nat) (s : St) (r : A) (H' : Hp) : Prop
  | wrap (h : DoneD P fn nb s r H') : Done P fn nb s r H'
def finK (P : Program) (fn : Func) (nb : Nat) (r : A) (H' : Hp) : Ex → St → Prop
  | .exit _, _ => False
  | .nrm, s => Done P fn nb s r H'
  | .ret, s => Done P fn nb s r H'
def argT (xs : List A) : Nat → A := fun i => match xs[i]? with
  | some a => a
  | none => .undef
def entry (fn : Func) (xs : List A) (H : Hp) : St := ⟨fn.ntmps, argT xs, lookH (hpL H)⟩

section
variable {P : Program}
theorem lookH_box {l : List (TypeId × List A)} : ∀ {b id : Nat}, lookH (boxL b l) id = if id % 64 = 0 ∧ b ≤ id / 64 then (match l[id / 64 - b]? with | some (t, cs) => .box t cs | none => .gone) else .gone := by
  induction l with
  | nil => intro b id; simp [boxL, lookH]
  | cons x l ih =>
    intro b id
    obtain ⟨t, cs⟩ := x
    simp only [boxL, lookH]
    split
    · rename_i h
      have e := Nat.eq_of_beq_eq_true h
      rw [if_pos (by omega)]
      have : id / 64 - b = 0 := by omega
      rw [this]
      rfl
    · rename_i h
      have hne : id ≠ 64 * b := fun e => by subst e; simp at h
      rw [ih]
      by_cases h1 : id % 64 = 0 ∧ b ≤ id / 64
      · have : id / 64 ≠ b := by omega
        rw [if_pos h1, if_pos (by omega)]
        have e : id / 64 - b = (id / 64 - (b + 1)) + 1 := by omega
        rw [e, List.getElem?_cons_succ]
      · rw [if_neg h1, if_neg (by omega)]
theorem lookH_row {l : List (TypeId × Bool × List (List D))} : ∀ {j id : Nat}, lookH (rowL j l) id = if 8 + j ≤ id then (match l[id - 8 - j]? with | some (t, own, es) => .arr t own es | none => .gone) else .gone := by
  induction l with
  | nil => intro j id; simp [rowL, lookH]
  | cons x l ih =>
    intro j id
    obtain ⟨t, own, es⟩ := x
    simp only [rowL, lookH]
    split
    · rename_i h
      have e := Nat.eq_of_beq_eq_true h
      rw [if_pos (by omega)]
      have : id - 8 - j = 0 := by omega
      rw [this]
      rfl
    · rename_i h
      have hne : id ≠ 8 + j := fun e => by subst e; simp at h
      rw [ih]
      by_cases h1 : 8 + j ≤ id
      · rw [if_pos h1, if_pos (by omega)]
        have e : id - 8 - j = (id - 8 - (j + 1)) + 1 := by omega
        rw [e, List.getElem?_cons_succ]
      · rw [if_neg h1, if_neg (by omega)]
theorem lookH_append {l m : List (Nat × O)} {id : Nat} (h : ∀ x ∈ l, x.1 ≠ id) : lookH (l ++ m) id = lookH m id := by
  induction l with
  | nil => rfl
  | cons x l ih =>
    obtain ⟨i, o⟩ := x
    simp only [List.cons_append, lookH]
    split
    · rename_i hb; exact absurd (Nat.eq_of_beq_eq_true hb).symm (h (i, o) (by simp))
    · exact ih fun y hy => h y (by simp [hy])
theorem lookH_left {l m : List (Nat × O)} {id : Nat} (h : ∃ x ∈ l, x.1 = id) : lookH (l ++ m) id = lookH l id := by
  induction l with
  | nil => obtain ⟨x, hx, _⟩ := h; cases hx
  | cons x l ih =>
    obtain ⟨i, o⟩ := x
    simp only [List.cons_append, lookH]
    split
    · rfl
    · rename_i hb
      obtain ⟨y, hy, e⟩ := h
      rcases List.mem_cons.1 hy with rfl | hy
      · exact absurd e.symm (fun e => by subst e; simp at hb)
      · exact ih ⟨y, hy, e⟩
theorem boxL_keys {l : List (TypeId × List A)} : ∀ {b : Nat}, ∀ x ∈ boxL b l, ∃ k, b ≤ k ∧ k < b + l.length ∧ x.1 = 64 * k := by
  induction l with
  | nil => intro b x hx; cases hx
  | cons y l ih =>
    intro b x hx
    obtain ⟨t, cs⟩ := y
    simp only [boxL, List.mem_cons] at hx
    rcases hx with rfl | hx
    · exact ⟨b, Nat.le_refl _, by simp, rfl⟩
    · obtain ⟨k, h1, h2, h3⟩ := ih x hx
      exact ⟨k, by omega, by simp; omega, h3⟩
theorem boxL_has {l : List (TypeId × List A)} : ∀ {b k : Nat}, b ≤ k → k < b + l.length → ∃ x ∈ boxL b l, x.1 = 64 * k := by
  induction l with
  | nil => intro b k h1 h2; simp at h2; omega
  | cons y l ih =>
    intro b k h1 h2
    obtain ⟨t, cs⟩ := y
    by_cases e : k = b
    · subst e; exact ⟨(64 * k, .box t cs), by simp [boxL], rfl⟩
    · obtain ⟨x, hx, hk⟩ := ih (b := b + 1) (k := k) (by omega) (by simp at h2; omega)
      exact ⟨x, by simp [boxL, hx], hk⟩
theorem hpL_hpH {H : Hp} (h : H.os.length ≤ 56) : lookH (hpL H) = hpH H := by
  funext id
  unfold hpL hpH
  by_cases h0 : id % 64 = 0
  · rw [if_pos h0]
    by_cases hk : id / 64 < H.bs.length
    · rw [lookH_left (by
        obtain ⟨x, hx, e⟩ := boxL_has (b := 0) (l := H.bs) (k := id / 64) (by omega) (by omega)
        exact ⟨x, hx, by omega⟩), lookH_box, if_pos (by omega), Nat.sub_zero]
      rcases H.bs[id / 64]? with _ | ⟨t, cs⟩ <;> rfl
    · rw [lookH_append (fun x hx => by
        obtain ⟨k, h1, h2, h3⟩ := boxL_keys x hx
        omega), lookH_row, List.getElem?_eq_none (l := H.bs) (by omega)]
      split
      · rw [List.getElem?_eq_none (by omega)]
      · rfl
  · rw [if_neg h0, lookH_append (fun x hx => by
      obtain ⟨k, h1, h2, h3⟩ := boxL_keys x hx
      omega), lookH_row, Nat.add_zero, Nat.sub_zero]
    by_cases h8 : 8 ≤ id
    · rw [if_pos h8]
      by_cases h64 : id < 64
      · rw [if_pos ⟨h8, h64⟩]
        rcases H.os[id - 8]? with _ | ⟨t, own, es⟩ <;> rfl
      · rw [if_neg (by omega), List.getElem?_eq_none (by omega)]
    · rw [if_neg h8, if_neg (by omega)]

def resOut : List Value → Value
  | [v] => v
  | l => .tuple l.toArray
theorem resOne_run {st : St} {w : World} {M : Mu} {tmps : Array Value} (hs : Sim P w M st.t st.h tmps) {r : ResultVar} {x : A} (h : resOne P st r = some x) :
    ∃ v, ((fun | .tmp t => pure (tmps.getD t undef) | .cell a t => do loadVar t (← asAddr (tmps.getD a undef)) : ResultVar → Sem Value) r).run P w = .ok v w ∧ RepA w M x v := by
  cases r with
  | tmp t =>
    simp only [resOne, Option.some.injEq] at h
    subst h
    exact ⟨_, by simp only [Sem.run_pure], hs.tm t⟩
  | cell a ty =>
    simp only [resOne] at h
    split at h
    · rename_i id off hp
      split at h
      · rename_i x' h' hm
        simp only [Option.some.injEq] at h
        subst h
        have hr := hs.tm a
        obtain ⟨_, z, q1, q2⟩ := load_sound hs (v := tmps.getD a undef) (a := st.t a) hr hm
        rw [hp] at hr
        simp only [RepA] at hr
        obtain ⟨b, c, _, hv⟩ := hr
        rw [hv] at q1
        refine ⟨z, ?_, q2⟩
        simp only [hv]
        simpa [asAddr, Instr.loadAt, Instr.sureAddr] using q1
      · cases h
    · cases h
theorem results_run {fn : Func} {st : St} {w : World} {M : Mu} {tmps : Array Value} (hs : Sim P w M st.t st.h tmps) {v : A} (h : resV P fn st = some v) :
    ∃ u, (results fn tmps).run P w = .ok u w ∧ RepA w M v u := by
  have key : ∀ (rs : List ResultVar) (l : List A), resL P st rs = some l → ∃ us : List Value, RepL w M l us ∧ ∀ {k : List Value → Sem Value}, (do let vs ← rs.mapM (fun | .tmp t => pure (tmps.getD t undef) | .cell a t => do loadVar t (← asAddr (tmps.getD a undef)) : ResultVar → Sem Value); k vs : Sem Value).run P w = (k us).run P w := by
    intro rs
    induction rs with
    | nil => intro l h; simp [resL] at h; subst h; exact ⟨[], by simp [RepL], by simp⟩
    | cons r rs ih =>
      intro l h
      simp only [resL] at h
      split at h
      · rename_i x hx
        split at h
        · rename_i xs hxs
          injection h with h; subst h
          obtain ⟨us, hu, hk⟩ := ih xs hxs
          obtain ⟨v, hv, hr⟩ := resOne_run hs hx
          refine ⟨v :: us, by simp only [RepL]; exact ⟨hr, hu⟩, fun {k} => ?_⟩
          have := hk (k := fun vs => k (v :: vs))
          simp only [List.mapM_cons, bind_assoc, pure_bind]
          rw [Sem.run_bind, hv, Result.andThen_ok]
          exact this
        · cases h
      · cases h
  have e : fn.results = fn.results.toList.toArray := by simp
  unfold resV at h
  have fin : ∀ l, resL P st fn.results.toList = some l → ∃ us : List Value, RepL w M l us ∧ (results fn tmps).run P w = .ok (resOut us) w := by
    intro l hl
    obtain ⟨us, hu, hk⟩ := key _ l hl
    refine ⟨us, hu, ?_⟩
    unfold results
    rw [e, List.mapM_toArray]
    simp only [bind_map_left]
    refine (hk (k := fun vs => pure (if h : vs.toArray.size = 1 then vs.toArray[0] else .tuple vs.toArray))).trans ?_
    simp only [Sem.run_pure]
    match us with
    | [] => simp [resOut]
    | [t] => simp [resOut]
    | _ :: _ :: _ => simp [resOut]
  split at h
  · rename_i r hl
    injection h with h; subst h
    obtain ⟨us, hu, hr⟩ := fin _ hl
    match us, hu with
    | [u], hu => simp only [RepL] at hu; exact ⟨_, hr, hu.1⟩
    | [], hu => simp [RepL] at hu
    | _ :: _ :: _, hu => simp [RepL] at hu
  · rename_i rs hne hl
    injection h with h; subst h
    obtain ⟨us, hu, hr⟩ := fin _ hl
    match us, hu with
    | [u], hu =>
      match rs, hu with
      | [r], _ => exact absurd rfl (hne r)
      | [], hu => simp [RepL] at hu
      | _ :: _ :: _, hu => simp [RepL] at hu
    | [], hu => exact ⟨_, hr, by simp only [RepA]; exact ⟨_, rfl, hu⟩⟩
    | _ :: _ :: _, hu => exact ⟨_, hr, by simp only [RepA]; exact ⟨_, rfl, hu⟩⟩
  · cases h
theorem repL_len {w : World} {M : Mu} : ∀ {l : List A} {vs : List Value}, RepL w M l vs → l.length = vs.length
  | [], [], _ => rfl
  | _ :: l, _ :: vs, h => by simp only [RepL] at h; simp [repL_len h.2]
  | [], _ :: _, h => by simp [RepL] at h
  | _ :: _, [], h => by simp [RepL] at h
theorem okBs_spec {no : Nat} : ∀ {l : List (TypeId × List A)}, okBs no l = true → ∀ x ∈ l, okL no x.2 = true
  | [], _ => by simp
  | (t, a) :: l, h => by
    simp only [okBs, Bool.and_eq_true] at h
    intro x hx
    rcases List.mem_cons.1 hx with rfl | hx
    · exact h.1
    · exact okBs_spec h.2 x hx
/-- The function has a body, and may be called. -/
def bodyOk (fn : Func) (c : Code) (xs : List A) (H : Hp) : Prop := fn.body = some c ∧ ((fn.name == "runtime.NumGoroutine") = false ∧ (leB xs.length fn.ntmps && leB H.os.length 56) = true)
theorem Ct.of {f : FuncId} {fn : Func} {c : Code} {xs : List A} {H : Hp} {r : A} {H' : Hp} (hm : P.follows .mixedOrders = true) (hf : P.funcs[f]? = some fn) (hb : bodyOk fn c xs H)
    (h : X P H.bs.length c (entry fn xs H) (finK P fn H.bs.length r H')) (hr : (Nat.beq H'.bs.length H.bs.length && leB H'.os.length 56 && okA H'.os.length r && okBs H'.os.length H'.bs) = true) : Ct P f xs H r H' := by
  obtain ⟨hb, hname, hlen⟩ := hb
  simp only [Bool.and_eq_true, leB] at hlen hr
  obtain ⟨⟨⟨e1, e2⟩, e3⟩, e4⟩ := hr
  have e2' := Nat.le_of_ble_eq_true e2
  refine ⟨⟨fn, hf, by rw [hb]; rfl, hname⟩, ⟨Nat.eq_of_beq_eq_true e1, e2', e3, okBs_spec e4⟩, fun w M vs hS hR => ?_⟩
  have hvl := repL_len hR
  have hxl := Nat.le_of_ble_eq_true hlen.1
  refine calls_of_wp hf hb (X_wp (w0 := w) (M0 := M) hm h ⟨M, ?_⟩ ?_)
  · refine ⟨⟨fun i => ?_, ?_, hS.dis, hS.nf, hS.fz⟩, ?_, rfl, Step.refl _ _, fun _ _ => rfl⟩
    · simp only [entry, argT]
      rw [Array.getD_eq_getD_getElem?, Array.getElem?_append]
      cases hx : xs[i]? with
      | some a =>
        obtain ⟨v, hv, hr⟩ := hR.get hx
        have hi : i < vs.length := (List.getElem?_eq_some_iff.1 hv).1
        rw [if_pos (by simpa using hi)]
        simp only [List.getElem?_toArray, hv, Option.getD_some]
        exact hr
      | none =>
        have hi : vs.length ≤ i := by rw [← hvl]; exact List.getElem?_eq_none_iff.1 hx
        rw [if_neg (by simp; exact hi)]
        simp only [RepA]
        simp only [Array.getElem?_replicate]
        split <;> rfl
    · have := hS.ob
      rw [← hpL_hpH (Nat.le_of_ble_eq_true hlen.2)] at this
      exact this
    · simp only [entry, Array.size_append, Array.size_replicate, List.size_toArray]
      omega
  · have fin : ∀ s, Done P fn H.bs.length s r H' → ∀ a' w', AtX P H.bs.length w M s a' w' → a'.defers = [] ∧ ∃ v, (results fn a'.tmps).run P w' = .ok v w' ∧
        ∃ v' M', Ending.returned v = .returned v' ∧ Sim P w' M' (fun _ => .junk) (hpH H') #[] ∧ RepA w' M' r v' ∧ Step w M w' M' ∧ ∀ b, b < H.bs.length → M'.m (64 * b) = M.m (64 * b) := by
      intro s hF a' w' hA
      obtain ⟨M1, hA⟩ := hA
      refine ⟨hA.defers, ?_⟩
      replace hF := (by cases hF with | wrap h => exact h : DoneD P fn H.bs.length s r H')
      unfold DoneD at hF
      split at hF
      · rename_i v hv
        obtain ⟨_, ss, Z, hto⟩ := hF
        -- the result's value
        have hval := results_run hA.sim hv
        obtain ⟨u, hu, hru⟩ := hval
        refine ⟨u, hu, u, ?_⟩
        let a2 : Act := ⟨Array.replicate s.n u, []⟩
        obtain ⟨⟨h1, h2⟩, h3⟩ := hto
        simp only [Bool.and_eq_true] at h2
        -- the result, behind a temporary of its own
        have hS2 : Sim P w' M1 (fun i => if i = 0 then v else .junk) s.h #[u] := by
          refine ⟨fun i => ?_, hA.sim.ob, hA.sim.dis, hA.sim.nf, hA.sim.fz⟩
          by_cases hi : i = 0
          · subst hi; simpa using hru
          · simp only [if_neg hi]; simp only [RepA]
        have h3' : Wk (fun i => if i = 0 then v else .junk) s.h (entOf (hpL H') ss) Z [(0, r)] := ⟨h3.1, h3.2.1, trivial⟩
        obtain ⟨q1, q2⟩ := wk_sim hS2 h3'
        have q0 := q1.tm 0
        rw [entH_entOf h2.1, hpL_hpH e2'] at q1
        refine ⟨muWk M1 (entOf (hpL H') ss) Z, rfl, ⟨fun i => by simp only [RepA], q1.ob, q1.dis, q1.nf, q1.fz⟩, by simpa [lookT] using q0, hA.step.trans q2, fun b hb => (muWk_m (boxesKept_spec h2.2 b hb)).trans (hA.m b hb)⟩
      · exact hF.elim
    intro e s hk a' w' hA
    cases e with
    | nrm => exact fin s hk a' w' hA
    | ret => exact fin s hk a' w' hA
    | exit id => exact hk.elim
theorem Done.of {fn : Func} {nb : Nat} {s : St} {r v : A} {H' : Hp} (ss : List (Option Nat)) (Z : List Nat) (hv : resV P fn s = some v) (hb : (Nat.beq H'.bs.length nb && leB H'.os.length 56 && okA H'.os.length r && okBs H'.os.length H'.bs) = true)
    (ht : To nb ⟨s.n, fun _ => v, s.h⟩ s.n [(0, r)] (hpL H') ss Z) : Done P fn nb s r H' := by
  refine ⟨?_⟩
  unfold DoneD
  rw [hv]
  exact ⟨hb, ss, Z, ht⟩
/-- Nothing but a value comes back. -/
theorem Done.val {fn : Func} {s : St} {r v : A} (hv : resV P fn s = some v) (hw : wkA s.h [] [] v r) (hk : okA 0 r = true) : Done P fn 0 s r ⟨[], []⟩ := by
  refine ⟨?_⟩
  unfold DoneD
  rw [hv]
  simp only
  exact ⟨by simp [leB, okBs, hk], [], [], ⟨rfl, rfl⟩, ⟨rfl, trivial⟩, hw, trivial⟩
theorem Done.d {fn : Func} {s : St} {x y : D} (hv : resV P fn s = some (.d x)) (e : x = y) : Done P fn 0 s (.d y) ⟨[], []⟩ := Done.val hv e rfl
theorem Done.int {fn : Func} {s : St} {k : IntKind} {x y : Int} (hv : resV P fn s = some (.d (.int k x))) (e : x = y) : Done P fn 0 s (.d (.int k y)) ⟨[], []⟩ := Done.d hv (by rw [e])
theorem Done.bool {fn : Func} {s : St} {x y : Bool} (hv : resV P fn s = some (.d (.bool x))) (e : x = y) : Done P fn 0 s (.d (.bool y)) ⟨[], []⟩ := Done.d hv (by rw [e])
end
end Go.AX
