/- A law's arguments, read as data: what the row gives, as the executor wants it. -/
import Derived.Test.YtfbphnkfddgihaaAxGen
import Derived.ChangeShapes
import Derived.WideShapes
import Derived.Carry
namespace Go.AX

def offsF (P : Program) : Nat → List Field → Option Nat
  | o, [] => some o
  | o, f :: l => if f.offset = o then offsF P (o + P.cellsOf f.type) l else none
/-- Types of ints, bools, strings, structs and slices of each other. -/
def fitsT (P : Program) (S : List TypeId) : Bool := S.all fun t => match P.underlying t with
  | some .bool => P.cellsOf t == 1
  | some (.int _) => P.cellsOf t == 1
  | some .string => P.cellsOf t == 1
  | some (.slice e) => S.contains e && P.cellsOf t == 1
  | some (.struct fs) => (fs.toList.all fun f => S.contains f.type) && offsF P 0 fs.toList == some (P.cellsOf t)
  | _ => false
def HasFs (H : TypeId → List D → Prop) : List Field → List D → Prop
  | [], ds => ds = []
  | f :: l, ds => ∃ a b, ds = a ++ b ∧ H f.type a ∧ HasFs H l b
def Has (P : Program) : Nat → TypeId → List D → Prop
  | 0, _, _ => False
  | n + 1, t, ds => match P.underlying t with
    | some .bool => ∃ b, ds = [.bool b]
    | some (.int k) => ∃ i, ds = [.int k i] ∧ (Lit.int k i).wf = true
    | some .string => ∃ s, ds = [.str s] ∧ s.size ≤ maxLen
    | some (.slice e) => ∃ es, ds = [.sl es] ∧ es.length ≤ maxLen ∧ ∀ r ∈ es, Has P n e r
    | some (.struct fs) => HasFs (Has P n) fs.toList ds
    | _ => False

section
variable {H : Type} {enc : TypeId × Value → H} {P : Program} {w : World} {spare : Nat → Bool} {held : Bool}
abbrev old (w : World) : Nat → Prop := fun b => b < w.heap.size
def RepC (w : World) (cs : List Value) (ds : List D) : Prop := ds.length = cs.length ∧ ∀ (j : Nat) (v : Value), cs[j]? = some v → ∃ x, ds[j]? = some x ∧ Rep w (old w) v x
theorem repC_one {v : Value} {x : D} (h : Rep w (old w) v x) : RepC w [v] [x] := by
  refine ⟨rfl, fun j u hu => ?_⟩
  cases j with
  | zero => simp at hu; subst hu; exact ⟨x, rfl, h⟩
  | succ j => simp at hu
theorem repC_append {cs cs' : List Value} {ds ds' : List D} (h : RepC w cs ds) (h' : RepC w cs' ds') : RepC w (cs ++ cs') (ds ++ ds') := by
  refine ⟨by simp [h.1, h'.1], fun j v hv => ?_⟩
  by_cases hj : j < cs.length
  · rw [List.getElem?_append_left hj] at hv
    obtain ⟨x, hx, hr⟩ := h.2 j v hv
    exact ⟨x, by rw [List.getElem?_append_left (by rw [h.1]; exact hj)]; exact hx, hr⟩
  · rw [List.getElem?_append_right (by omega)] at hv
    obtain ⟨x, hx, hr⟩ := h'.2 _ v hv
    exact ⟨x, by rw [List.getElem?_append_right (by rw [h.1]; omega), h.1]; exact hx, hr⟩
theorem cells_some {a : Addr} {n : Nat} {cs : List Value} (h : w.cells? 0 a n = some cs) : cs.length = n ∧ ∀ j, j < n → w.cell? (a.add j) = cs[j]? := by
  unfold World.cells? at h
  rw [if_pos (Nat.zero_le _)] at h
  have key : ∀ (l : List Nat) (cs : List Value), l.mapM (fun i => w.cell? (a.add i)) = some cs → cs.length = l.length ∧ ∀ (j : Nat) (i : Nat), l[j]? = some i → w.cell? (a.add i) = cs[j]? := by
    intro l
    induction l with
    | nil => intro cs h; simp at h; subst h; simp
    | cons i l ih =>
      intro cs h
      simp only [List.mapM_cons] at h
      cases h1 : w.cell? (a.add i) with
      | none => simp [h1] at h
      | some v =>
        cases h2 : l.mapM (fun i => w.cell? (a.add i)) with
        | none => simp [h1, h2] at h
        | some vs =>
          simp [h1, h2] at h
          subst h
          obtain ⟨q1, q2⟩ := ih vs h2
          refine ⟨by simp [q1], fun j k hk => ?_⟩
          cases j with
          | zero => simp at hk; subst hk; simp [h1]
          | succ j => simp at hk; simpa using q2 j k hk
  obtain ⟨q1, q2⟩ := key _ cs h
  refine ⟨by simpa using q1, fun j hj => q2 j j (by simp [hj])⟩
theorem cell_old {a : Addr} {v : Value} (h : w.cell? a = some v) : a.block < w.heap.size := by
  unfold World.cell? at h
  rcases Nat.lt_or_ge a.block w.heap.size with q | q
  · exact q
  · rw [Array.getElem?_eq_none q] at h; simp at h
theorem mapM_range {β : Type} {n : Nat} {f : Nat → Option β} {l : List β} (h : (List.range n).mapM f = some l) : l.length = n ∧ ∀ i, i < n → ∃ x, f i = some x := by
  have key : ∀ (l : List Nat) (r : List β), l.mapM f = some r → r.length = l.length ∧ ∀ i ∈ l, ∃ x, f i = some x := by
    intro l
    induction l with
    | nil => intro r h; simp at h; subst h; simp
    | cons i l ih =>
      intro r h
      simp only [List.mapM_cons] at h
      cases h1 : f i with
      | none => simp [h1] at h
      | some v =>
        cases h2 : l.mapM f with
        | none => simp [h1, h2] at h
        | some vs =>
          simp [h1, h2] at h
          subst h
          obtain ⟨q1, q2⟩ := ih vs h2
          refine ⟨by simp [q1], fun j hj => ?_⟩
          rcases List.mem_cons.1 hj with rfl | hj
          · exact ⟨v, h1⟩
          · exact q2 j hj
  obtain ⟨q1, q2⟩ := key _ l h
  exact ⟨by simpa using q1, fun i hi => q2 i (by simp [hi])⟩
theorem fits_at {S : List TypeId} (hS : fitsT P S = true) {t : TypeId} (ht : t ∈ S) : (match P.underlying t with
  | some .bool => P.cellsOf t == 1
  | some (.int _) => P.cellsOf t == 1
  | some .string => P.cellsOf t == 1
  | some (.slice e) => S.contains e && P.cellsOf t == 1
  | some (.struct fs) => (fs.toList.all fun f => S.contains f.type) && offsF P 0 fs.toList == some (P.cellsOf t)
  | _ => false) = true := List.all_eq_true.1 hS t ht

theorem trod_has {S : List TypeId} (hS : fitsT P S = true) : ∀ (fuel : Nat) (t : TypeId) (cs : List Value) (x : DataW H × List MemPlace), t ∈ S → DataW.trod enc P w 0 spare held fuel t cs = some x → ∃ ds, Has P fuel t ds ∧ cs.length = P.cellsOf t ∧ RepC w cs ds := by
  intro fuel
  induction fuel with
  | zero => intro t cs x _ h; simp [DataW.trod] at h
  | succ fuel ih =>
    intro t cs x ht h
    have hf := fits_at hS ht
    simp only [DataW.trod] at h
    cases hu : P.underlying t with
    | none => rw [hu] at hf; cases hf
    | some d =>
      rw [hu] at hf h
      cases d with
      | bool =>
        rcases cs with _ | ⟨v, _ | ⟨v', cs⟩⟩ <;> try (simp at h; done)
        cases v <;> try (simp at h; done)
        rename_i b
        exact ⟨[.bool b], by simp only [Has, hu]; exact ⟨b, rfl⟩, by simpa using (beq_iff_eq.1 hf).symm, repC_one (.bool _)⟩
      | int k =>
        rcases cs with _ | ⟨v, _ | ⟨v', cs⟩⟩ <;> try (simp at h; done)
        cases v <;> try (simp at h; done)
        try simp only at h
        split at h
        · rename_i hk
          obtain ⟨rfl, hwf⟩ := hk
          exact ⟨[.int _ _], by simp only [Has, hu]; exact ⟨_, rfl, hwf⟩, by simpa using (beq_iff_eq.1 hf).symm, repC_one (.int _ _)⟩
        · cases h
      | string =>
        rcases cs with _ | ⟨v, _ | ⟨v', cs⟩⟩ <;> try (simp at h; done)
        cases v <;> try (simp at h; done)
        rename_i s
        try simp only at h
        split at h
        · rename_i hsz
          exact ⟨[.str s], by simp only [Has, hu]; exact ⟨s, rfl, hsz⟩, by simpa using (beq_iff_eq.1 hf).symm, repC_one (.str _)⟩
        · cases h
      | slice e =>
        simp only [Bool.and_eq_true, List.contains_eq_mem, decide_eq_true_eq] at hf
        rcases cs with _ | ⟨v, _ | ⟨v', cs⟩⟩ <;> try (simp at h; done)
        cases v <;> try (simp at h; done)
        rename_i a len c
        cases a with
        | none =>
          cases len with
          | succ len => simp at h
          | zero => cases c with
            | succ c => simp at h
            | zero => exact ⟨[.sl []], by simp only [Has, hu]; exact ⟨[], rfl, by simp, by simp⟩, by simpa using (beq_iff_eq.1 hf.2).symm, repC_one (.sl none 0 0 [] (fun _ _ => undef) (by simp) (by simp) (by simp [at2]) (by simp [at2]))⟩
        | some a =>
          try simp only at h
          split at h
          · rename_i hb
            cases hm : (List.range len).mapM fun i => (w.cells? 0 (a.add (i * P.cellsOf e)) (P.cellsOf e)).bind (DataW.trod enc P w 0 spare held fuel e) with
            | none => rw [hm] at h; cases h
            | some els =>
              obtain ⟨_, hel⟩ := mapM_range hm
              have hch : ∀ i, ∃ r : List Value × List D, i < len → w.cells? 0 (a.add (i * P.cellsOf e)) (P.cellsOf e) = some r.1 ∧ Has P fuel e r.2 ∧ r.1.length = P.cellsOf e ∧ RepC w r.1 r.2 := by
                intro i
                by_cases hi : i < len
                · obtain ⟨y, hy⟩ := hel i hi
                  cases hc : w.cells? 0 (a.add (i * P.cellsOf e)) (P.cellsOf e) with
                  | none => rw [hc] at hy; cases hy
                  | some l =>
                    rw [hc] at hy
                    obtain ⟨ds, q1, q2, q3⟩ := ih e l y hf.1 hy
                    exact ⟨(l, ds), fun _ => ⟨rfl, q1, q2, q3⟩⟩
                · exact ⟨([], []), fun q => absurd q hi⟩
              let r : Nat → List Value × List D := fun i => Classical.choose (hch i)
              have hr : ∀ i, i < len → w.cells? 0 (a.add (i * P.cellsOf e)) (P.cellsOf e) = some (r i).1 ∧ Has P fuel e (r i).2 ∧ (r i).1.length = P.cellsOf e ∧ RepC w (r i).1 (r i).2 := fun i => Classical.choose_spec (hch i)
              let es : List (List D) := (List.range len).map fun i => (r i).2
              have hlen : es.length = len := by simp [es]
              have hget : ∀ i, i < len → es[i]? = some (r i).2 := by intro i hi; simp [es, hi]
              have hrow : ∀ i row, es[i]? = some row → i < len ∧ row = (r i).2 := by
                intro i row hrw
                have hi : i < len := by rw [← hlen]; exact (List.getElem?_eq_some_iff.1 hrw).1
                rw [hget i hi] at hrw
                exact ⟨hi, by injection hrw with q; exact q.symm⟩
              refine ⟨[.sl es], by
                simp only [Has, hu]
                refine ⟨es, rfl, by rw [hlen]; omega, fun row hrw => ?_⟩
                obtain ⟨i, hi⟩ := List.mem_iff_getElem?.1 hrw
                obtain ⟨h1, rfl⟩ := hrow i row hi
                exact (hr i h1).2.1, by simpa using (beq_iff_eq.1 hf.2).symm, ?_⟩
              refine repC_one ?_
              have hat : ∀ i j y, at2 es i j = some y → i < len ∧ j < P.cellsOf e ∧ (r i).2[j]? = some y := by
                intro i j y hy
                unfold at2 at hy
                cases hq : es[i]? with
                | none => rw [hq] at hy; cases hy
                | some row =>
                  rw [hq] at hy
                  obtain ⟨h1, rfl⟩ := hrow i row hq
                  simp only [Option.bind_some] at hy
                  have := (List.getElem?_eq_some_iff.1 hy).1
                  obtain ⟨_, _, q3, q4⟩ := hr i h1
                  exact ⟨h1, by rw [q4.1, q3] at this; exact this, hy⟩
              have main := Rep.sl (w := w) (F := old w) (some a) c (P.cellsOf e) es (fun i j => ((r i).1[j]?).getD undef) (by omega) (fun row hrw => by
                obtain ⟨i, hi⟩ := List.mem_iff_getElem?.1 hrw
                obtain ⟨h1, rfl⟩ := hrow i row hi
                obtain ⟨_, _, q3, q4⟩ := hr i h1
                rw [q4.1, q3]) (fun i j y hy => by
                obtain ⟨h1, h2, _⟩ := hat i j y hy
                obtain ⟨q1, _, q3, _⟩ := hr i h1
                obtain ⟨_, p2⟩ := cells_some q1
                have hc := p2 j h2
                have hv : (r i).1[j]? = some ((r i).1[j]'(by omega)) := List.getElem?_eq_getElem (by omega)
                refine ⟨a, rfl, ?_, ?_⟩
                · rw [hv] at hc
                  have := cell_old hc
                  simpa [Addr.add_add, add_block] using this
                · rw [hv] at hc ⊢
                  simp only [Option.getD_some]
                  rw [← hc, Addr.add_add]) (fun i j y hy => by
                obtain ⟨h1, h2, h3⟩ := hat i j y hy
                obtain ⟨_, _, q3, q4⟩ := hr i h1
                have hv : (r i).1[j]? = some ((r i).1[j]'(by omega)) := List.getElem?_eq_getElem (by omega)
                obtain ⟨z, hz, hrep⟩ := q4.2 j _ hv
                rw [h3] at hz
                injection hz with hz
                subst hz
                rw [hv]
                exact hrep)
              rw [hlen] at main
              exact main
          · cases h
      | struct fs =>
        simp only [Bool.and_eq_true, beq_iff_eq] at hf
        try simp only at h
        split at h
        · rename_i hlen
          cases hm : fs.toList.mapM fun f => DataW.trod enc P w 0 spare held fuel f.type ((cs.drop f.offset).take (P.cellsOf f.type)) with
          | none => rw [hm] at h; cases h
          | some ys =>
            have key : ∀ (l : List Field) (o : Nat) (ys : List (DataW H × List MemPlace)), (∀ f ∈ l, f.type ∈ S) → offsF P o l = some (P.cellsOf t) → o ≤ P.cellsOf t → l.mapM (fun f => DataW.trod enc P w 0 spare held fuel f.type ((cs.drop f.offset).take (P.cellsOf f.type))) = some ys →
                ∃ ds, HasFs (Has P fuel) l ds ∧ RepC w (cs.drop o) ds := by
              intro l
              induction l with
              | nil =>
                intro o ys _ ho _ _
                simp only [offsF, Option.some.injEq] at ho
                subst ho
                refine ⟨[], rfl, ?_⟩
                rw [List.drop_eq_nil_of_le (by omega)]
                exact ⟨rfl, by simp⟩
              | cons f l ihl =>
                intro o ys hmem ho hle hmm
                simp only [offsF] at ho
                split at ho
                · rename_i hoff
                  simp only [List.mapM_cons] at hmm
                  cases h1 : DataW.trod enc P w 0 spare held fuel f.type ((cs.drop f.offset).take (P.cellsOf f.type)) with
                  | none => rw [h1] at hmm; cases hmm
                  | some y =>
                    cases h2 : l.mapM (fun f => DataW.trod enc P w 0 spare held fuel f.type ((cs.drop f.offset).take (P.cellsOf f.type))) with
                    | none => rw [h1, h2] at hmm; cases hmm
                    | some ys' =>
                      obtain ⟨a, q1, q2, q3⟩ := ih f.type _ y (hmem f (by simp)) h1
                      rw [hoff] at q2 q3
                      have hfit : o + P.cellsOf f.type ≤ P.cellsOf t := by
                        rw [List.length_take, List.length_drop, hlen] at q2
                        omega
                      obtain ⟨b, p1, p2⟩ := ihl (o + P.cellsOf f.type) ys' (fun g hg => hmem g (by simp [hg])) ho hfit h2
                      refine ⟨a ++ b, ⟨a, b, rfl, q1, p1⟩, ?_⟩
                      have e : cs.drop o = (cs.drop o).take (P.cellsOf f.type) ++ cs.drop (o + P.cellsOf f.type) := by
                        rw [← List.drop_drop, List.take_append_drop]
                      rw [e]
                      exact repC_append q3 p2
                · cases ho
            obtain ⟨ds, q1, q2⟩ := key fs.toList 0 ys (fun f hf' => by
              have := List.all_eq_true.1 hf.1 f hf'
              simpa using this) hf.2 (Nat.zero_le _) hm
            exact ⟨ds, by simp only [Has, hu]; exact q1, hlen, by simpa using q2⟩
        · cases h
      | _ => cases hf
end
end Go.AX
namespace Go.AX
section
variable {H : Type} {enc : TypeId × Value → H} {P : Program} {w : World} {spare : Nat → Bool} {held : Bool}
/-- Nothing is the call's own; all that is there may be read. -/
def mu0 (w : World) : Mu := ⟨fun _ => none, fun _ => [], old w⟩
theorem sim0 : Sim P w (mu0 w) (fun _ => .junk) (hpH ⟨[], []⟩) #[] := by
  refine ⟨fun i => by simp only [RepA], fun id => ?_, fun i j _ b hb => by simp [mu0] at hb, fun i b hb => by simp [mu0] at hb, fun b hb => hb⟩
  have : hpH ⟨[], []⟩ id = .gone := by unfold hpH; split <;> simp
  rw [this]
  simp only [SimO, mu0]
def argA (P : Program) (t : TypeId) (ds : List D) : A := match aggT P t with
  | true => .agg (ds.map .d)
  | false => .d (ds.headD (.bool false))
theorem repL_data : ∀ {cs : List Value} {ds : List D}, RepC w cs ds → RepL w (mu0 w) (ds.map .d) cs
  | [], [], _ => by simp [RepL]
  | c :: cs, d :: ds, h => by
    simp only [List.map_cons, RepL, RepA]
    obtain ⟨x, hx, hr⟩ := h.2 0 c rfl
    simp only [List.getElem?_cons_zero, Option.some.injEq] at hx
    subst hx
    exact ⟨hr, repL_data ⟨by simpa using h.1, fun j v hv => by simpa using h.2 (j + 1) v (by simpa using hv)⟩⟩
  | [], _ :: _, h => by simp [RepC] at h
  | _ :: _, [], h => by simp [RepC] at h
theorem arg_rep {S : List TypeId} (hS : fitsT P S = true) {t : TypeId} (ht : t ∈ S) {r : Reach} {base : Nat} {v : Value} (hv : Value.okWide P w r base t v) {d : DataW H} {ps : List MemPlace} (h : DataW.Trod enc P w 0 spare held t v d ps) :
    ∃ n ds, Has P n t ds ∧ RepA w (mu0 w) (argA P t ds) v := by
  obtain ⟨n, h⟩ := h
  obtain ⟨ds, h1, h2, h3⟩ := trod_has hS n t _ _ ht h
  refine ⟨n, ds, h1, ?_⟩
  have hf := fits_at hS ht
  cases hu : P.underlying t with
  | none => rw [hu] at hf; cases hf
  | some desc =>
    rw [hu] at hf
    have one : ∀ (hc : P.cellsOf t = 1) (ha : aggT P t = false) (hcell : v.cells = #[v]), RepA w (mu0 w) (argA P t ds) v := by
      intro hc ha hcell
      have hl := h3.1
      rw [hcell] at h3 hl
      match ds, hl with
      | [x], _ =>
        simp only [argA, ha, List.headD_cons, RepA]
        obtain ⟨y, hy, hr⟩ := h3.2 0 v rfl
        simp only [List.getElem?_cons_zero, Option.some.injEq] at hy
        subst hy
        exact hr
      | [], hl => simp at hl
      | _ :: _ :: _, hl => simp at hl
    have cells : (∀ cs, v ≠ .agg cs) → v.cells = #[v] := by
      intro hne
      cases v <;> first
        | rfl
        | exact absurd rfl (hne _)
    cases desc with
    | bool => exact one (beq_iff_eq.1 hf) (by simp [aggT, hu]) (cells fun cs e => by subst e; simp [Value.okWide, hu, Cell.okWide, Cell.ok] at hv)
    | int k => exact one (beq_iff_eq.1 hf) (by simp [aggT, hu]) (cells fun cs e => by subst e; simp [Value.okWide, hu, Cell.okWide, Cell.ok] at hv)
    | string => exact one (beq_iff_eq.1 hf) (by simp [aggT, hu]) (cells fun cs e => by subst e; simp [Value.okWide, hu, Cell.okWide, Cell.ok] at hv)
    | slice e =>
      simp only [Bool.and_eq_true] at hf
      exact one (beq_iff_eq.1 hf.2) (by simp [aggT, hu]) (cells fun cs e => by subst e; simp [Value.okWide, hu, Cell.okWide, Cell.ok] at hv)
    | struct fs =>
      obtain ⟨cs, rfl, _⟩ := WideShapes.okWide_struct hu hv
      have ha : aggT P t = true := by simp [aggT, hu]
      simp only [argA, ha, RepA]
      exact ⟨cs.toList, by simp, repL_data (by simpa [Value.cells] using h3)⟩
    | _ => cases hf
theorem step_below {w' : World} {M' : Mu} (h : Step w (mu0 w) w' M') : RowKit.Below w.heap.size w w' := ⟨h.os, h.tape, h.output, h.size, fun k hk => h.keep k hk fun id hb => by simp [mu0] at hb⟩
/-- What a law's contract says of a call. -/
theorem law_calls {f : FuncId} {xs : List A} {vs : List Value} (hc : Ct P f xs ⟨[], []⟩ (.d (.bool true)) ⟨[], []⟩) (hr : RepL w (mu0 w) xs vs) : Calls P f vs.toArray w fun e w' => e = .returned (.bool true) ∧ RowKit.Below w.heap.size w w' := by
  refine (hc.2.2 w (mu0 w) vs sim0 hr).mono fun e w' => ?_
  rintro ⟨v, M', rfl, _, hv, hst, _⟩
  simp only [RepA] at hv
  rw [rep_bool hv]
  exact ⟨rfl, step_below hst⟩
end
end Go.AX
