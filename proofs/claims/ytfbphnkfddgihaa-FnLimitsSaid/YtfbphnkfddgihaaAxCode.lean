/- Code on abstract states. -/
import Derived.Test.YtfbphnkfddgihaaAxWk
namespace Go.AX

inductive Ex where
  | nrm
  | exit (id : Nat)
  | ret
def Ex.at : Ex → Exit
  | .nrm => .normal
  | .exit id => .exit id
  | .ret => .ret
def condK (c : A) (x y : Prop) : Prop :=
  match c with
  | .d (.bool b) => (match b with
    | true => x
    | false => y)
  | _ => False
/-- A loop's run from the start of a round. -/
def LoopFrom (P : Program) (c : Code) (Q : Exit → Act → World → Prop) (a : Act) (w : World) : Prop :=
  ∀ (b : Frame) (k : List Item) (cs : List Frame), ∃ e a' w', Q e a' w' ∧ Arrives P (lone (b.at a (.code c :: .inLoop c :: k)) cs w) b k cs e a' w'
theorem LoopFrom.wp {P : Program} {c : Code} {Q : Exit → Act → World → Prop} {a : Act} {w : World} (h : LoopFrom P c Q a w) : (Code.loop c).wp P Q a w :=
  fun b k cs => let ⟨e, a', w', q, r⟩ := h b k cs; ⟨e, a', w', q, .of_steps (.one step_loop) r⟩
theorem LoopFrom.of {P : Program} {c : Code} {Q : Exit → Act → World → Prop} {a : Act} {w : World} (h : c.wp P (Exit.then (LoopFrom P c Q) Q) a w) : LoopFrom P c Q a w := by
  intro b k cs
  obtain ⟨e, a₁, w₁, hq, harr⟩ := h b (.inLoop c :: k) cs
  cases e with
  | normal =>
    obtain ⟨e₂, a₂, w₂, hq₂, harr₂⟩ := hq b k cs
    exact ⟨e₂, a₂, w₂, hq₂, .of_steps (Steps.trans harr (.one step_inLoop)) harr₂⟩
  | exit id => exact ⟨_, a₁, w₁, hq, .pass (x := .inLoop c) rfl (fun _ _ => .inl (by simp)) harr⟩
  | goto l => exact ⟨_, a₁, w₁, hq, .pass (x := .inLoop c) rfl (fun _ _ => .inl (by simp)) harr⟩
  | ret => exact ⟨_, a₁, w₁, hq, .pass (x := .inLoop c) rfl (fun _ _ => .inl (by simp)) harr⟩
  | panic ch => exact ⟨_, a₁, w₁, hq, .pass (x := .inLoop c) rfl (fun _ _ => .inl (by simp)) harr⟩
  | outgrown => exact ⟨_, a₁, w₁, hq, .pass (x := .inLoop c) rfl (fun _ _ => .inl (by simp)) harr⟩

/-- A loop, from a state on. -/
def LoopOkD (P : Program) (nb : Nat) (body : Code) (st : St) (K : Ex → St → Prop) : Prop :=
  P.follows .mixedOrders = true → ∀ (w0 : World) (M0 : Mu) (a : Act) (w : World) (Q : Exit → Act → World → Prop), AtX P nb w0 M0 st a w → (∀ e st', K e st' → ∀ a' w', AtX P nb w0 M0 st' a' w' → Q e.at a' w') → LoopFrom P body Q a w
inductive LoopOk (P : Program) (nb : Nat) (body : Code) (st : St) (K : Ex → St → Prop) : Prop
  | wrap (h : LoopOkD P nb body st K) : LoopOk P nb body st K
theorem LoopOk.d {P : Program} {nb : Nat} {body : Code} {st : St} {K : Ex → St → Prop} (h : LoopOk P nb body st K) : LoopOkD P nb body st K := by cases h with | wrap h => exact h

def seqK (x : St → Prop) (K : Ex → St → Prop) : Ex → St → Prop
  | .nrm, s => x s
  | .exit id, s => K (.exit id) s
  | .ret, s => K .ret s
def blockK (id : Nat) (K : Ex → St → Prop) : Ex → St → Prop
  | .nrm, s => K .nrm s
  | .exit i, s => match Nat.beq i id with
    | true => K .nrm s
    | false => K (.exit i) s
  | .ret, s => K .ret s

section
variable {P : Program}
def lookH : List (Nat × O) → Heap
  | [], _ => .gone
  | (x, o) :: l, i => match Nat.beq i x with
    | true => o
    | false => lookH l i
/-- Objects with their sources. -/
def entOf : List (Nat × O) → List (Option Nat) → Ent
  | (x, o) :: l, s :: m => (x, s, o) :: entOf l m
  | _, _ => []
def sameLen : List (Nat × O) → List (Option Nat) → Bool
  | [], [] => true
  | _ :: l, _ :: m => sameLen l m
  | _, _ => false
theorem entH_entOf : ∀ {l : List (Nat × O)} {m : List (Option Nat)}, sameLen l m = true → entH (entOf l m) = lookH l
  | [], [], _ => rfl
  | (x, o) :: l, s :: m, h => by
    have ih := entH_entOf (l := l) (m := m) h
    funext i
    have ih := congrFun ih i
    simp only [entH, entOf, lookE, lookH] at ih ⊢
    split <;> split <;> simp_all
  | [], _ :: _, h => by simp [sameLen] at h
  | _ :: _, [], h => by simp [sameLen] at h
/-- A state with these temporaries and objects. -/
def mk (n : Nat) (ts : List (Nat × A)) (os : List (Nat × O)) : St := ⟨n, lookT ts, lookH os⟩
def boxesKept (E : Ent) : Nat → Bool
  | 0 => true
  | b + 1 => match lookE E (64 * b) with
    | some (some i, _) => (match Nat.beq i (64 * b) with
      | true => boxesKept E b
      | false => false)
    | _ => false
theorem boxesKept_spec {E : Ent} : ∀ {nb : Nat}, boxesKept E nb = true → ∀ b, b < nb → srcOf E (64 * b) = some (some (64 * b))
  | nb + 1, h, b, hb => by
    unfold boxesKept at h
    split at h
    · rename_i i o hl
      split at h
      · rename_i hq
        rcases Nat.lt_succ_iff_lt_or_eq.1 hb with hb | rfl
        · exact boxesKept_spec h b hb
        · simp only [srcOf, hl, Option.map_some]; rw [Nat.eq_of_beq_eq_true hq]
      · cases h
    · cases h
/-- The state st can be seen as the state of these temporaries and objects; 'ss': which object each was, 'Z': those frozen. -/
def To (nb : Nat) (st : St) (n : Nat) (ts : List (Nat × A)) (os : List (Nat × O)) (ss : List (Option Nat)) (Z : List Nat) : Prop :=
  (st.n = n ∧ (sameLen os ss && boxesKept (entOf os ss) nb) = true) ∧ Wk st.t st.h (entOf os ss) Z ts
theorem To.at {nb : Nat} {w0 w : World} {M0 : Mu} {st : St} {a : Act} {n : Nat} {ts : List (Nat × A)} {os : List (Nat × O)} {ss : List (Option Nat)} {Z : List Nat} (h : To nb st n ts os ss Z) (hA : AtX P nb w0 M0 st a w) : AtX P nb w0 M0 (mk n ts os) a w := by
  obtain ⟨⟨h1, h2⟩, h3⟩ := h
  simp only [Bool.and_eq_true] at h2
  obtain ⟨M, hA⟩ := hA
  obtain ⟨q1, q2⟩ := wk_sim hA.sim h3
  rw [entH_entOf h2.1] at q1
  exact ⟨muWk M (entOf os ss) Z, q1, by rw [hA.size, h1]; rfl, hA.defers, hA.step.trans q2, fun b hb => (muWk_m (boxesKept_spec h2.2 b hb)).trans (hA.m b hb)⟩

/-! ### a state brought to its form: some temporaries and objects, and what they refer to -/
noncomputable def fcTs (t : Nat → A) (live : List Nat) (k : List (Nat × A) → Prop) : Prop :=
  List.rec (motive := fun _ => (List (Nat × A) → Prop) → Prop) (fun k => k []) (fun i _ ih k => fcQ (t i) fun a => ih fun ts => k ((i, a) :: ts)) live k
noncomputable def fcOs (h : Heap) (ids : List Nat) (k : List (Nat × O) → Prop) : Prop :=
  List.rec (motive := fun _ => (List (Nat × O) → Prop) → Prop) (fun k => k []) (fun i _ ih k => match h i with
    | .box t cs => fcQL cs fun cs => ih fun os => k ((i, .box t cs) :: os)
    | .arr t own es => ih fun os => k ((i, .arr t own es) :: os)
    | .frz es => ih fun os => k ((i, .frz es) :: os)
    | .gone => ih k
    | .dead => ih k) ids k
def keyIn (i : Nat) : List (Nat × O) → Bool
  | [] => false
  | (x, _) :: l => match Nat.beq i x with
    | true => true
    | false => keyIn i l
mutual
def inA (os : List (Nat × O)) : A → Bool
  | .os id _ => keyIn id os
  | .ptr id _ => keyIn id os
  | .pe id _ _ _ => keyIn id os
  | .fn _ cap => inL os cap
  | .agg cs => inL os cs
  | .tup cs => inL os cs
  | .d _ => true
  | .es => true
  | .dp _ => true
  | .undef => true
  | .junk => true
def inL (os : List (Nat × O)) : List A → Bool
  | [] => true
  | a :: l => match inA os a with
    | true => inL os l
    | false => false
end
def inTs (os : List (Nat × O)) : List (Nat × A) → Bool
  | [] => true
  | (_, a) :: l => match inA os a with
    | true => inTs os l
    | false => false
def inOs (os : List (Nat × O)) : List (Nat × O) → Bool
  | [] => true
  | (_, o) :: l => match (match o with | .box _ cs => inL os cs | _ => true) with
    | true => inOs os l
    | false => false
def distK : List (Nat × O) → Bool
  | [] => true
  | (i, _) :: l => match keyIn i l with
    | true => false
    | false => distK l
def keptK (os : List (Nat × O)) : Nat → Bool
  | 0 => true
  | b + 1 => match keyIn (64 * b) os with
    | true => keptK os b
    | false => false
noncomputable def normK (live ids : List Nat) (nb : Nat) (st : St) (k : St → Prop) : Prop :=
  match st with
  | ⟨n, t, h⟩ => fcTs t live fun ts => fcOs h ids fun os => match distK os && inTs os ts && inOs os os && keptK os nb with
    | true => k (mk n ts os)
    | false => False
/-- Between two statements the state may be seen another way. -/
inductive CutK (k : St → Prop) (nb : Nat) (s : St) : Prop
  | wrap (h : k s ∨ ∃ n ts os ss Z, To nb s n ts os ss Z ∧ k (mk n ts os)) : CutK k nb s
theorem CutK.go {k : St → Prop} {nb : Nat} {s : St} (h : k s) : CutK k nb s := ⟨.inl h⟩
theorem CutK.piece {k : St → Prop} {nb n : Nat} {s : St} {ts : List (Nat × A)} {os : List (Nat × O)} (h : k (mk n ts os)) (ss : List (Option Nat)) (Z : List Nat) (h0 : To nb s n ts os ss Z) : CutK k nb s := ⟨.inr ⟨n, ts, os, ss, Z, h0, h⟩⟩
theorem CutK.to {k : St → Prop} {nb n : Nat} {s : St} {ts : List (Nat × A)} {os : List (Nat × O)} (ss : List (Option Nat)) (Z : List Nat) (h0 : To nb s n ts os ss Z) (h : k (mk n ts os)) : CutK k nb s := ⟨.inr ⟨n, ts, os, ss, Z, h0, h⟩⟩
def selfS : List (Nat × O) → List (Option Nat)
  | [] => []
  | (i, _) :: l => some i :: selfS l
theorem lookE_self {i : Nat} : ∀ {os : List (Nat × O)}, keyIn i os = true → (lookE (entOf os (selfS os)) i).map (·.1) = some (some i)
  | (x, o) :: l, h => by
    simp only [entOf, selfS, lookE]
    simp only [keyIn] at h
    split
    · rename_i hb; rw [Nat.eq_of_beq_eq_true hb]; rfl
    · rename_i hb; rw [hb] at h; exact lookE_self h
  | [], h => by cases h
mutual
theorem wkA_self {h : Heap} {os : List (Nat × O)} : ∀ {a : A}, inA os a = true → wkA h (entOf os (selfS os)) [] a a
  | .os id n, hi => by simp only [inA] at hi; simp only [wkA]; exact ⟨trivial, lookE_self hi⟩
  | .ptr id off, hi => by simp only [inA] at hi; simp only [wkA]; exact ⟨trivial, lookE_self hi⟩
  | .pe id i sz off, hi => by simp only [inA] at hi; simp only [wkA]; exact ⟨trivial, trivial, trivial, lookE_self hi⟩
  | .fn f cap, hi => by simp only [inA] at hi; simp only [wkA]; exact ⟨trivial, wkL_self hi⟩
  | .agg cs, hi => by simp only [inA] at hi; simp only [wkA]; exact wkL_self hi
  | .tup cs, hi => by simp only [inA] at hi; simp only [wkA]; exact wkL_self hi
  | .d _, _ => by simp only [wkA]
  | .es, _ => by simp only [wkA]
  | .dp _, _ => by simp only [wkA]
  | .undef, _ => by simp only [wkA]
  | .junk, _ => by simp only [wkA]
theorem wkL_self {h : Heap} {os : List (Nat × O)} : ∀ {l : List A}, inL os l = true → wkL h (entOf os (selfS os)) [] l l
  | [], _ => by simp only [wkL]
  | a :: l, hi => by
    simp only [inL] at hi
    split at hi
    · rename_i ha; simp only [wkL]; exact ⟨wkA_self ha, wkL_self hi⟩
    · cases hi
end
theorem fcTs_ex {t : Nat → A} : ∀ {live : List Nat} {k : List (Nat × A) → Prop}, fcTs t live k → ∃ ts, (∀ x ∈ ts, x.2 = t x.1) ∧ k ts
  | [], k, h => ⟨[], by simp, h⟩
  | i :: l, k, h => by
    have h : fcQ (t i) fun a => fcTs t l fun ts => k ((i, a) :: ts) := h
    rw [fcQ_eq] at h
    obtain ⟨ts, h1, h2⟩ := fcTs_ex h
    exact ⟨_, by
      intro x hx
      rcases List.mem_cons.1 hx with rfl | hx
      · rfl
      · exact h1 x hx, h2⟩
theorem fcOs_ex {h : Heap} : ∀ {ids : List Nat} {k : List (Nat × O) → Prop}, fcOs h ids k → ∃ os, (∀ x ∈ os, x.2 = h x.1 ∧ (match x.2 with | .gone => False | .dead => False | _ => True)) ∧ k os
  | [], k, hk => ⟨[], by simp, hk⟩
  | i :: l, k, hk => by
    have hk : (match h i with
      | .box t cs => fcQL cs fun cs => fcOs h l fun os => k ((i, .box t cs) :: os)
      | .arr t own es => fcOs h l fun os => k ((i, .arr t own es) :: os)
      | .frz es => fcOs h l fun os => k ((i, .frz es) :: os)
      | .gone => fcOs h l k
      | .dead => fcOs h l k) := hk
    split at hk
    · rename_i hi
      rw [fcQL_eq] at hk
      obtain ⟨os, h1, h2⟩ := fcOs_ex hk
      refine ⟨_, fun x hx => ?_, h2⟩
      rcases List.mem_cons.1 hx with rfl | hx
      · exact ⟨hi.symm, trivial⟩
      · exact h1 x hx
    · rename_i hi
      obtain ⟨os, h1, h2⟩ := fcOs_ex hk
      refine ⟨_, fun x hx => ?_, h2⟩
      rcases List.mem_cons.1 hx with rfl | hx
      · exact ⟨hi.symm, trivial⟩
      · exact h1 x hx
    · rename_i hi
      obtain ⟨os, h1, h2⟩ := fcOs_ex hk
      refine ⟨_, fun x hx => ?_, h2⟩
      rcases List.mem_cons.1 hx with rfl | hx
      · exact ⟨hi.symm, trivial⟩
      · exact h1 x hx
    · exact fcOs_ex hk
    · exact fcOs_ex hk
theorem wkT_self {t : Nat → A} {h : Heap} {os : List (Nat × O)} : ∀ {ts : List (Nat × A)}, inTs os ts = true → (∀ x ∈ ts, x.2 = t x.1) → wkT h (entOf os (selfS os)) [] t ts
  | [], _, _ => by simp only [wkT]
  | (i, a) :: l, hi, he => by
    simp only [inTs] at hi
    split at hi
    · rename_i ha
      simp only [wkT]
      have := he (i, a) (by simp)
      simp only at this
      rw [← this]
      exact ⟨wkA_self ha, wkT_self hi fun x hx => he x (List.mem_cons_of_mem _ hx)⟩
    · cases hi
theorem wkE_self {h : Heap} {os : List (Nat × O)} : ∀ {l : List (Nat × O)}, inOs os l = true → (∀ x ∈ l, x.2 = h x.1 ∧ (match x.2 with | .gone => False | .dead => False | _ => True)) → wkE h (entOf os (selfS os)) [] (entOf l (selfS l))
  | [], _, _ => by simp only [entOf, selfS, wkE]
  | (i, o) :: l, hi, he => by
    simp only [inOs] at hi
    split at hi
    · rename_i ha
      simp only [entOf, selfS, wkE]
      refine ⟨?_, wkE_self hi fun x hx => he x (List.mem_cons_of_mem _ hx)⟩
      obtain ⟨h1, h2⟩ := he (i, o) (by simp)
      simp only at h1 h2
      simp only [wkO, ← h1]
      cases o with
      | gone => exact h2.elim
      | dead => exact h2.elim
      | box t cs => exact ⟨rfl, wkL_self ha⟩
      | arr t own es => exact ⟨rfl, rfl, es.length, by rw [List.take_length]⟩
      | frz es => rfl
    · cases hi
theorem keyIn_srcs {i : Nat} : ∀ {l : List (Nat × O)}, keyIn i l = false → memN i (srcs (entOf l (selfS l))) = false
  | [], _ => rfl
  | (x, o) :: l, h => by
    simp only [keyIn] at h
    split at h
    · cases h
    · rename_i hb
      simp only [entOf, selfS, srcs, memN, hb]
      exact keyIn_srcs h
theorem distK_srcs : ∀ {l : List (Nat × O)}, distK l = true → distN (srcs (entOf l (selfS l))) = true
  | [], _ => rfl
  | (x, o) :: l, h => by
    simp only [distK] at h
    split at h
    · cases h
    · rename_i hb
      simp only [entOf, selfS, srcs, distN, keyIn_srcs hb]
      exact distK_srcs h
theorem sameLen_self : ∀ {l : List (Nat × O)}, sameLen l (selfS l) = true
  | [] => rfl
  | (_, _) :: l => sameLen_self (l := l)
theorem keptK_boxes {os : List (Nat × O)} : ∀ {nb : Nat}, keptK os nb = true → boxesKept (entOf os (selfS os)) nb = true
  | 0, _ => rfl
  | b + 1, h => by
    simp only [keptK] at h
    split at h
    · rename_i hk
      simp only [boxesKept]
      have := lookE_self hk
      cases hl : lookE (entOf os (selfS os)) (64 * b) with
      | none => rw [hl] at this; cases this
      | some q =>
        obtain ⟨s, o⟩ := q
        rw [hl] at this
        simp only [Option.map_some, Option.some.injEq] at this
        subst this
        simp only [Nat.beq_refl]
        exact keptK_boxes h
    · cases h
theorem CutK.norm {k : St → Prop} {nb : Nat} {s : St} (live ids : List Nat) (h : normK live ids nb s k) : CutK k nb s := by
  obtain ⟨n, t, hp⟩ := s
  unfold normK at h
  obtain ⟨ts, h1, h⟩ := fcTs_ex h
  obtain ⟨os, h2, h⟩ := fcOs_ex h
  split at h
  · rename_i hc
    simp only [Bool.and_eq_true] at hc
    obtain ⟨⟨⟨c1, c2⟩, c3⟩, c4⟩ := hc
    refine CutK.to (selfS os) [] ⟨⟨rfl, ?_⟩, ⟨?_, ?_⟩, ?_⟩ h
    · simp only [Bool.and_eq_true]; exact ⟨sameLen_self, keptK_boxes c4⟩
    · simp only [Bool.and_eq_true]; exact ⟨distK_srcs c1, rfl⟩
    · exact wkE_self c3 h2
    · exact wkT_self c2 h1
  · exact h.elim
def hasCallL : List Oper → Bool
  | [] => false
  | o :: l => match isCall o.op with
    | some _ => true
    | none => hasCallL l
def hasCall : Code → Bool
  | .region _ ops _ => hasCallL ops.toList
  | .seq a b => (match hasCall a with
    | true => true
    | false => hasCall b)
  | .cond _ a b => (match hasCall a with
    | true => true
    | false => hasCall b)
  | .block _ b => hasCall b
  | .loop _ => true
  | _ => false
/-- What is left of a row of statements. -/
def tl : Code → Nat → Code
  | c, 0 => c
  | .seq _ b, n + 1 => tl b n
  | c, _ => c
def tlF (fn : Func) (n : Nat) : Code := tl (fn.body.getD .skip) n
end

/-- The code leads from the state to K. -/
noncomputable def X (P : Program) (nb : Nat) (c : Code) (st : St) (K : Ex → St → Prop) : Prop :=
  Code.rec (motive := fun _ => St → (Ex → St → Prop) → Prop)
    (fun st K => K .nrm st)
    (fun _ ops draw st K => regX P nb ops draw st (K .nrm))
    (fun a _ ia ib st K => match hasCall a with
      | true => ia st (seqK (fun s => CutK (fun s => ib s K) nb s) K)
      | false => ia st (seqK (fun s => ib s K) K))
    (fun c _ _ ia ib st K => condK (val st c) (ia st K) (ib st K))
    (fun id _ ib st K => ib st (blockK id K))
    (fun b _ st K => LoopOk P nb b st K)
    (fun _ _ _ _ _ _ _ _ => False)
    (fun id st K => K (.exit id) st)
    (fun _ _ _ _ => False)
    (fun _ st K => K .nrm st)
    (fun _ _ _ => False)
    (fun st K => K .ret st)
    (fun _ _ _ => False) c st K

section
variable {P : Program}
theorem X_wp {nb : Nat} {w0 : World} {M0 : Mu} (hm : P.follows .mixedOrders = true) : ∀ {c : Code} {st : St} {K : Ex → St → Prop} {Q : Exit → Act → World → Prop} {a : Act} {w : World},
    X P nb c st K → AtX P nb w0 M0 st a w → (∀ e st', K e st' → ∀ a' w', AtX P nb w0 M0 st' a' w' → Q e.at a' w') → c.wp P Q a w
  | .skip, st, K, Q, a, w, h, hA, hK => wp_skip (hK .nrm st h a w hA)
  | .label _, st, K, Q, a, w, h, hA, hK => wp_label (hK .nrm st h a w hA)
  | .region _ ops draw, st, K, Q, a, w, h, hA, hK => regX_wp hm h hA fun st' hk a' w' hA' => hK .nrm st' hk a' w' hA'
  | .seq x y, st, K, Q, a, w, h, hA, hK => by
    have h : (match hasCall x with
      | true => X P nb x st (seqK (fun s => CutK (fun s => X P nb y s K) nb s) K)
      | false => X P nb x st (seqK (fun s => X P nb y s K) K)) := h
    split at h
    · exact wp_seq (X_wp hm (c := x) h hA fun e st' hk a' w' hA' => by
        cases e with
        | nrm =>
          have hk : CutK (fun s => X P nb y s K) nb st' := hk
          replace hk := (by cases hk with | wrap h => exact h : X P nb y st' K ∨ ∃ n ts os ss Z, To nb st' n ts os ss Z ∧ X P nb y (mk n ts os) K)
          rcases hk with hk | ⟨n, ts, os, ss, Z, hto, hk⟩
          · exact X_wp hm (c := y) hk hA' hK
          · exact X_wp hm (c := y) hk (hto.at hA') hK
        | exit id => exact hK (.exit id) st' hk a' w' hA'
        | ret => exact hK .ret st' hk a' w' hA')
    · exact wp_seq (X_wp hm (c := x) h hA fun e st' hk a' w' hA' => by
        cases e with
        | nrm => exact X_wp hm (c := y) hk hA' hK
        | exit id => exact hK (.exit id) st' hk a' w' hA'
        | ret => exact hK .ret st' hk a' w' hA')
  | .cond c x y, st, K, Q, a, w, h, hA, hK => by
    have h : condK (val st c) (X P nb x st K) (X P nb y st K) := h
    obtain ⟨M, hA⟩ := hA
    have hv : RepA w M (val st c) (a.eval c) := val_rep (n := st.n) (h := st.h) hA.sim.tm c
    unfold condK at h
    split at h
    · rename_i b hc
      rw [hc] at hv
      simp only [RepA] at hv
      have e : a.eval c = .bool b := by
        generalize a.eval c = v at hv
        cases hv
        rfl
      cases b with
      | true => exact wp_cond_true e (X_wp hm (c := x) h ⟨M, hA⟩ hK)
      | false => exact wp_cond_false e (X_wp hm (c := y) h ⟨M, hA⟩ hK)
    · exact h.elim
  | .block id b, st, K, Q, a, w, h, hA, hK => wp_block (X_wp hm (c := b) h hA fun e st' hk a' w' hA' => by
      cases e with
      | nrm => exact hK .nrm st' hk a' w' hA'
      | ret => exact hK .ret st' hk a' w' hA'
      | exit i =>
        simp only [blockK] at hk
        simp only [Ex.at, Exit.inBlock]
        split at hk
        · rename_i hb
          rw [if_pos (Nat.eq_of_beq_eq_true hb)]
          exact hK .nrm st' hk a' w' hA'
        · rename_i hb
          rw [if_neg (fun e => by subst e; simp at hb)]
          exact hK (.exit i) st' hk a' w' hA')
  | .loop b, st, K, Q, a, w, h, hA, hK => by
    have h : LoopOk P nb b st K := h
    replace h := h.d
    unfold LoopOkD at h
    exact (h hm w0 M0 a w Q hA hK).wp
  | .exit id, st, K, Q, a, w, h, hA, hK => wp_exit (hK (.exit id) st h a w hA)
  | .ret, st, K, Q, a, w, h, hA, hK => wp_ret (hK .ret st h a w hA)
  | .rangeFunc .., _, _, _, _, _, h, _, _ => h.elim
  | .scope _, _, _, _, _, _, h, _, _ => h.elim
  | .goto _, _, _, _, _, _, h, _, _ => h.elim
  | .refuse _, _, _, _, _, _, h, _, _ => h.elim

/-- A loop by an invariant with a measure. -/
theorem LoopOk.of {nb : Nat} {body : Code} {st : St} {K : Ex → St → Prop} {α : Type} (Inv : α → Prop) (n : Nat) (ts : α → List (Nat × A)) (os : α → List (Nat × O)) (μ : α → Nat) (x0 : α) (i0 : Inv x0) (h0 : ∃ ss Z, To nb st n (ts x0) (os x0) ss Z)
    (step : ∀ x, Inv x → X P nb body (mk n (ts x) (os x)) fun e s => match e with
      | .nrm => ∃ y ss Z, (Inv y ∧ μ y < μ x) ∧ To nb s n (ts y) (os y) ss Z
      | .exit id => K (.exit id) s
      | .ret => K .ret s) : LoopOk P nb body st K := by
  refine ⟨?_⟩
  unfold LoopOkD
  intro hm w0 M0 a w Q hA hK
  have key : ∀ k, ∀ x : α, Inv x → μ x < k → ∀ (a : Act) (w : World), AtX P nb w0 M0 (mk n (ts x) (os x)) a w → LoopFrom P body Q a w := by
    intro k
    induction k with
    | zero => intro x _ hx; exact absurd hx (Nat.not_lt_zero _)
    | succ k ih =>
      intro x hi hx a w hA
      refine .of (X_wp hm (step x hi) hA fun e s hk a' w' hA' => ?_)
      cases e with
      | nrm =>
        obtain ⟨y, ss, Z, ⟨hy, hlt⟩, hto⟩ := hk
        exact ih y hy (by omega) a' w' (hto.at hA')
      | exit id => exact hK (.exit id) s hk a' w' hA'
      | ret => exact hK .ret s hk a' w' hA'
  obtain ⟨ss, Z, h0⟩ := h0
  exact key (μ x0 + 1) x0 i0 (Nat.lt_succ_self _) a w (h0.at hA)
/-- A loop, one round at a time. -/
theorem LoopOk.step {nb : Nat} {body : Code} {st : St} {K : Ex → St → Prop} (h : X P nb body st fun e s => match e with
      | .nrm => LoopOk P nb body s K
      | .exit id => K (.exit id) s
      | .ret => K .ret s) : LoopOk P nb body st K := by
  refine ⟨?_⟩
  unfold LoopOkD
  intro hm w0 M0 a w Q hA hK
  refine .of (X_wp hm h hA fun e s hk a' w' hA' => ?_)
  cases e with
  | nrm =>
    replace hk := hk.d
    unfold LoopOkD at hk
    exact hk hm w0 M0 a' w' Q hA' hK
  | exit id => exact hK (.exit id) s hk a' w' hA'
  | ret => exact hK .ret s hk a' w' hA'
/-- What a loop leads to, if it leads to the exit id alone. -/
def ExitTo (nb id n : Nat) (ts : List (Nat × A)) (os : List (Nat × O)) : Ex → St → Prop
  | .exit i, s => i = id ∧ ∃ ss Z, To nb s n ts os ss Z
  | .nrm, _ => False
  | .ret, _ => False
theorem LoopOk.exit {nb id n : Nat} {body : Code} {st : St} {K : Ex → St → Prop} {ts : List (Nat × A)} {os : List (Nat × O)} (h : LoopOk P nb body st (ExitTo nb id n ts os)) (hk : K (.exit id) (mk n ts os)) : LoopOk P nb body st K := by
  refine ⟨?_⟩
  replace h := h.d
  unfold LoopOkD at h ⊢
  intro hm w0 M0 a w Q hA hK
  refine h hm w0 M0 a w Q hA fun e st' he a' w' hA' => ?_
  cases e with
  | nrm => exact he.elim
  | ret => exact he.elim
  | exit i =>
    obtain ⟨rfl, ss, Z, hto⟩ := he
    exact hK _ _ hk a' w' (hto.at hA')
def loops : Code → List Code
  | .seq a b => loops a ++ loops b
  | .cond _ a b => loops a ++ loops b
  | .block _ b => loops b
  | .loop b => b :: loops b
  | _ => []
/-- The i-th loop of a function. -/
def lp (fn : Func) (i : Nat) : Code := (loops (fn.body.getD .skip)).getD i .skip
/-- A loop from a state that can be seen as another. -/
theorem LoopOk.to {nb : Nat} {body : Code} {st : St} {K : Ex → St → Prop} {n : Nat} {ts : List (Nat × A)} {os : List (Nat × O)} (ss : List (Option Nat)) (Z : List Nat) (h0 : To nb st n ts os ss Z) (h : LoopOk P nb body (mk n ts os) K) : LoopOk P nb body st K := by
  refine ⟨?_⟩
  replace h := h.d
  unfold LoopOkD at h ⊢
  intro hm w0 M0 a w Q hA hK
  exact h hm w0 M0 a w Q (h0.at hA) hK
end
end Go.AX
