/- Words that printed walks use. -/
import Derived.Test.YtfbphnkfddgihaaAxFun
namespace Go.AX

abbrev Rw := List (List D)
abbrev cap : Nat := 1099511627776
section
variable {α β : Type}
theorem iteP {p : Prop} [Decidable p] {a b : Option α} {r : α} (h : (if p then a else b) = some r) (g : p) : a = some r := by rwa [if_pos g] at h
theorem iteN {p : Prop} [Decidable p] {a b : Option α} {r : α} (h : (if p then a else b) = some r) (g : ¬ p) : b = some r := by rwa [if_neg g] at h
theorem iteT {c : Bool} {a b : Option α} {r : α} (h : (if c = true then a else b) = some r) (g : c = true) : a = some r := by rwa [if_pos g] at h
theorem iteF {c : Bool} {a b : Option α} {r : α} (h : (if c = true then a else b) = some r) (g : c = false) : b = some r := by rwa [if_neg (by rw [g]; exact Bool.false_ne_true)] at h
theorem condT {a b : Option α} {r : α} (h : cond true a b = some r) : a = some r := h
theorem condF {a b : Option α} {r : α} (h : cond false a b = some r) : b = some r := h
theorem req_ex {p : Prop} [Decidable p] {a : Option α} {r : α} (h : (if p then a else none) = some r) : p ∧ a = some r := by
  split at h
  · rename_i g; exact ⟨g, h⟩
  · cases h
theorem bind_ex {o : Option α} {K : α → Option β} {r : β} (h : o.bind K = some r) : ∃ y, o = some y ∧ K y = some r := by
  cases o with
  | none => cases h
  | some y => exact ⟨y, rfl, h⟩
end
open Classical in
/-- Is a slice nil? -/
noncomputable def nilD {α : Type} (sz : Nat) (es : Rw) (T F : Option α) : Option α := if 0 < sz ∧ ∀ cs ∈ es, cs.length = sz then (if es = [] then (if T = F then F else none) else F) else none
theorem nilD_ex {α : Type} {sz : Nat} {es : Rw} {T F : Option α} {r : α} (h : nilD sz es T F = some r) : ((∀ q ∈ es, q = []) → T = some r) ∧ F = some r := by
  unfold nilD at h
  split at h
  · rename_i g
    split at h
    · split at h
      · rename_i e; exact ⟨fun _ => e.trans h, h⟩
      · cases h
    · rename_i ne
      refine ⟨fun q => absurd ?_ ne, h⟩
      cases es with
      | nil => rfl
      | cons a l =>
        have h1 := g.2 a (by simp)
        rw [q a (by simp)] at h1
        have := g.1
        simp at h1
        omega
  · cases h
theorem nilD_eq {α : Type} {sz : Nat} {es : Rw} {T F : Option α} (h0 : 0 < sz) (hw : ∀ cs ∈ es, cs.length = sz) (e : es = [] → T = F) : nilD sz es T F = F := by
  unfold nilD
  rw [if_pos ⟨h0, hw⟩]
  split
  · rename_i q; rw [if_pos (e q)]
  · rfl
/-- A byte of a string. -/
def byteD {α : Type} (s : ByteArray) (i : Int) (K : UInt8 → Option α) : Option α := if 0 ≤ i then (match s[i.toNat]? with | some b => K b | none => none) else none
theorem byteD_ex {α : Type} {s : ByteArray} {i : Int} {K : UInt8 → Option α} {r : α} (h : byteD s i K = some r) : 0 ≤ i ∧ ∃ b, s[i.toNat]? = some b ∧ K b = some r := by
  unfold byteD at h
  obtain ⟨g, h⟩ := req_ex h
  split at h
  · rename_i b e; exact ⟨g, b, e, h⟩
  · cases h
theorem drop_cons {x : Rw} {i : Nat} {cs : List D} {rest : Rw} (h : x.drop i = cs :: rest) : x[i]? = some cs ∧ x.drop (i + 1) = rest ∧ (i : Int) < (x.length : Int) := by
  have hi : i < x.length := by
    rcases Nat.lt_or_ge i x.length with g | g
    · exact g
    · rw [List.drop_eq_nil_of_le g] at h; cases h
  have e := List.drop_eq_getElem_cons hi
  rw [h] at e
  injection e with e1 e2
  exact ⟨by rw [List.getElem?_eq_getElem hi, e1], e2.symm, by omega⟩
theorem drop_nil {x : Rw} {i : Nat} (h : x.drop i = []) : ¬ (i : Int) < (x.length : Int) := by
  have := List.drop_eq_nil_iff.1 h
  omega
theorem wrap_in {n : Int} (h1 : -9223372036854775808 ≤ n) (h2 : n < 9223372036854775808) : IntKind.i64.wrap n = n := by
  simp [IntKind.wrap, IntKind.bits, IntKind.signed]
  split <;> omega
theorem wrap_up {i : Nat} {x : Rw} (h : (i : Int) < (x.length : Int)) (hx : x.length ≤ cap) : IntKind.i64.wrap ((i : Int) + 1) = ((i + 1 : Nat) : Int) := by
  have : x.length ≤ 1099511627776 := hx
  rw [wrap_in (by omega) (by omega)]; rfl
theorem i64eq {a b : Int} (h : a = b) : D.int .i64 a = D.int .i64 b := by rw [h]
theorem ieq {k : IntKind} {a b : Int} (h : a = b) : D.int k a = D.int k b := by rw [h]

theorem room {es ys : Rw} {b sz : Nat} (hb : b ≤ 128) (h : es.length + ys.length ≤ cap) (hw : ∀ cs ∈ ys, cs.length = sz) : (es.length + ys.length) * b ≤ 140737488355328 ∧ es.length + ys.length ≤ 9223372036854775807 ∧ (∀ cs ∈ ys, cs.length = sz) := by
  have h : es.length + ys.length ≤ 1099511627776 := h
  have : (es.length + ys.length) * b ≤ 1099511627776 * 128 := Nat.mul_le_mul h hb
  exact ⟨by omega, by omega, hw⟩
theorem room0 {ys : Rw} {b sz : Nat} (hb : b ≤ 128) (h : ys.length ≤ cap) (hw : ∀ cs ∈ ys, cs.length = sz) : (([] : Rw).length + ys.length) * b ≤ 140737488355328 ∧ ([] : Rw).length + ys.length ≤ 9223372036854775807 ∧ (∀ cs ∈ ys, cs.length = sz) := room hb (by simpa using h) hw
theorem makeRoom {l : Int} {b : Nat} (hb : b ≤ 128) (h : 0 ≤ l ∧ l ≤ 1099511627776) : l = l ∧ 0 ≤ l ∧ l ≤ 9223372036854775807 ∧ l * (b : Int) ≤ 140737488355328 := by
  have : l * (b : Int) ≤ 1099511627776 * 128 := Int.mul_le_mul h.2 (by omega) (by omega) (by omega)
  exact ⟨rfl, h.1, by omega, by omega⟩
theorem eq_take {n : Nat} {x : Rw} (h : n = x.length) : x = x.take n := by subst h; rw [List.take_length]
theorem rows_same {x : Rw} : ∃ m, x = x.take m := ⟨x.length, by rw [List.take_length]⟩
theorem rows_to {x y : Rw} (h : y = x) : ∃ m, y = x.take m := by subst h; exact rows_same
theorem take_len {n : Nat} {x : Rw} (h : n ≤ x.length) : n = (x.take n).length := by rw [List.length_take]; omega
theorem wide0 {sz : Nat} : ∀ cs ∈ ([] : Rw), cs.length = sz := fun _ h => by cases h
theorem wide1 {c : List D} {l : Rw} {sz : Nat} (h : c.length = sz) (hl : ∀ cs ∈ l, cs.length = sz) : ∀ cs ∈ c :: l, cs.length = sz := fun cs hc => by
  rcases List.mem_cons.1 hc with rfl | hc
  · exact h
  · exact hl cs hc

variable {P : Program}
/-- What a loop of a function leads to: the end of the function, or an exit in a state of E. -/
def LoopEnd (P : Program) (fn : Func) (nb n : Nat) (r : A) (H' : Hp) (E : Nat → List (Nat × A) → List (Nat × O) → Prop) : Ex → St → Prop
  | .exit i, s => ∃ ts os ss Z, E i ts os ∧ To nb s n ts os ss Z
  | .ret, s => Done P fn nb s r H'
  | .nrm, _ => False
theorem LoopOk.use {fn : Func} {nb n : Nat} {body : Code} {st : St} {K : Ex → St → Prop} {r : A} {H' : Hp} {E : Nat → List (Nat × A) → List (Nat × O) → Prop} (h : LoopOk P nb body st (LoopEnd P fn nb n r H' E))
    (hk : ∀ i ts os, E i ts os → K (.exit i) (mk n ts os)) (hr : ∀ s, Done P fn nb s r H' → K .ret s) : LoopOk P nb body st K := by
  refine ⟨?_⟩
  replace h := h.d
  unfold LoopOkD at h ⊢
  intro hm w0 M0 a w Q hA hK
  refine h hm w0 M0 a w Q hA fun e st' he a' w' hA' => ?_
  cases e with
  | nrm => exact he.elim
  | ret => exact hK .ret st' (hr st' he) a' w' hA'
  | exit i =>
    obtain ⟨ts, os, ss, Z, hE, hto⟩ := he
    exact hK _ _ (hk i ts os hE) a' w' (hto.at hA')
theorem LoopOk.into {fn : Func} {nb n : Nat} {body : Code} {st : St} {K : Ex → St → Prop} {r : A} {H' : Hp} {E : Nat → List (Nat × A) → List (Nat × O) → Prop} {ts : List (Nat × A)} {os : List (Nat × O)} (h : LoopOk P nb body (mk n ts os) (LoopEnd P fn nb n r H' E))
    (ss : List (Option Nat)) (Z : List Nat) (h0 : To nb st n ts os ss Z) (hk : ∀ i ts os, E i ts os → K (.exit i) (mk n ts os)) (hr : ∀ s, Done P fn nb s r H' → K .ret s) : LoopOk P nb body st K :=
  LoopOk.use (LoopOk.to ss Z h0 h) hk hr
theorem LoopOk.back {nb : Nat} {body : Code} {st : St} {K : Ex → St → Prop} {n : Nat} {ts : List (Nat × A)} {os : List (Nat × O)} (h : LoopOk P nb body (mk n ts os) K) (ss : List (Option Nat)) (Z : List Nat) (h0 : To nb st n ts os ss Z) : LoopOk P nb body st K := LoopOk.to ss Z h0 h
end Go.AX
