/- Hydras: trees behind pointers, walked by hand. -/
import Derived.Test.YtmhcdljkmngkpaaAxC
import Derived.WalkKit
import Derived.Deep.AppendLies
import Derived.Laws.OwnMore
import Derived.Deep.Upon
import Derived.Test.YtmhcdljkmngkpaaProg
import Derived.Shelf.RegionOpenPlain
import Derived.Deep.LoopGhost
import Derived.Deep.RegionLaw
import Derived.KernelRfl
import Derived.Laws.EntriesVeiled
import Derived.Test.YtmhcdljkmngkpaaShelf
import Derived.Lib.Strings
import Derived.Lib.Slices
import Derived.Lib.Walk
import Derived.Lib.Builder
import Derived.Lib.AppendStr
import Derived.Lib.UnsafeStr
import Derived.Lib.MakeNoZero
import Derived.Laws.Externs
import Derived.Laws.BitsLemmas
set_option linter.unusedVariables false
set_option linter.unusedSimpArgs false
namespace Go.AX
open Go.RowKit

/-! ### what a tree is as data -/
def nodeC (n : Int) (l : List (List D)) : List D := [.int .i64 n, .sl (l.map fun c => [D.pt c])]
def unf (ch : Nat → List Nat) : Nat → Nat → List D
  | 0, i => nodeC i []
  | f + 1, i => nodeC i ((ch i).map (unf ch f))

/-! ### a call that lays new blocks alone -/
def muNew (M : Mu) (w w' : World) : Mu := ⟨M.m, M.own, fun b => M.F b ∨ (w.heap.size ≤ b ∧ b < w'.heap.size)⟩
theorem Ct.new {P : Program} {f : FuncId} {xs : List A} {r : A} (he : enterOk P f) (hk : okA 0 r = true)
    (hc : ∀ w M vs, Sim P w M (fun _ => .junk) (hpH ⟨[], []⟩) #[] → RepL w M xs vs → Calls P f vs.toArray w fun e w' => ∃ u, e = .returned u ∧ Below w.heap.size w w' ∧ RepA w' (muNew M w w') r u) : Ct P f xs ⟨[], []⟩ r ⟨[], []⟩ := by
  refine ⟨he, ⟨rfl, by simp, hk, by simp⟩, fun w M vs hs hr => (hc w M vs hs hr).mono fun e w' => ?_⟩
  rintro ⟨u, rfl, hb, hu⟩
  have keepF : ∀ b, M.F b → w'.heap[b]? = w.heap[b]? := fun b hb' => hb.block b (hs.fz b hb')
  have own0 : ∀ id, M.own id = [] := by
    intro id
    have := hs.ob id
    have e : hpH ⟨[], []⟩ id = .gone := by unfold hpH; split <;> simp
    rw [e] at this
    exact this
  refine ⟨u, muNew M w w', rfl, ⟨fun i => by simp only [RepA], fun id => ?_, fun i j hij b hb' => ?_, fun i b hb' => ?_, fun b hb' => ?_, hs.tab.mono fun b hb' => ⟨.inl hb', keepF b hb'⟩⟩, hu, ⟨hb.os, hb.tape, hb.output, hb.size, fun b h _ => hb.block b h, fun _ h => .inl h, fun b h => ?_, fun id b hb' => .inl ⟨id, hb'⟩⟩, by simp⟩
  · have e : hpH ⟨[], []⟩ id = .gone := by unfold hpH; split <;> simp
    rw [e]
    exact own0 id
  · have : b ∈ M.own i := hb'
    rw [own0] at this; cases this
  · have : b ∈ M.own i := hb'
    rw [own0] at this; cases this
  · rcases hb' with q | q
    · exact Nat.lt_of_lt_of_le (hs.fz b q) hb.size
    · exact q.2
  · rcases h with q | q
    · exact .inl q
    · exact .inr (.inr q.1)

/-! ### nodes in memory -/
inductive Tag where
  | nd
  | no (j : Nat)
  | ki (j : Nat)
structure Gr where
  k : Nat
  N : Nat → Nat
  ch : Nat → List Nat
  cv : Nat → Value
  nv : Value
def ptrV (b : Nat) : Value := .pointer (some ⟨b, 0, none⟩)
def Gr.ok (G : Gr) : Tag → Prop
  | .nd => True
  | .no j => j < G.k
  | .ki j => j < G.k
def Gr.blk (G : Gr) : Tag → Option Nat
  | .nd => G.nv.ownBlock
  | .no j => some (G.N j)
  | .ki j => (G.cv j).ownBlock
def Gr.good (G : Gr) (B : Nat) (w : World) : Tag → Prop
  | .nd => w.ownsRow B 73 1 G.nv G.k ((List.range G.k).map fun j => ptrV (G.N j))
  | .no j => B ≤ G.N j ∧ w.heap[G.N j]? = some (.cells #[.int .i64 j, G.cv j] 105 (0, 0))
  | .ki j => w.ownsRow B 73 1 (G.cv j) (G.ch j).length ((G.ch j).map fun i => ptrV (G.N i))
structure Gr.In (G : Gr) (B : Nat) (w : World) : Prop where
  good : ∀ t, G.ok t → G.good B w t
  sep : ∀ s t b, G.ok s → G.ok t → G.blk s = some b → G.blk t = some b → s = t
  ch : ∀ j i, j < G.k → i ∈ G.ch j → i < G.k

theorem ownsRow_keep {w w' : World} {B : Nat} {e : TypeId} {sz : Nat} {v : Value} {n : Nat} {xs : List Value} (h : w.ownsRow B e sz v n xs) (hk : ∀ b, v.ownBlock = some b → w'.heap[b]? = w.heap[b]?) : w'.ownsRow B e sz v n xs := by
  refine ⟨h.1, ?_⟩
  rcases h.2 with hn | ⟨g, cap, cur, rfl, hb, hgg, rest⟩
  · exact .inl hn
  · exact .inr ⟨g, cap, cur, rfl, hb, (hk g rfl).trans hgg, rest⟩
theorem Gr.good.keep {G : Gr} {B : Nat} {w w' : World} {t : Tag} (h : G.good B w t) (hk : ∀ b, G.blk t = some b → w'.heap[b]? = w.heap[b]?) : G.good B w' t := by
  cases t with
  | nd => exact ownsRow_keep h hk
  | no j => exact ⟨h.1, (hk _ rfl).trans h.2⟩
  | ki j => exact ownsRow_keep h hk
theorem Gr.good.lt {G : Gr} {B : Nat} {w : World} {t : Tag} (h : G.good B w t) {b : Nat} (hb : G.blk t = some b) : B ≤ b ∧ b < w.heap.size := by
  cases t with
  | nd => exact World.ownsRow.lt h b hb
  | no j =>
    cases hb
    refine ⟨h.1, ?_⟩
    rcases Nat.lt_or_ge (G.N j) w.heap.size with q | q
    · exact q
    · have := h.2; rw [Array.getElem?_eq_none q] at this; cases this
  | ki j => exact World.ownsRow.lt h b hb
theorem Gr.In.keep {G : Gr} {B : Nat} {w w' : World} (h : G.In B w) (hk : ∀ b, B ≤ b → b < w.heap.size → w'.heap[b]? = w.heap[b]?) : G.In B w' :=
  ⟨fun t ht => (h.good t ht).keep fun b hb => hk b ((h.good t ht).lt hb).1 ((h.good t ht).lt hb).2, h.sep, h.ch⟩

def fset {α : Type} (f : Nat → α) (i : Nat) (v : α) : Nat → α := fun j => if j = i then v else f j
theorem fset_same {α : Type} (f : Nat → α) (i : Nat) (v : α) : fset f i v i = v := if_pos rfl
theorem fset_ne {α : Type} (f : Nat → α) {i j : Nat} (v : α) (h : j ≠ i) : fset f i v j = f j := if_neg h
def Gr.kid (G : Gr) (p : Nat) (l : List Nat) (v : Value) : Gr := ⟨G.k, G.N, fset G.ch p l, fset G.cv p v, G.nv⟩
def Gr.push (G : Gr) (n : Nat) (nv : Value) : Gr := ⟨G.k + 1, fset G.N G.k n, fset G.ch G.k [], fset G.cv G.k (.slice none 0 0), nv⟩

/-- Other children of one node. -/
theorem Gr.In.setKid {G : Gr} {B : Nat} {w w' : World} (h : G.In B w) {p : Nat} (hp : p < G.k) {l : List Nat} {v : Value} (hl : ∀ i ∈ l, i < G.k)
    (hrow : w'.ownsRow B 73 1 v l.length (l.map fun i => ptrV (G.N i))) (hnode : w'.heap[G.N p]? = some (.cells #[.int .i64 p, v] 105 (0, 0)))
    (hkeep : ∀ b, b < w.heap.size → (G.cv p).ownBlock ≠ some b → b ≠ G.N p → w'.heap[b]? = w.heap[b]?)
    (hat : ∀ b, v.ownBlock = some b → (G.cv p).ownBlock = some b ∨ w.heap.size ≤ b) : (G.kid p l v).In B w' := by
  have other : ∀ t, G.ok t → t ≠ .ki p → t ≠ .no p → ∀ b, G.blk t = some b → w'.heap[b]? = w.heap[b]? := by
    intro t ht h1 h2 b hb
    refine hkeep b ((h.good t ht).lt hb).2 (fun q => h1 ?_) (fun q => h2 ?_)
    · exact h.sep t (.ki p) b ht hp hb q
    · exact h.sep t (.no p) b ht hp hb (by rw [q]; rfl)
  have blkE : ∀ t, t ≠ .ki p → (G.kid p l v).blk t = G.blk t := by
    intro t ht
    cases t with
    | nd => rfl
    | no j => rfl
    | ki j => simp only [Gr.blk, Gr.kid]; rw [fset_ne _ _ (fun q => ht (by rw [q]))]
  have blkP : (G.kid p l v).blk (.ki p) = v.ownBlock := by simp only [Gr.blk, Gr.kid, fset_same]
  refine ⟨fun t ht => ?_, fun s t b hs ht hbs hbt => ?_, fun j i hj hi => ?_⟩
  · cases t with
    | nd => exact ownsRow_keep (h.good .nd trivial) (other .nd trivial (by simp) (by simp))
    | no j =>
      by_cases e : j = p
      · subst e
        exact ⟨(h.good (.no j) hp).1, by simp only [Gr.kid, fset_same]; exact hnode⟩
      · have q := h.good (.no j) ht
        refine ⟨q.1, ?_⟩
        simp only [Gr.kid]
        rw [fset_ne _ _ e]
        exact (other (.no j) ht (by simp) (by simp [e]) _ rfl).trans q.2
    | ki j =>
      by_cases e : j = p
      · subst e
        simp only [Gr.good, Gr.kid, fset_same]
        exact hrow
      · have q := h.good (.ki j) ht
        simp only [Gr.good, Gr.kid]
        rw [fset_ne _ _ e, fset_ne _ _ e]
        exact ownsRow_keep q (other (.ki j) ht (by simp [e]) (by simp))
  · have old : ∀ t, G.ok t → t ≠ .ki p → ∀ b, G.blk t = some b → v.ownBlock = some b → False := by
      intro t ht h1 b hb hv
      rcases hat b hv with q | q
      · exact h1 (h.sep t (.ki p) b ht hp hb q)
      · exact absurd ((h.good t ht).lt hb).2 (by omega)
    by_cases e1 : s = .ki p
    · by_cases e2 : t = .ki p
      · rw [e1, e2]
      · rw [e1, blkP] at hbs
        rw [blkE t e2] at hbt
        exact (old t (by cases t <;> exact ht) e2 b hbt hbs).elim
    · rw [blkE s e1] at hbs
      by_cases e2 : t = .ki p
      · rw [e2, blkP] at hbt
        exact (old s (by cases s <;> exact hs) e1 b hbs hbt).elim
      · rw [blkE t e2] at hbt
        exact h.sep s t b (by cases s <;> exact hs) (by cases t <;> exact ht) hbs hbt
  · by_cases e : j = p
    · subst e
      simp only [Gr.kid, fset_same] at hi
      exact hl i hi
    · simp only [Gr.kid] at hi
      rw [fset_ne _ _ e] at hi
      exact h.ch j i hj hi

/-- A node more. -/
theorem Gr.In.push {G : Gr} {B : Nat} {w w' : World} (h : G.In B w) {n : Nat} {nv : Value} (hn : w.heap.size ≤ n) (hB : B ≤ n)
    (hnode : w'.heap[n]? = some (.cells #[.int .i64 G.k, .slice none 0 0] 105 (0, 0)))
    (hrow : w'.ownsRow B 73 1 nv (G.k + 1) (((List.range G.k).map fun j => ptrV (G.N j)) ++ [ptrV n]))
    (hkeep : ∀ b, b < w.heap.size → G.nv.ownBlock ≠ some b → w'.heap[b]? = w.heap[b]?)
    (hat : ∀ b, nv.ownBlock = some b → G.nv.ownBlock = some b ∨ (w.heap.size ≤ b ∧ b ≠ n)) : (G.push n nv).In B w' := by
  have other : ∀ t, G.ok t → t ≠ .nd → ∀ b, G.blk t = some b → w'.heap[b]? = w.heap[b]? := by
    intro t ht h1 b hb
    exact hkeep b ((h.good t ht).lt hb).2 fun q => h1 (h.sep t .nd b ht trivial hb q)
  have blkE : ∀ t, G.ok t → t ≠ .nd → (G.push n nv).blk t = G.blk t := by
    intro t ht h1
    cases t with
    | nd => exact absurd rfl h1
    | no j => simp only [Gr.blk, Gr.push]; rw [fset_ne _ _ (by have : j < G.k := ht; omega)]
    | ki j => simp only [Gr.blk, Gr.push]; rw [fset_ne _ _ (by have : j < G.k := ht; omega)]
  have cases' : ∀ t, (G.push n nv).ok t → t = .nd ∨ t = .no G.k ∨ t = .ki G.k ∨ (G.ok t ∧ t ≠ .nd) := by
    intro t ht
    cases t with
    | nd => exact .inl rfl
    | no j =>
      have hj : j < G.k + 1 := ht
      by_cases e : j = G.k
      · exact .inr (.inl (by rw [e]))
      · exact .inr (.inr (.inr ⟨by show j < G.k; omega, by simp⟩))
    | ki j =>
      have hj : j < G.k + 1 := ht
      by_cases e : j = G.k
      · exact .inr (.inr (.inl (by rw [e])))
      · exact .inr (.inr (.inr ⟨by show j < G.k; omega, by simp⟩))
  have bnd : (G.push n nv).blk .nd = nv.ownBlock := rfl
  have bno : (G.push n nv).blk (.no G.k) = some n := by simp only [Gr.blk, Gr.push, fset_same]
  have bki : (G.push n nv).blk (.ki G.k) = none := by simp only [Gr.blk, Gr.push, fset_same]; rfl
  have oldn : ∀ t, G.ok t → G.blk t ≠ some n := fun t ht q => absurd ((h.good t ht).lt q).2 (by omega)
  have oldv : ∀ t, G.ok t → t ≠ .nd → ∀ b, G.blk t = some b → nv.ownBlock ≠ some b := by
    intro t ht h1 b hb q
    rcases hat b q with q | q
    · exact h1 (h.sep t .nd b ht trivial hb q)
    · exact absurd ((h.good t ht).lt hb).2 (by omega)
  have vn : nv.ownBlock ≠ some n := by
    intro q
    rcases hat n q with q | q
    · exact oldn .nd trivial q
    · exact q.2 rfl
  refine ⟨fun t ht => ?_, fun s t b hs ht hbs hbt => ?_, fun j i hj hi => ?_⟩
  · rcases cases' t ht with rfl | rfl | rfl | ⟨hk, h1⟩
    · have e : (List.range (G.k + 1)).map (fun j => ptrV (fset G.N G.k n j)) = ((List.range G.k).map fun j => ptrV (G.N j)) ++ [ptrV n] := by
        rw [List.range_succ, List.map_append, List.map_cons, List.map_nil, fset_same]
        congr 1
        refine List.map_congr_left fun j hj => ?_
        rw [fset_ne _ _ (by have := List.mem_range.1 hj; omega)]
      simp only [Gr.good, Gr.push]
      rw [e]
      exact hrow
    · simp only [Gr.good, Gr.push, fset_same]
      exact ⟨hB, hnode⟩
    · simp only [Gr.good, Gr.push, fset_same, List.length_nil, List.map_nil]
      exact World.ownsRow_nil _ _ _ _
    · have q := (h.good t hk).keep (other t hk h1)
      cases t with
      | nd => exact absurd rfl h1
      | no j =>
        have hj : j < G.k := hk
        simp only [Gr.good, Gr.push]
        rw [fset_ne _ _ (by omega), fset_ne _ _ (by omega)]
        exact q
      | ki j =>
        have hj : j < G.k := hk
        simp only [Gr.good, Gr.push]
        rw [fset_ne _ _ (by omega), fset_ne _ _ (by omega)]
        have e : (G.ch j).map (fun i => ptrV (fset G.N G.k n i)) = (G.ch j).map fun i => ptrV (G.N i) := by
          refine List.map_congr_left fun i hi => ?_
          rw [fset_ne _ _ (by have := h.ch j i hj hi; omega)]
        rw [e]
        exact q
  · rcases cases' s hs with rfl | rfl | rfl | ⟨hk, h1⟩
    · rcases cases' t ht with rfl | rfl | rfl | ⟨hk', h1'⟩
      · rfl
      · rw [bno] at hbt; rw [bnd] at hbs; rw [← hbt] at hbs; exact (vn hbs).elim
      · rw [bki] at hbt; cases hbt
      · rw [blkE t hk' h1'] at hbt; rw [bnd] at hbs; exact (oldv t hk' h1' b hbt hbs).elim
    · rcases cases' t ht with rfl | rfl | rfl | ⟨hk', h1'⟩
      · rw [bno] at hbs; rw [bnd] at hbt; rw [← hbs] at hbt; exact (vn hbt).elim
      · rfl
      · rw [bki] at hbt; cases hbt
      · rw [blkE t hk' h1'] at hbt; rw [bno] at hbs; rw [← hbs] at hbt; exact (oldn t hk' hbt).elim
    · rw [bki] at hbs; cases hbs
    · rw [blkE s hk h1] at hbs
      rcases cases' t ht with rfl | rfl | rfl | ⟨hk', h1'⟩
      · rw [bnd] at hbt; exact (oldv s hk h1 b hbs hbt).elim
      · rw [bno] at hbt; rw [← hbt] at hbs; exact (oldn s hk hbs).elim
      · rw [bki] at hbt; cases hbt
      · rw [blkE t hk' h1'] at hbt
        exact h.sep s t b hk hk' hbs hbt
  · have hj : j < G.k + 1 := hj
    simp only [Gr.push] at hi ⊢
    by_cases e : j = G.k
    · rw [e, fset_same] at hi; cases hi
    · rw [fset_ne _ _ e] at hi
      have := h.ch j i (by omega) hi
      omega

/-- Nodes whose children are all of greater number read as trees. -/
theorem Gr.In.rep {G : Gr} {B : Nat} {w : World} (h : G.In B w) {F : Nat → Prop} (hF : ∀ b, B ≤ b → b < w.heap.size → F b) (hup : ∀ j, j < G.k → ∀ i ∈ G.ch j, j < i) :
    ∀ f i, i < G.k → G.k - i ≤ f → Rep w F (ptrV (G.N i)) (.pt (unf G.ch f i))
  | 0, i, hi, hf => absurd hf (by omega)
  | f + 1, i, hi, hf => by
    have ih := fun j hj hjf => Gr.In.rep h hF hup f j hj hjf
    have hn := h.good (.no i) hi
    have hnF := hF _ hn.1 ((h.good (.no i) hi).lt (b := G.N i) rfl).2
    have hkids : Rep w F (G.cv i) (.sl (((G.ch i).map (unf G.ch f)).map fun c => [D.pt c])) := by
      have hk : w.ownsRow B 73 1 (G.cv i) (G.ch i).length ((G.ch i).map fun i => ptrV (G.N i)) := h.good (.ki i) hi
      rcases hk.2 with ⟨e1, e2⟩ | ⟨g, cap, cur, e1, hb, hg, hcap, hmax, hcur, htake⟩
      · have e3 := List.length_eq_zero_iff.1 e2
        rw [e1, e3]
        exact .sl none 0 0 [] (fun _ _ => undef) (by simp) (by simp) (by simp [at2]) (by simp [at2])
      · rw [e1]
        have hlen : (((G.ch i).map (unf G.ch f)).map fun c => [D.pt c]).length = (G.ch i).length := by simp
        have hgF := hF g hb (by
          rcases Nat.lt_or_ge g w.heap.size with q | q
          · exact q
          · rw [Array.getElem?_eq_none q] at hg; cases hg)
        have at2e : ∀ j l x, at2 (((G.ch i).map (unf G.ch f)).map fun c => [D.pt c]) j l = some x → l = 0 ∧ ∃ c, (G.ch i)[j]? = some c ∧ x = .pt (unf G.ch f c) := by
          intro j l x hx
          unfold at2 at hx
          rw [List.getElem?_map, List.getElem?_map] at hx
          cases hc : (G.ch i)[j]? with
          | none => rw [hc] at hx; simp at hx
          | some c =>
            rw [hc] at hx
            simp only [Option.map_some, Option.bind_some] at hx
            cases l with
            | zero => simp only [List.getElem?_cons_zero, Option.some.injEq] at hx; exact ⟨rfl, c, rfl, hx.symm⟩
            | succ l => simp at hx
        have := Rep.sl (w := w) (F := F) (some ⟨g, 0, none⟩) cap 1 (((G.ch i).map (unf G.ch f)).map fun c => [D.pt c]) (fun j _ => (((G.ch i)[j]?).map fun c => ptrV (G.N c)).getD undef) (by rw [hlen]; exact hcap) (by simp)
          (fun j l x hx => by
            obtain ⟨rfl, c, hc, rfl⟩ := at2e j l x hx
            refine ⟨_, rfl, hgF, ?_⟩
            have hj := (List.getElem?_eq_some_iff.1 hc).1
            have e2 : ((⟨g, 0, none⟩ : Addr).add (j * 1 + 0)) = ⟨g, j, none⟩ := by unfold Addr.add; split <;> simp_all
            rw [e2, cell_of_row w g j cur 73 (0, 0) hg, hc]
            have e3 : cur.toList[j]? = some (ptrV (G.N c)) := by
              have : ((G.ch i).map fun i => ptrV (G.N i))[j]? = some (ptrV (G.N c)) := by rw [List.getElem?_map, hc]; rfl
              rw [← htake, List.getElem?_take, if_pos (by omega)] at this
              exact this
            simpa using e3)
          (fun j l x hx => by
            obtain ⟨rfl, c, hc, rfl⟩ := at2e j l x hx
            rw [hc]
            have hm := List.mem_of_getElem? hc
            exact ih c (h.ch i c hi hm) (by have := hup i hi c hm; omega))
        rw [hlen] at this
        exact this
    have hcell : ∀ j, w.cell? ((⟨G.N i, 0, none⟩ : Addr).add j) = ([.int .i64 i, G.cv i] : List Value)[j]? := by
      intro j
      have e2 : ((⟨G.N i, 0, none⟩ : Addr).add j) = ⟨G.N i, j, none⟩ := by unfold Addr.add; split <;> simp_all
      rw [e2, cell_of_row w (G.N i) j _ 105 (0, 0) hn.2]
      simp
    show Rep w F (.pointer (some ⟨G.N i, 0, none⟩)) (.pt (nodeC i _))
    refine .pt _ _ (fun j => ([.int .i64 i, G.cv i] : List Value)[j]?.getD undef) (fun j x hx => ⟨hnF, ?_⟩) (fun j x hx => ?_)
    · rw [hcell]
      match j, hx with
      | 0, hx => rfl
      | 1, hx => rfl
      | j + 2, hx => simp [nodeC] at hx
    · match j, hx with
      | 0, hx => simp only [nodeC, List.getElem?_cons_zero, Option.some.injEq] at hx; subst hx; exact .int _ _
      | 1, hx => simp only [nodeC, List.getElem?_cons_succ, List.getElem?_cons_zero, Option.some.injEq] at hx; subst hx; exact hkids
      | j + 2, hx => simp [nodeC] at hx
/-- What is read of nodes. -/
theorem Gr.In.reads {G : Gr} {B : Nat} {w : World} (h : G.In B w) {g cap : Nat} (hnv : G.nv = .slice (some ⟨g, 0, none⟩) G.k cap) {q : Nat} (hq : q < G.k) :
    w.cell? ⟨g, q, none⟩ = some (.pointer (some ⟨G.N q, 0, none⟩)) ∧ w.cell? ⟨G.N q, 0, none⟩ = some (.int .i64 q) ∧ w.cell? ⟨G.N q, 1, none⟩ = some (G.cv q) ∧ w.frozen? ⟨G.N q, 1, none⟩ = false := by
  have h1 : w.ownsRow B 73 1 G.nv G.k ((List.range G.k).map fun j => ptrV (G.N j)) := h.good .nd trivial
  rw [hnv] at h1
  have h2 := (h.good (.no q) hq).2
  refine ⟨?_, ?_, ?_, frozen_of_row w _ _ _ _ h2⟩
  · rw [h1.cellAt q (by omega), List.getElem?_map, List.getElem?_range hq]; rfl
  · rw [cell_of_row w _ _ _ _ _ h2]; rfl
  · rw [cell_of_row w _ _ _ _ _ h2]; rfl
theorem heap_alloc2 {w : World} (o1 o2 : Obj) {b : Nat} (hb : b < w.heap.size) : ((w.alloc o1).alloc o2).heap[b]? = w.heap[b]? := by
  show ((w.heap.push o1).push o2)[b]? = _
  rw [Array.getElem?_push, if_neg (by simp; omega), Array.getElem?_push, if_neg (by omega)]
theorem heap_alloc2_1 (w : World) (o1 o2 : Obj) : ((w.alloc o1).alloc o2).heap[w.heap.size]? = some o1 := by
  show ((w.heap.push o1).push o2)[w.heap.size]? = _
  rw [Array.getElem?_push, if_neg (by simp), Array.getElem?_push, if_pos rfl]
theorem size_alloc2 (w : World) (o1 o2 : Obj) : ((w.alloc o1).alloc o2).heap.size = w.heap.size + 2 := by
  show ((w.heap.push o1).push o2).size = _
  simp
theorem size_alloc1 (w : World) (o1 : Obj) : (w.alloc o1).heap.size = w.heap.size + 1 := by
  show (w.heap.push o1).size = _
  simp
theorem heap_alloc1 {w : World} (o1 : Obj) {b : Nat} (hb : b < w.heap.size) : (w.alloc o1).heap[b]? = w.heap[b]? := by
  show (w.heap.push o1)[b]? = _
  rw [Array.getElem?_push, if_neg (by omega)]
/-- A node is laid, and appended to the nodes. -/
theorem Gr.In.pushed {G : Gr} {B : Nat} {wr w1 : World} (h : G.In B wr) (hB : B ≤ wr.heap.size) {g cap i : Nat} (hi : G.k = i) {o2 : Obj}
    (hown : w1.ownsRow B 73 1 (.slice (some ⟨g, 0, none⟩) (G.k + 1) cap) (G.k + 1) (((List.range G.k).map fun j => ptrV (G.N j)) ++ [ptrV wr.heap.size]))
    (hgrow : ((wr.alloc (.cells #[.int .i64 i, .slice none 0 0] 105)).alloc o2).grownBy w1 G.nv.ownBlock) (hat : G.nv.ownBlock = some g ∨ g = wr.heap.size + 2) :
    (G.push wr.heap.size (.slice (some ⟨g, 0, none⟩) (G.k + 1) cap)).In B w1 ∧ wr.heap.size + 2 ≤ w1.heap.size := by
  subst hi
  have hsz := hgrow.size
  rw [size_alloc2] at hsz
  have hlt : ∀ b, G.nv.ownBlock = some b → b < wr.heap.size := fun b hb => ((h.good .nd trivial).lt (b := b) hb).2
  refine ⟨h.push (Nat.le_refl _) hB ?_ hown (fun b hb hne => ?_) (fun b hb => ?_), hsz⟩
  · rw [hgrow.block _ (by rw [size_alloc2]; omega) (fun q => absurd (hlt _ q.symm) (by omega)), heap_alloc2_1]
  · rw [hgrow.block _ (by rw [size_alloc2]; omega) (fun q => hne q.symm), heap_alloc2 _ _ hb]
  · have e : b = g := by simpa [Value.ownBlock] using hb.symm
    subst e
    rcases hat with q | q
    · exact .inl q
    · exact .inr ⟨by omega, by omega⟩
theorem heap_alloc2_2 (w : World) (o1 o2 : Obj) : ((w.alloc o1).alloc o2).heap[w.heap.size + 1]? = some o2 := by
  show ((w.heap.push o1).push o2)[w.heap.size + 1]? = _
  rw [Array.getElem?_push, if_pos (by simp)]
/-- No node yet. -/
theorem Gr.start {B b : Nat} {w : World} {N : Nat → Nat} {ch : Nat → List Nat} {cv : Nat → Value} (hb : B ≤ b) (hg : w.heap[b]? = some (.cells #[] 73 (0, 0))) : (⟨0, N, ch, cv, .slice (some ⟨b, 0, none⟩) 0 0⟩ : Gr).In B w := by
  refine ⟨fun t ht => ?_, fun s t c hs ht h1 h2 => ?_, fun j i hj => absurd hj (by simp)⟩
  · cases t with
    | nd => exact ⟨by simp, .inr ⟨b, 0, #[], rfl, hb, hg, Nat.le_refl _, by unfold maxLen; omega, by simp, by simp⟩⟩
    | no j => exact absurd ht (Nat.not_lt_zero _)
    | ki j => exact absurd ht (Nat.not_lt_zero _)
  · cases s with
    | nd => cases t with
      | nd => rfl
      | no j => exact absurd ht (Nat.not_lt_zero _)
      | ki j => exact absurd ht (Nat.not_lt_zero _)
    | no j => exact absurd hs (Nat.not_lt_zero _)
    | ki j => exact absurd hs (Nat.not_lt_zero _)
theorem push_ch {G : Gr} {n j : Nat} {nv : Value} (h : j < G.k) : (G.push n nv).ch j = G.ch j := fset_ne _ _ (by omega)
theorem undrew {w w2 : World} {r : Option Nat} (h : w.drew.grownBy w2 r) : w.grownBy w2 r := ⟨h.os, h.tape, h.output, h.size, h.block⟩
/-- The node stays readable where its children's row has been appended to. -/
theorem Gr.In.still {G : Gr} {B : Nat} {w w2 : World} {o : Obj} (h : G.In B w) {p : Nat} (hp : p < G.k) (hgrow : (w.alloc o).grownBy w2 (G.cv p).ownBlock) {g cap : Nat} (hnv : G.nv = .slice (some ⟨g, 0, none⟩) G.k cap) :
    w2.cell? ⟨G.N p, 1, none⟩ = some (G.cv p) ∧ w2.frozen? ⟨G.N p, 1, none⟩ = false ∧ w2.cell? ⟨g, p, none⟩ = some (.pointer (some ⟨G.N p, 0, none⟩)) := by
  have hnode := h.good (.no p) hp
  have hnlt : G.N p < w.heap.size := ((h.good (.no p) hp).lt (b := G.N p) rfl).2
  have hne : some (G.N p) ≠ (G.cv p).ownBlock := fun q => by
    have := h.sep (.no p) (.ki p) (G.N p) hp hp rfl q.symm
    cases this
  have hn1 : w2.heap[G.N p]? = some (.cells #[.int .i64 p, G.cv p] 105 (0, 0)) := by
    rw [hgrow.block _ (by rw [size_alloc1]; omega) hne, heap_alloc1 _ hnlt]
    exact hnode.2
  have hg : G.blk .nd = some g := by simp only [Gr.blk, hnv]; rfl
  have hglt := ((h.good .nd trivial).lt hg).2
  have hne2 : some g ≠ (G.cv p).ownBlock := fun q => by
    have := h.sep .nd (.ki p) g trivial hp hg q.symm
    cases this
  refine ⟨by rw [cell_of_row w2 _ _ _ _ _ hn1]; rfl, frozen_of_row w2 _ _ _ _ hn1, ?_⟩
  rw [World.cell?_of_block (w := w) (by show w2.heap[g]? = w.heap[g]?; rw [hgrow.block _ (by rw [size_alloc1]; omega) hne2, heap_alloc1 _ hglt])]
  exact (h.reads hnv hp).1
/-- A child is appended to the children of a node. -/
theorem Gr.In.kidded {G : Gr} {B : Nat} {w w1 w2 : World} (h : G.In B w) {p i : Nat} (hp : p < G.k) (hi : i < G.k) {g cap : Nat} {o : Obj}
    (hown : w1.ownsRow B 73 1 (.slice (some ⟨g, 0, none⟩) ((G.ch p).length + 1) cap) ((G.ch p).length + 1) (((G.ch p).map fun j => ptrV (G.N j)) ++ [ptrV (G.N i)]))
    (hgrow : (w.alloc o).grownBy w1 (G.cv p).ownBlock) (hat : (G.cv p).ownBlock = some g ∨ g = w.heap.size + 1) (hw : w2 = w1.setCell ⟨G.N p, 1, none⟩ (.slice (some ⟨g, 0, none⟩) ((G.ch p).length + 1) cap)) :
    (G.kid p (G.ch p ++ [i]) (.slice (some ⟨g, 0, none⟩) ((G.ch p).length + 1) cap)).In B w2 ∧ w.heap.size + 1 ≤ w2.heap.size := by
  subst hw
  have hsz := hgrow.size
  rw [size_alloc1] at hsz
  have hsz2 : (w1.setCell ⟨G.N p, 1, none⟩ (.slice (some ⟨g, 0, none⟩) ((G.ch p).length + 1) cap)).heap.size = w1.heap.size := by simp [World.setCell]
  have hnode := h.good (.no p) hp
  have hnlt : G.N p < w.heap.size := ((h.good (.no p) hp).lt (b := G.N p) rfl).2
  have hne : some (G.N p) ≠ (G.cv p).ownBlock := fun q => by
    have := h.sep (.no p) (.ki p) (G.N p) hp hp rfl q.symm
    cases this
  have hgN : g ≠ G.N p := by
    rintro rfl
    rcases hat with q | q
    · exact hne q.symm
    · omega
  have hn1 : w1.heap[G.N p]? = some (.cells #[.int .i64 p, G.cv p] 105 (0, 0)) := by
    rw [hgrow.block _ (by rw [size_alloc1]; omega) hne, heap_alloc1 _ hnlt]
    exact hnode.2
  refine ⟨h.setKid hp (fun j hj => ?_) ?_ ?_ (fun b hb h1 h2 => ?_) (fun b hb => ?_), by rw [hsz2]; omega⟩
  · rcases List.mem_append.1 hj with q | q
    · exact h.ch p j hp q
    · simp only [List.mem_singleton] at q; subst q; exact hi
  · rw [List.length_append, List.length_singleton, List.map_append, List.map_cons, List.map_nil]
    refine ownsRow_keep hown fun b hb => ?_
    have e : b = g := by simpa [Value.ownBlock] using hb.symm
    subst e
    exact World.heap_setCells_other w1 _ 1 [_] ((World.ownsRow.lt hown b hb).2) hgN
  · have := heap_setCell_same w1 (G.N p) 1 _ 105 (.slice (some ⟨g, 0, none⟩) ((G.ch p).length + 1) cap) hn1
    simpa using this
  · have e1 := World.heap_setCells_other w1 (G.N p) 1 [.slice (some ⟨g, 0, none⟩) ((G.ch p).length + 1) cap] (i := b) (by omega) h2
    exact e1.trans ((hgrow.block b (by rw [size_alloc1]; omega) (fun q => h1 q.symm)).trans (heap_alloc1 _ hb))
  · have e : b = g := by simpa [Value.ownBlock] using hb.symm
    subst e
    rcases hat with q | q
    · exact .inl q
    · exact .inr (by omega)
end Go.AX

namespace Go.Proofs.Try
open Go Go.AX Go.RowKit
def kidsTo (ps : List Int) (i j : Nat) : List Nat := (List.range i).filter fun m => decide (ps.getD m 0 = (j : Int))
theorem und74 : prog.underlying 74 = some (.slice 73) := by kernel_rfl
theorem info73 : (prog.info? 73).map (fun i => (i.zero, i.size, i.bytes)) = some (some (.pointer none), 1, 8) := by kernel_rfl
theorem cell_new2 (w : World) (o1 : Obj) (x : Value) (t : TypeId) : ∀ j u, [x][j]? = some u → ((w.alloc o1).alloc (.cells #[x] t)).cell? ((⟨w.heap.size + 1, 0, none⟩ : Addr).add j) = some u := by
  have e : (w.alloc o1).heap.size = w.heap.size + 1 := by show (w.heap.push _).size = _; simp
  have := cell_one_new (w.alloc o1) x t
  rwa [e] at this
theorem size2 {w : World} {B : Nat} (h : B ≤ w.heap.size) (o1 o2 : Obj) : B ≤ ((w.alloc o1).alloc o2).heap.size := by
  show B ≤ ((w.heap.push _).push _).size
  simp; omega
theorem one_ptr (b : Nat) : ∀ u ∈ [ptrV b], u.oneCell' = true := by simp [ptrV, Value.oneCell']
theorem kidsTo_succ (ps : List Int) (i j : Nat) : kidsTo ps (i + 1) j = if ps.getD i 0 = (j : Int) then kidsTo ps i j ++ [i] else kidsTo ps i j := by
  unfold kidsTo
  rw [List.range_succ, List.filter_append]
  by_cases h : ps.getD i 0 = (j : Int)
  · rw [if_pos h, List.filter_cons_of_pos (by exact decide_eq_true h), List.filter_nil]
  · rw [if_neg h, List.filter_cons_of_neg (by intro q; exact h (of_decide_eq_true q)), List.filter_nil, List.append_nil]
theorem kidsTo_len (ps : List Int) (i j : Nat) : (kidsTo ps i j).length ≤ i := by
  have := List.length_filter_le (fun m => decide (ps.getD m 0 = (j : Int))) (List.range i)
  rwa [List.length_range] at this
theorem kidsTo_mem {ps : List Int} {i j m : Nat} (h : m ∈ kidsTo ps i j) : m < i ∧ ps.getD m 0 = (j : Int) := by
  unfold kidsTo at h
  rw [List.mem_filter, List.mem_range] at h
  exact ⟨h.1, of_decide_eq_true h.2⟩
theorem kidsTo_none {ps : List Int} {i j : Nat} (hp : ∀ j, j < ps.length → ps.getD j 0 < j) (hi : i ≤ ps.length) (hj : i ≤ j + 1) : kidsTo ps i j = [] := by
  rw [List.eq_nil_iff_forall_not_mem]
  intro m hm
  obtain ⟨h1, h2⟩ := kidsTo_mem hm
  have := hp m (by omega)
  omega
theorem rel_push {ps : List Int} {i g cap : Nat} {G : Gr} {w wr w1 : World} {p : Int} (hp : ∀ j, j < ps.length → ps.getD j 0 < j) (hlt : i < ps.length) (hp0 : ps.getD i 0 = p) (hneg : ¬ 0 ≤ p) (hGk : G.k = i) (hGch : ∀ j, j < i → G.ch j = kidsTo ps i j) (hG : G.In w.heap.size wr)
    (hB : Below w.heap.size w wr) (hsz : w.heap.size ≤ wr.heap.size)
    (hown1 : w1.ownsRow w.heap.size 73 1 (.slice (some ⟨g, 0, none⟩) (G.k + 1) cap) (G.k + 1) (((List.range G.k).map fun j => ptrV (G.N j)) ++ [ptrV wr.heap.size]))
    {o2 : Obj} (hgrow : ((wr.alloc (.cells #[.int .i64 i, .slice none 0 0] 105)).alloc o2).grownBy w1 G.nv.ownBlock) (hat : G.nv.ownBlock = some g ∨ g = wr.heap.size + 2) :
    ∃ (i' : Nat) (G' : Gr), i' ≤ ps.length ∧ Value.int .i64 ((i : Int) + 1) = .int .i64 i' ∧ Value.slice (some ⟨g, 0, none⟩) (G.k + 1) cap = G'.nv ∧ G'.k = i' ∧ (∀ j, j < i' → G'.ch j = kidsTo ps i' j) ∧ G'.In w.heap.size w1 ∧ Below w.heap.size w w1 ∧ w.heap.size ≤ w1.heap.size := by
  obtain ⟨hG1, hs1⟩ := hG.pushed hsz hGk hown1 hgrow hat
  refine ⟨i + 1, _, by omega, rfl, rfl, by simp only [Gr.push]; rw [hGk], fun j hj => ?_, hG1, (((hB.alloc hsz _).alloc (by rw [size_alloc1]; omega) _).grown hgrow (by rw [size_alloc2]; omega) (fun k hk => ((hG.good .nd trivial).lt (b := k) hk).1)), by omega⟩
  simp only [Gr.push]
  rw [kidsTo_succ, if_neg (by rw [hp0]; omega)]
  by_cases e : j = i
  · subst e
    rw [hGk, fset_same, kidsTo_none hp (by omega) (by omega)]
  · rw [hGk, fset_ne _ _ e, hGch j (by omega)]
theorem rel_kid {ps : List Int} {i g cap q nq g2 cap2 : Nat} {cq : Value} {G G1 : Gr} {w wr w1 w2 : World} (hp : ∀ j, j < ps.length → ps.getD j 0 < j) (hlt : i < ps.length) (hp0 : ps.getD i 0 = (q : Int)) (hGk : G.k = i) (hGch : ∀ j, j < i → G.ch j = kidsTo ps i j) (hG : G.In w.heap.size wr)
    (hB : Below w.heap.size w wr) (hsz : w.heap.size ≤ wr.heap.size) {o1 o2 : Obj} (hgrow : ((wr.alloc o1).alloc o2).grownBy w1 G.nv.ownBlock) (hat : G.nv.ownBlock = some g ∨ g = wr.heap.size + 2)
    (hG1 : G1.In w.heap.size w1) (hG1e : G1 = G.push wr.heap.size (.slice (some ⟨g, 0, none⟩) (G.k + 1) cap)) (hnq : nq = G1.N q) (hcq : cq = G1.cv q)
    (hown3 : w2.ownsRow w.heap.size 73 1 (.slice (some ⟨g2, 0, none⟩) ((G1.ch q).length + 1) cap2) ((G1.ch q).length + 1) (((G1.ch q).map fun j => ptrV (G1.N j)) ++ [ptrV wr.heap.size]))
    {o3 : Obj} (hgrow3 : (w1.alloc o3).drew.grownBy w2 cq.ownBlock) (hat3 : cq.ownBlock = some g2 ∨ g2 = w1.heap.size + 1) :
    ∃ (i' : Nat) (G' : Gr), i' ≤ ps.length ∧ Value.int .i64 ((i : Int) + 1) = .int .i64 i' ∧ Value.slice (some ⟨g, 0, none⟩) (G.k + 1) cap = G'.nv ∧ G'.k = i' ∧ (∀ j, j < i' → G'.ch j = kidsTo ps i' j) ∧
      G'.In w.heap.size (w2.setCell ⟨nq, 1, none⟩ (.slice (some ⟨g2, 0, none⟩) ((G1.ch q).length + 1) cap2)) ∧ Below w.heap.size w (w2.setCell ⟨nq, 1, none⟩ (.slice (some ⟨g2, 0, none⟩) ((G1.ch q).length + 1) cap2)) ∧
      w.heap.size ≤ (w2.setCell ⟨nq, 1, none⟩ (.slice (some ⟨g2, 0, none⟩) ((G1.ch q).length + 1) cap2)).heap.size := by
  have hqi : q < i := by have := hp i hlt; rw [hp0] at this; omega
  have hk1 : G1.k = i + 1 := by rw [hG1e]; simp only [Gr.push]; rw [hGk]
  have hNi : G1.N i = wr.heap.size := by rw [hG1e]; simp only [Gr.push]; rw [hGk, fset_same]
  have hB1 : Below w.heap.size w w1 := ((hB.alloc hsz _).alloc (by rw [size_alloc1]; omega) _).grown hgrow (by rw [size_alloc2]; omega) (fun k hk => ((hG.good .nd trivial).lt (b := k) hk).1)
  have hs1 : w.heap.size ≤ w1.heap.size := hB1.size
  subst hnq hcq
  rw [← hNi] at hown3
  obtain ⟨hG2, hs2⟩ := hG1.kidded (p := q) (i := i) (by omega) (by omega) hown3 (undrew hgrow3) hat3 rfl
  have hNB : w.heap.size ≤ G1.N q := (hG1.good (.no q) (by show q < G1.k; omega)).1
  refine ⟨i + 1, G1.kid q (G1.ch q ++ [i]) (.slice (some ⟨g2, 0, none⟩) ((G1.ch q).length + 1) cap2), by omega, rfl, ?_, hk1, fun j hj => ?_, hG2, ((hB1.alloc hs1 _).grown (undrew hgrow3) (by rw [size_alloc1]; omega) (fun k hk => ((hG1.good (.ki q) (by show q < G1.k; omega)).lt (b := k) hk).1)).setCell (show w.heap.size ≤ (⟨G1.N q, 1, none⟩ : Addr).block from hNB) _, by omega⟩
  · rw [hG1e]; rfl
  · have hch : ∀ j, j < i + 1 → G1.ch j = kidsTo ps i j := by
      intro j hj
      rw [hG1e]
      simp only [Gr.push]
      by_cases e : j = i
      · subst e; rw [hGk, fset_same, kidsTo_none hp (by omega) (by omega)]
      · rw [hGk, fset_ne _ _ e, hGch j (by omega)]
    rw [kidsTo_succ, hp0]
    simp only [Gr.kid]
    by_cases e : j = q
    · subst e; rw [fset_same, if_pos rfl, hch j hj]
    · rw [fset_ne _ _ e, if_neg (by omega), hch j hj]
set_option maxHeartbeats 4000000 in
set_option maxRecDepth 1000000 in
theorem treeOf_walk (bk o c : Nat) (ps : List Int) (w : World) (hb : bk < w.heap.size) (hn : ps.length ≤ 1000) (hc : ∀ j, j < ps.length → w.cell? ⟨bk, o + j, none⟩ = some (.int .i64 (ps.getD j 0)))
    (hp : ∀ j, j < ps.length → ps.getD j 0 < j) :
    Calls prog 46 #[.agg #[.slice (some ⟨bk, o, none⟩) ps.length c]] w fun e w' => ∃ G : Gr, e = .returned G.nv ∧ G.k = ps.length ∧ (∀ j, j < ps.length → G.ch j = kidsTo ps ps.length j) ∧ G.In w.heap.size w' ∧ Below w.heap.size w w' := by
  have mixed : prog.follows .mixedOrders = true := by kernel_rfl
  obtain ⟨i0, hi, hz0, hz1, hz2⟩ := info_parts info73
  go_enter func46, ntmps46
  go_wp2
  go_loopw [3, 11] (fun nv iv wr => ∃ (i : Nat) (G : Gr), i ≤ ps.length ∧ iv = .int .i64 i ∧ nv = G.nv ∧ G.k = i ∧ (∀ j, j < i → G.ch j = kidsTo ps i j) ∧ G.In w.heap.size wr ∧ Below w.heap.size w wr ∧ w.heap.size ≤ wr.heap.size)
    (fun _ i _ => ps.length - (intOf i).toNat)
  case atStart =>
    exact ⟨0, ⟨0, fun _ => 0, fun _ => [], fun _ => .slice none 0 0, .slice (some ⟨w.heap.size + 1, 0, none⟩) 0 0⟩, Nat.zero_le _, rfl, rfl, rfl, fun j hj => absurd hj (by omega), Gr.start (by omega) (by have := heap_alloc2_2 w (.cells #[.slice (some ⟨bk, o, none⟩) ps.length c] 31) (.cells #[] 73); exact this), ((Below.refl _ _).alloc (Nat.le_refl _) _).alloc (by rw [size_alloc1]; omega) _, by rw [size_alloc2]; omega⟩
  case round =>
    obtain ⟨i, G, hile, rfl, rfl, hGk, hGch, hG, hB, hsz⟩ := hrel
    have hcx : i < ps.length → wr.cell? ⟨bk, o + i, none⟩ = some (.int .i64 (ps.getD i 0)) := fun _ => (hB.cell (by exact hb)).trans (hc i (by omega))
    have hown : wr.ownsRow w.heap.size 73 1 G.nv G.k ((List.range G.k).map fun j => ptrV (G.N j)) := hG.good .nd trivial
    have hown2 : ∀ o1 o2, ((wr.alloc o1).alloc o2).ownsRow w.heap.size 73 1 G.nv G.k ((List.range G.k).map fun j => ptrV (G.N j)) := fun o1 o2 => (hown.alloc o1).alloc o2
    generalize hp0 : ps.getD i 0 = p at hcx
    have A1 : Hid (G.k = i ∧ (∀ j, j < i → G.ch j = kidsTo ps i j) ∧ G.In w.heap.size wr ∧ Below w.heap.size w wr) := ⟨hGk, hGch, hG, hB⟩
    have hk0 : G.k + 1 ≤ 1001 := by omega
    clear hGk hGch hG hB hown
    by_cases hlt : i < ps.length
    · have hcx := hcx hlt
      by_cases hneg : 0 ≤ p
      · obtain ⟨q, rfl⟩ : ∃ q : Nat, p = q := ⟨p.toNat, by omega⟩
        have hqi : q < i := by have := hp i hlt; rw [hp0] at this; omega
        have hqk : q < G.k + 1 := by rw [A1.out.1]; omega
        have hqz : (q : Int) < (G.k : Int) + 1 := by omega
        go_wp2_with (first | (at_builtin; refine wpList_append_lies _ rfl (.tmp 19) (.tmp 21) 74 rfl w.heap.size 73 i0 (.pointer none) 1 8 und74 hi hz0 hz1 hz2 rfl (by decide) G.nv G.k _ rfl (hown2 _ _) ⟨wr.heap.size + 1, 0, none⟩ 1 1 [ptrV wr.heap.size] rfl rfl (cell_new2 _ _ _ _) (one_ptr _) (by decide) (by unfold maxLen; omega) (by omega) (size2 hsz _ _) (wr.heap.size + 2) (size_alloc2 _ _ _) ?_; intro g cap w1 hown1 hgrow hat hglt; obtain ⟨hG1, hs1⟩ := A1.out.2.2.1.pushed hsz A1.out.1 hown1 hgrow hat; clear hown1) | fail)
        have A2 : Hid (((wr.alloc (.cells #[.int .i64 i, .slice none 0 0] 105)).alloc (.cells #[.pointer (some ⟨wr.heap.size, 0, none⟩)] 73)).grownBy w1 G.nv.ownBlock) := hgrow
        obtain ⟨G1, hG1e⟩ : ∃ G1, G1 = G.push wr.heap.size (.slice (some ⟨g, 0, none⟩) (G.k + 1) cap) := ⟨_, rfl⟩
        rw [← hG1e] at hG1
        have hk1 : G1.k = G.k + 1 := by rw [hG1e]; rfl
        have hqk1 : q < G1.k := by omega
        obtain ⟨e1, e2, e3, e4⟩ := hG1.reads (g := g) (cap := cap) (by rw [hG1e]; rfl) hqk1
        have hkid : w1.ownsRow w.heap.size 73 1 (G1.cv q) (G1.ch q).length ((G1.ch q).map fun j => ptrV (G1.N j)) := hG1.good (.ki q) hqk1
        have hkidd : ∀ o, ((w1.alloc o).drew).ownsRow w.heap.size 73 1 (G1.cv q) (G1.ch q).length ((G1.ch q).map fun j => ptrV (G1.N j)) := fun o => hkid.alloc o
        have e5 : ∀ o, (w1.alloc o).cell? ⟨G1.N q, 1, none⟩ = some (G1.cv q) := fun o => (World.cell?_of_block (heap_alloc1 o ((hG1.good (.no q) hqk1).lt (b := G1.N q) rfl).2)).trans e3
        have hch : (G1.ch q).length ≤ 1000 := by rw [hG1e, push_ch (by rw [A1.out.1]; omega), A1.out.2.1 q hqi]; have := kidsTo_len ps i q; omega
        have A3 : Hid (G1.In w.heap.size w1 ∧ G1 = G.push wr.heap.size (.slice (some ⟨g, 0, none⟩) (G.k + 1) cap) ∧ G1.k = G.k + 1 ∧ G1.nv = .slice (some ⟨g, 0, none⟩) G1.k cap) := ⟨hG1, hG1e, hk1, by rw [hG1e]; rfl⟩
        clear hG1 hG1e hk1 hkid hgrow
        obtain ⟨nq, hnq⟩ : ∃ nq, nq = G1.N q := ⟨_, rfl⟩
        obtain ⟨cq, hcq⟩ : ∃ cq, cq = G1.cv q := ⟨_, rfl⟩
        have e6 : ∀ o, (w1.alloc o).cell? ⟨g, q, none⟩ = some (.pointer (some ⟨G1.N q, 0, none⟩)) := fun o => (World.cell?_of_block (heap_alloc1 o hglt)).trans e1
        rw [← hnq] at e1 e2 e3 e4 e5
        simp only [← hnq] at e6
        rw [← hcq] at e3 e5 hkidd
        have A4 : Hid (nq = G1.N q ∧ cq = G1.cv q) := ⟨hnq, hcq⟩
        clear hnq hcq
        go_region_law_o (refine step_append_lies _ rfl (.tmp 35) (.tmp 37) 74 rfl w.heap.size 73 i0 (.pointer none) 1 8 und74 hi hz0 hz1 hz2 rfl (by decide) cq (G1.ch q).length _ (by simp [Act.eval, Act.put]) (hkidd _) ⟨w1.heap.size, 0, none⟩ 1 1 [ptrV wr.heap.size] (by simp [Act.eval, Act.put, ptrV]) rfl (cell_one_new w1 _ _) (one_ptr _) (by decide) (by unfold maxLen; omega) (by omega) (by show _ ≤ (w1.alloc _).heap.size; rw [size_alloc1]; omega) (w1.heap.size + 1) (size_alloc1 w1 _) ?_; intro g2 cap2 w2 hown3 hgrow3 hat3 hglt3; obtain ⟨s1, s2, s3⟩ := A3.out.1.still hqk1 (by rw [← A4.out.2]; exact undrew hgrow3) A3.out.2.2.2; rw [← A4.out.1] at s1 s2 s3)
        all_goals
          (go_wp2
           go_roundw
           case rel => exact rel_kid hp hlt hp0 A1.out.1 A1.out.2.1 A1.out.2.2.1 A1.out.2.2.2 hsz A2.out hat A3.out.1 A3.out.2.1 A4.out.1 A4.out.2 hown3 hgrow3 hat3
           case measure => simp [intOf]; omega)
      · go_wp2_with (first | (at_builtin; refine wpList_append_lies _ rfl (.tmp 19) (.tmp 21) 74 rfl w.heap.size 73 i0 (.pointer none) 1 8 und74 hi hz0 hz1 hz2 rfl (by decide) G.nv G.k _ rfl (hown2 _ _) ⟨wr.heap.size + 1, 0, none⟩ 1 1 [ptrV wr.heap.size] rfl rfl (cell_new2 _ _ _ _) (one_ptr _) (by decide) (by unfold maxLen; omega) (by omega) (size2 hsz _ _) (wr.heap.size + 2) (size_alloc2 _ _ _) ?_; intro g cap w1 hown1 hgrow hat hglt) | go_in)
        obtain ⟨hGk, hGch, hG, hB⟩ := A1.out
        go_roundw
        case rel => exact rel_push hp hlt hp0 hneg hGk hGch hG hB hsz hown1 hgrow hat
        case measure => simp [intOf]; omega
    · have hi' : i = ps.length := by omega
      subst hi'
      go_wp2
      go_ret
      obtain ⟨h1, h2, h3, h4⟩ := A1.out
      exact ⟨G, rfl, h1, h2, h3, h4⟩
end Go.Proofs.Try

namespace Go.Proofs.Try
open Go Go.AX Go.RowKit
set_option maxHeartbeats 1000000 in
/-- The test of a node's number. -/
theorem chop1_calls (b hb i : Nat) (head : Int) (w : World) (h1 : w.cell? ⟨b, 0, none⟩ = some (.int .i64 i)) (h2 : w.cell? ⟨hb, 0, none⟩ = some (.int .i64 head)) :
    Calls prog 91 #[.pointer (some ⟨b, 0, none⟩), .pointer (some ⟨hb, 0, none⟩)] w fun e w' => e = .returned (.bool (decide ((i : Int) = head))) ∧ w' = w.drew := by
  have mixed : prog.follows .mixedOrders = true := by kernel_rfl
  go_enter func91, ntmps91
  go_wp2
  go_region
  all_goals (go_wp2; go_ret; exact ⟨rfl, rfl⟩)
set_option maxHeartbeats 4000000 in
set_option maxRecDepth 1000000 in
/-- The place of the first child of a number. -/
theorem index_calls (g cap hb k : Nat) (head : Nat) (N : Nat → Nat) (l : List Nat) (w : World) (hl : l.length ≤ 1000) (hk : l[k]? = some head) (hpre : ∀ j, j < k → l.getD j 0 ≠ head)
    (hrow : ∀ j, j < l.length → w.cell? ⟨g, j, none⟩ = some (.pointer (some ⟨N (l.getD j 0), 0, none⟩))) (hnode : ∀ j, j < l.length → w.cell? ⟨N (l.getD j 0), 0, none⟩ = some (.int .i64 (l.getD j 0 : Nat)))
    (hbox : w.cell? ⟨hb, 0, none⟩ = some (.int .i64 head)) :
    Calls prog 104 #[.slice (some ⟨g, 0, none⟩) l.length cap, .func (.func 91) #[] #[.pointer (some ⟨hb, 0, none⟩)]] w fun e w' => e = .returned (.int .i64 k) ∧ ∃ n, w' = w.drewN n := by
  have hkl : k < l.length := (List.getElem?_eq_some_iff.1 hk).1
  go_enter func104, ntmps104
  go_wp2
  go_loopw [8] (fun iv wr => ∃ (i n : Nat), i ≤ k ∧ iv = .int .i64 i ∧ wr = w.drewN n) (fun i _ => l.length - (intOf i).toNat)
  case atStart => exact ⟨0, 0, Nat.zero_le _, rfl, rfl⟩
  case round =>
    obtain ⟨i, n, hi, rfl, rfl⟩ := hrel
    have c1 : (w.drewN n).cell? ⟨g, i, none⟩ = some (.pointer (some ⟨N (l.getD i 0), 0, none⟩)) := hrow i (by omega)
    have c2 : (w.drewN n).cell? ⟨N (l.getD i 0), 0, none⟩ = some (.int .i64 (l.getD i 0 : Nat)) := hnode i (by omega)
    have c3 : (w.drewN n).cell? ⟨hb, 0, none⟩ = some (.int .i64 head) := hbox
    have hil : i < l.length := by omega
    have hd : (i < k ∧ l.getD i 0 ≠ head) ∨ (i = k ∧ l.getD i 0 = head) := by
      rcases Nat.lt_or_ge i k with q | q
      · exact .inl ⟨q, hpre i q⟩
      · have e : i = k := by omega
        subst e
        exact .inr ⟨rfl, by rw [List.getD_eq_getElem?_getD, hk]; rfl⟩
    clear hpre hrow hnode hbox hk
    generalize l.getD i 0 = m at c1 c2 hd
    rcases hd with ⟨q1, q2⟩ | ⟨q1, q2⟩
    · have hdec : decide ((m : Int) = (head : Int)) = false := decide_eq_false (by omega)
      go_wp2_with (go_at_call 91; refine (chop1_calls _ _ _ _ _ c2 c3).mono ?_; rintro e w' ⟨rfl, rfl⟩; rw [hdec])
      exact ⟨⟨i + 1, n + 1, by omega, rfl, rfl⟩, by simp [intOf]; omega⟩
    · subst q1 q2
      have hdec : decide ((m : Int) = (m : Int)) = true := decide_eq_true rfl
      go_wp2_with (go_at_call 91; refine (chop1_calls _ _ _ _ _ c2 c3).mono ?_; rintro e w' ⟨rfl, rfl⟩; rw [hdec])
      go_ret
      exact ⟨rfl, n + 1, rfl⟩
theorem row_cap {w : World} {B g n cap : Nat} {xs : List Value} (h : w.ownsRow B 73 1 (.slice (some ⟨g, 0, none⟩) n cap) n xs) (hn : 0 < n) : n ≤ cap := by
  rcases h.2 with ⟨_, q⟩ | ⟨g', cap', cur, e, _, _, hc, _⟩
  · omega
  · injection e with e1 e2 e3
    omega
theorem clear_ptr (b o c : Nat) (w : World) (ty : TypeId) (hc : (w.cell? ⟨b, o, none⟩).isSome = true) (hf : w.frozen? ⟨b, o, none⟩ = false) :
    (Builtin.clear_ #[74] ty #[.slice (some ⟨b, o, none⟩) 1 c]).run prog w = .ok (.tuple #[]) (w.setCell ⟨b, o, none⟩ (.pointer none)) := by
  have hz : ∀ w, (zeroValue 73).run prog w = .ok (.pointer none) w := by
    intro w
    kernel_rfl
  have hst := run_storeCells_cells (P := prog) b o [.pointer none] 0 w (by
    intro j hj
    have : j = 0 := by simpa using hj
    subst this
    exact hc) (by
    intro j hj
    have : j = 0 := by simpa using hj
    subst this
    exact hf) (by
    intro v hv
    simp only [List.mem_singleton] at hv
    subst hv
    rfl)
  simp only [Nat.add_zero] at hst
  have hzc : (Builtin.zeroCells (Value.pointer none).cells 1).toList = [.pointer none] := by simp [Builtin.zeroCells, Value.cells, List.range_succ]
  simp [Builtin.clear_, run_underlying und74, hz, hzc, hst]
  rfl
/-- A row whose k-th element is being taken out: t elements have been moved. -/
def mvL (l : List Nat) (k t m : Nat) : Nat := if m < k then l.getD m 0 else if m < k + t then l.getD (m + 1) 0 else l.getD m 0
theorem mvL_ge {l : List Nat} {k t m : Nat} (h : k + t ≤ m) : mvL l k t m = l.getD m 0 := by
  unfold mvL
  rw [if_neg (by omega), if_neg (by omega)]
theorem mvL_start {l : List Nat} {k n : Nat} {N : Nat → Nat} (hn : n = l.length) : ((List.range n).map fun m => ptrV (N (mvL l k 0 m))) = l.map fun i => ptrV (N i) := by
  subst hn
  refine List.ext_getElem (by simp) fun i h1 h2 => ?_
  simp only [List.length_map, List.length_range] at h1
  simp only [List.getElem_map, List.getElem_range]
  have : mvL l k 0 i = l[i] := by
    unfold mvL
    have e : l.getD i 0 = l[i] := by simp [h1]
    split
    · exact e
    · rw [if_neg (by omega)]; exact e
  rw [this]
theorem mvL_step {l : List Nat} {k t n : Nat} {N : Nat → Nat} (hn : n = l.length) (h : k + 1 + t < n) : ((List.range n).map fun m => ptrV (N (mvL l k t m))).set (k + t) (ptrV (N (l.getD (k + 1 + t) 0))) = (List.range n).map fun m => ptrV (N (mvL l k (t + 1) m)) := by
  refine List.ext_getElem (by simp) fun i h1 h2 => ?_
  simp only [List.length_map, List.length_range] at h2
  rw [List.getElem_set]
  simp only [List.getElem_map, List.getElem_range]
  have e : k + 1 + t = k + t + 1 := by omega
  split
  · rename_i q
    subst q
    unfold mvL
    rw [if_neg (by omega), if_pos (by omega), e]
  · rename_i q
    unfold mvL
    split
    · rfl
    · split
      · rw [if_pos (by omega)]
      · rw [if_neg (by omega)]
theorem mvL_done {l : List Nat} {k t n : Nat} {N : Nat → Nat} (hn : n = l.length) (hk : k < n) (h : k + t = n - 1) {u : Value} : (((List.range n).map fun m => ptrV (N (mvL l k t m))).set (n - 1) u).take (n - 1) = (l.eraseIdx k).map fun i => ptrV (N i) := by
  have hlen : (l.eraseIdx k).length = n - 1 := by rw [List.length_eraseIdx, if_pos (by omega)]; omega
  refine List.ext_getElem (by rw [List.length_map, hlen]; simp) fun i h1 h2 => ?_
  rw [List.length_map, hlen] at h2
  rw [List.getElem_take, List.getElem_set, if_neg (by omega)]
  simp only [List.getElem_map, List.getElem_range]
  rw [List.getElem_eraseIdx]
  unfold mvL
  split
  · rw [List.getD_eq_getElem?_getD, List.getElem?_eq_getElem (by omega)]; rfl
  · rw [if_pos (by omega), List.getD_eq_getElem?_getD, List.getElem?_eq_getElem (by omega)]; rfl
theorem row_take {w : World} {B g n m cap : Nat} {xs : List Value} (h : w.ownsRow B 73 1 (.slice (some ⟨g, 0, none⟩) n cap) n xs) (hm : m ≤ n) : w.ownsRow B 73 1 (.slice (some ⟨g, 0, none⟩) m cap) m (xs.take m) := by
  have hl := h.1
  refine ⟨by rw [List.length_take, hl]; omega, ?_⟩
  rcases h.2 with ⟨q, _⟩ | ⟨g', cap', cur, e, hb, hg, hc, hx, hs, ht⟩
  · cases q
  · injection e with e1 e2 e3
    simp only [Option.some.injEq, Addr.mk.injEq, and_true] at e1
    subst e1 e3
    refine .inr ⟨_, _, cur, rfl, hb, hg, by omega, hx, hs, ?_⟩
    rw [← ht, List.take_take]
    congr 1
    omega
theorem redrew {w w2 : World} {r : Option Nat} (h : w.grownBy w2 r) : w.grownBy w2.drew r := ⟨h.os, h.tape, h.output, h.size, h.block⟩
set_option maxHeartbeats 4000000 in
set_option maxRecDepth 1000000 in
/-- One child is taken out of a row of its own. -/
theorem delete_calls (B g cap hb k : Nat) (head : Nat) (N : Nat → Nat) (l : List Nat) (w : World) (hl : l.length ≤ 1000) (hkl : k < l.length) (hk : l.getD k 0 = head) (hone : ∀ j, j < l.length → j ≠ k → l.getD j 0 ≠ head)
    (hrow : w.ownsRow B 73 1 (.slice (some ⟨g, 0, none⟩) l.length cap) l.length (l.map fun i => ptrV (N i)))
    (hnode : ∀ j, j < l.length → ∃ cs, w.heap[N (l.getD j 0)]? = some (.cells cs 105 (0, 0)) ∧ cs[0]? = some (.int .i64 (l.getD j 0 : Nat)) ∧ N (l.getD j 0) ≠ g)
    (hbox : w.cell? ⟨hb, 0, none⟩ = some (.int .i64 head)) (hbg : hb ≠ g) :
    Calls prog 90 #[.slice (some ⟨g, 0, none⟩) l.length cap, .func (.func 91) #[] #[.pointer (some ⟨hb, 0, none⟩)]] w fun e w' =>
      e = .returned (.slice (some ⟨g, 0, none⟩) (l.length - 1) cap) ∧ w'.ownsRow B 73 1 (.slice (some ⟨g, 0, none⟩) (l.length - 1) cap) (l.length - 1) ((l.eraseIdx k).map fun i => ptrV (N i)) ∧ w.grownBy w' (some g) := by
  have hidx : Hid (Calls prog 104 #[.slice (some ⟨g, 0, none⟩) l.length cap, .func (.func 91) #[] #[.pointer (some ⟨hb, 0, none⟩)]] w fun e w' => e = .returned (.int .i64 k) ∧ ∃ n, w' = w.drewN n) := by
    refine index_calls g cap hb k head N l w hl (by rw [List.getElem?_eq_getElem hkl, ← hk, List.getD_eq_getElem?_getD, List.getElem?_eq_getElem hkl]; rfl) (fun j hj => hone j (by omega) (by omega)) (fun j hj => ?_) (fun j hj => ?_) hbox
    · rw [hrow.cellAt j (by omega), List.getElem?_map, List.getElem?_eq_getElem hj, List.getD_eq_getElem?_getD, List.getElem?_eq_getElem hj]; rfl
    · obtain ⟨cs, q1, q2, _⟩ := hnode j hj
      rw [cell_of_row w _ _ _ _ _ q1]
      exact q2
  have A0 : Hid (l.getD k 0 = head ∧ (∀ j, j < l.length → j ≠ k → l.getD j 0 ≠ head)) := ⟨hk, hone⟩
  have A2 : Hid (w.ownsRow B 73 1 (.slice (some ⟨g, 0, none⟩) l.length cap) l.length (l.map fun i => ptrV (N i)) ∧ (∀ j, j < l.length → ∃ cs, w.heap[N (l.getD j 0)]? = some (.cells cs 105 (0, 0)) ∧ cs[0]? = some (.int .i64 (l.getD j 0 : Nat)) ∧ N (l.getD j 0) ≠ g) ∧
    w.cell? ⟨hb, 0, none⟩ = some (.int .i64 head)) := ⟨hrow, hnode, hbox⟩
  clear hrow hnode hbox hk hone
  obtain ⟨n, hn⟩ : ∃ n, n = l.length := ⟨_, rfl⟩
  rw [← hn] at hidx hkl hl ⊢
  have A1 : Hid (n = l.length) := hn
  clear hn
  go_enter func90, ntmps90
  go_wp2_with (go_at_call 104; refine (hidx.out).mono ?_; rintro e w' ⟨rfl, nd, rfl⟩)
  go_loopw [5, 6] (fun iv jv wr => ∃ t : Nat, k + 1 + t ≤ n ∧ iv = .int .i64 (k + t : Nat) ∧ jv = .int .i64 (k + 1 + t : Nat) ∧ wr.ownsRow B 73 1 (.slice (some ⟨g, 0, none⟩) n cap) n ((List.range n).map fun m => ptrV (N (mvL l k t m))) ∧ w.grownBy wr (some g))
    (fun _ j _ => n - (intOf j).toNat)
  case atStart => exact ⟨0, by omega, by go_num, by go_num, by have := A2.out.1; rw [← mvL_start (k := k) A1.out, ← A1.out] at this; exact this, ⟨rfl, rfl, rfl, Nat.le_refl _, fun _ _ _ => rfl⟩⟩
  case round =>
    obtain ⟨t, ht, rfl, rfl, hown, hgr⟩ := hrel
    have d1 : wr.cell? ⟨hb, 0, none⟩ = some (.int .i64 head) := hgr.cell A2.out.2.2 (by intro q; injection q with q; exact hbg q)
    have d2 : wr.frozen? ⟨g, k + t, none⟩ = false := hown.frozenAt _
    have d3 : wr.cell? ⟨g, k + t, none⟩ = some (ptrV (N (mvL l k t (k + t)))) := by rw [hown.cellAt (k + t) (by omega), List.getElem?_map, List.getElem?_range (by omega)]; rfl
    have A3 : Hid (wr.ownsRow B 73 1 (.slice (some ⟨g, 0, none⟩) n cap) n ((List.range n).map fun m => ptrV (N (mvL l k t m))) ∧ w.grownBy wr (some g)) := ⟨hown, hgr⟩
    by_cases hlt : k + 1 + t < n
    · obtain ⟨x, hx⟩ : ∃ x, x = l.getD (k + 1 + t) 0 := ⟨_, rfl⟩
      have c1 : wr.cell? ⟨g, k + 1 + t, none⟩ = some (.pointer (some ⟨N x, 0, none⟩)) := by
        rw [hown.cellAt (k + 1 + t) (by omega), List.getElem?_map, List.getElem?_range hlt, hx, ← mvL_ge (l := l) (k := k) (t := t) (m := k + 1 + t) (by omega)]; rfl
      have c2 : wr.cell? ⟨N x, 0, none⟩ = some (.int .i64 (x : Nat)) := by
        obtain ⟨cs, q1, q2, q3⟩ := A2.out.2.1 (k + 1 + t) (by have := A1.out; omega)
        rw [← hx] at q1 q2 q3
        rw [World.cell?_of_block (w := w) (hgr.block _ (by
          rcases Nat.lt_or_ge (N x) w.heap.size with r | r
          · exact r
          · rw [Array.getElem?_eq_none r] at q1; cases q1) (by intro q; injection q with q; exact q3 q)), cell_of_row w _ _ _ _ _ q1]
        exact q2
      have hdec : decide ((x : Int) = (head : Int)) = false := decide_eq_false (by
        have := A0.out.2 (k + 1 + t) (by have := A1.out; omega) (by omega)
        rw [← hx] at this
        omega)
      have hw1 : (((k + t : Nat) : Int) + 1) = ((k + (t + 1) : Nat) : Int) := by omega
      clear hown hgr
      have A4 : Hid (x = l.getD (k + 1 + t) 0) := hx
      clear hx
      go_wp2_with (go_at_call 91; refine (chop1_calls _ _ _ _ _ c2 d1).mono ?_; rintro e w' ⟨rfl, rfl⟩; rw [hdec])
      refine ⟨⟨_, _, _, _, _, _, _, _, _, _, _, _, _, _, _, _, _, _, _, _, _, _, _, ?_, rfl⟩, by simp [intOf]; omega⟩
      obtain ⟨q1, q2⟩ := A3.out
      have q3 := q1.stored (k + t) (.pointer (some ⟨N x, 0, none⟩))
      refine ⟨t + 1, by omega, by go_num, by go_num, ?_, ?_⟩
      · rw [← mvL_step A1.out hlt, ← A4.out]
        exact q3.1
      · exact q2.trans (redrew q3.2)
    · have e1 : k + 1 + t = n := by omega
      have hk1 : k + t = n - 1 := by omega
      have hcap : n ≤ cap := row_cap hown (by omega)
      have hcl : ∀ ty, (Builtin.clear_ #[74] ty #[.slice (some ⟨g, n - 1, none⟩) (n - (n - 1)) (cap - (n - 1))]).run prog wr = .ok (.tuple #[]) (wr.setCell ⟨g, n - 1, none⟩ (.pointer none)) := by
        intro ty
        rw [show n - (n - 1) = 1 by omega]
        exact clear_ptr g (n - 1) _ wr ty (by rw [← hk1, d3]; rfl) (by rw [← hk1]; exact d2)
      clear hown hgr
      go_wp2
      go_ret
      obtain ⟨q1, q2⟩ := A3.out
      have q3 := q1.stored (n - 1) (.pointer none)
      refine ⟨rfl, ?_, q2.trans q3.2⟩
      rw [← mvL_done A1.out (N := N) hkl hk1]
      exact row_take q3.1 (by omega)
end Go.Proofs.Try

namespace Go.Proofs.Try
open Go Go.AX Go.RowKit
/-- A tree. -/
inductive HT where
  | node (n : Int) (cs : List HT)
mutual
def HT.cells : HT → Cs
  | .node n cs => nodeC n (HT.cellsL cs)
def HT.cellsL : List HT → List Cs
  | [] => []
  | t :: l => t.cells :: HT.cellsL l
end
mutual
/-- The parents of a tree's nodes behind others, as far as there is room. -/
def flT (out : List Int) (parent : Int) : HT → List Int × Bool
  | .node _ cs => if 40 ≤ out.length then (out ++ [parent], false) else flL (out ++ [parent]) out.length cs
def flL (out : List Int) (own : Nat) : List HT → List Int × Bool
  | [] => (out, true)
  | t :: l => match flT out own t with
    | (o, true) => flL o own l
    | (o, false) => (o, false)
end
mutual
/-- No node has too many children for an index. -/
def HT.small : HT → Bool
  | .node _ cs => decide (cs.length ≤ 1000000) && HT.smallL cs
def HT.smallL : List HT → Bool
  | [] => true
  | t :: l => t.small && HT.smallL l
end
theorem smallL_get : ∀ {l : List HT} {i : Nat} {t : HT}, HT.smallL l = true → l[i]? = some t → t.small = true
  | [], i, t, _, h => by simp at h
  | u :: l, 0, t, hs, h => by
    simp only [HT.smallL, Bool.and_eq_true] at hs
    simp only [List.getElem?_cons_zero, Option.some.injEq] at h
    rw [← h]; exact hs.1
  | u :: l, i + 1, t, hs, h => by
    simp only [HT.smallL, Bool.and_eq_true] at hs
    exact smallL_get hs.2 (by simpa using h)
theorem cellsL_len : ∀ l : List HT, (HT.cellsL l).length = l.length
  | [] => rfl
  | t :: l => by simp [HT.cellsL, cellsL_len l]
theorem cellsL_get : ∀ (l : List HT) (i : Nat), (HT.cellsL l)[i]? = (l[i]?).map HT.cells
  | [], i => by simp [HT.cellsL]
  | t :: l, 0 => by simp [HT.cellsL]
  | t :: l, i + 1 => by simp [HT.cellsL, cellsL_get l i]
mutual
theorem flT_len : ∀ (t : HT) (out : List Int) (p : Int), out.length ≤ 40 → (flT out p t).1.length ≤ 41 ∧ ((flT out p t).2 = true → (flT out p t).1.length ≤ 40)
  | .node n cs, out, p, h => by
    unfold flT
    split
    · exact ⟨by simp; omega, by simp⟩
    · exact flL_len cs _ _ (by simp; omega)
theorem flL_len : ∀ (l : List HT) (out : List Int) (own : Nat), out.length ≤ 40 → (flL out own l).1.length ≤ 41 ∧ ((flL out own l).2 = true → (flL out own l).1.length ≤ 40)
  | [], out, own, h => by unfold flL; exact ⟨by simp; omega, fun _ => h⟩
  | t :: l, out, own, h => by
    have ih := flT_len t out own h
    unfold flL
    split
    · rename_i o q
      rw [q] at ih
      exact flL_len l o own (ih.2 rfl)
    · rename_i o q
      rw [q] at ih
      exact ⟨ih.1, by simp⟩
end
theorem flL_drop {l : List HT} {i : Nat} {t : HT} (h : l[i]? = some t) : l.drop i = t :: l.drop (i + 1) := by
  rw [List.drop_eq_getElem_cons (List.getElem?_eq_some_iff.1 h).1, (List.getElem?_eq_some_iff.1 h).2]

theorem ad_none {w : World} {ad : Addr} {u : Value} (h : w.cell? ad = some u) : ∃ b o, ad = ⟨b, o, none⟩ := by
  obtain ⟨b, o, sp⟩ := ad
  cases sp with
  | none => exact ⟨b, o, rfl⟩
  | some q =>
    unfold World.cell? at h
    split at h
    · simp at h
    · cases h
theorem add_lit (b o i : Nat) : (⟨b, o, none⟩ : Addr).add i = ⟨b, o + i, none⟩ := by unfold Addr.add; split <;> simp_all
/-- A node in memory that nobody writes. -/
theorem rep_node {w : World} {F : Nat → Prop} {v : Value} {n : Int} {l : List Cs} (h : Rep w F v (.pt (nodeC n l))) :
    ∃ b o cv, v = .pointer (some ⟨b, o, none⟩) ∧ F b ∧ w.cell? ⟨b, o + 1, none⟩ = some cv ∧ w.cell? ⟨b, o, none⟩ = some (.int .i64 n) ∧
      ((l = [] ∧ ∃ a c, cv = .slice a 0 c) ∨ ∃ g go c, cv = .slice (some ⟨g, go, none⟩) l.length c ∧ F g ∧ ∀ i x, l[i]? = some x → ∃ u, w.cell? ⟨g, go + i, none⟩ = some u ∧ Rep w F u (.pt x)) := by
  cases h with
  | pt ad _ vs ha hr =>
    obtain ⟨hF, h0⟩ := ha 0 _ rfl
    obtain ⟨_, h1⟩ := ha 1 _ rfl
    have e0 : ad.add 0 = ad := by unfold Addr.add; simp
    rw [e0] at h0
    obtain ⟨b, o, rfl⟩ := ad_none h0
    rw [add_lit] at h1
    have r0 := hr 0 _ rfl
    have r1 := hr 1 _ rfl
    refine ⟨b, o, vs 1, rfl, hF, h1, by rw [h0, rep_int r0], ?_⟩
    generalize vs 1 = cv at r1
    cases r1 with
    | sl a c sz _ us hc hsz ha hr =>
      cases l with
      | nil => exact .inl ⟨rfl, a, c, rfl⟩
      | cons x l =>
        right
        have hs1 : sz = 1 := (hsz [D.pt x] (by simp)).symm
        subst hs1
        obtain ⟨ad, rfl, hF0, hc0⟩ := ha 0 0 (.pt x) rfl
        obtain ⟨g, go, hg⟩ := ad_none hc0
        have hadd : ∃ g go, ad = ⟨g, go, none⟩ := by
          have e0 : ad.add (0 * 1 + 0) = ad := by unfold Addr.add; simp
          rw [e0] at hg
          exact ⟨g, go, hg⟩
        obtain ⟨g, go, rfl⟩ := hadd
        refine ⟨g, go, c, by simp, hF0, fun i y hy => ?_⟩
        have hat : at2 ((x :: l).map fun c => [D.pt c]) i 0 = some (.pt y) := by
          unfold at2
          rw [List.getElem?_map, hy]
          rfl
        obtain ⟨ad, q, _, hcell⟩ := ha i 0 _ hat
        injection q with q
        subst q
        rw [add_lit] at hcell
        exact ⟨us i 0, by rw [← hcell]; congr 2; omega, hr i 0 _ hat⟩

/-- The boxes of such a reading: the hydra that grows, the function that calls itself. -/
structure Hy (B : Nat) (w : World) (bh bw : Nat) (hv : Value) (out : List Int) : Prop where
  box : w.heap[bh]? = some (.cells #[hv] 31 (0, 0))
  fn : w.heap[bw]? = some (.cells #[.func (.func 101) #[] #[.pointer (some ⟨bh, 0, none⟩), .pointer (some ⟨bw, 0, none⟩)]] 120 (0, 0))
  row : w.ownsRow B 3 1 hv out.length (out.map (Value.int .i64))
  hh : hv.ownBlock ≠ some bh
  hw : hv.ownBlock ≠ some bw
  ne : bh ≠ bw
  lh : B ≤ bh
  lw : B ≤ bw
theorem und22 : prog.underlying 22 = some (.slice 3) := by kernel_rfl
theorem info3 : (prog.info? 3).map (fun i => (i.zero, i.size, i.bytes)) = some (some (.int .i64 0), 1, 8) := by kernel_rfl
theorem heap_lt {w : World} {b : Nat} {o : Obj} (h : w.heap[b]? = some o) : b < w.heap.size := (Array.getElem?_eq_some_iff.1 h).1
/-- A parent is appended. -/
theorem Hy.step {B : Nat} {w w1 : World} {bh bw : Nat} {hv : Value} {out : List Int} (h : Hy B w bh bw hv out) (hB : B ≤ w.heap.size) {p : Int} {g cap : Nat} {o : Obj}
    (hown : w1.ownsRow B 3 1 (.slice (some ⟨g, 0, none⟩) (out.length + 1) cap) (out.length + 1) (out.map (Value.int .i64) ++ [.int .i64 p])) (hgrow : (w.alloc o).grownBy w1 hv.ownBlock)
    (hat : hv.ownBlock = some g ∨ g = w.heap.size + 1) :
    Hy B (w1.setCell ⟨bh, 0, none⟩ (.slice (some ⟨g, 0, none⟩) (out.length + 1) cap)) bh bw (.slice (some ⟨g, 0, none⟩) (out.length + 1) cap) (out ++ [p]) ∧
      w1.cell? ⟨bh, 0, none⟩ = some hv ∧ w1.frozen? ⟨bh, 0, none⟩ = false ∧ Below B w (w1.setCell ⟨bh, 0, none⟩ (.slice (some ⟨g, 0, none⟩) (out.length + 1) cap)) := by
  have hsz := hgrow.size
  rw [size_alloc1] at hsz
  have lb := heap_lt h.box
  have lf := heap_lt h.fn
  have b1 : w1.heap[bh]? = some (.cells #[hv] 31 (0, 0)) := by
    rw [hgrow.block _ (by rw [size_alloc1]; omega) (fun q => h.hh q.symm), heap_alloc1 _ lb]; exact h.box
  have f1 : w1.heap[bw]? = some (.cells #[.func (.func 101) #[] #[.pointer (some ⟨bh, 0, none⟩), .pointer (some ⟨bw, 0, none⟩)]] 120 (0, 0)) := by
    rw [hgrow.block _ (by rw [size_alloc1]; omega) (fun q => h.hw q.symm), heap_alloc1 _ lf]; exact h.fn
  have gh : g ≠ bh := by
    rintro rfl
    rcases hat with q | q
    · exact h.hh q
    · omega
  have gw : g ≠ bw := by
    rintro rfl
    rcases hat with q | q
    · exact h.hw q
    · omega
  have set_other : ∀ b, b < w1.heap.size → b ≠ bh → (w1.setCell ⟨bh, 0, none⟩ (.slice (some ⟨g, 0, none⟩) (out.length + 1) cap)).heap[b]? = w1.heap[b]? := fun b hb hne =>
    World.heap_setCells_other w1 bh 0 [.slice (some ⟨g, 0, none⟩) (out.length + 1) cap] (i := b) hb hne
  refine ⟨⟨?_, ?_, ?_, ?_, ?_, h.ne, h.lh, h.lw⟩, by rw [cell_of_row w1 _ _ _ _ _ b1]; rfl, frozen_of_row w1 _ _ _ _ b1, ?_⟩
  · simpa using heap_setCell_same w1 bh 0 _ 31 (.slice (some ⟨g, 0, none⟩) (out.length + 1) cap) b1
  · rw [set_other bw (by omega) (fun q => h.ne q.symm)]; exact f1
  · rw [List.length_append, List.length_singleton, List.map_append, List.map_cons, List.map_nil]
    refine ownsRow_keep hown fun b hb => ?_
    have e : b = g := by simpa [Value.ownBlock] using hb.symm
    subst e
    exact set_other _ (World.ownsRow.lt hown _ hb).2 gh
  · intro q; simp only [Value.ownBlock, Option.some.injEq] at q; exact gh q
  · intro q; simp only [Value.ownBlock, Option.some.injEq] at q; exact gw q
  · exact (((Below.refl B w).alloc hB _).grown hgrow (by rw [size_alloc1]; omega) (fun k hk => (World.ownsRow.lt h.row k hk).1)).setCell (show B ≤ (⟨bh, 0, none⟩ : Addr).block from h.lh) _
theorem flT_full {out : List Int} {p : Int} {nn : Int} {cs : List HT} (h : 40 ≤ out.length) : flT out p (.node nn cs) = (out ++ [p], false) := by unfold flT; rw [if_pos h]
theorem flT_room {out : List Int} {p : Int} {nn : Int} {cs : List HT} (h : ¬ 40 ≤ out.length) : flT out p (.node nn cs) = flL (out ++ [p]) out.length cs := by rw [flT]; rw [if_neg h]
theorem flL_true {out o : List Int} {own : Nat} {t : HT} {l : List HT} (h : flT out own t = (o, true)) : flL out own (t :: l) = flL o own l := by rw [flL, h]
theorem flL_false {out o : List Int} {own : Nat} {t : HT} {l : List HT} (h : flT out own t = (o, false)) : flL out own (t :: l) = (o, false) := by rw [flL, h]
set_option maxHeartbeats 4000000 in
set_option maxRecDepth 1000000 in
theorem walk_calls : ∀ (k : Nat) (t : HT), SizeOf.sizeOf t < k → t.small = true → ∀ (B bh bw : Nat) (hv : Value) (out : List Int) (parent : Int) (F : Nat → Prop) (v : Value) (w : World), Hy B w bh bw hv out → out.length ≤ 40 → B ≤ w.heap.size → (∀ b, F b → b < B) → Rep w F v (.pt t.cells) →
    Calls prog 101 #[v, .int .i64 parent, .pointer (some ⟨bh, 0, none⟩), .pointer (some ⟨bw, 0, none⟩)] w fun e w' => ∃ hv', e = .returned (.bool (flT out parent t).2) ∧ Hy B w' bh bw hv' (flT out parent t).1 ∧ Below B w w'
  | 0, _, h, _, _, _, _, _, _, _, _, _, _, _, _, _, _, _ => absurd h (Nat.not_lt_zero _)
  | k + 1, .node nn cs, hsz, hsm, B, bh, bw, hv, out, parent, F, v, w, hy, hlen, hB, hF, hr => by
    have ih := walk_calls k
    simp only [HT.small, Bool.and_eq_true, decide_eq_true_eq] at hsm
    have hwide := hsm.1
    replace hsm := hsm.2
    obtain ⟨i0, hi, hz0, hz1, hz2⟩ := info_parts info3
    simp only [HT.cells] at hr
    obtain ⟨b, o, cv, rfl, hFb, hc1, _, hkids⟩ := rep_node hr
    have b1 : w.cell? ⟨bh, 0, none⟩ = some hv := by rw [cell_of_row w _ _ _ _ _ hy.box]; rfl
    have hrow2 : ∀ o, (w.alloc o).ownsRow B 3 1 hv out.length (out.map (Value.int .i64)) := fun o => hy.row.alloc o
    have b2 : ∀ o, (w.alloc o).cell? ⟨bh, 0, none⟩ = some hv := fun o => (World.cell?_of_block (heap_alloc1 o (heap_lt hy.box))).trans b1
    obtain ⟨ho, hc, rfl⟩ : ∃ ho hc, hv = .slice ho out.length hc := by
      rcases hy.row.2 with ⟨q1, q2⟩ | ⟨g, cap, cur, q1, _⟩
      · exact ⟨none, 0, by rw [q1, q2]⟩
      · exact ⟨_, _, q1⟩
    have A0 : Hid (Hy B w bh bw (.slice ho out.length hc) out) := hy
    by_cases hfull : 40 ≤ out.length
    · rw [flT_full hfull]
      clear hy hkids hr ih hsz
      go_enter func101, ntmps101
      go_wp2_with (first | (at_builtin; refine wpList_append_lies _ rfl (.tmp 14) (.tmp 16) 22 rfl B 3 i0 (.int .i64 0) 1 8 und22 hi hz0 hz1 hz2 rfl (by decide) (.slice ho out.length hc) out.length _ rfl (hrow2 _) ⟨w.heap.size, 0, none⟩ 1 1 [.int .i64 parent] rfl rfl (cell_one_new _ _ _) (ints_oneCell .i64 [parent]) (by decide) (by unfold maxLen; omega) (by omega) (by rw [size_alloc1]; omega) (w.heap.size + 1) (size_alloc1 _ _) ?_; intro g cap w1 hown1 hgrow hat hglt; obtain ⟨hy1, s1, s2, hbel⟩ := A0.out.step hB hown1 hgrow hat; clear hown1) | fail)
      go_ret
      exact ⟨_, rfl, hy1, hbel⟩
    · rw [flT_room hfull]
      rcases hkids with ⟨hnil, a, c, rfl⟩ | ⟨g0, go0, c0, rfl, hg0, hk⟩
      · have hcs : cs = [] := by
          have := cellsL_len cs
          rw [hnil] at this
          exact List.length_eq_zero_iff.1 this.symm
        subst hcs
        clear hy hr ih hsz hnil
        go_enter func101, ntmps101
        go_wp2_with (first | (at_builtin; refine wpList_append_lies _ rfl (.tmp 14) (.tmp 16) 22 rfl B 3 i0 (.int .i64 0) 1 8 und22 hi hz0 hz1 hz2 rfl (by decide) (.slice ho out.length hc) out.length _ rfl (hrow2 _) ⟨w.heap.size, 0, none⟩ 1 1 [.int .i64 parent] rfl rfl (cell_one_new _ _ _) (ints_oneCell .i64 [parent]) (by decide) (by unfold maxLen; omega) (by omega) (by rw [size_alloc1]; omega) (w.heap.size + 1) (size_alloc1 _ _) ?_; intro g cap w1 hown1 hgrow hat hglt; obtain ⟨hy1, s1, s2, hbel⟩ := A0.out.step hB hown1 hgrow hat; clear hown1; have c5 := (hbel.cell (show (⟨b, o + 1, none⟩ : Addr).block < B from hF _ hFb)).trans hc1; have A2 : Hid (Hy B (w1.setCell ⟨bh, 0, none⟩ (.slice (some ⟨g, 0, none⟩) (out.length + 1) cap)) bh bw (.slice (some ⟨g, 0, none⟩) (out.length + 1) cap) (out ++ [parent]) ∧ Below B w (w1.setCell ⟨bh, 0, none⟩ (.slice (some ⟨g, 0, none⟩) (out.length + 1) cap))) := ⟨hy1, hbel⟩; clear hy1 hbel) | fail)
        refine wp_loop_rounds 1 ?_
        rw [rounds_succ]
        go_wp2
        go_ret
        exact ⟨_, rfl, A2.out.1, A2.out.2⟩
      · rw [cellsL_len] at *
        have A1 : Hid ((∀ (t : HT), SizeOf.sizeOf t < k → t.small = true → ∀ (B bh bw : Nat) (hv : Value) (out : List Int) (parent : Int) (F : Nat → Prop) (v : Value) (w : World), Hy B w bh bw hv out → out.length ≤ 40 → B ≤ w.heap.size → (∀ b, F b → b < B) → Rep w F v (.pt t.cells) →
            Calls prog 101 #[v, .int .i64 parent, .pointer (some ⟨bh, 0, none⟩), .pointer (some ⟨bw, 0, none⟩)] w fun e w' => ∃ hv', e = .returned (.bool (flT out parent t).2) ∧ Hy B w' bh bw hv' (flT out parent t).1 ∧ Below B w w') ∧
          SizeOf.sizeOf (HT.node nn cs) < k + 1 ∧ (∀ (i : Nat) x, (HT.cellsL cs)[i]? = some x → ∃ u, w.cell? ⟨g0, go0 + i, none⟩ = some u ∧ Rep w F u (.pt x))) := ⟨ih, hsz, hk⟩
        clear hy hr ih hsz hk
        have hg0B := hF _ hg0
        go_enter func101, ntmps101
        go_wp2_with (first | (at_builtin; refine wpList_append_lies _ rfl (.tmp 14) (.tmp 16) 22 rfl B 3 i0 (.int .i64 0) 1 8 und22 hi hz0 hz1 hz2 rfl (by decide) (.slice ho out.length hc) out.length _ rfl (hrow2 _) ⟨w.heap.size, 0, none⟩ 1 1 [.int .i64 parent] rfl rfl (cell_one_new _ _ _) (ints_oneCell .i64 [parent]) (by decide) (by unfold maxLen; omega) (by omega) (by rw [size_alloc1]; omega) (w.heap.size + 1) (size_alloc1 _ _) ?_; intro g cap w1 hown1 hgrow hat hglt; obtain ⟨hy1, s1, s2, hbel⟩ := A0.out.step hB hown1 hgrow hat; clear hown1; have c5 := (hbel.cell (show (⟨b, o + 1, none⟩ : Addr).block < B from hF _ hFb)).trans hc1; have A2 : Hid (Hy B (w1.setCell ⟨bh, 0, none⟩ (.slice (some ⟨g, 0, none⟩) (out.length + 1) cap)) bh bw (.slice (some ⟨g, 0, none⟩) (out.length + 1) cap) (out ++ [parent]) ∧ Below B w (w1.setCell ⟨bh, 0, none⟩ (.slice (some ⟨g, 0, none⟩) (out.length + 1) cap))) := ⟨hy1, hbel⟩; clear hy1 hbel) | fail)
        go_loopw [26] (fun iv wr => ∃ (i : Nat) (hv' : Value) (out' : List Int), i ≤ cs.length ∧ iv = .int .i64 i ∧ flL (out ++ [parent]) out.length cs = flL out' out.length (cs.drop i) ∧ out'.length ≤ 40 ∧ Hy B wr bh bw hv' out' ∧ Below B w wr ∧ B ≤ wr.heap.size)
          (fun i _ => cs.length - (intOf i).toNat)
        case atStart => exact ⟨0, _, out ++ [parent], Nat.zero_le _, rfl, rfl, by simp; omega, A2.out.1, A2.out.2, Nat.le_trans hB A2.out.2.size⟩
        case round =>
          obtain ⟨i, hv', out', hi', rfl, hfl, hlen', hy', hbel', hB'⟩ := hrel
          by_cases hlt : i < cs.length
          · obtain ⟨t, ht⟩ : ∃ t, cs[i]? = some t := ⟨_, List.getElem?_eq_getElem hlt⟩
            obtain ⟨u, hu, hru⟩ := A1.out.2.2 i t.cells (by rw [cellsL_get, ht]; rfl)
            have hru' : Rep wr F u (.pt t.cells) := hru.mono fun b hb => ⟨hb, hbel'.block b (hF b hb)⟩
            have d1 : wr.cell? ⟨g0, go0 + i, none⟩ = some u := (hbel'.cell (show (⟨g0, go0 + i, none⟩ : Addr).block < B from hg0B)).trans hu
            have d2 : wr.cell? ⟨bw, 0, none⟩ = some (.func (.func 101) #[] #[.pointer (some ⟨bh, 0, none⟩), .pointer (some ⟨bw, 0, none⟩)]) := by rw [cell_of_row wr _ _ _ _ _ hy'.fn]; rfl
            have hst : SizeOf.sizeOf t < k := by
              have h1 := List.sizeOf_lt_of_mem (List.mem_of_getElem? ht)
              have h2 := A1.out.2.1
              simp at h2
              omega
            have hcall : Hid (Calls prog 101 #[u, .int .i64 (out.length : Nat), .pointer (some ⟨bh, 0, none⟩), .pointer (some ⟨bw, 0, none⟩)] wr fun e w' => ∃ hv2, e = .returned (.bool (flT out' out.length t).2) ∧ Hy B w' bh bw hv2 (flT out' out.length t).1 ∧ Below B wr w') := A1.out.1 t hst (smallL_get hsm ht) B bh bw hv' out' out.length F u wr hy' hlen' hB' hF hru'
            have hlen2 := (flT_len t out' out.length hlen').2
            have A3 : Hid (flL (out ++ [parent]) out.length cs = flL out' out.length (t :: cs.drop (i + 1)) ∧ Below B w wr ∧ B ≤ wr.heap.size) := ⟨by rw [hfl, flL_drop ht], hbel', hB'⟩
            clear hru hru' hu hfl hy' hbel' hB' hst
            obtain ⟨o2, r2, hres⟩ : ∃ o2 r2, flT out' out.length t = (o2, r2) := ⟨_, _, rfl⟩
            rw [hres] at hcall hlen2
            have A4 : Hid (flT out' out.length t = (o2, r2)) := hres
            clear hres
            cases r2 with
            | true =>
              have hlen3 := hlen2 rfl
              clear hlen2
              go_wp2_with (go_at_call 101; refine (hcall.out).mono ?_; rintro e w2 ⟨hv2, rfl, hy2, hbel2⟩)
              go_roundw
              case rel => exact ⟨i + 1, hv2, o2, by omega, by go_num, by rw [A3.out.1, flL_true A4.out], hlen3, hy2, A3.out.2.1.trans hbel2, Nat.le_trans A3.out.2.2 hbel2.size⟩
              case measure => simp [intOf]; omega
            | false =>
              clear hlen2
              go_wp2_with (go_at_call 101; refine (hcall.out).mono ?_; rintro e w2 ⟨hv2, rfl, hy2, hbel2⟩)
              go_ret
              rw [A3.out.1, flL_false A4.out]
              exact ⟨hv2, rfl, hy2, A3.out.2.1.trans hbel2⟩
          · have e1 : i = cs.length := by omega
            have A3 : Hid (flL (out ++ [parent]) out.length cs = (out', true) ∧ Hy B wr bh bw hv' out' ∧ Below B w wr) := ⟨by rw [hfl, e1, List.drop_length]; unfold flL; rfl, hy', hbel'⟩
            subst e1
            clear hfl hy' hbel'
            go_wp2
            go_ret
            rw [A3.out.1]
            exact ⟨hv', rfl, A3.out.2.1, A3.out.2.2⟩
end Go.Proofs.Try

namespace Go.Proofs.Try
open Go Go.AX Go.RowKit
theorem heap_new3 (w : World) (o1 o2 o3 : Obj) : (((w.alloc o1).alloc o2).alloc o3).heap[w.heap.size]? = some o1 ∧ (((w.alloc o1).alloc o2).alloc o3).heap[w.heap.size + 1]? = some o2 ∧ (((w.alloc o1).alloc o2).alloc o3).heap[w.heap.size + 1 + 1]? = some o3 ∧
    (((w.alloc o1).alloc o2).alloc o3).heap.size = w.heap.size + 3 ∧ ∀ b, b < w.heap.size → (((w.alloc o1).alloc o2).alloc o3).heap[b]? = w.heap[b]? := by
  show (((w.heap.push o1).push o2).push o3)[w.heap.size]? = some o1 ∧ (((w.heap.push o1).push o2).push o3)[w.heap.size + 1]? = some o2 ∧ (((w.heap.push o1).push o2).push o3)[w.heap.size + 1 + 1]? = some o3 ∧ (((w.heap.push o1).push o2).push o3).size = w.heap.size + 3 ∧ ∀ b, b < w.heap.size → (((w.heap.push o1).push o2).push o3)[b]? = w.heap[b]?
  refine ⟨?_, ?_, ?_, by simp, fun b hb => ?_⟩
  · rw [Array.getElem?_push, if_neg (by simp; omega), Array.getElem?_push, if_neg (by simp), Array.getElem?_push, if_pos rfl]
  · rw [Array.getElem?_push, if_neg (by simp), Array.getElem?_push, if_pos (by simp)]
  · rw [Array.getElem?_push, if_pos (by simp)]
  · rw [Array.getElem?_push, if_neg (by simp; omega), Array.getElem?_push, if_neg (by simp; omega), Array.getElem?_push, if_neg (by omega)]
theorem hy_start (w : World) (o1 : Obj) : Hy (w.heap.size + 1) (((w.alloc o1).alloc (.cells #[.slice none 0 0] 31)).alloc (.cells #[.func (.func 101) #[] #[.pointer (some ⟨w.heap.size + 1, 0, none⟩), .pointer (some ⟨w.heap.size + 1 + 1, 0, none⟩)]] 120)) (w.heap.size + 1) (w.heap.size + 1 + 1) (.slice none 0 0) [] := by
  obtain ⟨q1, q2, q3, q4, q5⟩ := heap_new3 w o1 (.cells #[.slice none 0 0] 31) (.cells #[.func (.func 101) #[] #[.pointer (some ⟨w.heap.size + 1, 0, none⟩), .pointer (some ⟨w.heap.size + 1 + 1, 0, none⟩)]] 120)
  exact ⟨q2, q3, World.ownsRow_nil _ _ _ _, by simp [Value.ownBlock], by simp [Value.ownBlock], by omega, Nat.le_refl _, by omega⟩
theorem hy_end {w w2 : World} {o2 o3 : Obj} {bw : Nat} {hv : Value} {out : List Int} (h : Hy (w.heap.size + 1) w2 (w.heap.size + 1) bw hv out) (hb : Below (w.heap.size + 1) (((w.alloc (.cells #[.slice none 0 0] 31)).alloc o2).alloc o3) w2) :
    ∃ ho hc, hv = .slice ho out.length hc ∧ w2.cell? ⟨w.heap.size + 1, 0, none⟩ = some (.slice ho out.length hc) ∧ w2.cell? ⟨w.heap.size, 0, none⟩ = some (.slice none 0 0) ∧ w2.frozen? ⟨w.heap.size, 0, none⟩ = false := by
  obtain ⟨ho, hc, rfl⟩ : ∃ ho hc, hv = .slice ho out.length hc := by
    rcases h.row.2 with ⟨q1, q2⟩ | ⟨g, cap, cur, q1, _⟩
    · exact ⟨none, 0, by rw [q1, q2]⟩
    · exact ⟨_, _, q1⟩
  have q1 := (heap_new3 w (.cells #[.slice none 0 0] 31) o2 o3).1
  have q2 : w2.heap[w.heap.size]? = some (.cells #[.slice none 0 0] 31 (0, 0)) := (hb.block w.heap.size (by omega)).trans q1
  exact ⟨ho, hc, rfl, by rw [cell_of_row w2 _ _ _ _ _ h.box]; rfl, by rw [cell_of_row w2 _ _ _ _ _ q2]; rfl, frozen_of_row w2 _ _ _ _ q2⟩
theorem hy_below {w w2 : World} {o1 o2 o3 : Obj} {u : Value} (hb : Below (w.heap.size + 1) (((w.alloc o1).alloc o2).alloc o3) w2) : Below w.heap.size w (w2.setCell ⟨w.heap.size, 0, none⟩ u) := by
  have h1 : Below w.heap.size w (((w.alloc o1).alloc o2).alloc o3) := (((Below.refl _ w).alloc (Nat.le_refl _) _).alloc (by rw [size_alloc1]; omega) _).alloc (by rw [size_alloc2]; omega) _
  have h2 : Below w.heap.size (((w.alloc o1).alloc o2).alloc o3) w2 := ⟨hb.os, hb.tape, hb.output, hb.size, fun k hk => hb.block k (by omega)⟩
  exact (h1.trans h2).setCell (show w.heap.size ≤ (⟨w.heap.size, 0, none⟩ : Addr).block from Nat.le_refl _) _
theorem hy_row {w w2 : World} {bh bw : Nat} {hv u : Value} {out : List Int} (h : Hy (w.heap.size + 1) w2 bh bw hv out) : (w2.setCell ⟨w.heap.size, 0, none⟩ u).ownsRow w.heap.size 3 1 hv out.length (out.map (Value.int .i64)) := by
  refine ⟨h.row.1, ?_⟩
  rcases h.row.2 with q | ⟨g, cap, cur, q1, q2, q3, q4⟩
  · exact .inl q
  · exact .inr ⟨g, cap, cur, q1, by omega, (World.heap_setCells_other w2 w.heap.size 0 [u] (i := g) (heap_lt q3) (by omega)).trans q3, q4⟩
set_option maxHeartbeats 4000000 in
set_option maxRecDepth 1000000 in
theorem hydraOf_calls (t : HT) (hsm : t.small = true) (F : Nat → Prop) (v : Value) (w : World) (hF : ∀ b, F b → b < w.heap.size) (hr : Rep w F v (.pt t.cells)) :
    Calls prog 80 #[v] w fun e w' => ∃ hv, e = .returned (.tuple #[.agg #[hv], .bool (flT [] (-1) t).2]) ∧ ((flT [] (-1) t).2 = true → w'.ownsRow w.heap.size 3 1 hv (flT [] (-1) t).1.length ((flT [] (-1) t).1.map (Value.int .i64))) ∧
      ((flT [] (-1) t).2 = false → hv = .slice none 0 0) ∧ Below w.heap.size w w' := by
  have hcall : Hid (∀ w', Hy (w.heap.size + 1) w' (w.heap.size + 1) (w.heap.size + 1 + 1) (.slice none 0 0) [] → w.heap.size + 1 ≤ w'.heap.size → Rep w' F v (.pt t.cells) →
      Calls prog 101 #[v, .int .i64 (-1), .pointer (some ⟨w.heap.size + 1, 0, none⟩), .pointer (some ⟨w.heap.size + 1 + 1, 0, none⟩)] w' fun e w2 => ∃ hv', e = .returned (.bool (flT [] (-1) t).2) ∧ Hy (w.heap.size + 1) w2 (w.heap.size + 1) (w.heap.size + 1 + 1) hv' (flT [] (-1) t).1 ∧ Below (w.heap.size + 1) w' w2) :=
    fun w' h1 h2 h3 => walk_calls _ t (Nat.lt_succ_self _) hsm _ _ _ _ _ _ F v w' h1 (by simp) h2 (fun b hb => Nat.lt_succ_of_lt (hF b hb)) h3
  have A0 : Hid (Rep w F v (.pt t.cells)) := hr
  clear hr
  obtain ⟨o2, r2, hres⟩ : ∃ o2 r2, flT [] (-1) t = (o2, r2) := ⟨_, _, rfl⟩
  rw [hres] at hcall ⊢
  clear hres
  obtain ⟨ad, hv⟩ : ∃ ad, v = .pointer (some ad) := by
    cases A0.out with
    | pt ad _ _ _ _ => exact ⟨ad, rfl⟩
  subst hv
  have hrep : ∀ o1 o2 o3, Rep (((w.alloc o1).alloc o2).alloc o3) F (.pointer (some ad)) (.pt t.cells) := fun o1 o2 o3 => (A0.out).mono fun b hb => ⟨hb, (heap_new3 w o1 o2 o3).2.2.2.2 b (hF b hb)⟩
  have hr1 : Hid (∀ o1 o2 o3, Rep (((w.alloc o1).alloc o2).alloc o3) F (.pointer (some ad)) (.pt t.cells)) := hrep
  clear hrep
  go_enter func80, ntmps80
  cases r2 with
  | true =>
    go_wp2_with (go_at_call 101; refine (hcall.out _ (hy_start w _) (by rw [(heap_new3 w _ _ _).2.2.2.1]; omega) (hr1.out _ _ _)).mono ?_; rintro e w2 ⟨hv2, rfl, hy2, hbel2⟩; obtain ⟨ho, hc, rfl, d1, d2, d3⟩ := hy_end hy2 hbel2)
    (try simp only [Exit.inBlock, Exit.then])
    refine bodyPost_ret (v := .tuple #[.agg #[.slice ho o2.length hc], .bool true]) ?_ rfl ⟨_, rfl, hy_row hy2, hy_below hbel2⟩
    rw [results_cell_tmp rfl]
    go_simp
  | false =>
    go_wp2_with (go_at_call 101; refine (hcall.out _ (hy_start w _) (by rw [(heap_new3 w _ _ _).2.2.2.1]; omega) (hr1.out _ _ _)).mono ?_; rintro e w2 ⟨hv2, rfl, hy2, hbel2⟩; obtain ⟨ho, hc, rfl, d1, d2, d3⟩ := hy_end hy2 hbel2)
    (try simp only [Exit.inBlock, Exit.then])
    refine bodyPost_ret (v := .tuple #[.agg #[.slice none 0 0], .bool false]) ?_ rfl ⟨_, rfl, rfl, hy_below hbel2⟩
    rw [results_cell_tmp rfl]
    go_simp
end Go.Proofs.Try

namespace Go.Proofs.Try
open Go Go.AX Go.RowKit
/-- Nodes with their children as a tree. -/
def unfT (ch : Nat → List Nat) : Nat → Nat → HT
  | 0, i => .node i []
  | f + 1, i => .node i ((ch i).map (unfT ch f))
theorem cellsL_map {α : Type} (l : List α) (f : α → HT) : HT.cellsL (l.map f) = l.map fun x => (f x).cells := by
  induction l with
  | nil => rfl
  | cons a l ih => simp only [List.map_cons, HT.cellsL, ih]
theorem unfT_cells (ch : Nat → List Nat) : ∀ f i, (unfT ch f i).cells = unf ch f i
  | 0, i => rfl
  | f + 1, i => by
    simp only [unfT, HT.cells, unf, cellsL_map]
    congr 1
    exact List.map_congr_left fun j _ => unfT_cells ch f j
theorem smallL_map {α : Type} (l : List α) (f : α → HT) (h : ∀ a ∈ l, (f a).small = true) : HT.smallL (l.map f) = true := by
  induction l with
  | nil => rfl
  | cons a l ih =>
    simp only [List.map_cons, HT.smallL, Bool.and_eq_true]
    exact ⟨h a List.mem_cons_self, ih fun b hb => h b (List.mem_cons_of_mem _ hb)⟩
theorem unfT_small {ch : Nat → List Nat} (h : ∀ i, (ch i).length ≤ 1000000) : ∀ f i, (unfT ch f i).small = true
  | 0, i => rfl
  | f + 1, i => by
    simp only [unfT, HT.small, Bool.and_eq_true, decide_eq_true_eq, List.length_map]
    exact ⟨h i, smallL_map _ _ fun j _ => unfT_small h f j⟩
/-- The children after a chop. -/
def chopCh (ps : List Int) (head grow : Nat) : Nat → List Nat :=
  let ch1 := fset (kidsTo ps ps.length) (ps.getD head 0).toNat ((kidsTo ps ps.length (ps.getD head 0).toNat).filter fun i => decide (i ≠ head))
  if (ps.getD head 0).toNat = 0 then ch1 else fset ch1 (ps.getD (ps.getD head 0).toNat 0).toNat (ch1 (ps.getD (ps.getD head 0).toNat 0).toNat ++ List.replicate grow (ps.getD head 0).toNat)
theorem unf_congr {ch ch' : Nat → List Nat} {n : Nat} (h : ∀ j, j < n → ch j = ch' j) (hc : ∀ j, j < n → ∀ i ∈ ch j, i < n) : ∀ f i, i < n → unf ch f i = unf ch' f i
  | 0, i, _ => rfl
  | f + 1, i, hi => by
    simp only [unf]
    rw [← h i hi]
    congr 1
    exact List.map_congr_left fun j hj => unf_congr h hc f j (hc i hi j hj)
/-- The blocks of the call's own, ahead of the nodes. -/
theorem env_cells {w w' : World} {v1 v2 v3 : Value} {t1 t2 t3 : TypeId} (h : Below (w.heap.size + 3) (((w.alloc (.cells #[v1] t1)).alloc (.cells #[v2] t2)).alloc (.cells #[v3] t3)) w') :
    w'.cell? ⟨w.heap.size, 0, none⟩ = some v1 ∧ w'.cell? ⟨w.heap.size + 1, 0, none⟩ = some v2 ∧ w'.cell? ⟨w.heap.size + 1 + 1, 0, none⟩ = some v3 ∧ w'.frozen? ⟨w.heap.size + 1 + 1, 0, none⟩ = false ∧ ∀ a : Addr, a.block < w.heap.size → w'.cell? a = w.cell? a := by
  obtain ⟨q1, q2, q3, q4, q5⟩ := heap_new3 w (.cells #[v1] t1) (.cells #[v2] t2) (.cells #[v3] t3)
  have r1 := (h.block w.heap.size (by omega)).trans q1
  have r2 := (h.block (w.heap.size + 1) (by omega)).trans q2
  have r3 := (h.block (w.heap.size + 1 + 1) (by omega)).trans q3
  exact ⟨by rw [cell_of_row w' _ _ _ _ _ r1]; rfl, by rw [cell_of_row w' _ _ _ _ _ r2]; rfl, by rw [cell_of_row w' _ _ _ _ _ r3]; rfl, frozen_of_row w' _ _ _ _ r3, fun a ha => World.cell?_of_block ((h.block a.block (by omega)).trans (q5 a.block ha))⟩
theorem nodup_kids (ps : List Int) (i j : Nat) : (kidsTo ps i j).Nodup := List.Pairwise.filter _ List.nodup_range
theorem erase_filter {head : Nat} : ∀ (l : List Nat) (k : Nat), l.Nodup → l[k]? = some head → l.eraseIdx k = l.filter fun i => decide (i ≠ head)
  | [], k, _, h => by simp at h
  | a :: l, 0, hn, h => by
    simp only [List.getElem?_cons_zero, Option.some.injEq] at h
    subst h
    have := (List.nodup_cons.1 hn).1
    rw [List.eraseIdx_cons_zero, List.filter_cons_of_neg (by simp), List.filter_eq_self.2]
    intro b hb
    exact decide_eq_true fun e => this (e ▸ hb)
  | a :: l, k + 1, hn, h => by
    have h' : l[k]? = some head := by simpa using h
    have hne : a ≠ head := fun e => (List.nodup_cons.1 hn).1 (e ▸ List.mem_of_getElem? h')
    rw [List.eraseIdx_cons_succ, List.filter_cons_of_pos (p := fun i => decide (i ≠ head)) (decide_eq_true hne), erase_filter l k (List.nodup_cons.1 hn).2 h']
/-- The place of a child. -/
theorem kid_place {l : List Nat} (hn : l.Nodup) {head : Nat} (hm : head ∈ l) : ∃ k, k < l.length ∧ l.getD k 0 = head ∧ (∀ j, j < l.length → j ≠ k → l.getD j 0 ≠ head) ∧ l.eraseIdx k = l.filter fun i => decide (i ≠ head) := by
  obtain ⟨k, hk⟩ := List.mem_iff_getElem?.1 hm
  have hkl := (List.getElem?_eq_some_iff.1 hk).1
  have hke := (List.getElem?_eq_some_iff.1 hk).2
  refine ⟨k, hkl, by rw [List.getD_eq_getElem?_getD, hk]; rfl, fun j hj hne q => hne ?_, ?_⟩
  · rw [List.getD_eq_getElem?_getD, List.getElem?_eq_getElem hj] at q
    have q : l[j] = head := q
    exact (List.getElem_inj hn).1 (q.trans hke.symm)
  · exact erase_filter l k hn hk
/-- The nodes of a hydra, ahead of a chop. -/
structure ChP (w0 : World) (v3 : Nat) (ps : List Int) (head pn : Nat) (G : Gr) (w2 : World) : Prop where
  k : G.k = ps.length
  ch : ∀ j, j < ps.length → G.ch j = kidsTo ps ps.length j
  In : G.In v3 w2
theorem chop_prep {B : Nat} {ps : List Int} {head pn : Nat} {G : Gr} {w2 : World} (hhead : head < ps.length) (hpn : ps.getD head 0 = (pn : Int)) (hp : ∀ j, j < ps.length → ps.getD j 0 < j) (hk : G.k = ps.length) (hch : ∀ j, j < ps.length → G.ch j = kidsTo ps ps.length j) (hG : G.In B w2) :
    pn < head ∧ ∃ g cap gp capp k, G.nv = .slice (some ⟨g, 0, none⟩) ps.length cap ∧ G.cv pn = .slice (some ⟨gp, 0, none⟩) (kidsTo ps ps.length pn).length capp ∧ B ≤ gp ∧ gp < w2.heap.size ∧ gp ≠ G.N pn ∧ gp ≠ g ∧ B ≤ G.N pn ∧
      k < (kidsTo ps ps.length pn).length ∧ (kidsTo ps ps.length pn).getD k 0 = head ∧ (∀ j, j < (kidsTo ps ps.length pn).length → j ≠ k → (kidsTo ps ps.length pn).getD j 0 ≠ head) ∧ (kidsTo ps ps.length pn).eraseIdx k = (kidsTo ps ps.length pn).filter (fun i => decide (i ≠ head)) ∧
      w2.ownsRow B 73 1 (.slice (some ⟨gp, 0, none⟩) (kidsTo ps ps.length pn).length capp) (kidsTo ps ps.length pn).length ((kidsTo ps ps.length pn).map fun i => ptrV (G.N i)) ∧
      (∀ j, j < (kidsTo ps ps.length pn).length → ∃ cs, w2.heap[G.N ((kidsTo ps ps.length pn).getD j 0)]? = some (.cells cs 105 (0, 0)) ∧ cs[0]? = some (.int .i64 ((kidsTo ps ps.length pn).getD j 0 : Nat)) ∧ G.N ((kidsTo ps ps.length pn).getD j 0) ≠ gp) := by
  have hlt : pn < head := by have := hp head hhead; rw [hpn] at this; omega
  have hpk : pn < G.k := by omega
  have hm : head ∈ kidsTo ps ps.length pn := by
    unfold kidsTo
    rw [List.mem_filter, List.mem_range]
    exact ⟨hhead, decide_eq_true hpn⟩
  obtain ⟨k, h1, h2, h3, h4⟩ := kid_place (nodup_kids ps ps.length pn) hm
  have hnd : w2.ownsRow B 73 1 G.nv G.k ((List.range G.k).map fun j => ptrV (G.N j)) := hG.good .nd trivial
  have hki : w2.ownsRow B 73 1 (G.cv pn) (G.ch pn).length ((G.ch pn).map fun i => ptrV (G.N i)) := hG.good (.ki pn) hpk
  rw [hch pn (by omega)] at hki
  obtain ⟨g, cap, hg1, hg2, hg3⟩ := hnd.form (by omega)
  obtain ⟨gp, capp, hp1, hp2, hp3⟩ := hki.form (by omega)
  have bnd : G.blk .nd = some g := by simp only [Gr.blk, hg1]; rfl
  have bki : G.blk (.ki pn) = some gp := by simp only [Gr.blk, hp1]; rfl
  have ne : ∀ t, G.ok t → t ≠ .ki pn → G.blk t ≠ some gp := fun t ht h q => h (hG.sep t (.ki pn) gp ht hpk q bki)
  refine ⟨hlt, g, cap, gp, capp, k, by rw [hg1, hk], hp1, hp2, hp3, fun q => ne (.no pn) hpk (by simp) (by rw [q]; rfl), fun q => ne .nd trivial (by simp) (by rw [bnd, q]), (hG.good (.no pn) hpk).1, h1, h2, h3, h4, by rw [hp1] at hki; exact hki, fun j hj => ?_⟩
  have hjm : (kidsTo ps ps.length pn).getD j 0 ∈ kidsTo ps ps.length pn := by
    rw [List.getD_eq_getElem?_getD, List.getElem?_eq_getElem hj]
    exact List.getElem_mem hj
  have hjk : (kidsTo ps ps.length pn).getD j 0 < G.k := by have := (kidsTo_mem hjm).1; omega
  exact ⟨_, (hG.good (.no _) hjk).2, rfl, fun q => ne (.no _) hjk (by simp) (by rw [← q]; rfl)⟩
/-- A child is taken out of the children of a node. -/
theorem chop_cut {B gp capp pn : Nat} {l l' : List Nat} {G : Gr} {w2 w4 : World} (hG : G.In B w2) (hpk : pn < G.k) (hcv : G.cv pn = .slice (some ⟨gp, 0, none⟩) l.length capp) (hB : B ≤ gp) (hne : gp ≠ G.N pn) (hNB : B ≤ G.N pn) (hl' : ∀ i ∈ l', i < G.k) (hlen : l'.length = l.length - 1)
    (hrow : w4.ownsRow B 73 1 (.slice (some ⟨gp, 0, none⟩) (l.length - 1) capp) (l.length - 1) (l'.map fun i => ptrV (G.N i))) (hgr : w2.grownBy w4 (some gp)) (hBs : B ≤ w2.heap.size) :
    w4.cell? ⟨G.N pn, 1, none⟩ = some (G.cv pn) ∧ w4.frozen? ⟨G.N pn, 1, none⟩ = false ∧
      (G.kid pn l' (.slice (some ⟨gp, 0, none⟩) (l.length - 1) capp)).In B (w4.setCell ⟨G.N pn, 1, none⟩ (.slice (some ⟨gp, 0, none⟩) (l.length - 1) capp)) ∧ Below B w2 (w4.setCell ⟨G.N pn, 1, none⟩ (.slice (some ⟨gp, 0, none⟩) (l.length - 1) capp)) := by
  have hn := hG.good (.no pn) hpk
  have hnlt := (hn.lt (b := G.N pn) rfl).2
  have hn4 : w4.heap[G.N pn]? = some (.cells #[.int .i64 pn, G.cv pn] 105 (0, 0)) := (hgr.block _ hnlt (fun q => hne (by injection q with q; exact q.symm))).trans hn.2
  have set_other : ∀ b, b < w4.heap.size → b ≠ G.N pn → (w4.setCell ⟨G.N pn, 1, none⟩ (.slice (some ⟨gp, 0, none⟩) (l.length - 1) capp)).heap[b]? = w4.heap[b]? := fun b hb hne =>
    World.heap_setCells_other w4 (G.N pn) 1 [.slice (some ⟨gp, 0, none⟩) (l.length - 1) capp] (i := b) hb hne
  refine ⟨by rw [cell_of_row w4 _ _ _ _ _ hn4]; rfl, frozen_of_row w4 _ _ _ _ hn4, hG.setKid hpk hl' ?_ ?_ (fun b hb h1 h2 => ?_) (fun b hb => ?_), ?_⟩
  · rw [hlen]
    refine ownsRow_keep hrow fun b hb => ?_
    have e : b = gp := by simpa [Value.ownBlock] using hb.symm
    subst e
    exact set_other _ (World.ownsRow.lt hrow _ hb).2 hne
  · simpa using heap_setCell_same w4 (G.N pn) 1 _ 105 (.slice (some ⟨gp, 0, none⟩) (l.length - 1) capp) hn4
  · rw [set_other b (Nat.lt_of_lt_of_le hb hgr.size) h2]
    refine hgr.block b hb fun q => h1 ?_
    rw [hcv]; exact q.symm
  · left
    rw [hcv]; exact hb
  · exact ((Below.refl B w2).grown hgr hBs (fun k hk => by injection hk with hk; omega)).setCell (show B ≤ (⟨G.N pn, 1, none⟩ : Addr).block from hNB) _
theorem chop_first {bk o : Nat} {ps : List Int} {w w2 : World} {head pn : Nat} {G : Gr} (hb : bk < w.heap.size) (hhead : head < ps.length) (hpn : ps.getD head 0 = (pn : Int)) (hc : ∀ j, j < ps.length → w.cell? ⟨bk, o + j, none⟩ = some (.int .i64 (ps.getD j 0)))
    (hp : ∀ j, j < ps.length → ps.getD j 0 < j) (hk : G.k = ps.length) (hch : ∀ j, j < ps.length → G.ch j = kidsTo ps ps.length j) {v1 v2 v3 : Value}
    (hG : G.In (((w.alloc (.cells #[v1] 31)).alloc (.cells #[v2] 3)).alloc (.cells #[v3] 31)).heap.size w2) (hbel : Below (((w.alloc (.cells #[v1] 31)).alloc (.cells #[v2] 3)).alloc (.cells #[v3] 31)).heap.size (((w.alloc (.cells #[v1] 31)).alloc (.cells #[v2] 3)).alloc (.cells #[v3] 31)) w2) :
    ∃ g cap, G.nv = .slice (some ⟨g, 0, none⟩) ps.length cap ∧ pn < head ∧ G.k = ps.length ∧ (∀ j, j < ps.length → G.ch j = kidsTo ps ps.length j) ∧ G.In (w.heap.size + 3) w2 ∧ Below (w.heap.size + 3) (((w.alloc (.cells #[v1] 31)).alloc (.cells #[v2] 3)).alloc (.cells #[v3] 31)) w2 ∧
      w2.cell? ⟨w.heap.size, 0, none⟩ = some v1 ∧ w2.cell? ⟨w.heap.size + 1, 0, none⟩ = some v2 ∧ w2.cell? ⟨bk, o + head, none⟩ = some (.int .i64 pn) ∧ w2.cell? ⟨g, pn, none⟩ = some (.pointer (some ⟨G.N pn, 0, none⟩)) ∧
      ∃ gp capp k, G.cv pn = .slice (some ⟨gp, 0, none⟩) (kidsTo ps ps.length pn).length capp ∧ w.heap.size + 3 ≤ gp ∧ gp < w2.heap.size ∧ gp ≠ G.N pn ∧ gp ≠ g ∧ w.heap.size + 3 ≤ G.N pn ∧
        w2.cell? ⟨G.N pn, 1, none⟩ = some (.slice (some ⟨gp, 0, none⟩) (kidsTo ps ps.length pn).length capp) ∧
        k < (kidsTo ps ps.length pn).length ∧ (kidsTo ps ps.length pn).getD k 0 = head ∧ (∀ j, j < (kidsTo ps ps.length pn).length → j ≠ k → (kidsTo ps ps.length pn).getD j 0 ≠ head) ∧ (kidsTo ps ps.length pn).eraseIdx k = (kidsTo ps ps.length pn).filter (fun i => decide (i ≠ head)) ∧
        w2.ownsRow (w.heap.size + 3) 73 1 (.slice (some ⟨gp, 0, none⟩) (kidsTo ps ps.length pn).length capp) (kidsTo ps ps.length pn).length ((kidsTo ps ps.length pn).map fun i => ptrV (G.N i)) ∧
        (∀ j, j < (kidsTo ps ps.length pn).length → ∃ cs, w2.heap[G.N ((kidsTo ps ps.length pn).getD j 0)]? = some (.cells cs 105 (0, 0)) ∧ cs[0]? = some (.int .i64 ((kidsTo ps ps.length pn).getD j 0 : Nat)) ∧ G.N ((kidsTo ps ps.length pn).getD j 0) ≠ gp) := by
  rw [(heap_new3 w _ _ _).2.2.2.1] at hG hbel
  obtain ⟨e1, e2, e3, e4, e5⟩ := env_cells hbel
  obtain ⟨hlt, g, cap, gp, capp, k, f1, f2, f3, f4, f5, f6, f7, f8, f9, f10, f11, f12, f13⟩ := chop_prep hhead hpn hp hk hch hG
  have hpk : pn < G.k := by omega
  have c1 := (e5 ⟨bk, o + head, none⟩ hb).trans (hc head hhead)
  rw [hpn] at c1
  obtain ⟨c2, c3, c4, c5⟩ := hG.reads (by rw [hk]; exact f1) hpk
  exact ⟨g, cap, f1, hlt, hk, hch, hG, hbel, e1, e2, c1, c2, gp, capp, k, f2, f3, f4, f5, f6, f7, by rw [c4, f2], f8, f9, f10, f11, f12, f13⟩
theorem chop_second {bk o c : Nat} {ps : List Int} {w w2 w4 : World} {head pn : Nat} {G : Gr} {g cap gp capp k : Nat} {lk : List Nat} (hb : bk < w.heap.size) (hhead : head < ps.length) (hc : ∀ j, j < ps.length → w.cell? ⟨bk, o + j, none⟩ = some (.int .i64 (ps.getD j 0)))
    (hp : ∀ j, j < ps.length → ps.getD j 0 < j) (hlt : pn < head)
    (hA : G.nv = .slice (some ⟨g, 0, none⟩) ps.length cap ∧ G.k = ps.length ∧ (∀ j, j < ps.length → G.ch j = kidsTo ps ps.length j) ∧ G.In (w.heap.size + 3) w2 ∧ Below (w.heap.size + 3) (((w.alloc (.cells #[.slice (some ⟨bk, o, none⟩) ps.length c] 31)).alloc (.cells #[.int .i64 head] 3)).alloc (.cells #[.slice none 0 0] 31)) w2 ∧
      G.cv pn = .slice (some ⟨gp, 0, none⟩) lk.length capp ∧ w.heap.size + 3 ≤ gp ∧ gp ≠ G.N pn ∧ w.heap.size + 3 ≤ G.N pn ∧ lk.eraseIdx k = lk.filter (fun i => decide (i ≠ head))) (hlk : lk = kidsTo ps ps.length pn)
    (hrow4 : w4.ownsRow (w.heap.size + 3) 73 1 (.slice (some ⟨gp, 0, none⟩) (lk.length - 1) capp) (lk.length - 1) ((lk.eraseIdx k).map fun i => ptrV (G.N i))) (hgr4 : w2.grownBy w4 (some gp)) :
    let v' : Value := .slice (some ⟨gp, 0, none⟩) (lk.length - 1) capp
    let w5 := w4.setCell ⟨G.N pn, 1, none⟩ v'
    w4.cell? ⟨G.N pn, 1, none⟩ = some (G.cv pn) ∧ w4.frozen? ⟨G.N pn, 1, none⟩ = false ∧ w5.cell? ⟨G.N pn, 0, none⟩ = some (.int .i64 pn) ∧ w5.cell? ⟨w.heap.size, 0, none⟩ = some (.slice (some ⟨bk, o, none⟩) ps.length c) ∧ w5.cell? ⟨bk, o + pn, none⟩ = some (.int .i64 (ps.getD pn 0)) ∧
      w5.cell? ⟨g, 0, none⟩ = some (.pointer (some ⟨G.N 0, 0, none⟩)) ∧ w5.cell? ⟨w.heap.size + 1 + 1, 0, none⟩ = some (.slice none 0 0) ∧ w5.frozen? ⟨w.heap.size + 1 + 1, 0, none⟩ = false ∧
      (G.kid pn (lk.filter (fun i => decide (i ≠ head))) v').In (w.heap.size + 3) w5 ∧ Below (w.heap.size + 3) (((w.alloc (.cells #[.slice (some ⟨bk, o, none⟩) ps.length c] 31)).alloc (.cells #[.int .i64 head] 3)).alloc (.cells #[.slice none 0 0] 31)) w5 := by
  obtain ⟨h1, h2, h3, h4, h5, h6, h7, h8, h9, h10⟩ := hA
  rw [h10] at hrow4
  have hfl : ∀ i ∈ lk.filter (fun i => decide (i ≠ head)), i < G.k := fun i hi => by
    have := kidsTo_mem (hlk ▸ (List.mem_filter.1 hi).1)
    omega
  have hlen : (lk.filter (fun i => decide (i ≠ head))).length = lk.length - 1 := by
    have := hrow4.1
    rw [List.length_map] at this
    omega
  have hs2 : w.heap.size + 3 ≤ w2.heap.size := by have := h5.size; rw [(heap_new3 w _ _ _).2.2.2.1] at this; exact this
  obtain ⟨q1, q2, q3, q4⟩ := chop_cut h4 (by omega) h6 h7 h8 h9 hfl hlen hrow4 hgr4 hs2
  have hb5 := h5.trans q4
  obtain ⟨e1, e2, e3, e4, e5⟩ := env_cells hb5
  have hk : (G.kid pn (lk.filter (fun i => decide (i ≠ head))) (.slice (some ⟨gp, 0, none⟩) (lk.length - 1) capp)).k = ps.length := h2
  obtain ⟨r1, r2, r3, r4⟩ := q3.reads (g := g) (cap := cap) (by rw [hk]; exact h1) (q := pn) (by rw [hk]; omega)
  obtain ⟨t1, _, _, _⟩ := q3.reads (g := g) (cap := cap) (by rw [hk]; exact h1) (q := 0) (by rw [hk]; omega)
  exact ⟨q1, q2, r2, e1, (e5 ⟨bk, o + pn, none⟩ hb).trans (hc pn (by omega)), t1, e3, e4, q3, hb5⟩
theorem chop_rep {B n : Nat} {w : World} {G : Gr} {ch : Nat → List Nat} (hG : G.In B w) (hk : G.k = n) (hn : 0 < n) (hch : ∀ j, j < n → G.ch j = ch j) (hup : ∀ j, j < n → ∀ i ∈ ch j, j < i) :
    Rep w (fun b => B ≤ b ∧ b < w.heap.size) (.pointer (some ⟨G.N 0, 0, none⟩)) (.pt (unfT ch n 0).cells) := by
  have := hG.rep (F := fun b => B ≤ b ∧ b < w.heap.size) (fun b h1 h2 => ⟨h1, h2⟩) (fun j hj i hi => by rw [hk] at hj; rw [hch j hj] at hi; exact hup j hj i hi) n 0 (by omega) (by omega)
  rw [unf_congr (n := n) hch (fun j hj i hi => by rw [← hk]; exact hG.ch j i (by omega) hi) n 0 hn] at this
  rw [unfT_cells]
  exact this
/-- What is left of a chop behind its nodes. -/
theorem chop_end {w w5 w6 : World} {v1 v2 v3 : Value} (h5 : Below (w.heap.size + 3) (((w.alloc (.cells #[v1] 31)).alloc (.cells #[v2] 3)).alloc (.cells #[v3] 31)) w5) (h6 : Below w5.heap.size w5 w6) :
    w6.cell? ⟨w.heap.size + 1 + 1, 0, none⟩ = some v3 ∧ w6.frozen? ⟨w.heap.size + 1 + 1, 0, none⟩ = false ∧ ∀ u, Below w.heap.size w (w6.setCell ⟨w.heap.size + 1 + 1, 0, none⟩ u) ∧
      ∀ {hv : Value} {n : Nat} {xs : List Value}, w6.ownsRow w5.heap.size 3 1 hv n xs → (w6.setCell ⟨w.heap.size + 1 + 1, 0, none⟩ u).ownsRow w.heap.size 3 1 hv n xs := by
  have hs : w.heap.size + 3 ≤ w5.heap.size := by have := h5.size; rw [(heap_new3 w _ _ _).2.2.2.1] at this; exact this
  have h : Below (w.heap.size + 3) (((w.alloc (.cells #[v1] 31)).alloc (.cells #[v2] 3)).alloc (.cells #[v3] 31)) w6 := h5.trans ⟨h6.os, h6.tape, h6.output, h6.size, fun k hk => h6.block k (by omega)⟩
  obtain ⟨e1, e2, e3, e4, e5⟩ := env_cells h
  have h1 : Below w.heap.size w (((w.alloc (.cells #[v1] 31)).alloc (.cells #[v2] 3)).alloc (.cells #[v3] 31)) := (((Below.refl _ w).alloc (Nat.le_refl _) _).alloc (by rw [size_alloc1]; omega) _).alloc (by rw [size_alloc2]; omega) _
  refine ⟨e3, e4, fun u => ⟨(h1.trans ⟨h.os, h.tape, h.output, h.size, fun k hk => h.block k (by omega)⟩).setCell (show w.heap.size ≤ (⟨w.heap.size + 1 + 1, 0, none⟩ : Addr).block by show _ ≤ w.heap.size + 1 + 1; omega) _, fun {hv n xs} hr => ?_⟩⟩
  refine ⟨hr.1, ?_⟩
  rcases hr.2 with q | ⟨g, cap, cur, q1, q2, q3, q4⟩
  · exact .inl q
  · exact .inr ⟨g, cap, cur, q1, by omega, (World.heap_setCells_other w6 (w.heap.size + 1 + 1) 0 [u] (i := g) (heap_lt q3) (by omega)).trans q3, q4⟩
theorem kids_up {ps : List Int} (hp : ∀ j, j < ps.length → ps.getD j 0 < j) {j i : Nat} (hi : i ∈ kidsTo ps ps.length j) : j < i := by
  obtain ⟨h1, h2⟩ := kidsTo_mem hi
  have := hp i h1
  omega
theorem chopCh_zero {ps : List Int} {head grow pn : Nat} (hpn : ps.getD head 0 = (pn : Int)) (hz : ¬ 0 < pn) : chopCh ps head grow = fset (kidsTo ps ps.length) pn ((kidsTo ps ps.length pn).filter fun i => decide (i ≠ head)) := by
  unfold chopCh
  rw [hpn, Int.toNat_natCast]
  exact if_pos (by omega)
theorem chopCh_more {ps : List Int} {head grow pn an : Nat} (hpn : ps.getD head 0 = (pn : Int)) (hz : 0 < pn) (han : ps.getD pn 0 = (an : Int)) :
    chopCh ps head grow = fset (fset (kidsTo ps ps.length) pn ((kidsTo ps ps.length pn).filter fun i => decide (i ≠ head))) an (fset (kidsTo ps ps.length) pn ((kidsTo ps ps.length pn).filter fun i => decide (i ≠ head)) an ++ List.replicate grow pn) := by
  unfold chopCh
  rw [hpn, Int.toNat_natCast, han, Int.toNat_natCast]
  exact if_neg (by omega)
theorem chopCh_len (ps : List Int) (head grow : Nat) (hn : ps.length ≤ 1000) (hg : grow ≤ 1000) (i : Nat) : (chopCh ps head grow i).length ≤ 1000000 := by
  have h1 : ∀ i, (fset (kidsTo ps ps.length) (ps.getD head 0).toNat ((kidsTo ps ps.length (ps.getD head 0).toNat).filter fun i => decide (i ≠ head)) i).length ≤ 1000 := by
    intro i
    unfold fset
    split
    · have h1 := List.length_filter_le (fun i => decide (i ≠ head)) (kidsTo ps ps.length (ps.getD head 0).toNat)
      have h2 := kidsTo_len ps ps.length (ps.getD head 0).toNat
      omega
    · have := kidsTo_len ps ps.length i; omega
  unfold chopCh
  split
  · have := h1 i; omega
  · generalize hh : fset (kidsTo ps ps.length) (ps.getD head 0).toNat ((kidsTo ps ps.length (ps.getD head 0).toNat).filter fun i => decide (i ≠ head)) = f at h1
    unfold fset
    split
    · rw [List.length_append, List.length_replicate]
      have := h1 (ps.getD (ps.getD head 0).toNat 0).toNat
      omega
    · have := h1 i; omega
theorem hv_shape {w : World} {B : Nat} {b : Bool} {hv : Value} {n : Nat} {xs : List Value} (h1 : b = true → w.ownsRow B 3 1 hv n xs) (h2 : b = false → hv = .slice none 0 0) : ∃ ho hl hc, hv = .slice ho hl hc := by
  cases b with
  | true =>
    rcases (h1 rfl).2 with ⟨q, _⟩ | ⟨g, cap, cur, q, _⟩
    · exact ⟨_, _, _, q⟩
    · exact ⟨_, _, _, q⟩
  | false => exact ⟨_, _, _, h2 rfl⟩
/-- The children behind j copies. -/
def manyCh (ps : List Int) (head pn an j : Nat) : Nat → List Nat :=
  fset (fset (kidsTo ps ps.length) pn ((kidsTo ps ps.length pn).filter fun i => decide (i ≠ head))) an (fset (kidsTo ps ps.length) pn ((kidsTo ps ps.length pn).filter fun i => decide (i ≠ head)) an ++ List.replicate j pn)
theorem manyCh_zero {ps : List Int} {head pn an i : Nat} : fset (kidsTo ps ps.length) pn ((kidsTo ps ps.length pn).filter fun i => decide (i ≠ head)) i = manyCh ps head pn an 0 i := by
  unfold manyCh
  rw [List.replicate_zero, List.append_nil]
  by_cases e : i = an
  · subst e; rw [fset_same]
  · rw [fset_ne _ _ e]
theorem manyCh_all {ps : List Int} {head grow pn an : Nat} (hpn : ps.getD head 0 = (pn : Int)) (hz : 0 < pn) (han : ps.getD pn 0 = (an : Int)) : manyCh ps head pn an grow = chopCh ps head grow := by
  rw [chopCh_more hpn hz han]; rfl
theorem manyCh_len {ps : List Int} {head pn an j i : Nat} (hn : ps.length ≤ 1000) (hj : j ≤ 1000) : (manyCh ps head pn an j i).length ≤ 3000 := by
  have h1 : ∀ i, (fset (kidsTo ps ps.length) pn ((kidsTo ps ps.length pn).filter fun i => decide (i ≠ head)) i).length ≤ 1000 := by
    intro i
    unfold fset
    split
    · have h1 := List.length_filter_le (fun i => decide (i ≠ head)) (kidsTo ps ps.length pn)
      have h2 := kidsTo_len ps ps.length pn
      omega
    · have := kidsTo_len ps ps.length i; omega
  unfold manyCh
  by_cases e : i = an
  · subst e
    rw [fset_same, List.length_append, List.length_replicate]
    have := h1 i
    omega
  · rw [fset_ne _ _ e]
    have := h1 i
    omega
theorem chopCh_up {ps : List Int} {head grow pn an : Nat} (hp : ∀ j, j < ps.length → ps.getD j 0 < j) (hpn : ps.getD head 0 = (pn : Int)) (hz : 0 < pn) (han : ps.getD pn 0 = (an : Int)) (halt : an < pn) : ∀ j, j < ps.length → ∀ i ∈ chopCh ps head grow j, j < i := by
  intro j hj i hi
  have h1 : ∀ j, ∀ i ∈ fset (kidsTo ps ps.length) pn ((kidsTo ps ps.length pn).filter fun i => decide (i ≠ head)) j, j < i := by
    intro j i hi
    unfold fset at hi
    split at hi
    · rename_i e
      subst e
      exact kids_up hp (List.mem_filter.1 hi).1
    · exact kids_up hp hi
  rw [chopCh_more hpn hz han] at hi
  by_cases e : j = an
  · subst e
    rw [fset_same] at hi
    rcases List.mem_append.1 hi with q | q
    · exact h1 j i q
    · rw [List.mem_replicate] at q; omega
  · rw [fset_ne _ _ e] at hi
    exact h1 j i hi
theorem chop_round {ps : List Int} {head pn an j grow g cap g2 cap2 : Nat} {w wr w2' : World} {W3 : World} {G G' : Gr} {cq : Value} {o3 : Obj} (hj : j ≤ grow) (hlt2 : j < grow) (hanlt : an < G'.k) (hpl : pn < ps.length)
    (hB : G'.k = ps.length ∧ G'.N = G.N ∧ G'.nv = .slice (some ⟨g, 0, none⟩) ps.length cap ∧ (∀ i, i < ps.length → G'.ch i = manyCh ps head pn an j i) ∧ G'.In (w.heap.size + 3) wr ∧ Below (w.heap.size + 3) W3 wr ∧ cq = G'.cv an)
    (hown3 : w2'.ownsRow (w.heap.size + 3) 73 1 (.slice (some ⟨g2, 0, none⟩) ((G'.ch an).length + 1) cap2) ((G'.ch an).length + 1) (((G'.ch an).map fun j => ptrV (G'.N j)) ++ [ptrV (G.N pn)]))
    (hgrow3 : (wr.alloc o3).grownBy w2' cq.ownBlock) (hat3 : cq.ownBlock = some g2 ∨ g2 = wr.heap.size + 1) :
    ∃ (j' : Nat) (G'' : Gr), j' ≤ grow ∧ Value.int .i64 ((j : Int) + 1) = .int .i64 j' ∧ G''.k = ps.length ∧ G''.N = G.N ∧ G''.nv = .slice (some ⟨g, 0, none⟩) ps.length cap ∧ (∀ i, i < ps.length → G''.ch i = manyCh ps head pn an j' i) ∧
      G''.In (w.heap.size + 3) (w2'.setCell ⟨G.N an, 1, none⟩ (.slice (some ⟨g2, 0, none⟩) ((G'.ch an).length + 1) cap2)) ∧ Below (w.heap.size + 3) W3 (w2'.setCell ⟨G.N an, 1, none⟩ (.slice (some ⟨g2, 0, none⟩) ((G'.ch an).length + 1) cap2)) := by
  obtain ⟨h1, h2, h3, h4, h5, h6, h7⟩ := hB
  subst h7
  rw [← h2] at hown3
  obtain ⟨q1, q2⟩ := h5.kidded (p := an) (i := pn) hanlt (by omega) hown3 hgrow3 hat3 rfl
  have hNB : w.heap.size + 3 ≤ G'.N an := (h5.good (.no an) hanlt).1
  have hkl : ∀ k, (G'.cv an).ownBlock = some k → w.heap.size + 3 ≤ k := fun k hk => ((h5.good (.ki an) hanlt).lt (b := k) hk).1
  refine ⟨j + 1, G'.kid an (G'.ch an ++ [pn]) (.slice (some ⟨g2, 0, none⟩) ((G'.ch an).length + 1) cap2), by omega, rfl, h1, h2, h3, fun i hi => ?_, by rw [← h2]; exact q1, ?_⟩
  · simp only [Gr.kid]
    by_cases e : i = an
    · subst e
      rw [fset_same, h4 i hi]
      unfold manyCh
      rw [fset_same, fset_same, List.append_assoc, List.replicate_succ']
    · rw [fset_ne _ _ e, h4 i hi]
      unfold manyCh
      rw [fset_ne _ _ e, fset_ne _ _ e]
  · rw [← h2]
    have hs : w.heap.size + 3 ≤ wr.heap.size := by have := ((h5.good (.no an) hanlt).lt (b := G'.N an) rfl).2; omega
    exact ((h6.alloc hs _).grown hgrow3 (by rw [size_alloc1]; omega) hkl).setCell (show w.heap.size + 3 ≤ (⟨G'.N an, 1, none⟩ : Addr).block from hNB) _
set_option maxHeartbeats 4000000 in
set_option maxRecDepth 1000000 in
theorem chop_calls (bk o c : Nat) (ps : List Int) (w : World) (hb : bk < w.heap.size) (hn : ps.length ≤ 1000) (hc : ∀ j, j < ps.length → w.cell? ⟨bk, o + j, none⟩ = some (.int .i64 (ps.getD j 0)))
    (hp : ∀ j, j < ps.length → ps.getD j 0 < j) (head grow pn : Nat) (hhead : head < ps.length) (hpn : ps.getD head 0 = (pn : Int)) (hgrow : grow ≤ 1000) (han : 0 < pn → ∃ an : Nat, ps.getD pn 0 = (an : Int)) :
    Calls prog 62 #[.agg #[.slice (some ⟨bk, o, none⟩) ps.length c], .int .i64 head, .int .i64 grow] w fun e w' => ∃ hv, e = .returned (.tuple #[.agg #[hv], .bool (flT [] (-1) (unfT (chopCh ps head grow) ps.length 0)).2]) ∧
      ((flT [] (-1) (unfT (chopCh ps head grow) ps.length 0)).2 = true → w'.ownsRow w.heap.size 3 1 hv (flT [] (-1) (unfT (chopCh ps head grow) ps.length 0)).1.length ((flT [] (-1) (unfT (chopCh ps head grow) ps.length 0)).1.map (Value.int .i64))) ∧
      ((flT [] (-1) (unfT (chopCh ps head grow) ps.length 0)).2 = false → hv = .slice none 0 0) ∧ Below w.heap.size w w' := by
  have htree : Hid (∀ w' : World, bk < w'.heap.size → (∀ j, j < ps.length → w'.cell? ⟨bk, o + j, none⟩ = some (.int .i64 (ps.getD j 0))) → Calls prog 46 #[.agg #[.slice (some ⟨bk, o, none⟩) ps.length c]] w' fun e w2 => ∃ G : Gr, e = .returned G.nv ∧ G.k = ps.length ∧ (∀ j, j < ps.length → G.ch j = kidsTo ps ps.length j) ∧ G.In w'.heap.size w2 ∧ Below w'.heap.size w' w2) :=
    fun w' h1 h2 => treeOf_walk bk o c ps w' h1 hn h2 hp
  have A0 : Hid ((∀ j, j < ps.length → w.cell? ⟨bk, o + j, none⟩ = some (.int .i64 (ps.getD j 0))) ∧ ∀ j, j < ps.length → ps.getD j 0 < j) := ⟨hc, hp⟩
  have A1 : Hid (ps.getD head 0 = (pn : Int)) := hpn
  have A4 : Hid (0 < pn → ∃ an : Nat, ps.getD pn 0 = (an : Int)) := han
  have hyd : Hid (∀ (F : Nat → Prop) (v : Value) (w : World), (∀ b, F b → b < w.heap.size) → Rep w F v (.pt (unfT (chopCh ps head grow) ps.length 0).cells) → Calls prog 80 #[v] w fun e w' => ∃ hv, e = .returned (.tuple #[.agg #[hv], .bool (flT [] (-1) (unfT (chopCh ps head grow) ps.length 0)).2]) ∧
      ((flT [] (-1) (unfT (chopCh ps head grow) ps.length 0)).2 = true → w'.ownsRow w.heap.size 3 1 hv (flT [] (-1) (unfT (chopCh ps head grow) ps.length 0)).1.length ((flT [] (-1) (unfT (chopCh ps head grow) ps.length 0)).1.map (Value.int .i64))) ∧
      ((flT [] (-1) (unfT (chopCh ps head grow) ps.length 0)).2 = false → hv = .slice none 0 0) ∧ Below w.heap.size w w') := fun F v w => hydraOf_calls _ (unfT_small (chopCh_len ps head grow hn hgrow) _ _) F v w
  obtain ⟨ob, hob⟩ : ∃ ob, flT [] (-1) (unfT (chopCh ps head grow) ps.length 0) = ob := ⟨_, rfl⟩
  rw [hob] at hyd ⊢
  clear hob
  clear hc hp hpn han
  go_enter func62, ntmps62
  go_wp2_with (go_at_call 46; fail)
  refine (htree.out _ (by rw [(heap_new3 w _ _ _).2.2.2.1]; omega) (fun j hj => ((World.cell?_of_block ((heap_new3 w _ _ _).2.2.2.2 bk hb)).trans (A0.out.1 j hj)))).mono ?_
  rintro e w2 ⟨G, rfl, hGk, hGch, hG, hbel⟩
  have hall := chop_first hb hhead A1.out A0.out.1 A0.out.2 hGk hGch hG hbel
  clear hGk hGch hG hbel
  obtain ⟨g, cap, f1, hlt, hk, hch, hG, hbel, d1, d2, d3, d4, gp, capp, k, f2, f3, f4, f5, f6, f7, d5, f8, f9, f10, f11, f12, f13⟩ := hall
  have hdel : Hid (Calls prog 90 #[.slice (some ⟨gp, 0, none⟩) (kidsTo ps ps.length pn).length capp, .func (.func 91) #[] #[.pointer (some ⟨w.heap.size + 1, 0, none⟩)]] w2 fun e w' => e = .returned (.slice (some ⟨gp, 0, none⟩) ((kidsTo ps ps.length pn).length - 1) capp) ∧
      w'.ownsRow (w.heap.size + 3) 73 1 (.slice (some ⟨gp, 0, none⟩) ((kidsTo ps ps.length pn).length - 1) capp) ((kidsTo ps ps.length pn).length - 1) (((kidsTo ps ps.length pn).eraseIdx k).map fun i => ptrV (G.N i)) ∧ w2.grownBy w' (some gp)) :=
    delete_calls (w.heap.size + 3) gp capp (w.heap.size + 1) k head G.N (kidsTo ps ps.length pn) w2 (by have := kidsTo_len ps ps.length pn; omega) f8 f9 f10 f12 f13 d2 (by omega)
  have A2 : Hid (G.nv = .slice (some ⟨g, 0, none⟩) ps.length cap ∧ G.k = ps.length ∧ (∀ j, j < ps.length → G.ch j = kidsTo ps ps.length j) ∧ G.In (w.heap.size + 3) w2 ∧ Below (w.heap.size + 3) (((w.alloc (.cells #[.slice (some ⟨bk, o, none⟩) ps.length c] 31)).alloc (.cells #[.int .i64 head] 3)).alloc (.cells #[.slice none 0 0] 31)) w2 ∧
    G.cv pn = .slice (some ⟨gp, 0, none⟩) (kidsTo ps ps.length pn).length capp ∧ w.heap.size + 3 ≤ gp ∧ gp ≠ G.N pn ∧ w.heap.size + 3 ≤ G.N pn ∧ (kidsTo ps ps.length pn).eraseIdx k = (kidsTo ps ps.length pn).filter (fun i => decide (i ≠ head))) := ⟨f1, hk, hch, hG, hbel, f2, f3, f5, f7, f11⟩
  rw [f1]
  clear f1 hk hch hG hbel f2 f3 f4 f5 f6 f7 f8 f9 f10 f11 f12 f13
  obtain ⟨lk, hlk⟩ : ∃ lk, lk = kidsTo ps ps.length pn := ⟨_, rfl⟩
  rw [← hlk] at hdel d5 A2
  have A3 : Hid (lk = kidsTo ps ps.length pn) := hlk
  clear hlk
  have hpz : (pn : Int) < ps.length := by omega
  have hheadz : (head : Int) < ps.length := by omega
  go_wp2_with (go_at_call 90; refine (hdel.out).mono ?_; rintro e w4 ⟨rfl, hrow4, hgr4⟩; have hall := chop_second hb hhead A0.out.1 A0.out.2 hlt A2.out A3.out hrow4 hgr4; clear hrow4 hgr4; obtain ⟨s1, s2, s3, s4, s5, s6, s7, s8, hIn5, hbel5⟩ := hall)
  · have hz : 0 < pn := by assumption
    obtain ⟨an, hanp⟩ := A4.out hz
    have halt : an < pn := by have := A0.out.2 pn (by omega); rw [hanp] at this; omega
    rw [hanp] at s5
    obtain ⟨r1, r2, r3, r4⟩ := hIn5.reads (g := g) (cap := cap) (by show G.nv = .slice _ G.k _; rw [A2.out.2.1]; exact A2.out.1) (q := an) (by show an < G.k; rw [A2.out.2.1]; omega)
    have hanz : (an : Int) < ps.length := by omega
    have hNe : (G.kid pn (lk.filter (fun i => decide (i ≠ head))) (.slice (some ⟨gp, 0, none⟩) (lk.length - 1) capp)).N = G.N := rfl
    rw [hNe] at r1
    clear r2 r3 r4
    generalize hw5 : w4.setCell ⟨G.N pn, 1, none⟩ (.slice (some ⟨gp, 0, none⟩) (lk.length - 1) capp) = w5 at s3 s4 s5 s6 s7 s8 hIn5 hbel5 r1 ⊢
    obtain ⟨G1, hG1⟩ : ∃ G1, G1 = G.kid pn (lk.filter (fun i => decide (i ≠ head))) (.slice (some ⟨gp, 0, none⟩) (lk.length - 1) capp) := ⟨_, rfl⟩
    rw [← hG1] at hIn5
    have B0 : Hid (G1.In (w.heap.size + 3) w5 ∧ Below (w.heap.size + 3) (((w.alloc (.cells #[.slice (some ⟨bk, o, none⟩) ps.length c] 31)).alloc (.cells #[.int .i64 head] 3)).alloc (.cells #[.slice none 0 0] 31)) w5 ∧ G1.N = G.N ∧ G1.k = ps.length ∧ G1.nv = .slice (some ⟨g, 0, none⟩) ps.length cap ∧
      ∀ j, j < ps.length → G1.ch j = fset (kidsTo ps ps.length) pn ((kidsTo ps ps.length pn).filter fun i => decide (i ≠ head)) j) := ⟨hIn5, hbel5, by rw [hG1]; rfl, by rw [hG1]; exact A2.out.2.1, by rw [hG1]; exact A2.out.1, fun j hj => by
        rw [hG1, ← A3.out]
        simp only [Gr.kid]
        unfold fset
        split
        · rfl
        · exact A2.out.2.2.1 j hj⟩
    have B1 : Hid (ps.getD pn 0 = (an : Int)) := hanp
    clear hIn5 hbel5 hG1 hw5 hNe hanp s1 s2 s7 s8 A4 d1 d2 d3 d4 d5
    have mixed : prog.follows .mixedOrders = true := by kernel_rfl
    obtain ⟨i0, hi, hz0, hz1, hz2⟩ := info_parts info73
    go_region
    all_goals go_wp2
    have hdz : decide (0 < pn) = true := decide_eq_true hz
    rw [hdz]
    go_loopw [47] (fun iv wr => ∃ (j : Nat) (G' : Gr), j ≤ grow ∧ iv = .int .i64 j ∧ G'.k = ps.length ∧ G'.N = G.N ∧ G'.nv = .slice (some ⟨g, 0, none⟩) ps.length cap ∧ (∀ i, i < ps.length → G'.ch i = manyCh ps head pn an j i) ∧ G'.In (w.heap.size + 3) wr ∧
        Below (w.heap.size + 3) (((w.alloc (.cells #[.slice (some ⟨bk, o, none⟩) ps.length c] 31)).alloc (.cells #[.int .i64 head] 3)).alloc (.cells #[.slice none 0 0] 31)) wr)
      (fun i _ => grow - (intOf i).toNat)
    case atStart => exact ⟨0, G1, Nat.zero_le _, rfl, B0.out.2.2.2.1, B0.out.2.2.1, B0.out.2.2.2.2.1, fun i hi => by rw [B0.out.2.2.2.2.2 i hi, manyCh_zero], B0.out.1.keep fun _ _ _ => rfl, B0.out.2.1.drew⟩
    case round =>
      obtain ⟨j, G', hj, rfl, hk', hN', hnv', hch', hG', hbel'⟩ := hrel
      have hanlt : an < G'.k := by omega
      by_cases hlt2 : j < grow
      · obtain ⟨c1, _, c3, c4⟩ := hG'.reads (g := g) (cap := cap) (by rw [hk']; exact hnv') hanlt
        rw [hN'] at c3 c4
        clear c1
        have hkidd : ∀ o, (wr.alloc o).ownsRow (w.heap.size + 3) 73 1 (G'.cv an) (G'.ch an).length ((G'.ch an).map fun j => ptrV (G'.N j)) := fun o => World.ownsRow.alloc (hG'.good (.ki an) hanlt) o
        have hcl : (G'.ch an).length ≤ 3000 := by rw [hch' an (by omega)]; exact manyCh_len (by omega) (by omega)
        have hszr : w.heap.size + 3 ≤ wr.heap.size := by have := hbel'.size; rw [(heap_new3 w _ _ _).2.2.2.1] at this; exact this
        obtain ⟨cq, hcq⟩ : ∃ cq, cq = G'.cv an := ⟨_, rfl⟩
        rw [← hcq] at hkidd c3
        have B2 : Hid (G'.k = ps.length ∧ G'.N = G.N ∧ G'.nv = .slice (some ⟨g, 0, none⟩) ps.length cap ∧ (∀ i, i < ps.length → G'.ch i = manyCh ps head pn an j i) ∧ G'.In (w.heap.size + 3) wr ∧
          Below (w.heap.size + 3) (((w.alloc (.cells #[.slice (some ⟨bk, o, none⟩) ps.length c] 31)).alloc (.cells #[.int .i64 head] 3)).alloc (.cells #[.slice none 0 0] 31)) wr ∧ cq = G'.cv an) := ⟨hk', hN', hnv', hch', hG', hbel', hcq⟩
        clear hk' hN' hnv' hch' hG' hbel' hcq s3 s4 s5 s6 r1
        go_wp2_with (first | (at_builtin; refine wpList_append_lies _ rfl (.tmp 53) (.tmp 55) 74 rfl (w.heap.size + 3) 73 i0 (.pointer none) 1 8 und74 hi hz0 hz1 hz2 rfl (by decide) cq (G'.ch an).length _ rfl (hkidd _) ⟨wr.heap.size, 0, none⟩ 1 1 [ptrV (G.N pn)] rfl rfl (cell_one_new _ _ _) (one_ptr _) (by decide) (by unfold maxLen; omega) (by omega) (by rw [size_alloc1]; omega) (wr.heap.size + 1) (size_alloc1 _ _) ?_; intro g2 cap2 w2' hown3 hgrow3 hat3 hglt3; obtain ⟨q1, q2, q3⟩ := B2.out.2.2.2.2.1.still hanlt (by rw [← B2.out.2.2.2.2.2.2]; exact hgrow3) (by rw [B2.out.1]; exact B2.out.2.2.1); rw [B2.out.2.1] at q1 q2; clear q3) | fail)
        go_roundw
        case rel => exact chop_round hj hlt2 hanlt (by omega) B2.out hown3 hgrow3 hat3
        case measure => simp [intOf]; omega
      · have e1 : j = grow := by omega
        subst e1
        obtain ⟨d1, _, _, _⟩ := hG'.reads (g := g) (cap := cap) (by rw [hk']; exact hnv') (q := 0) (by omega)
        rw [hN'] at d1
        have hrep := chop_rep hG' hk' (by omega) (fun i hi => by rw [hch' i hi, manyCh_all A1.out hz B1.out]) (chopCh_up A0.out.2 A1.out hz B1.out halt)
        rw [hN'] at hrep
        have B2 : Hid (Rep wr (fun b => w.heap.size + 3 ≤ b ∧ b < wr.heap.size) (.pointer (some ⟨G.N 0, 0, none⟩)) (.pt (unfT (chopCh ps head j) ps.length 0).cells)) := hrep
        clear hrep hk' hN' hnv' hch' hG' s3 s4 s5 s6 r1
        go_wp2_with (go_at_call 80; fail)
        have hrep := B2.out
        refine (hyd.out _ _ _ (fun b hb => hb.2) hrep).mono ?_
        rintro e w6 ⟨hv, rfl, hrow6, hnil6, hbel6⟩
        obtain ⟨t1, t2, t3⟩ := chop_end hbel' hbel6
        obtain ⟨ho, hl, hc', rfl⟩ : ∃ ho hl hc', hv = .slice ho hl hc' := hv_shape hrow6 hnil6
        have A7 : Hid ((ob.2 = true → w6.ownsRow wr.heap.size 3 1 (.slice ho hl hc') ob.1.length (ob.1.map (Value.int .i64))) ∧ (ob.2 = false → Value.slice ho hl hc' = .slice none 0 0) ∧ ∀ u, Below w.heap.size w (w6.setCell ⟨w.heap.size + 1 + 1, 0, none⟩ u) ∧
          ∀ {hv : Value} {n : Nat} {xs : List Value}, w6.ownsRow wr.heap.size 3 1 hv n xs → (w6.setCell ⟨w.heap.size + 1 + 1, 0, none⟩ u).ownsRow w.heap.size 3 1 hv n xs) := ⟨hrow6, hnil6, t3⟩
        clear hrow6 hnil6 t3 hbel6 hrep
        go_wp2
        (try simp only [Exit.inBlock, Exit.then])
        refine bodyPost_ret (v := .tuple #[.agg #[.slice ho hl hc'], .bool ob.2]) ?_ rfl ⟨_, rfl, fun h => (A7.out.2.2 _).2 (A7.out.1 h), A7.out.2.1, (A7.out.2.2 _).1⟩
        rw [results_cell_tmp rfl]
        go_simp
  · have hz : ¬ 0 < pn := by omega
    have hG1 : ∀ j, j < ps.length → (G.kid pn (lk.filter (fun i => decide (i ≠ head))) (.slice (some ⟨gp, 0, none⟩) (lk.length - 1) capp)).ch j = chopCh ps head grow j := by
      intro j hj
      rw [chopCh_zero A1.out hz, ← A3.out]
      simp only [Gr.kid]
      unfold fset
      split
      · rfl
      · exact A2.out.2.2.1 j hj
    have hrep := chop_rep hIn5 A2.out.2.1 (by omega) hG1 (fun j hj i hi => by
      rw [chopCh_zero A1.out hz] at hi
      unfold fset at hi
      split at hi
      · rename_i e
        subst e
        exact kids_up A0.out.2 (List.mem_filter.1 hi).1
      · exact kids_up A0.out.2 hi)
    refine (hyd.out _ _ _ (fun b hb => hb.2) hrep).mono ?_
    rintro e w6 ⟨hv, rfl, hrow6, hnil6, hbel6⟩
    obtain ⟨t1, t2, t3⟩ := chop_end hbel5 hbel6
    obtain ⟨ho, hl, hc', rfl⟩ : ∃ ho hl hc', hv = .slice ho hl hc' := hv_shape hrow6 hnil6
    have A7 : Hid ((ob.2 = true → w6.ownsRow (w4.setCell ⟨G.N pn, 1, none⟩ (.slice (some ⟨gp, 0, none⟩) (lk.length - 1) capp)).heap.size 3 1 (.slice ho hl hc') ob.1.length (ob.1.map (Value.int .i64))) ∧ (ob.2 = false → Value.slice ho hl hc' = .slice none 0 0) ∧ ∀ u, Below w.heap.size w (w6.setCell ⟨w.heap.size + 1 + 1, 0, none⟩ u) ∧
      ∀ {hv : Value} {n : Nat} {xs : List Value}, w6.ownsRow (w4.setCell ⟨G.N pn, 1, none⟩ (.slice (some ⟨gp, 0, none⟩) (lk.length - 1) capp)).heap.size 3 1 hv n xs → (w6.setCell ⟨w.heap.size + 1 + 1, 0, none⟩ u).ownsRow w.heap.size 3 1 hv n xs) := ⟨hrow6, hnil6, t3⟩
    clear hrow6 hnil6 t3 hbel6 hrep
    go_wp2
    (try simp only [Exit.inBlock, Exit.then])
    refine bodyPost_ret (v := .tuple #[.agg #[.slice ho hl hc'], .bool ob.2]) ?_ rfl ⟨_, rfl, fun h => (A7.out.2.2 _).2 (A7.out.1 h), A7.out.2.1, (A7.out.2.2 _).1⟩
    rw [results_cell_tmp rfl]
    go_simp
end Go.Proofs.Try

namespace Go.Proofs.Try
open Go Go.AX Go.RowKit
/-- Numbers of a row. -/
def hydInts : List (List D) → Option (List Int)
  | [] => some []
  | [.int .i64 n] :: es => match hydInts es with
    | some l => some (n :: l)
    | none => none
  | _ :: _ => none
theorem hydInts_eq : ∀ {es : List (List D)} {l : List Int}, hydInts es = some l → es = l.map fun n => [D.int .i64 n]
  | [], l, h => by simp only [hydInts, Option.some.injEq] at h; subst h; rfl
  | e :: es, l, h => by
    unfold hydInts at h
    split at h
    · rename_i q; cases q
    · rename_i n es' q
      injection q with q1 q2
      subst q1 q2
      split at h
      · rename_i l' hl
        injection h with h
        subst h
        rw [hydInts_eq hl]; rfl
      · cases h
    · cases h
theorem hydInts_of : ∀ l : List Int, hydInts (l.map fun n => [D.int .i64 n]) = some l
  | [] => rfl
  | n :: l => by simp only [List.map_cons, hydInts, hydInts_of l]
theorem rep_hydInts {w : World} {F : Nat → Prop} {v : Value} {l : List Int} (hr : Rep w F v (.sl (l.map fun n => [D.int .i64 n]))) (hn : 0 < l.length) :
    ∃ bk o c, v = .slice (some ⟨bk, o, none⟩) l.length c ∧ F bk ∧ ∀ j, j < l.length → w.cell? ⟨bk, o + j, none⟩ = some (.int .i64 (l.getD j 0)) := by
  cases hr with
  | sl a c sz _ us hc hsz ha hr =>
    cases l with
    | nil => simp at hn
    | cons n l =>
      have hs1 : sz = 1 := (hsz [D.int .i64 n] (by simp)).symm
      subst hs1
      have hat : ∀ j x, (n :: l)[j]? = some x → at2 ((n :: l).map fun n => [D.int .i64 n]) j 0 = some (.int .i64 x) := by
        intro j x hx
        unfold at2
        rw [List.getElem?_map, hx]
        rfl
      obtain ⟨ad, rfl, hF0, hc0⟩ := ha 0 0 _ (hat 0 n rfl)
      have e0 : ad.add (0 * 1 + 0) = ad := by unfold Addr.add; simp
      rw [e0] at hc0
      obtain ⟨bk, o, rfl⟩ := ad_none hc0
      refine ⟨bk, o, c, by simp, hF0, fun j hj => ?_⟩
      have hx : (n :: l)[j]? = some ((n :: l).getD j 0) := by rw [List.getElem?_eq_getElem hj, List.getD_eq_getElem?_getD, List.getElem?_eq_getElem hj]; rfl
      obtain ⟨ad, q, _, hcell⟩ := ha j 0 _ (hat j _ hx)
      injection q with q
      subst q
      rw [add_lit] at hcell
      have := hr j 0 _ (hat j _ hx)
      rw [rep_int this] at hcell
      rw [← hcell]
      congr 2
      omega
/-- A row of numbers that a call has laid. -/
theorem owns_rep {w : World} {B : Nat} {F : Nat → Prop} {hv : Value} {l : List Int} (h : w.ownsRow B 3 1 hv l.length (l.map (Value.int .i64))) (hF : ∀ b, B ≤ b → b < w.heap.size → F b) : Rep w F hv (.sl (l.map fun n => [D.int .i64 n])) := by
  rcases h.2 with ⟨e1, e2⟩ | ⟨g, cap, cur, e1, hb, hg, hcap, hmax, hcur, htake⟩
  · have e3 := List.length_eq_zero_iff.1 e2
    rw [e1, e3]
    exact .sl none 0 0 [] (fun _ _ => undef) (by simp) (by simp) (by simp [at2]) (by simp [at2])
  · rw [e1]
    have hlen : (l.map fun n => [D.int .i64 n]).length = l.length := by simp
    have hgF := hF g hb (heap_lt hg)
    have at2e : ∀ j k x, at2 (l.map fun n => [D.int .i64 n]) j k = some x → k = 0 ∧ ∃ n, l[j]? = some n ∧ x = .int .i64 n := by
      intro j k x hx
      unfold at2 at hx
      rw [List.getElem?_map] at hx
      cases hc : l[j]? with
      | none => rw [hc] at hx; simp at hx
      | some n =>
        rw [hc] at hx
        simp only [Option.map_some, Option.bind_some] at hx
        cases k with
        | zero => simp only [List.getElem?_cons_zero, Option.some.injEq] at hx; exact ⟨rfl, n, rfl, hx.symm⟩
        | succ k => simp at hx
    have := Rep.sl (w := w) (F := F) (some ⟨g, 0, none⟩) cap 1 (l.map fun n => [D.int .i64 n]) (fun j _ => ((l[j]?).map (Value.int .i64)).getD undef) (by rw [hlen]; exact hcap) (by simp)
      (fun j k x hx => by
        obtain ⟨rfl, n, hn, rfl⟩ := at2e j k x hx
        refine ⟨_, rfl, hgF, ?_⟩
        have hj := (List.getElem?_eq_some_iff.1 hn).1
        rw [add_lit, cell_of_row w g _ cur 3 (0, 0) hg, hn]
        have e3 : cur.toList[j]? = some (Value.int .i64 n) := by
          have : (l.map (Value.int .i64))[j]? = some (Value.int .i64 n) := by rw [List.getElem?_map, hn]; rfl
          rw [← htake, List.getElem?_take, if_pos (by omega)] at this
          exact this
        simpa using e3)
      (fun j k x hx => by
        obtain ⟨rfl, n, hn, rfl⟩ := at2e j k x hx
        rw [hn]
        exact .int _ _)
    rw [hlen] at this
    exact this
/-- Each parent has a lesser number. -/
def upB (ps : List Int) : Bool := (List.range ps.length).all fun j => decide (ps.getD j 0 < (j : Int))
theorem upB_spec {ps : List Int} (h : upB ps = true) : ∀ j, j < ps.length → ps.getD j 0 < j := fun j hj => of_decide_eq_true (List.all_eq_true.1 h j (List.mem_range.2 hj))
def lib_treeOf (a1 : Rw) : Option Rw := (hydInts a1).bind fun ps => if (0 < ps.length ∧ ps.length ≤ 1000) ∧ upB ps = true then some ((List.range ps.length).map fun i => [D.pt (unf (kidsTo ps ps.length) ps.length i)]) else none
theorem repL_aggS {w : World} {M : Mu} {x : D} {vs : List Value} (h : RepL w M [.agg [.d x]] vs) : ∃ v, vs = [.agg #[v]] ∧ Rep w M.F v x := by
  match vs, h with
  | [v], h =>
    simp only [RepL, RepA, and_true] at h
    obtain ⟨us, rfl, hu⟩ := h
    match us, hu with
    | [u], hu => simp only [RepL, RepA, and_true] at hu; exact ⟨u, rfl, hu⟩
theorem nodes_rep {B n : Nat} {w : World} {G : Gr} {F : Nat → Prop} {ch : Nat → List Nat} (hG : G.In B w) (hk : G.k = n) (hn : 0 < n) (hch : ∀ j, j < n → G.ch j = ch j) (hup : ∀ j, j < n → ∀ i ∈ ch j, j < i) (hF : ∀ b, B ≤ b → b < w.heap.size → F b) :
    Rep w F G.nv (.sl ((List.range n).map fun i => [D.pt (unf ch n i)])) := by
  subst hk
  have hnd : w.ownsRow B 73 1 G.nv G.k ((List.range G.k).map fun j => ptrV (G.N j)) := hG.good .nd trivial
  rcases hnd.2 with ⟨_, e2⟩ | ⟨g, cap, cur, e1, hb, hg, hcap, hmax, hcur, htake⟩
  · omega
  · rw [e1]
    have hlen : ((List.range G.k).map fun i => [D.pt (unf ch G.k i)]).length = G.k := by simp
    have hgF := hF g hb (heap_lt hg)
    have at2e : ∀ j k x, at2 ((List.range G.k).map fun i => [D.pt (unf ch G.k i)]) j k = some x → k = 0 ∧ j < G.k ∧ x = .pt (unf ch G.k j) := by
      intro j k x hx
      unfold at2 at hx
      rw [List.getElem?_map] at hx
      cases hc : (List.range G.k)[j]? with
      | none => rw [hc] at hx; simp at hx
      | some n =>
        have hj := (List.getElem?_eq_some_iff.1 hc).1
        rw [List.length_range] at hj
        rw [List.getElem?_range hj] at hc
        injection hc with hc
        subst hc
        rw [List.getElem?_range hj] at hx
        simp only [Option.map_some, Option.bind_some] at hx
        cases k with
        | zero => simp only [List.getElem?_cons_zero, Option.some.injEq] at hx; exact ⟨rfl, hj, hx.symm⟩
        | succ k => simp at hx
    have := Rep.sl (w := w) (F := F) (some ⟨g, 0, none⟩) cap 1 ((List.range G.k).map fun i => [D.pt (unf ch G.k i)]) (fun j _ => ptrV (G.N j)) (by rw [hlen]; exact hcap) (by simp)
      (fun j k x hx => by
        obtain ⟨rfl, hj, rfl⟩ := at2e j k x hx
        refine ⟨_, rfl, hgF, ?_⟩
        rw [add_lit, cell_of_row w g _ cur 73 (0, 0) hg]
        have e3 : cur.toList[j]? = some (ptrV (G.N j)) := by
          have : ((List.range G.k).map fun j => ptrV (G.N j))[j]? = some (ptrV (G.N j)) := by rw [List.getElem?_map, List.getElem?_range hj]; rfl
          rw [← htake, List.getElem?_take, if_pos (by omega)] at this
          exact this
        simpa using e3)
      (fun j k x hx => by
        obtain ⟨rfl, hj, rfl⟩ := at2e j k x hx
        have := hG.rep (F := F) hF (fun j hj i hi => by rw [hch j hj] at hi; exact hup j hj i hi) G.k j hj (by omega)
        rw [unf_congr (n := G.k) hch (fun j hj i hi => hG.ch j i hj hi) G.k j hj] at this
        exact this)
    rw [hlen] at this
    exact this
theorem lib_treeOf_ct {a1 r : Rw} (h : lib_treeOf a1 = some r) : Ct prog 46 [.agg [.d (.sl a1)]] ⟨[], []⟩ (.d (.sl r)) ⟨[], []⟩ := by
  unfold lib_treeOf at h
  obtain ⟨ps, hps, h⟩ := bind_ex h
  obtain ⟨g, h⟩ := req_ex h
  cases h
  have he := hydInts_eq hps
  subst he
  refine Ct.new ⟨_, func46, rfl, rfl⟩ rfl fun w M vs hs hr => ?_
  obtain ⟨v, rfl, hv⟩ := repL_aggS hr
  obtain ⟨bk, o, c, rfl, hFb, hc⟩ := rep_hydInts hv g.1.1
  refine (treeOf_walk bk o c ps w (hs.fz bk hFb) g.1.2 hc (upB_spec g.2)).mono ?_
  rintro e w' ⟨G, rfl, hk, hch, hG, hb⟩
  refine ⟨_, rfl, hb, ?_⟩
  simp only [RepA]
  exact nodes_rep hG hk g.1.1 hch (fun j hj i hi => kids_up (upB_spec g.2) hi) fun b h1 h2 => .inr ⟨h1, h2⟩
/-- What a list of parents, or none, looks like. -/
def flR (o : List Int × Bool) : Rw × Bool := (if o.2 = true then o.1.map fun n => [D.int .i64 n] else [], o.2)
theorem flR_rep {w w' : World} {M : Mu} {B : Nat} {hv : Value} {o : List Int × Bool} (h1 : o.2 = true → w'.ownsRow w.heap.size 3 1 hv o.1.length (o.1.map (Value.int .i64))) (h2 : o.2 = false → hv = .slice none 0 0) :
    RepA w' (muNew M w w') (.tup [.agg [.d (.sl (flR o).1)], .d (.bool (flR o).2)]) (.tuple #[.agg #[hv], .bool o.2]) := by
  simp only [RepA]
  refine ⟨[.agg #[hv], .bool o.2], rfl, ?_⟩
  simp only [RepL, RepA, and_true]
  refine ⟨⟨[hv], rfl, ?_⟩, .bool _⟩
  simp only [RepL, RepA, and_true, flR]
  cases hb : o.2 with
  | true =>
    rw [if_pos rfl]
    exact owns_rep (h1 hb) fun b q1 q2 => .inr ⟨q1, q2⟩
  | false =>
    rw [if_neg (by simp), h2 hb]
    exact .sl none 0 0 [] (fun _ _ => undef) (by simp) (by simp) (by simp [at2]) (by simp [at2])
open Classical in
noncomputable def lib_hydraOf (a1 : Cs) : Option (Rw × Bool) := if h : ∃ t : HT, t.cells = a1 ∧ t.small = true then some (flR (flT [] (-1) h.choose)) else none
theorem lib_hydraOf_ct {a1 : Cs} {r : Rw × Bool} (h : lib_hydraOf a1 = some r) : Ct prog 80 [.d (.pt a1)] ⟨[], []⟩ (.tup [.agg [.d (.sl r.1)], .d (.bool r.2)]) ⟨[], []⟩ := by
  unfold lib_hydraOf at h
  split at h
  case isFalse => cases h
  rename_i hex
  cases h
  have hsp := hex.choose_spec
  generalize hex.choose = t at hsp
  obtain ⟨rfl, hsm⟩ := hsp
  refine Ct.new ⟨_, func80, rfl, rfl⟩ rfl fun w M vs hs hr => ?_
  obtain ⟨v, rfl, hv⟩ := repL_oneD hr
  refine (hydraOf_calls t hsm M.F v w hs.fz hv).mono ?_
  rintro e w' ⟨hv, rfl, h1, h2, hb⟩
  exact ⟨_, rfl, hb, flR_rep (B := 0) h1 h2⟩
def lib_chop (a1 : Rw) (a2 a3 : Int) : Option (Rw × Bool) := (hydInts a1).bind fun ps =>
  if ((ps.length ≤ 1000 ∧ upB ps = true) ∧ (0 ≤ a2 ∧ a2 < ps.length)) ∧ ((0 ≤ ps.getD a2.toNat 0 ∧ (0 < ps.getD a2.toNat 0 → 0 ≤ ps.getD (ps.getD a2.toNat 0).toNat 0)) ∧ (0 ≤ a3 ∧ a3 ≤ 1000)) then some (flR (flT [] (-1) (unfT (chopCh ps a2.toNat a3.toNat) ps.length 0))) else none
theorem repL_three {w : World} {M : Mu} {x y z : D} {vs : List Value} (h : RepL w M [.agg [.d x], .d y, .d z] vs) : ∃ v u t, vs = [.agg #[v], u, t] ∧ Rep w M.F v x ∧ Rep w M.F u y ∧ Rep w M.F t z := by
  match vs, h with
  | [v, u, t], h =>
    simp only [RepL, RepA, and_true] at h
    obtain ⟨⟨us, rfl, hu⟩, h2, h3⟩ := h
    match us, hu with
    | [x], hu => simp only [RepL, RepA, and_true] at hu; exact ⟨x, u, t, rfl, hu, h2, h3⟩
theorem lib_chop_ct {a1 : Rw} {a2 a3 : Int} {r : Rw × Bool} (h : lib_chop a1 a2 a3 = some r) : Ct prog 62 [.agg [.d (.sl a1)], .d (.int .i64 a2), .d (.int .i64 a3)] ⟨[], []⟩ (.tup [.agg [.d (.sl r.1)], .d (.bool r.2)]) ⟨[], []⟩ := by
  unfold lib_chop at h
  obtain ⟨ps, hps, h⟩ := bind_ex h
  obtain ⟨⟨⟨⟨g1, g2⟩, g3, g4⟩, ⟨g5, g6⟩, g7, g8⟩, h⟩ := req_ex h
  cases h
  have he := hydInts_eq hps
  subst he
  obtain ⟨head, rfl⟩ : ∃ k : Nat, a2 = k := ⟨a2.toNat, by omega⟩
  obtain ⟨grow, rfl⟩ : ∃ k : Nat, a3 = k := ⟨a3.toNat, by omega⟩
  rw [Int.toNat_natCast] at *
  rw [Int.toNat_natCast] at *
  refine Ct.new ⟨_, func62, rfl, rfl⟩ rfl fun w M vs hs hr => ?_
  obtain ⟨v, u, t, rfl, hv, hu, ht⟩ := repL_three hr
  obtain ⟨bk, o, c, rfl, hFb, hc⟩ := rep_hydInts hv (by omega)
  rw [rep_int hu, rep_int ht]
  obtain ⟨pn, hpn⟩ : ∃ k : Nat, ps.getD head 0 = k := ⟨(ps.getD head 0).toNat, by omega⟩
  refine (chop_calls bk o c ps w (hs.fz bk hFb) g1 hc (upB_spec g2) head grow pn (by omega) hpn (by omega) (fun hz => ?_)).mono ?_
  · rw [hpn, Int.toNat_natCast] at g6
    exact ⟨(ps.getD pn 0).toNat, by have := g6 (by omega); omega⟩
  · rintro e w' ⟨hv, rfl, h1, h2, hb⟩
    exact ⟨_, rfl, hb, flR_rep (B := 0) h1 h2⟩
end Go.Proofs.Try

namespace Go.Proofs.Try
open Go Go.AX Go.RowKit
theorem info123 : (prog.info? 123).map (·.size) = some 2 := by kernel_rfl
theorem lies123 : liesAt prog prog.depth 123 (2 / prog.cellsOf 123) 0 123 1 = true := by kernel_rfl
theorem und121 : prog.underlying 121 = some (.pointer 123) := by kernel_rfl
theorem und134 : prog.underlying 134 = some .unsafePointer := by kernel_rfl
theorem und38 : prog.underlying 38 = some (.slice 5) := by kernel_rfl
theorem und9 : prog.underlying 9 = some .string := by kernel_rfl
theorem info5 : (prog.info? 5).map (fun i => (i.zero, i.size, i.bytes)) = some (some (.int .u8 0), 1, 1) := by kernel_rfl
set_option maxHeartbeats 1000000 in
set_option maxRecDepth 100000 in
theorem copyCheck_used (b : Nat) (w : World) (h0 : w.cell? ⟨b, 0, none⟩ = some (.pointer (some ⟨b, 0, none⟩))) :
    Calls prog 107 #[.pointer (some ⟨b, 0, none⟩)] w fun e w' => e = .returned (.tuple #[]) ∧ w' = w := by
  obtain ⟨j, hj, _⟩ := Option.map_eq_some_iff.1 info123
  go_enter func107, ntmps107
  go_wp2
  rw [Lib.run_neq_ptr_same w _ und121 hj]
  go_wp2
  go_end0
  exact ⟨rfl, rfl⟩
set_option maxHeartbeats 1000000 in
set_option maxRecDepth 100000 in
theorem copyCheck_fresh (b : Nat) (w : World) (h0 : w.cell? ⟨b, 0, none⟩ = some (.pointer none)) (hsh : w.shape? b = some (123, 2)) (hfz : w.frozen? ⟨b, 0, none⟩ = false) :
    Calls prog 107 #[.pointer (some ⟨b, 0, none⟩)] w fun e w' => e = .returned (.tuple #[]) ∧ w' = w.setCell ⟨b, 0, none⟩ (.pointer (some ⟨b, 0, none⟩)) := by
  obtain ⟨j, hj, hjs⟩ := Option.map_eq_some_iff.1 info123
  go_enter func107, ntmps107
  go_wp2
  rw [Lib.run_to_unsafe w ⟨b, 0, none⟩ und121 und134 hj (by rw [hjs]; decide) hsh (Nat.zero_lt_succ 1)]
  simp only [Result.andThen]
  rw [Oper.upon_value]
  go_wp2
  rw [run_callFunc_extern func108 (by kernel_rfl) (by kernel_rfl) (by kernel_rfl) (e := Extern.AbiNoEscape.same) (by kernel_rfl)]
  rw [Lib.run_noEscape]
  simp only [Result.andThen]
  rw [Oper.upon_value]
  go_wp2
  rw [Lib.run_from_unsafe w ⟨b, 0, none⟩ und134 und121 hj hsh lies123]
  simp only [Result.andThen]
  rw [Oper.upon_value]
  go_wp2
  go_end0
  exact ⟨rfl, rfl⟩
theorem copyCheck_calls (B b : Nat) (bs : List Value) (w : World) (h : Lib.IsBuilder 123 5 B b bs w) :
    Calls prog 107 #[.pointer (some ⟨b, 0, none⟩)] w fun e w' => e = .returned (.tuple #[]) ∧ (Lib.BuilderAt 123 5 B b (.pointer (some ⟨b, 0, none⟩)) bs w' ∧ Below B w w') := by
  rcases h with h | h
  · refine (copyCheck_fresh b w h.cell0 h.shape h.frozen0).mono ?_
    rintro e w' ⟨rfl, rfl⟩
    exact ⟨rfl, h.used _, (Below.refl B w).setCell (p := ⟨b, 0, none⟩) h.1 _⟩
  · refine (copyCheck_used b w h.cell0).mono ?_
    rintro e w' ⟨rfl, rfl⟩
    exact ⟨rfl, h, Below.refl B _⟩
set_option maxHeartbeats 2000000 in
set_option maxRecDepth 100000 in
theorem writeString_calls (B b : Nat) (bs : List Value) (s : ByteArray) (w : World) (h : Lib.IsBuilder 123 5 B b bs w) (hlen : bs.length + s.size ≤ 140737488355328) (hBw : B ≤ w.heap.size) :
    Calls prog 102 #[.pointer (some ⟨b, 0, none⟩), .string s] w fun e w' => e = .returned (.tuple #[.int .i64 s.size, .nilIface]) ∧ (Lib.BuilderAt 123 5 B b (.pointer (some ⟨b, 0, none⟩)) (bs ++ Lib.strCells s) w' ∧ Below B w w') := by
  obtain ⟨i0, hi, hz0, hz1, hz2⟩ := info_parts info5
  go_enter func102, ntmps102
  go_wp2_with (go_at_call 107; refine (copyCheck_calls B b bs _ h).mono ?_)
  rintro e w1 ⟨rfl, h1, hb1⟩
  obtain ⟨hB, v, hbk, hown, hne⟩ := h1
  have c0 : w1.cell? ⟨b, 0, none⟩ = some (.pointer (some ⟨b, 0, none⟩)) := by rw [Lib.cell_of_heap hbk]; rfl
  have c1 : w1.cell? ⟨b, 1, none⟩ = some v := by rw [Lib.cell_of_heap hbk]; rfl
  go_wp2_with (at_builtin; refine Lib.wpList_append_own_string _ rfl _ _ 38 9 rfl B 5 i0 und38 und9 hi hz0 hz1 hz2 _ _ _ rfl hown s rfl ?c3 ?c4 ?c5 ?_)
  case c3 => unfold maxLen; omega
  case c4 => omega
  case c5 => have := hb1.size; omega
  intro v' w2 hown' hgrow _
  have hlt : b < w1.heap.size := heap_lt hbk
  have hb2 : w2.heap[b]? = some (.cells #[.pointer (some ⟨b, 0, none⟩), v] 123 (0, 0)) := by
    rw [hgrow.block b hlt (fun e => hne e.symm)]
    exact hbk
  have d0 : w2.cell? ⟨b, 0, none⟩ = some (.pointer (some ⟨b, 0, none⟩)) := by rw [Lib.cell_of_heap hb2]; rfl
  have d1 : w2.cell? ⟨b, 1, none⟩ = some v := by rw [Lib.cell_of_heap hb2]; rfl
  have f1 : w2.frozen? ⟨b, 1, none⟩ = false := Lib.frozen_of_heap hb2 1
  obtain ⟨ao, n', cap, rfl⟩ : ∃ ao n' cap, v' = .slice ao n' cap := by
    rcases hown'.2 with ⟨hv, _⟩ | ⟨g, cap, cur, hv, _⟩
    · exact ⟨_, _, _, hv⟩
    · exact ⟨_, _, _, hv⟩
  go_wp2
  go_ret2
  refine ⟨rfl, ?_, ?_⟩
  · exact Lib.BuilderAt.put (T := 123) (e := 5) hB hb2 (bs' := bs ++ Lib.strCells s) (by simpa [Lib.strCells_length] using hown') (by decide)
  · exact (hb1.grown hgrow (by have := hb1.size; omega) (fun k hk => (hown.lt k hk).1)).setCell (p := ⟨b, 1, none⟩) hB _
theorem bytes_end (l : List UInt8) : (⟨l.toArray⟩ : ByteArray) ++ ⟨#[41]⟩ = ⟨(l ++ [41]).toArray⟩ := by
  apply ByteArray.ext
  rw [ByteArray.data_append]
  apply Array.toList_inj.1
  simp
mutual
/-- A tree's text. -/
def txT : HT → List UInt8
  | .node _ cs => 40 :: (txL cs ++ [41])
def txL : List HT → List UInt8
  | [] => []
  | t :: l => txT t ++ txL l
end
theorem builder_keep {B b : Nat} {p : Value} {bs : List Value} {w w' : World} (h : Lib.BuilderAt 123 5 B b p bs w) (hb : Below w.heap.size w w') : Lib.BuilderAt 123 5 B b p bs w' := by
  obtain ⟨q1, v, q2, q3, q4⟩ := h
  exact ⟨q1, v, (hb.block b (heap_lt q2)).trans q2, ownsRow_keep q3 fun k hk => hb.block k (World.ownsRow.lt q3 k hk).2, q4⟩
set_option maxHeartbeats 4000000 in
set_option maxRecDepth 1000000 in
theorem text_calls : ∀ (k : Nat) (t : HT), SizeOf.sizeOf t < k → t.small = true → (txT t).length ≤ 1099511627776 → ∀ (F : Nat → Prop) (v : Value) (w : World), (∀ b, F b → b < w.heap.size) → Rep w F v (.pt t.cells) →
    Calls prog 81 #[v] w fun e w' => e = .returned (.string ⟨(txT t).toArray⟩) ∧ Below w.heap.size w w'
  | 0, _, h, _, _, _, _, _, _, _ => absurd h (Nat.not_lt_zero _)
  | k + 1, .node nn cs, hsz, hsm, hlen, F, v, w, hF, hr => by
    have ih := text_calls k
    simp only [HT.small, Bool.and_eq_true, decide_eq_true_eq] at hsm
    have hwide := hsm.1
    replace hsm := hsm.2
    simp only [HT.cells] at hr
    obtain ⟨b, o, cv, rfl, hFb, hc1, _, hkids⟩ := rep_node hr
    have hFbw := hF b hFb
    have hF' : ∀ (g go : Nat), F g → ∀ w', Below w.heap.size w w' → w'.cell? ⟨g, go, none⟩ = w.cell? ⟨g, go, none⟩ := fun g go hg w' hb => hb.cell (show (⟨g, go, none⟩ : Addr).block < w.heap.size from hF g hg)
    have hlen' : (txL cs).length + 2 ≤ 1099511627776 := by simp only [txT, List.length_cons, List.length_append, List.length_nil] at hlen; omega
    clear hlen
    have e40 : Lib.strCells ⟨#[40]⟩ = Lib.byteCells [40] := rfl
    rcases hkids with ⟨hnil, a, c, rfl⟩ | ⟨g0, go0, c0, rfl, hg0, hk⟩
    · have hcs : cs = [] := by
        have := cellsL_len cs
        rw [hnil] at this
        exact List.length_eq_zero_iff.1 this.symm
      subst hcs
      clear hr ih hsz hnil
      go_enter func81, ntmps81
      go_wp2_with (go_at_call 102; fail)
      refine (writeString_calls w.heap.size w.heap.size [] ⟨#[40]⟩ _ (Lib.fresh_isBuilder 123 5 w) (by decide) (by rw [size_alloc1]; omega)).mono ?_
      rintro e w1 ⟨rfl, h1, hb1⟩
      have hbel : Below w.heap.size w w1 := ((Below.refl _ w).alloc (Nat.le_refl _) _).trans hb1
      have c5 := (hF' b (o + 1) hFb w1 hbel).trans hc1
      rw [e40] at h1
      have A0 : Hid (Lib.BuilderAt 123 5 w.heap.size w.heap.size (.pointer (some ⟨w.heap.size, 0, none⟩)) (Lib.byteCells [40]) w1 ∧ Below w.heap.size w w1) := ⟨h1, hbel⟩
      clear h1 hb1 hbel
      go_wp2
      refine wp_loop_rounds 1 ?_
      rw [rounds_succ]
      go_wp2_with (go_at_call 103; fail)
      refine (Builder_String_any w.heap.size w.heap.size [40] _ (.inr A0.out.1) A0.out.2.size).mono ?_
      rintro e w2 ⟨rfl, hb2⟩
      go_wp2
      go_ret
      exact ⟨rfl, A0.out.2.trans hb2⟩
    · rw [cellsL_len] at *
      have A1 : Hid ((∀ (t : HT), SizeOf.sizeOf t < k → t.small = true → (txT t).length ≤ 1099511627776 → ∀ (F : Nat → Prop) (v : Value) (w : World), (∀ b, F b → b < w.heap.size) → Rep w F v (.pt t.cells) →
          Calls prog 81 #[v] w fun e w' => e = .returned (.string ⟨(txT t).toArray⟩) ∧ Below w.heap.size w w') ∧
        SizeOf.sizeOf (HT.node nn cs) < k + 1 ∧ (∀ (i : Nat) x, (HT.cellsL cs)[i]? = some x → ∃ u, w.cell? ⟨g0, go0 + i, none⟩ = some u ∧ Rep w F u (.pt x))) := ⟨ih, hsz, hk⟩
      clear hr ih hsz hk
      have hF1 : Hid (∀ (g go : Nat), F g → ∀ w', Below w.heap.size w w' → w'.cell? ⟨g, go, none⟩ = w.cell? ⟨g, go, none⟩) := hF'
      clear hF'
      go_enter func81, ntmps81
      go_wp2_with (go_at_call 102; fail)
      refine (writeString_calls w.heap.size w.heap.size [] ⟨#[40]⟩ _ (Lib.fresh_isBuilder 123 5 w) (by decide) (by rw [size_alloc1]; omega)).mono ?_
      rintro e w1 ⟨rfl, h1, hb1⟩
      have hbel : Below w.heap.size w w1 := ((Below.refl _ w).alloc (Nat.le_refl _) _).trans hb1
      have c5 := (hF1.out b (o + 1) hFb w1 hbel).trans hc1
      rw [e40] at h1
      have A0 : Hid (Lib.BuilderAt 123 5 w.heap.size w.heap.size (.pointer (some ⟨w.heap.size, 0, none⟩)) (Lib.byteCells [40]) w1 ∧ Below w.heap.size w w1) := ⟨h1, hbel⟩
      clear h1 hb1 hbel
      go_wp2
      go_loopw [13] (fun iv wr => ∃ (i : Nat) (l : List UInt8), i ≤ cs.length ∧ iv = .int .i64 i ∧ l ++ txL (cs.drop i) = 40 :: txL cs ∧ Lib.BuilderAt 123 5 w.heap.size w.heap.size (.pointer (some ⟨w.heap.size, 0, none⟩)) (Lib.byteCells l) wr ∧ Below w.heap.size w wr)
        (fun i _ => cs.length - (intOf i).toNat)
      case atStart => exact ⟨0, [40], Nat.zero_le _, rfl, rfl, A0.out.1, A0.out.2⟩
      case round =>
        obtain ⟨i, l, hi', rfl, htx, hbd, hbel'⟩ := hrel
        by_cases hlt : i < cs.length
        · obtain ⟨t, ht⟩ : ∃ t, cs[i]? = some t := ⟨_, List.getElem?_eq_getElem hlt⟩
          obtain ⟨u, hu, hru⟩ := A1.out.2.2 i t.cells (by rw [cellsL_get, ht]; rfl)
          have hru' : Rep wr F u (.pt t.cells) := hru.mono fun b hb => ⟨hb, hbel'.block b (hF b hb)⟩
          have d1 : wr.cell? ⟨g0, go0 + i, none⟩ = some u := (hF1.out g0 (go0 + i) hg0 wr hbel').trans hu
          have hst : SizeOf.sizeOf t < k := by
            have h1 := List.sizeOf_lt_of_mem (List.mem_of_getElem? ht)
            have h2 := A1.out.2.1
            simp at h2
            omega
          rw [flL_drop ht] at htx
          simp only [txL] at htx
          have hl2 : l.length + (txT t).length ≤ 1099511627776 := by
            have := congrArg List.length htx
            simp only [List.length_append, List.length_cons] at this
            omega
          have hcall : Hid (Calls prog 81 #[u] wr fun e w' => e = .returned (.string ⟨(txT t).toArray⟩) ∧ Below wr.heap.size wr w') := A1.out.1 t hst (smallL_get hsm ht) (by omega) F u wr (fun b hb => Nat.lt_of_lt_of_le (hF b hb) hbel'.size) hru'
          have A3 : Hid (l ++ (txT t ++ txL (cs.drop (i + 1))) = 40 :: txL cs ∧ Lib.BuilderAt 123 5 w.heap.size w.heap.size (.pointer (some ⟨w.heap.size, 0, none⟩)) (Lib.byteCells l) wr ∧ Below w.heap.size w wr) := ⟨htx, hbd, hbel'⟩
          clear hru hru' hu htx hbd hbel' hst
          go_wp2_with (first
            | (go_at_call 81; refine (hcall.out).mono ?_; rintro e w2 ⟨rfl, hbel2⟩)
            | (go_at_call 102; refine (writeString_calls w.heap.size w.heap.size (Lib.byteCells l) ⟨(txT t).toArray⟩ _ (.inr (builder_keep A3.out.2.1 hbel2)) (by rw [Lib.byteCells_length]; show l.length + (txT t).toArray.size ≤ _; rw [List.size_toArray]; omega) (Nat.le_trans A3.out.2.2.size hbel2.size)).mono ?_; rintro e w3 ⟨rfl, hbd3, hbel3⟩))
          go_roundw
          case rel => exact ⟨i + 1, l ++ txT t, by omega, by go_num, by rw [List.append_assoc]; exact A3.out.1, by rw [Lib.strCells_toArray, ← Lib.byteCells_append] at hbd3; exact hbd3, (A3.out.2.2.trans ⟨hbel2.os, hbel2.tape, hbel2.output, hbel2.size, fun k hk => hbel2.block k (Nat.lt_of_lt_of_le hk A3.out.2.2.size)⟩).trans hbel3⟩
          case measure => simp [intOf]; omega
        · have e1 : i = cs.length := by omega
          subst e1
          rw [List.drop_length] at htx
          simp only [txL, List.append_nil] at htx
          have A3 : Hid (l = 40 :: txL cs ∧ Lib.BuilderAt 123 5 w.heap.size w.heap.size (.pointer (some ⟨w.heap.size, 0, none⟩)) (Lib.byteCells l) wr ∧ Below w.heap.size w wr) := ⟨htx, hbd, hbel'⟩
          have hll : l.length ≤ 1099511627776 := by rw [htx, List.length_cons]; omega
          clear htx hbd hbel'
          go_wp2_with (go_at_call 103; fail)
          refine (Builder_String_any w.heap.size w.heap.size l _ (.inr A3.out.2.1) A3.out.2.2.size).mono ?_
          rintro e w2 ⟨rfl, hb2⟩
          go_wp2
          go_ret
          refine ⟨?_, A3.out.2.2.trans hb2⟩
          rw [bytes_end, A3.out.1]
          rfl
open Classical in
noncomputable def lib_text (a1 : Cs) : Option ByteArray := if h : ∃ t : HT, t.cells = a1 ∧ t.small = true ∧ (txT t).length ≤ 1099511627776 then some ⟨(txT h.choose).toArray⟩ else none
theorem lib_text_ct {a1 : Cs} {r : ByteArray} (h : lib_text a1 = some r) : Ct prog 81 [.d (.pt a1)] ⟨[], []⟩ (.d (.str r)) ⟨[], []⟩ := by
  unfold lib_text at h
  split at h
  case isFalse => cases h
  rename_i hex
  cases h
  have hsp := hex.choose_spec
  generalize hex.choose = t at hsp
  obtain ⟨rfl, hsm, hlen⟩ := hsp
  refine Ct.lib ⟨_, func81, rfl, rfl⟩ fun w M vs hs hr => ?_
  obtain ⟨v, rfl, hv⟩ := repL_oneD hr
  exact text_calls _ t (Nat.lt_succ_self _) hsm hlen M.F v w hs.fz hv
end Go.Proofs.Try
