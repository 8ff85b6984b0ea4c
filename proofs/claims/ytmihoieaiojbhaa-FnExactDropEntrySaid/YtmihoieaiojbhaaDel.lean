/- slices.Delete of one element of two cells. -/
import Derived.Test.YtmihoieaiojbhaaAxC
import Derived.Test.YtmihoieaiojbhaaProg
import Derived.Shelf.RegionOpenPlain
import Derived.WalkKit
import Derived.Deep.LoopGhost
import Derived.Deep.RegionLaw
import Derived.Deep.Upon
import Derived.Lib.Walk
import Derived.Lib.SliceRun
import Derived.Lib.LazyBuf
import Derived.KernelRfl
namespace Go.Proofs.Try
open Go Go.AX Go.RowKit Go.Shelf Go.Lib
set_option maxHeartbeats 4000000 in
set_option maxRecDepth 1000000 in
theorem del_walk (b c n i j : Nat) (w : World) (news : List Value) (hnc : n ≤ c) (hm : c ≤ 9223372036854775807) (hlt : i < j) (hj : j ≤ n) (hl : Hid (news.length = (n - j) * 2))
    (A : Addr) (hA : (if c = j then (some ⟨b, 0, none⟩ : Option Addr) else some ⟨b, j * 2, none⟩) = some A) (hsrc : Hid (∀ t u, news[t]? = some u → w.drew.cell? (A.add t) = some u)) (h1 : Hid (∀ u ∈ news, u.oneCell' = true))
    (hr : Hid (∀ t, t < news.length → (w.drew.cell? ⟨b, 0 + i * 2 + t, none⟩).isSome = true ∧ w.drew.frozen? ⟨b, 0 + i * 2 + t, none⟩ = false))
    (W1 : World) (hW : Hid (W1 = w.drew.setCells b (0 + i * 2) news)) (vs : List Value)
    (hcl : ∀ ty, (Builtin.clear_ #[69] ty #[.slice (some ⟨b, (i + (n - j)) * 2, none⟩) (n - (i + (n - j))) (c - (i + (n - j)))]).run prog W1 = .ok (.tuple #[]) (W1.setCells b ((i + (n - j)) * 2) vs)) :
    Calls prog 97 #[.slice (some ⟨b, 0, none⟩) n c, .int .i64 i, .int .i64 j] w fun e w' => e = .returned (.slice (some ⟨b, 0, none⟩) (i + (n - j)) c) ∧ w' = W1.setCells b ((i + (n - j)) * 2) vs := by
  have mixed : prog.follows .mixedOrders = true := by kernel_rfl
  have t22 : prog.underlying 69 = some (.slice 132) := by kernel_rfl
  obtain ⟨i0, hi0, hz1⟩ : ∃ i0, prog.info? 132 = some i0 ∧ i0.size = 2 := by
    have h : (prog.info? 132).map (·.size) = some 2 := by kernel_rfl
    cases e : prog.info? 132 with
    | none => rw [e] at h; cases h
    | some i0 => rw [e] at h; exact ⟨i0, rfl, Option.some.inj h⟩
  have hic : i ≤ c := by omega
  have hjc : j ≤ c := by omega
  go_enter func97, ntmps97
  go_wp2_with fail
  go_region_law_o (refine step_append_room rfl (.tmp 22) (.tmp 25) 69 rfl 132 i0 2 t22 hi0 hz1 b 0 i c (by simp [Act.eval, Act.put]) A (n - j) (c - j) news (by simp [Act.eval, Act.put]) hl.out hsrc.out h1.out (by omega) hr.out ?_; rw [← hW.out])
  go_wp2
  go_ret
  exact ⟨rfl, rfl⟩
theorem tape_setCells (b : Nat) : ∀ (vs : List Value) (o : Nat) (w : World), (w.setCells b o vs).tape = w.tape ∧ (w.setCells b o vs).heap.size = w.heap.size
  | [], _, _ => ⟨rfl, rfl⟩
  | v :: r, o, w => by
    have := tape_setCells b r (o + 1) (w.setCell ⟨b, o, none⟩ v)
    rw [World.setCells]
    refine ⟨this.1.trans rfl, this.2.trans ?_⟩
    simp [World.setCell]
theorem repX_one {w : World} {B : List Nat} {v : Value} {x : D} (h : RepX prog w B v x) : v.oneCell' = true := by
  cases h <;> rfl
theorem clear_two (b o c : Nat) (w : World) (ty : TypeId) (hc : ∀ j, j < 2 → (w.cell? ⟨b, o + j, none⟩).isSome = true) (hf : ∀ j, j < 2 → w.frozen? ⟨b, o + j, none⟩ = false) :
    (Builtin.clear_ #[69] ty #[.slice (some ⟨b, o, none⟩) 1 c]).run prog w = .ok (.tuple #[]) (w.setCells b o [.string (ByteArray.mk #[]), .slice none 0 0]) := by
  have ht : prog.underlying 69 = some (.slice 132) := by kernel_rfl
  have hz : ∀ w, (zeroValue 132).run prog w = .ok (.agg #[.string (ByteArray.mk #[]), .slice none 0 0]) w := by
    intro w
    kernel_rfl
  have hst := run_storeCells_cells (P := prog) b o [.string (ByteArray.mk #[]), .slice none 0 0] 0 w (by simpa using hc) (by simpa using hf) (by intro v hv; simp only [List.mem_cons, List.not_mem_nil, or_false] at hv; rcases hv with rfl | rfl <;> rfl)
  simp only [Nat.add_zero] at hst
  have hzc : (Builtin.zeroCells (Value.agg #[.string (ByteArray.mk #[]), .slice none 0 0]).cells 1).toList = [.string (ByteArray.mk #[]), .slice none 0 0] := by simp [Builtin.zeroCells, Value.cells, List.range_succ]
  simp [Builtin.clear_, run_underlying ht, hz, hzc, hst]
/-- A row without one of its elements. -/
def lib_Delete (es : Rw) (i j : Int) : Option Rw := if (0 ≤ i ∧ i < es.length) ∧ (j = i + 1 ∧ es.all (fun cs => cs.length == 2) = true) then some (es.eraseIdx i.toNat) else none
theorem at2_erase {es : List (List D)} {k i j : Nat} : at2 (es.eraseIdx k) i j = at2 es (if i < k then i else i + 1) j := by
  unfold at2
  rw [List.getElem?_eraseIdx]
  split <;> rfl
set_option maxRecDepth 100000 in
theorem lib_Delete_ct {es es' : Rw} {i j : Int} (h : lib_Delete es i j = some es') : CtD prog 97 [.int .i64 i, .int .i64 j] es es' := by
  unfold lib_Delete at h
  split at h
  case isFalse => cases h
  rename_i hg
  obtain ⟨⟨h0, h1⟩, rfl, hall⟩ := hg
  cases h
  obtain ⟨k, rfl⟩ : ∃ k : Nat, i = k := ⟨i.toNat, by omega⟩
  rw [Int.toNat_natCast]
  have hk : k < es.length := by omega
  have hne : es ≠ [] := by rintro rfl; simp at hk
  refine ⟨⟨_, func97, rfl, rfl⟩, ⟨rfl, hne⟩, fun w B v vs hX hB hvs => ?_⟩
  have hvs' : vs = [.int .i64 (k : Int), .int .i64 ((k + 1 : Nat) : Int)] := by
    cases vs with
    | nil => simp [RepL] at hvs
    | cons a vs =>
    cases vs with
    | nil => simp [RepL] at hvs
    | cons b vs =>
    cases vs with
    | cons _ _ => simp [RepL] at hvs
    | nil =>
      simp only [List.map_cons, List.map_nil, RepL, RepA, and_true] at hvs
      rw [rep_int hvs.1, rep_int hvs.2]
      congr 2
  subst hvs'
  rcases repX_sl hX with ⟨he, _⟩ | ⟨b, c, sz, cs, t, us, Bs, rfl, hb, hc, hsz, hcs, ha, hr, hbB, hsub, hdis⟩
  · exact absurd he hne
  have hs2 : sz = 2 := by
    cases es with
    | nil => exact absurd rfl hne
    | cons e0 es =>
      have q1 := hsz e0 List.mem_cons_self
      have q2 := List.all_eq_true.1 hall e0 List.mem_cons_self
      rw [← q1]
      exact eq_of_beq q2
  subst hs2
  have hblk : b < w.heap.size := hB b hbB
  have hmax : c ≤ 9223372036854775807 := hcs.2.2
  have hrow : w.rowIs b t (c * 2) (fun o => cs[o]?.getD default) := ⟨cs, hb, hcs.2.1, fun o ho => by
    show cs[o]? = some (cs[o]?.getD default)
    rw [Array.getElem?_eq_getElem (by rw [hcs.2.1]; exact ho)]; rfl⟩
  have hrow' : w.drew.rowIs b t (c * 2) (fun o => cs[o]?.getD default) := hrow
  have cell1 : ∀ o, o < es.length * 2 → ∃ x u, at2 es (o / 2) (o % 2) = some x ∧ cs[o]? = some u ∧ u = us (o / 2) (o % 2) ∧ RepX prog w (Bs (o / 2) (o % 2)) u x := by
    intro o ho
    obtain ⟨x, hx⟩ := at2_some (es := es) (i := o / 2) (j := o % 2) (sz := 2) (by omega) (by omega) hsz
    have q1 := ha _ _ _ hx
    rw [show o / 2 * 2 + o % 2 = o by omega] at q1
    exact ⟨x, _, hx, q1, rfl, hr _ _ _ hx⟩
  have frz : ∀ (W : World) (f : Nat → Value) (o : Nat), W.rowIs b t (c * 2) f → W.frozen? ⟨b, o, none⟩ = false := by
    rintro W f o ⟨cs', hb', _⟩
    unfold World.frozen?
    simp only [hb']
    simp
  have isS : ∀ (W : World) (f : Nat → Value) (o : Nat), W.rowIs b t (c * 2) f → o < c * 2 → (W.cell? ⟨b, o, none⟩).isSome = true := fun W f o hW ho => by rw [hW.cell ho]; rfl
  obtain ⟨news, hnews⟩ : ∃ news, news = (List.range ((es.length - (k + 1)) * 2)).map fun o => cs[(k + 1) * 2 + o]?.getD default := ⟨_, rfl⟩
  have hlen : news.length = (es.length - (k + 1)) * 2 := by rw [hnews]; simp
  have hget : ∀ o u, news[o]? = some u → o < (es.length - (k + 1)) * 2 ∧ u = cs[(k + 1) * 2 + o]?.getD default := by
    intro o u hu
    have ho := (List.getElem?_eq_some_iff.1 hu).1
    rw [hlen] at ho
    rw [hnews, List.getElem?_map, List.getElem?_range ho] at hu
    exact ⟨ho, (Option.some.inj hu).symm⟩
  obtain ⟨A, hA, hsrc⟩ : ∃ A : Addr, (if c = k + 1 then (some ⟨b, 0, none⟩ : Option Addr) else some ⟨b, (k + 1) * 2, none⟩) = some A ∧ Hid (∀ o u, news[o]? = some u → w.drew.cell? (A.add o) = some u) := by
    by_cases h : c = k + 1
    · refine ⟨⟨b, 0, none⟩, by simp [h], fun o u hu => ?_⟩
      have := (hget o u hu).1
      omega
    · refine ⟨⟨b, (k + 1) * 2, none⟩, by simp [h], fun o u hu => ?_⟩
      obtain ⟨ho, rfl⟩ := hget o u hu
      rw [Addr.add_lit]
      exact hrow'.cell (by omega)
  have s2 : Hid (∀ u ∈ news, u.oneCell' = true) := by
    intro u hu
    obtain ⟨o, ho⟩ := List.getElem?_of_mem hu
    obtain ⟨ho', rfl⟩ := hget o u ho
    obtain ⟨x, u', _, q2, _, q4⟩ := cell1 ((k + 1) * 2 + o) (by omega)
    rw [q2]
    exact repX_one q4
  have s3 : Hid (∀ o, o < news.length → (w.drew.cell? ⟨b, 0 + k * 2 + o, none⟩).isSome = true ∧ w.drew.frozen? ⟨b, 0 + k * 2 + o, none⟩ = false) := fun o ho => ⟨isS _ _ _ hrow' (by rw [hlen] at ho; omega), frz _ _ _ hrow'⟩
  obtain ⟨W1, hW1⟩ : ∃ W1, W1 = w.drew.setCells b (0 + k * 2) news := ⟨_, rfl⟩
  have hrow1 := rowIs_setCells news (0 + k * 2) _ _ hrow'
  rw [← hW1] at hrow1
  have en : k + (es.length - (k + 1)) = es.length - 1 := by omega
  have hcl : ∀ ty, (Builtin.clear_ #[69] ty #[.slice (some ⟨b, (k + (es.length - (k + 1))) * 2, none⟩) (es.length - (k + (es.length - (k + 1)))) (c - (k + (es.length - (k + 1))))]).run prog W1 = .ok (.tuple #[]) (W1.setCells b ((k + (es.length - (k + 1))) * 2) [.string (ByteArray.mk #[]), .slice none 0 0]) := by
    intro ty
    rw [show es.length - (k + (es.length - (k + 1))) = 1 by omega]
    exact clear_two b _ _ W1 ty (fun j hj => isS _ _ _ hrow1 (by omega)) (fun j hj => frz _ _ _ hrow1)
  refine (del_walk b c es.length k (k + 1) w news hc hmax (by omega) (by omega) hlen A hA hsrc s2 s3 W1 hW1 _ hcl).mono ?_
  rintro e w' ⟨rfl, rfl⟩
  rw [en]
  obtain ⟨W2, hW2⟩ : ∃ W2, W2 = W1.setCells b ((es.length - 1) * 2) [.string (ByteArray.mk #[]), .slice none 0 0] := ⟨_, rfl⟩
  have hrow2 := rowIs_setCells [.string (ByteArray.mk #[]), .slice none 0 0] ((es.length - 1) * 2) _ _ hrow1
  rw [← hW2] at hrow2 ⊢
  have t1 := tape_setCells b news (0 + k * 2) w.drew
  have t2 := tape_setCells b [.string (ByteArray.mk #[]), .slice none 0 0] ((es.length - 1) * 2) W1
  rw [← hW1] at t1
  rw [← hW2] at t2
  have hsize : W2.heap.size = w.heap.size := t2.2.trans (t1.2.trans rfl)
  have hother : ∀ b', b' < w.heap.size → b' ≠ b → W2.heap[b']? = w.heap[b']? := by
    intro b' q1 q2
    rw [hW2, World.heap_setCells_other _ _ _ _ (by rw [t1.2]; exact q1) q2, hW1]
    exact World.heap_setCells_other w.drew _ _ _ q1 q2
  obtain ⟨cs2, hb2, hcs2, hf2⟩ := hrow2
  refine ⟨_, B, rfl, ⟨_, _, _, _, rfl, rfl⟩, ?_, ⟨?_, ?_, ?_, by rw [hsize]; exact Nat.le_refl _, fun b' q1 q2 => hother b' q1 (fun q => q2 (q ▸ hbB)), fun b' hb' => ⟨.inl hb', by rw [hsize]; exact hB b' hb'⟩, ?_⟩, ?_⟩
  · -- the rows
    have hlen' : (es.eraseIdx k).length = es.length - 1 := by rw [List.length_eraseIdx, if_pos hk]
    have := RepX.sl (P := prog) (w := W2) b c 2 (es.eraseIdx k) cs2 t (fun i j => us (if i < k then i else i + 1) j) (fun i j => Bs (if i < k then i else i + 1) j) hb2 (by rw [hlen']; omega) (fun e he => hsz e (List.mem_of_mem_eraseIdx he)) ⟨hcs.1, hcs2, hcs.2.2⟩
      (fun i j x hx => by
        rw [at2_erase] at hx
        have hij := at2_lt hx hsz
        have q := ha _ _ _ hx
        have hlt : i * 2 + j < c * 2 := by
          have := hij.1
          split at this <;> omega
        rw [hf2 _ hlt]
        have e1 : ¬ ((es.length - 1) * 2 ≤ i * 2 + j ∧ i * 2 + j < (es.length - 1) * 2 + 2) := by
          have := hij.1
          split at this <;> omega
        simp only [List.length_cons, List.length_nil, Nat.zero_add, Nat.reduceAdd]
        rw [if_neg e1, hlen]
        by_cases g : i < k
        · rw [if_neg (by omega)]
          rw [if_pos g] at q ⊢
          rw [q]; rfl
        · rw [if_pos (by have := hij.1; rw [if_neg g] at this; omega)]
          rw [if_neg g] at q ⊢
          have hij1 := hij.1
          rw [if_neg g] at hij1
          rw [hnews, List.getElem?_map, List.getElem?_range (by omega), Option.map_some, show (k + 1) * 2 + (i * 2 + j - k * 2) = (i + 1) * 2 + j by omega, q]
          rfl)
      (fun i j x hx => by
        rw [at2_erase] at hx
        exact RepX.mono (hr _ _ _ hx) fun b' hb' => hother b' (hB b' (hsub _ _ _ hx b' hb').1) (hsub _ _ _ hx b' hb').2)
      B hbB (fun i j x hx => by rw [at2_erase] at hx; exact hsub _ _ _ hx)
      (fun i j x i' j' x' hx hx' hd => by
        rw [at2_erase] at hx hx'
        refine hdis _ _ _ _ _ _ hx hx' ?_
        rcases hd with hd | hd
        · left
          split <;> split <;> omega
        · exact .inr hd)
    rw [hlen'] at this
    exact this
  · rw [hW2, World.os_setCells, hW1, World.os_setCells]; rfl
  · exact t2.1.trans (t1.1.trans rfl)
  · rw [hW2, World.output_setCells, hW1, World.output_setCells]; rfl
  · intro b' n' c' cs' t' hv hh
    simp only [Value.slice.injEq, Option.some.injEq, Addr.mk.injEq, and_true] at hv
    obtain ⟨q1, _, _⟩ := hv
    subst q1
    rw [hb] at hh
    simp only [Option.some.injEq, Obj.cells.injEq] at hh
    obtain ⟨_, rfl, _⟩ := hh
    exact ⟨_, hb2⟩
  · intro b' n' c' cs' t' hv hh
    simp only [Value.slice.injEq, Option.some.injEq, Addr.mk.injEq, and_true] at hv
    obtain ⟨q1, _, _⟩ := hv
    subst q1
    rw [hb] at hh
    simp only [Option.some.injEq, Obj.cells.injEq] at hh
    obtain ⟨rfl, rfl, _⟩ := hh
    exact ⟨_, hb2, by rw [hcs2]; exact hcs.2.1.symm⟩
end Go.Proofs.Try
