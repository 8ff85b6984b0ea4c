/- slices.SortFunc at fractions, by cmpFractions: their row in order. -/
import Derived.Test.YtimnfdjaochggaaAxC
import Derived.Test.YtimnfdjaochggaaSortLay
import Derived.Shelf.SlSortCmp.NoneTotal
import Derived.WalkKit
import Derived.KernelRfl
namespace Go.Proofs.Try
open Go Go.AX Go.Shelf Go.RowKit Go.Lib Go.Sort
/-- The order of two products. -/
def cmpZ (a b : Int) : Int := if a < b then -1 else if b < a then 1 else 0
set_option maxHeartbeats 1000000 in
theorem compare_calls (a b : Int) (W : World) : Calls prog 30 #[.int .i64 a, .int .i64 b] W fun e w' => e = .returned (.int .i64 (cmpZ a b)) ∧ w' = W := by
  unfold cmpZ
  go_enter func30, ntmps30
  go_wp2
  all_goals (go_ret; exact ⟨rfl, rfl⟩)
set_option maxHeartbeats 1000000 in
theorem cmpF_calls (x1 x2 y1 y2 : Int) (h1 : IntKind.i64.wrap (x1 * y2) = x1 * y2) (h2 : IntKind.i64.wrap (y1 * x2) = y1 * x2) (W : World) : Calls prog 20 #[.agg #[.int .i64 x1, .int .i64 x2], .agg #[.int .i64 y1, .int .i64 y2]] W fun e w' => e = .returned (.int .i64 (cmpZ (x1 * y2) (y1 * x2))) ∧ ∃ q os', w' = grow (W.drewN q) os' := by
  have hcon := fun a b W' => compare_calls a b W'
  generalize hc : cmpZ = c at hcon ⊢
  go_enter func20, ntmps20
  go_wp2_with (go_at_call 30; refine (hcon _ _ _).mono ?_; rintro e w' ⟨rfl, rfl⟩)
  go_ret
  exact ⟨rfl, 0, _, by rw [alloc_eq_grow, alloc_eq_grow, grow_grow]; rfl⟩
/-- A fraction that is right. -/
def frOk (n d : Int) : Bool := (decide (1 ≤ d) && decide (d ≤ 1000000)) && ((decide (-1000000 ≤ n) && decide (n ≤ 1000000)) && decide (Int.gcd n d = 1))
def Fr := { p : Int × Int // frOk p.1 p.2 = true }
instance : Inhabited Fr := ⟨⟨(0, 1), by decide⟩⟩
def Fr.enc (x : Fr) : List Value := [.int .i64 x.1.1, .int .i64 x.1.2]
def Fr.cmp (x y : Fr) : Int := cmpZ (x.1.1 * y.1.2) (y.1.1 * x.1.2)
def Fr.lt (x y : Fr) : Bool := decide (x.1.1 * y.1.2 < y.1.1 * x.1.2)
theorem frOk_in {n d : Int} (h : frOk n d = true) : (1 ≤ d ∧ d ≤ 1000000) ∧ (-1000000 ≤ n ∧ n ≤ 1000000) ∧ Int.gcd n d = 1 := by
  simp only [frOk, Bool.and_eq_true, decide_eq_true_eq] at h
  exact h
theorem Fr.mulIn (x y : Fr) : IntKind.i64.wrap (x.1.1 * y.1.2) = x.1.1 * y.1.2 := by
  obtain ⟨a1, a2, _⟩ := frOk_in x.2
  obtain ⟨b1, b2, _⟩ := frOk_in y.2
  have h1 : x.1.1 * y.1.2 ≤ 1000000 * y.1.2 := Int.mul_le_mul_of_nonneg_right a2.2 (by omega)
  have h2 : -1000000 * y.1.2 ≤ x.1.1 * y.1.2 := Int.mul_le_mul_of_nonneg_right a2.1 (by omega)
  exact wrap_in (by omega) (by omega)
theorem Fr.lt_eq (x y : Fr) : ltOf Fr.cmp x y = Fr.lt x y := by
  unfold ltOf Fr.cmp Fr.lt cmpZ
  by_cases h : x.1.1 * y.1.2 < y.1.1 * x.1.2
  · rw [if_pos h, decide_eq_true h]; rfl
  · rw [if_neg h, decide_eq_false h]
    split <;> rfl
theorem Fr.trans {x y z : Fr} (h1 : x.1.1 * y.1.2 ≤ y.1.1 * x.1.2) (h2 : y.1.1 * z.1.2 ≤ z.1.1 * y.1.2) : x.1.1 * z.1.2 ≤ z.1.1 * x.1.2 := by
  obtain ⟨a1, _, _⟩ := frOk_in x.2
  obtain ⟨b1, _, _⟩ := frOk_in y.2
  obtain ⟨c1, _, _⟩ := frOk_in z.2
  have e1 : x.1.1 * y.1.2 * z.1.2 ≤ y.1.1 * x.1.2 * z.1.2 := Int.mul_le_mul_of_nonneg_right h1 (by omega)
  have e2 : y.1.1 * z.1.2 * x.1.2 ≤ z.1.1 * y.1.2 * x.1.2 := Int.mul_le_mul_of_nonneg_right h2 (by omega)
  have e3 : x.1.1 * z.1.2 * y.1.2 ≤ z.1.1 * x.1.2 * y.1.2 := by
    have q1 : x.1.1 * z.1.2 * y.1.2 = x.1.1 * y.1.2 * z.1.2 := Int.mul_right_comm ..
    have q2 : y.1.1 * x.1.2 * z.1.2 = y.1.1 * z.1.2 * x.1.2 := Int.mul_right_comm ..
    have q3 : z.1.1 * x.1.2 * y.1.2 = z.1.1 * y.1.2 * x.1.2 := Int.mul_right_comm ..
    omega
  exact Int.le_of_mul_le_mul_right e3 (by omega)
theorem Fr.trans' {x y z : Fr} (h1 : x.1.1 * y.1.2 < y.1.1 * x.1.2) (h2 : y.1.1 * z.1.2 < z.1.1 * y.1.2) : x.1.1 * z.1.2 < z.1.1 * x.1.2 := by
  obtain ⟨a1, _, _⟩ := frOk_in x.2
  obtain ⟨b1, _, _⟩ := frOk_in y.2
  obtain ⟨c1, _, _⟩ := frOk_in z.2
  have e1 : x.1.1 * y.1.2 * z.1.2 < y.1.1 * x.1.2 * z.1.2 := Int.mul_lt_mul_of_pos_right h1 (by omega)
  have e2 : y.1.1 * z.1.2 * x.1.2 < z.1.1 * y.1.2 * x.1.2 := Int.mul_lt_mul_of_pos_right h2 (by omega)
  have e3 : x.1.1 * z.1.2 * y.1.2 < z.1.1 * x.1.2 * y.1.2 := by
    have q1 : x.1.1 * z.1.2 * y.1.2 = x.1.1 * y.1.2 * z.1.2 := Int.mul_right_comm ..
    have q2 : y.1.1 * x.1.2 * z.1.2 = y.1.1 * z.1.2 * x.1.2 := Int.mul_right_comm ..
    have q3 : z.1.1 * x.1.2 * y.1.2 = z.1.1 * y.1.2 * x.1.2 := Int.mul_right_comm ..
    omega
  exact Int.lt_of_mul_lt_mul_right e3 (by omega)
theorem Fr.swo : SWO (ltOf Fr.cmp) where
  irrefl x := by rw [Fr.lt_eq]; unfold Fr.lt; exact decide_eq_false (Int.lt_irrefl _)
  trans x y z h1 h2 := by
    rw [Fr.lt_eq] at *
    exact decide_eq_true (Fr.trans' (of_decide_eq_true h1) (of_decide_eq_true h2))
  ntrans x y z h1 h2 := by
    rw [Fr.lt_eq] at *
    have h1 := of_decide_eq_false h1
    have h2 := of_decide_eq_false h2
    have := Fr.trans (x := z) (y := y) (z := x) (by omega) (by omega)
    exact decide_eq_false (by omega)
theorem Fr.tot (x y : Fr) (h1 : ltOf Fr.cmp x y = false) (h2 : ltOf Fr.cmp y x = false) : x = y := by
  rw [Fr.lt_eq] at h1 h2
  have h1 := of_decide_eq_false h1
  have h2 := of_decide_eq_false h2
  have h : x.1.1 * y.1.2 = y.1.1 * x.1.2 := by omega
  obtain ⟨a1, a2, a3⟩ := frOk_in x.2
  obtain ⟨b1, b2, b3⟩ := frOk_in y.2
  have cop : ∀ {d n g : Int}, Int.gcd n d = 1 → d ∣ n * g → d ∣ g := by
    intro d n g h hd
    have q1 : d.natAbs ∣ n.natAbs * g.natAbs := by rw [← Int.natAbs_mul]; exact Int.natAbs_dvd_natAbs.2 hd
    have q2 : Nat.Coprime d.natAbs n.natAbs := by
      show Nat.gcd d.natAbs n.natAbs = 1
      rw [Nat.gcd_comm]; exact h
    exact Int.natAbs_dvd_natAbs.1 (q2.dvd_of_dvd_mul_left q1)
  have d1 : x.1.2 ∣ y.1.2 := cop a3 ⟨y.1.1, by rw [h, Int.mul_comm]⟩
  have d2 : y.1.2 ∣ x.1.2 := cop b3 ⟨x.1.1, by rw [← h, Int.mul_comm]⟩
  have e1 := Int.le_of_dvd (by omega) d1
  have e2 := Int.le_of_dvd (by omega) d2
  have e : x.1.2 = y.1.2 := by omega
  rw [e] at h
  have e3 := Int.eq_of_mul_eq_mul_right (by omega) h
  exact Subtype.ext (Prod.ext e3 e)
theorem Fr.lays (blk off size : Nat) (w : World) : CmpLays prog 20 #[] Fr.enc 2 Fr.cmp blk off size w :=
  fun _ _ _ _ x y => cmpF_calls _ _ _ _ (Fr.mulIn x y) (Fr.mulIn y x) _
def Fr.sort (l : List Fr) : List Fr := l.mergeSort fun x y => !Fr.lt y x
theorem sort_calls (blk off cap : Nat) (d : Array Fr) (w : World) (hH : HoldsK Fr.enc 2 w blk off d) (hblk : blk < w.heap.size) (hsz : d.size < 4611686018427387904) :
    Calls prog 19 #[.slice (some ⟨blk, off, none⟩) d.size cap, .func (.func 20) #[] #[]] w fun e w' => e = .returned (.tuple #[]) ∧ ∃ n os, w' = sortWorldK Fr.enc 2 w blk off n (Fr.sort d.toList).toArray os := by
  have eg : ∀ args w, (callFunc 20 args).run prog w = .ok (.enter 20 args) w := enters_of func20 (by kernel_rfl) rfl
  have hcon := AnyQ.slices_SortFunc_total sortF 2 isAgg32 sizeOf32 Fr.enc (fun _ => rfl) (fun x v hv => by simp [Fr.enc] at hv; rcases hv with rfl | rfl <;> rfl) Fr.cmp Fr.swo 20 #[] blk off cap d w eg (Fr.lays blk off d.size w) hH hblk hsz Fr.tot
  have e : (fun x y => !(ltOf Fr.cmp) y x) = fun x y => !Fr.lt y x := by funext x y; rw [Fr.lt_eq]
  rw [e] at hcon
  exact hcon
theorem sort_none (p : Option Addr) (cap : Nat) (fv : Value) (w : World) : Calls prog 19 #[.slice p 0 cap, fv] w fun e w' => e = .returned (.tuple #[]) ∧ w' = w :=
  AnyF.slices_SortFunc_none sortF p cap fv w
/-! ### for the executor -/
def fracsD : List (List D) → Option (List Fr)
  | [] => some []
  | [.int .i64 a, .int .i64 b] :: es => if h : frOk a b = true then (fracsD es).map (List.cons ⟨(a, b), h⟩) else none
  | _ :: _ => none
def Fr.row (x : Fr) : List D := [.int .i64 x.1.1, .int .i64 x.1.2]
theorem fracsD_rows : ∀ {es : List (List D)} {l : List Fr}, fracsD es = some l → es = l.map Fr.row
  | [], l, h => by cases h; rfl
  | e :: es, l, h => by
    unfold fracsD at h
    split at h
    · rename_i q; cases q
    · rename_i a b es' q
      injection q with q1 q2
      subst q1 q2
      split at h
      · rename_i hf
        cases hq : fracsD es with
        | none => rw [hq] at h; cases h
        | some l' =>
          rw [hq] at h
          simp only [Option.map_some, Option.some.injEq] at h
          subst h
          rw [fracsD_rows hq]
          rfl
      · cases h
    · cases h
theorem fracsD_of : ∀ l : List Fr, fracsD (l.map Fr.row) = some l
  | [] => rfl
  | x :: l => by
    show (if h : frOk x.1.1 x.1.2 = true then (fracsD (l.map Fr.row)).map (List.cons ⟨(x.1.1, x.1.2), h⟩) else none) = _
    rw [dif_pos x.2, fracsD_of l]
    rfl
theorem at2_row {l : List Fr} {i j : Nat} {x : D} (h : at2 (l.map Fr.row) i j = some x) : ∃ hi : i < l.length, j < 2 ∧ ∃ n, x = .int .i64 n ∧ (l[i].enc)[j]? = some (.int .i64 n) := by
  unfold at2 at h
  rw [List.getElem?_map] at h
  cases hq : l[i]? with
  | none => rw [hq] at h; cases h
  | some y =>
    rw [hq] at h
    obtain ⟨hi, rfl⟩ := List.getElem?_eq_some_iff.1 hq
    refine ⟨hi, ?_⟩
    simp only [Option.map_some, Option.bind_some, Fr.row] at h
    match j, h with
    | 0, h => simp only [List.getElem?_cons_zero, Option.some.injEq] at h; exact ⟨by omega, _, h.symm, rfl⟩
    | 1, h => simp only [List.getElem?_cons_succ, List.getElem?_cons_zero, Option.some.injEq] at h; exact ⟨by omega, _, h.symm, rfl⟩
    | j + 2, h => simp at h
theorem repX_int {P : Program} {w : World} {B : List Nat} {v : Value} {k : IntKind} {n : Int} (h : RepX P w B v (.int k n)) : v = .int k n := by
  generalize hd : D.int k n = d at h
  cases h <;> first | (cases hd; rfl) | cases hd
theorem sort_len (l : List Fr) : (Fr.sort l).length = l.length := List.length_mergeSort _
def lib_SortF (es : List (List D)) : Option (List (List D)) := if es.length ≤ 140737488355328 then (fracsD es).map fun l => (Fr.sort l).map Fr.row else none
theorem sort_nil : Fr.sort [] = [] := List.length_eq_zero_iff.1 (sort_len [])
theorem lib_SortF_ct {es es' : List (List D)} (h : lib_SortF es = some es') : CtS prog 19 20 es es' := by
  unfold lib_SortF at h
  split at h
  case isFalse => cases h
  rename_i hlen
  cases hq : fracsD es with
  | none => rw [hq] at h; cases h
  | some l =>
    rw [hq] at h
    simp only [Option.map_some, Option.some.injEq] at h
    subst h
    have hes := fracsD_rows hq
    subst hes
    rw [List.length_map] at hlen
    refine ⟨⟨_, func19, rfl, rfl⟩, fun w B v hX hB => ?_⟩
    rcases repX_sl hX with ⟨he, a, c, rfl⟩ | ⟨b, c, sz, cs, t, vs, Bs, rfl, hb, hc, hsz, hcs, ha, hr, hbB, hsub, hdis⟩
    · have hl : l = [] := by cases l with | nil => rfl | cons _ _ => cases he
      subst hl
      refine (sort_none a c _ w).mono ?_
      rintro e w' ⟨rfl, rfl⟩
      exact ⟨B, rfl, by rw [sort_nil]; exact hX, rfl, rfl, rfl, Nat.le_refl _, fun _ _ _ => rfl, fun b hb => ⟨.inl hb, hB b hb⟩, fun b n c' cs t _ hh => ⟨cs, hh⟩⟩
    · rw [List.length_map] at hc ⊢
      have hblk : b < w.heap.size := hB b hbB
      -- an element has two cells, if there is one
      have hsz2 : l ≠ [] → sz = 2 := by
        intro hl
        cases l with
        | nil => exact absurd rfl hl
        | cons x l => exact (hsz (Fr.row x) (List.mem_cons_self ..)).symm
      by_cases hl : l = []
      · subst hl
        refine (sort_none _ c _ w).mono ?_
        rintro e w' ⟨rfl, rfl⟩
        exact ⟨B, rfl, by rw [sort_nil]; exact hX, rfl, rfl, rfl, Nat.le_refl _, fun _ _ _ => rfl, fun b hb => ⟨.inl hb, hB b hb⟩, fun b n c' cs t _ hh => ⟨cs, hh⟩⟩
      have hs2 := hsz2 hl
      subst hs2
      have cell : ∀ k, k < l.length * 2 → cs[k]? = some ((flatK Fr.enc 2 l.toArray)[k]!) := by
        intro k hk
        have h1 : k / 2 < l.length := by omega
        have h2 : k % 2 < 2 := by omega
        rw [get_flatK _ _ _ _ (by simpa using hk)]
        have hx : (l.toArray)[k / 2]! = l[k / 2] := by simp [h1]
        rw [hx]
        have hat : at2 (l.map Fr.row) (k / 2) (k % 2) = some ((Fr.row l[k / 2])[k % 2]'(by simpa [Fr.row] using h2)) := by
          unfold at2
          rw [List.getElem?_map, List.getElem?_eq_getElem h1, Option.map_some, Option.bind_some, List.getElem?_eq_getElem]
        have q1 := ha _ _ _ hat
        have q2 := hr _ _ _ hat
        rw [show k / 2 * 2 + k % 2 = k by omega] at q1
        rw [q1]
        congr 1
        have : k % 2 = 0 ∨ k % 2 = 1 := by omega
        rcases this with e | e
        · simp only [e, Fr.row, List.getElem_cons_zero] at q2
          rw [e, repX_int q2]; rfl
        · simp only [e, Fr.row, List.getElem_cons_succ, List.getElem_cons_zero] at q2
          rw [e, repX_int q2]; rfl
      have hH : HoldsK Fr.enc 2 w b 0 l.toArray := by
        intro k hk
        rw [size_flatK, List.size_toArray] at hk
        have hc1 := cell k hk
        rw [Nat.zero_add]
        refine ⟨?_, ?_⟩
        · unfold World.cell?
          simp only [hb, Option.bind_some]
          exact hc1
        · unfold World.frozen?
          simp only [hb]
          simp
      have hsz' : l.toArray.size < 4611686018427387904 := by rw [List.size_toArray]; omega
      have hcall := sort_calls b 0 c l.toArray w hH hblk hsz'
      rw [List.size_toArray] at hcall
      refine hcall.mono ?_
      rintro e w' ⟨rfl, n, os, rfl⟩
      have hbl : (sortWorldK Fr.enc 2 w b 0 n (Fr.sort l).toArray os).heap[b]? = some (.cells (putCells id 0 (flatK Fr.enc 2 (Fr.sort l).toArray) cs) t (0, 0)) := by
        unfold sortWorldK putRowK putRow mapBlock grow Sort.ahead
        simp only
        rw [Array.getElem?_append_left (by simpa using hblk), Array.getElem?_modify, if_pos rfl, hb]
        rfl
      have hother : ∀ b', b' < w.heap.size → b' ≠ b → (sortWorldK Fr.enc 2 w b 0 n (Fr.sort l).toArray os).heap[b']? = w.heap[b']? := by
        intro b' h1 h2
        unfold sortWorldK putRowK putRow mapBlock grow Sort.ahead
        simp only
        rw [Array.getElem?_append_left (by simpa using h1), Array.getElem?_modify, if_neg (fun q => h2 q.symm)]
      have hsize : w.heap.size ≤ (sortWorldK Fr.enc 2 w b 0 n (Fr.sort l).toArray os).heap.size := by
        unfold sortWorldK putRowK putRow mapBlock grow Sort.ahead
        simp
      have hl2 := sort_len l
      refine ⟨B, rfl, ?_, rfl, rfl, rfl, hsize, fun b' h1 h2 => hother b' h1 (fun q => h2 (q ▸ hbB)), fun b' hb' => ⟨.inl hb', Nat.lt_of_lt_of_le (hB b' hb') hsize⟩, ?_⟩
      · have := RepX.sl (P := prog) (w := sortWorldK Fr.enc 2 w b 0 n (Fr.sort l).toArray os) b c 2 ((Fr.sort l).map Fr.row) _ t (fun i j => (((Fr.sort l)[i]?.map Fr.enc).bind (·[j]?)).getD default) (fun _ _ => []) hbl (by rw [List.length_map, hl2]; exact hc)
          (fun e he => by obtain ⟨x, _, rfl⟩ := List.mem_map.1 he; rfl) ⟨hcs.1, by simpa [putCells] using hcs.2.1, hcs.2.2⟩
          (fun i j x hx => by
            obtain ⟨hi, hj, m, rfl, hm⟩ := at2_row hx
            have hk : i * 2 + j < l.length * 2 := by omega
            have hk2 : i * 2 + j < cs.size := by rw [hcs.2.1]; omega
            unfold putCells
            rw [Array.getElem?_mapIdx, Array.getElem?_eq_getElem hk2, Option.map_some, if_pos ⟨by omega, by rw [size_flatK, List.size_toArray]; omega⟩, Nat.sub_zero, get_flatK _ _ _ _ (by rw [List.size_toArray]; omega)]
            have e1 : (i * 2 + j) / 2 = i := by omega
            have e2 : (i * 2 + j) % 2 = j := by omega
            rw [e1, e2, List.getElem?_eq_getElem hi]
            simp only [Option.map_some, Option.bind_some, hm, Option.getD_some, id]
            have e3 : ((Fr.sort l).toArray)[i]! = (Fr.sort l)[i] := by simp [hi]
            rw [e3, getElem!_def, hm])
          (fun i j x hx => by
            obtain ⟨hi, hj, m, rfl, hm⟩ := at2_row hx
            show RepX prog _ [] _ _
            rw [List.getElem?_eq_getElem hi]
            simp only [Option.map_some, Option.bind_some, hm, Option.getD_some]
            exact .int _ _)
          B hbB (fun _ _ _ _ _ h => by cases h) (fun _ _ _ _ _ _ _ _ _ _ h => by cases h)
        rw [List.length_map, hl2] at this
        exact this
      · intro b' n' c' cs' t' hv hh
        simp only [Value.slice.injEq, Option.some.injEq, Addr.mk.injEq, and_true] at hv
        obtain ⟨h1, _, _⟩ := hv
        subst h1
        rw [hb] at hh
        simp only [Option.some.injEq, Obj.cells.injEq] at hh
        obtain ⟨_, rfl, _⟩ := hh
        exact ⟨_, hbl⟩
end Go.Proofs.Try
