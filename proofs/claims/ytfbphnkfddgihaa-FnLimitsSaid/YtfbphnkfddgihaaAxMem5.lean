/- New rows: literals, make, append. -/
import Derived.Test.YtfbphnkfddgihaaAxMem4
namespace Go.AX
section
variable {P : Program} {w w' : World} {M : Mu} {t : Nat → A} {h : Heap} {tm : Array Value}

theorem NoRef.of_D {own1 : Nat → List Nat} {h1 : Heap} {s : Nat} (hn : NoRef s t h) (D : ∀ id, (own1 id = M.own id ∧ h1 id = h id) ∨ (own1 id = [] ∧ h1 id = .dead)) : NoRef s t h1 :=
  ⟨hn.1, fun k => by
    rcases D k with ⟨_, q⟩ | ⟨_, q⟩
    · rw [q]; exact hn.2 k
    · rw [q]; simp [refsO]⟩
theorem own_nil_of_D {own1 : Nat → List Nat} {h1 : Heap} {s : Nat} (hs : M.own s = []) (D : ∀ id, (own1 id = M.own id ∧ h1 id = h id) ∨ (own1 id = [] ∧ h1 id = .dead)) : own1 s = [] := by
  rcases D s with ⟨q, _⟩ | ⟨q, _⟩
  · rw [q, hs]
  · exact q

theorem slice_lit (hs : Sim P w M t h tm) {s : Nat} (hown : M.own s = []) (hn : NoRef s t h) {e : TypeId} {parts : List (Nat × A)} {ps : Array (Nat × Value)} (hp : RepP w M parts ps.toList) {es : List (List D)} {own : Bool} {h1 : Heap}
    (hk : litA h (szT P e) parts = some (es, own, h1)) (hz : ∃ z, zeroT P e = some z) {ty : TypeId} (he : elT P ty = some e) (hsz : szT P e ≠ 0) (hbig : parts.length * szT P e ≤ 16777216) {n : Nat} (hlen : es.length = n) :
    ∃ z w' M', (Instr.buildSlice ty n ps).run P w = .ok z w' ∧ Sim P w' M' t (upd h1 s (.arr e own es)) tm ∧ RepA w' M' (.os s es.length) z ∧ Step w M w' M' ∧ ∀ k, k ≠ s → M'.m k = M.m k := by
  unfold litA at hk
  split at hk
  · rename_i l hl
    split at hk
    · rename_i xs o h1' hsk
      simp only [Option.some.injEq, Prod.mk.injEq] at hk
      obtain ⟨rfl, rfl, rfl⟩ := hk
      have hpl : parts.length = n := by rw [← hlen]; simp [chunk]
      obtain ⟨v, hv, hr⟩ := zeroT_run (P := P) (w := w) (M := M) hz.choose_spec
      let cs0 : Array Value := (Array.range (n * szT P e)).map (fun i => (if n * szT P e = 0 then #[] else v.cells)[i % (if n * szT P e = 0 then #[] else v.cells).size]!)
      obtain ⟨cs', us, hf, hc', hL, hul⟩ := fill_lit (w := w) (M := M) parts (k := 0) (cs := cs0) hl hp (by simp [cs0, hpl])
      obtain ⟨own1, Bl, s1, l1, n1, n2, R1, E1, O1, D1⟩ := sink_sound l hs hL hsk
      have hxl : xs.length = parts.length * szT P e := by rw [n2, hul]
      have hcs' : cs' = us.toArray := by
        apply Array.toList_inj.1
        rw [hc']; simp
      subst hcs'
      obtain ⟨k1, k2⟩ := s1.alloc (.cells us.toArray e)
      have hch := chunk_len hxl
      have l2 : Limbo (w.alloc (.cells us.toArray e)) ⟨M.m, own1, M.F⟩ (w.heap.size :: Bl.flatten) := by
        intro b hb
        rcases List.mem_cons.1 hb with rfl | hb
        · exact k2 _ (by simp)
        · exact ⟨by rw [alloc_size]; have := (l1 b hb).1; omega, (l1 b hb).2⟩
      have k3 := k1.setArr (s := s) (g := w.heap.size) (c := n) (own_nil_of_D hown D1) (.inl (hn.of_D D1)) l2 (fun hb => absurd (l1 _ hb).1 (Nat.lt_irrefl _)) (e := e) (own := o) (es := chunk parts.length (szT P e) xs) (cur := us.toArray)
        (vs := fun i j => us.getD (i * szT P e + j) undef) (Bs := fun i j => Bl.getD (i * szT P e + j) [])
        (by rw [hch.1]; omega) (by
          have : parts.length ≤ parts.length * szT P e := Nat.le_mul_of_pos_right _ (by omega)
          simp only [maxLen]; omega) hch.2 alloc_new (by simp [hul, hpl])
        (by
          intro i j x hx
          obtain ⟨hi, hj, hx'⟩ := at2_chunk hx
          have hlt : i * szT P e + j < xs.length := (List.getElem?_eq_some_iff.1 hx').1
          have hu : us[i * szT P e + j]? = some (us.getD (i * szT P e + j) undef) := by
            rw [List.getElem?_eq_getElem (by omega), List.getD_eq_getElem?_getD, List.getElem?_eq_getElem (by omega)]; rfl
          have hB : Bl[i * szT P e + j]? = some (Bl.getD (i * szT P e + j) []) := by
            rw [List.getElem?_eq_getElem (by omega), List.getD_eq_getElem?_getD, List.getElem?_eq_getElem (by omega)]; rfl
          obtain ⟨r1, r2⟩ := R1 _ _ _ _ hx' hu hB
          have hBm : ∀ b ∈ Bl.getD (i * szT P e + j) [], b ∈ Bl.flatten := fun b hb => List.mem_flatten.2 ⟨_, List.mem_of_getElem? hB, hb⟩
          refine ⟨by rw [List.getElem?_toArray]; exact hu, r1.mono fun b hb => ⟨hb.imp (fun q => q) (hBm b), alloc_old ?_⟩, fun hq => ⟨(r2 hq).mono fun b hb => alloc_old (l1 b (hBm b hb)).1, hBm⟩⟩
          rcases hb with hb | hb
          · exact hs.fz b hb
          · exact (l1 b (hBm b hb)).1)
        (by
          intro _ i j x i' j' x' hx hx' hne b hb hb'
          obtain ⟨hi, hj, hx⟩ := at2_chunk hx
          obtain ⟨hi', hj', hx'⟩ := at2_chunk hx'
          have hlt : i * szT P e + j < Bl.length := by rw [n1]; exact (List.getElem?_eq_some_iff.1 hx).1
          have hlt' : i' * szT P e + j' < Bl.length := by rw [n1]; exact (List.getElem?_eq_some_iff.1 hx').1
          rw [List.getD_eq_getElem?_getD, List.getElem?_eq_getElem hlt] at hb
          rw [List.getD_eq_getElem?_getD, List.getElem?_eq_getElem hlt'] at hb'
          refine E1 _ _ _ _ ?_ (List.getElem?_eq_getElem hlt) (List.getElem?_eq_getElem hlt') b hb hb'
          intro heq
          rcases Nat.lt_trichotomy i i' with q | q | q
          · have : (i + 1) * szT P e ≤ i' * szT P e := Nat.mul_le_mul_right _ q
            rw [Nat.succ_mul] at this; omega
          · subst q; omega
          · have : (i' + 1) * szT P e ≤ i * szT P e := Nat.mul_le_mul_right _ q
            rw [Nat.succ_mul] at this; omega)
      refine ⟨.slice (some ⟨w.heap.size, 0, none⟩) n n, _, _, ?_, k3, ?_, ?_, fun k hk => ?_⟩
      · unfold Instr.buildSlice
        simp only [Sem.run_bind, run_underlying (elT_und he), Result.andThen_ok, run_sz hsz]
        rw [hpl] at hbig
        rw [if_neg (by omega)]
        by_cases h0 : n * szT P e = 0
        · simp only [cs0, h0, if_true] at hf
          simp only [h0, if_true, Sem.run_bind, Sem.run_pure, Result.andThen_ok, hf]
          rfl
        · simp only [cs0, h0, if_false] at hf
          simp only [h0, if_false, Sem.run_bind, hv, Result.andThen_ok, Sem.run_pure, hf]
          rfl
      · simp only [RepA, arrMu_m, upd_same]
        rw [hlen]
        exact ⟨Nat.le_refl _, rfl⟩
      · refine ⟨rfl, rfl, rfl, by rw [alloc_size]; omega, fun b hb _ => alloc_old hb, fun b hb => arrMu_F1 (M := ⟨M.m, own1, M.F⟩) _ _ _ _ _ b hb, fun b hb => ?_, fun k b hb => ?_⟩
        · rcases arrMu_F2 _ _ _ _ _ b hb with q | q
          · exact .inl q
          · exact .inr (.inl (O1 b q))
        · rcases arrMu_own _ _ _ _ _ k b hb with q | rfl | q
          · exact .inl ⟨k, own_of_D D1 q⟩
          · exact .inr (Nat.le_refl _)
          · exact .inl (O1 b q)
      · rw [arrMu_m]; exact upd_ne _ _ hk
    · cases hk
  · cases hk

theorem make_lit (hs : Sim P w M t h tm) {s : Nat} (hown : M.own s = []) (hn : NoRef s t h) {e ty : TypeId} {z : List A} {zs : List D} {h0 : Heap} (hz : zeroT P e = some z) (hk : sink (fun _ => .gone) z = some (zs, true, h0)) (he : elT P ty = some e)
    (hsz : szT P e ≠ 0) (hzl : zs.length = szT P e) {l : Int} (hl0 : 0 ≤ l) (hl63 : l ≤ 9223372036854775807) (hb : l * bytesT P e ≤ 140737488355328) :
    ∃ v w' M', (Instr.makeSlice ty (.int .i64 l) (.int .i64 l)).run P w = .ok v w' ∧ Sim P w' M' t (upd h s (.arr e true (List.replicate l.toNat zs))) tm ∧ RepA w' M' (.os s l.toNat) v ∧ Step w M w' M' ∧ ∀ k, k ≠ s → M'.m k = M.m k := by
  obtain ⟨v, hv, hr⟩ := zeroT_run (P := P) (w := w) (M := ⟨fun _ => none, fun _ => [], fun _ => False⟩) hz
  have s0 : Sim P w ⟨fun _ => none, fun _ => [], fun _ => False⟩ (fun _ => .junk) (fun _ => .gone) #[] :=
    ⟨fun i => by simp [RepA], fun id => by simp [SimO], fun i j _ b hb => by simp at hb, fun i b hb => by simp at hb, fun b hb => hb.elim⟩
  obtain ⟨own1, Bl, s1, l1, n1, n2, R1, E1, O1, D1⟩ := sink_sound z s0 hr hk
  have hB0 : ∀ (k : Nat) (B : List Nat), Bl[k]? = some B → B = [] := by
    intro k B hB
    rcases B with _ | ⟨b, B⟩
    · rfl
    · obtain ⟨id, hid⟩ := O1 b (List.mem_flatten.2 ⟨_, List.mem_of_getElem? hB, by simp⟩)
      simp at hid
  obtain ⟨i, hi, hie⟩ := szT_info hsz
  have hiz : i.zero = some v := by
    simp only [zeroValue, typeInfo, Sem.run_bind, run_program, Result.andThen_ok, hi, Sem.run_pure] at hv
    cases hq : i.zero with
    | none => rw [hq] at hv; simp [unsupported] at hv
    | some v' => rw [hq] at hv; simp at hv; rw [hv]
  have hvs : v.cells.size = szT P e := by rw [← hzl, n2]; simp
  have hbi : i.bytes = bytesT P e := by simp [bytesT, Program.bytesOf, hi]
  have hlt : l.toNat * szT P e = (madeCells v.cells (l.toNat * szT P e)).size := by rw [size_madeCells]
  have hcell : ∀ i' j, i' < l.toNat → j < szT P e → (madeCells v.cells (l.toNat * szT P e))[i' * szT P e + j]? = v.cells[j]? := by
    intro i' j hi' hj
    have hlt' : i' * szT P e + j < l.toNat * szT P e := by
      have : (i' + 1) * szT P e ≤ l.toNat * szT P e := Nat.mul_le_mul_right _ hi'
      rw [Nat.succ_mul] at this; omega
    have hmod : (i' * szT P e + j) % v.cells.size = j := by
      rw [hvs, Nat.add_comm, Nat.add_mul_mod_self_right, Nat.mod_eq_of_lt hj]
    unfold madeCells
    rw [Array.getElem?_map, Array.getElem?_range, if_pos hlt']
    simp only [Option.map_some, hmod]
    rw [getElem!_pos _ _ (by omega), Array.getElem?_eq_getElem (by omega)]
  have hrep : ∀ i' j x, at2 (List.replicate l.toNat zs) i' j = some x → i' < l.toNat ∧ j < szT P e ∧ zs[j]? = some x := by
    intro i' j x hx
    unfold at2 at hx
    rw [List.getElem?_replicate] at hx
    by_cases hq : i' < l.toNat
    · rw [if_pos hq] at hx
      simp only [Option.bind_some] at hx
      exact ⟨hq, by rw [← hzl]; exact (List.getElem?_eq_some_iff.1 hx).1, hx⟩
    · rw [if_neg hq] at hx; simp at hx
  obtain ⟨k1, k2⟩ := hs.alloc (.cells (madeCells v.cells (l.toNat * szT P e)) e)
  have hln : l.toNat ≤ 9223372036854775807 := by omega
  have k3 := k1.setArr (s := s) (g := w.heap.size) (c := l.toNat) hown (.inl hn) (Z := []) k2 (by simp) (e := e) (own := true) (es := List.replicate l.toNat zs) (cur := madeCells v.cells (l.toNat * szT P e))
    (vs := fun _ j => v.cells.toList.getD j undef) (Bs := fun _ _ => [])
    (by simp) (by simp only [maxLen]; omega) (fun e' he' => by rw [(List.mem_replicate.1 he').2]; exact hzl) alloc_new hlt.symm
    (by
      intro i' j x hx
      obtain ⟨q1, q2, q3⟩ := hrep i' j x hx
      have hj : j < v.cells.toList.length := by simp; omega
      have hu : v.cells.toList[j]? = some (v.cells.toList.getD j undef) := by
        rw [List.getElem?_eq_getElem hj, List.getD_eq_getElem?_getD, List.getElem?_eq_getElem hj]; rfl
      have hB : Bl[j]? = some (Bl.getD j []) := by
        rw [List.getElem?_eq_getElem (by omega), List.getD_eq_getElem?_getD, List.getElem?_eq_getElem (by omega)]; rfl
      obtain ⟨r1, r2⟩ := R1 _ _ _ _ q3 hu hB
      rw [hB0 _ _ hB] at r2
      have hX : RepX (w.alloc (.cells (madeCells v.cells (l.toNat * szT P e)) e)) [] (v.cells.toList.getD j undef) x := (r2 rfl).mono (by simp)
      exact ⟨by rw [hcell i' j q1 q2, ← hu]; simp, hX.rep (by simp), fun _ => ⟨hX, by simp⟩⟩)
    (by intro _ _ _ _ _ _ _ _ _ _ b hb; simp at hb)
  refine ⟨.slice (some ⟨w.heap.size, 0, none⟩) l.toNat l.toNat, _, _, ?_, k3, ?_, ?_, fun k hk => ?_⟩
  · rw [run_make (P := P) w ty e i v (elT_und he) hi hiz .i64 .i64 l l hl0 (Int.le_refl _) (by rw [hbi, Int.mul_comm]; omega) hl63, hie]
  · simp only [RepA, arrMu_m, upd_same]
    exact ⟨Nat.le_refl _, trivial⟩
  · refine ⟨rfl, rfl, rfl, by rw [alloc_size]; omega, fun b hb _ => alloc_old hb, fun b hb => hb, fun b hb => .inl hb, fun k b hb => ?_⟩
    rcases arrMu_own _ _ _ _ _ k b hb with q | rfl | q
    · exact .inl ⟨k, q⟩
    · exact .inr (Nat.le_refl _)
    · simp at q
  · rw [arrMu_m]; exact upd_ne _ _ hk

/-! ### append -/
theorem rep_one {F : Nat → Prop} {v : Value} {x : D} (h : Rep w F v x) : v.oneCell' = true := by cases h <;> rfl

/-- A slice taken apart: its cells, what each reads as and leads to. -/
theorem row_of {F : Nat → Prop} {B : List Nat} {u : Value} {ys : List (List D)} {own : Bool} {sz : Nat} (h1 : Rep w (fun b => F b ∨ b ∈ B) u (.sl ys)) (h2 : own = true → RepX w B u (.sl ys)) (hsz : ∀ e ∈ ys, e.length = sz) :
    ∃ (a : Option Addr) (c : Nat) (vs : Nat → Nat → Value) (Bs : Nat → Nat → List Nat), u = .slice a ys.length c ∧
      (∀ i j x, at2 ys i j = some x → ∃ ad, a = some ad ∧ w.cell? (ad.add (i * sz + j)) = some (vs i j) ∧ Rep w (fun b => F b ∨ b ∈ B) (vs i j) x ∧ (own = true → RepX w (Bs i j) (vs i j) x ∧ ∀ b ∈ Bs i j, b ∈ B)) ∧
      (own = true → ∀ i j x i' j' x', at2 ys i j = some x → at2 ys i' j' = some x' → i ≠ i' ∨ j ≠ j' → ∀ b' ∈ Bs i j, b' ∉ Bs i' j') := by
  cases own with
  | false =>
    obtain ⟨a, c, sz', vs, rfl, hc, hsz', ha, hr⟩ := rep_sl h1
    refine ⟨a, c, vs, fun _ _ => [], rfl, fun i j x hx => ?_, by simp⟩
    obtain ⟨ad, e, _, hcell⟩ := ha i j x hx
    have hq : sz' = sz := by
      have h3 := at2_lt hx hsz
      rw [← hsz' _ (List.getElem_mem h3.1), hsz _ (List.getElem_mem h3.1)]
    exact ⟨ad, e, by rw [← hq]; exact hcell, hr i j x hx, by simp⟩
  | true =>
    have hX := h2 rfl
    generalize hd : D.sl ys = d at hX
    cases hX with
    | int => cases hd
    | bool => cases hd
    | str => cases hd
    | nil a c =>
      injection hd with hd
      subst hd
      exact ⟨a, c, fun _ _ => undef, fun _ _ => [], rfl, by simp [at2], by simp⟩
    | sl b c sz' es cs t vs Bs hb hc hsz' ha hr _ hB hsub hdis =>
      injection hd with hd
      subst hd
      refine ⟨some ⟨b, 0, none⟩, c, vs, Bs, rfl, fun i j x hx => ⟨_, rfl, ?_, (hr i j x hx).rep fun b' hb' => .inr (hsub i j x hx b' hb').1, fun _ => ⟨hr i j x hx, fun b' hb' => (hsub i j x hx b' hb').1⟩⟩, fun _ => hdis⟩
      have hq : sz' = sz := by
        have h3 := at2_lt hx hsz
        rw [← hsz' _ (List.getElem_mem h3.1), hsz _ (List.getElem_mem h3.1)]
      rw [add0, cell_block hb, ← hq]
      exact ha i j x hx

/-- Where append begins. -/
theorem base_sound (hs : Sim P w M t h tm) {e : TypeId} {x : A} {v : Value} {es : List (List D)} {own : Bool} {h1 : Heap} (hk : baseA h e x = some (es, own, h1)) (hx : RepA w M x v) :
    ∃ (own1 : Nat → List Nat) (O : List Nat), Sim P w ⟨M.m, own1, M.F⟩ t h1 tm ∧ Limbo w ⟨M.m, own1, M.F⟩ O ∧ (∀ b ∈ O, ∃ id, b ∈ M.own id) ∧ (∀ id, (own1 id = M.own id ∧ h1 id = h id) ∨ (own1 id = [] ∧ h1 id = .dead)) ∧
      ((es = [] ∧ v = .slice none 0 0) ∨ ∃ (g c : Nat) (cur : Array Value) (vs : Nat → Nat → Value) (Bs : Nat → Nat → List Nat), v = .slice (some ⟨g, 0, none⟩) es.length c ∧ g ∈ O ∧ es.length ≤ c ∧ c ≤ maxLen ∧ (∀ e' ∈ es, e'.length = szT P e) ∧ w.heap[g]? = some (.cells cur e (0, 0)) ∧ cur.size = c * szT P e ∧
        Parts own w M.F g O es cur (szT P e) vs Bs) := by
  unfold baseA at hk
  split at hk
  · simp only [Option.some.injEq, Prod.mk.injEq] at hk
    obtain ⟨rfl, rfl, rfl⟩ := hk
    simp only [RepA] at hx
    exact ⟨M.own, [], hs, by simp [Limbo], by simp, fun id => .inl ⟨rfl, rfl⟩, .inl ⟨rfl, hx⟩⟩
  · rename_i id n
    split at hk
    · rename_i e' own' es' hi
      split at hk
      · rename_i hn
        obtain ⟨hn, rfl⟩ := hn
        simp only [Option.some.injEq, Prod.mk.injEq] at hk
        obtain ⟨rfl, rfl, rfl⟩ := hk
        obtain ⟨k1, k2⟩ := hs.kill id .dead (by simp [SimO, upd_same]) (by simp)
        have D1 : ∀ i, (upd M.own id [] i = M.own i ∧ upd h id .dead i = h i) ∨ (upd M.own id [] i = [] ∧ upd h id .dead i = .dead) := by
          intro i
          by_cases hid : i = id
          · subst hid; exact .inr ⟨upd_same _ _ _, upd_same _ _ _⟩
          · exact .inl ⟨upd_ne _ _ hid, upd_ne _ _ hid⟩
        refine ⟨_, M.own id, k1, k2, fun b hb => ⟨id, hb⟩, D1, ?_⟩
        have ho := hs.ob id
        rw [hi] at ho
        simp only [SimO, SimArr] at ho
        simp only [RepA] at hx
        cases hm : M.m id with
        | none =>
          rw [hm] at ho hx
          obtain ⟨rfl, _⟩ := ho
          exact .inl ⟨by simp, hx.2⟩
        | some bc =>
          obtain ⟨g, c⟩ := bc
          rw [hm] at ho hx
          obtain ⟨hnc, rfl⟩ := hx
          obtain ⟨cur, vs, Bs, q1, q2, q3, q4, q5, q6, q7, q8⟩ := ho
          have hlen : (es'.take n).length = n := by simp; omega
          refine .inr ⟨g, c, cur, vs, Bs, by rw [hlen], q6, by omega, q2, fun e'' he'' => q3 e'' (List.mem_of_mem_take he''), q4, q5, fun i j x hx => q7 i j x (at2_take hx).2, fun i j x i' j' x' hx hx' => q8 i j x i' j' x' (at2_take hx).2 (at2_take hx').2⟩
      · cases hk
    · cases hk
  · cases hk

/-- What append takes. -/
theorem more_sound (hs : Sim P w M t h tm) {y : A} {u : Value} {ys : List (List D)} {own : Bool} {h1 : Heap} (hk : moreA h y = some (ys, own, h1)) (hy : RepA w M y u) :
    ∃ (own1 : Nat → List Nat) (B : List Nat), Sim P w ⟨M.m, own1, M.F⟩ t h1 tm ∧ Limbo w ⟨M.m, own1, M.F⟩ B ∧ (∀ b ∈ B, ∃ id, b ∈ M.own id) ∧ (∀ id, (own1 id = M.own id ∧ h1 id = h id) ∨ (own1 id = [] ∧ h1 id = .dead)) ∧
      Rep w (fun b => M.F b ∨ b ∈ B) u (.sl ys) ∧ (own = true → RepX w B u (.sl ys)) := by
  unfold moreA at hk
  split at hk
  · simp only [Option.some.injEq, Prod.mk.injEq] at hk
    obtain ⟨rfl, rfl, rfl⟩ := hk
    simp only [RepA] at hy
    subst hy
    have hX : RepX w [] (.slice none 0 0) (.sl []) := .nil none 0
    exact ⟨M.own, [], hs, by simp [Limbo], by simp, fun id => .inl ⟨rfl, rfl⟩, hX.rep (by simp), fun _ => hX⟩
  · simp only [Option.some.injEq, Prod.mk.injEq] at hk
    obtain ⟨rfl, rfl, rfl⟩ := hk
    simp only [RepA] at hy
    exact ⟨M.own, [], hs, by simp [Limbo], by simp, fun id => .inl ⟨rfl, rfl⟩, hy.mono fun b hb => ⟨.inl hb, rfl⟩, by simp⟩
  · rename_i id n
    split at hk
    · rename_i e' own' es' hi
      split at hk
      · rename_i hn
        simp only [Option.some.injEq, Prod.mk.injEq] at hk
        obtain ⟨rfl, rfl, rfl⟩ := hk
        obtain ⟨B, hB, hR, hX⟩ := arr_out hs hi hn hy
        obtain ⟨k1, k2⟩ := hs.kill id .dead (by simp [SimO, upd_same]) (by simp)
        refine ⟨_, B, k1, k2.sub hB, fun b hb => ⟨id, hB b hb⟩, fun i => ?_, hR, hX⟩
        by_cases hid : i = id
        · subst hid; exact .inr ⟨upd_same _ _ _, upd_same _ _ _⟩
        · exact .inl ⟨upd_ne _ _ hid, upd_ne _ _ hid⟩
      · cases hk
    · rename_i es' hi
      split at hk
      · rename_i hn
        simp only [Option.some.injEq, Prod.mk.injEq] at hk
        obtain ⟨rfl, rfl, rfl⟩ := hk
        exact ⟨M.own, [], hs, by simp [Limbo], by simp, fun id => .inl ⟨rfl, rfl⟩, (frz_out hs hi hn hy).mono fun b hb => ⟨.inl hb, rfl⟩, by simp⟩
      · cases hk
    · cases hk
  · cases hk

theorem append_none (base : Nat) (ty u e : TypeId) (i : TypeInfo) (size : Nat) (he : P.underlying ty = some (.slice e)) (hi : P.info? e = some i) (v : Value) (n : Nat) (xs : List Value) (hown : w.ownsRow base e size v n xs) (c : Nat) :
    (Builtin.append_ #[ty, ty] u #[v, .slice none 0 c]).run P w = .ok v w := by
  rcases hown.2 with ⟨rfl, rfl⟩ | ⟨g, cap, cur, rfl, _, _, hnc, _⟩
  · simp [Builtin.append_, run_underlying he, sizeOf, typeInfo, hi, Builtin.lenOf, Builtin.firstCells]
  · simp [Builtin.append_, run_underlying he, sizeOf, typeInfo, hi, Builtin.lenOf, Builtin.firstCells, hnc, storeCells]
end
end Go.AX
