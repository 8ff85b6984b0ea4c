/- Stores into rows, new rows. -/
import Derived.Test.YtfbphnkfddgihaaAxMem2
namespace Go.AX
section
variable {P : Program} {w w' : World} {M : Mu} {t : Nat → A} {h : Heap} {tm : Array Value}

def arrMu (M : Mu) (s g c : Nat) (own : Bool) (Z : List Nat) : Mu :=
  match own with
  | true => ⟨upd M.m s (some (g, c)), upd M.own s (g :: Z), M.F⟩
  | false => ⟨upd M.m s (some (g, c)), upd M.own s [g], fun b => M.F b ∨ b ∈ Z⟩
theorem arrMu_m (s g c : Nat) (own : Bool) (Z : List Nat) : (arrMu M s g c own Z).m = upd M.m s (some (g, c)) := by cases own <;> rfl
theorem arrMu_F1 (s g c : Nat) (own : Bool) (Z : List Nat) (b : Nat) (hb : M.F b) : (arrMu M s g c own Z).F b := by
  cases own
  · exact .inl hb
  · exact hb
theorem arrMu_F2 (s g c : Nat) (own : Bool) (Z : List Nat) (b : Nat) (hb : (arrMu M s g c own Z).F b) : M.F b ∨ b ∈ Z := by
  cases own
  · exact hb
  · exact .inl hb
theorem arrMu_own (s g c : Nat) (own : Bool) (Z : List Nat) (id b : Nat) (hb : b ∈ (arrMu M s g c own Z).own id) : b ∈ M.own id ∨ b = g ∨ b ∈ Z := by
  cases own
  · simp only [arrMu] at hb
    by_cases hi : id = s
    · subst hi; rw [upd_same] at hb; simp at hb; exact .inr (.inl hb)
    · rw [upd_ne _ _ hi] at hb; exact .inl hb
  · simp only [arrMu] at hb
    by_cases hi : id = s
    · subst hi; rw [upd_same] at hb; simp at hb; exact .inr hb
    · rw [upd_ne _ _ hi] at hb; exact .inl hb

/-- A row of limbo becomes object s. -/
theorem Sim.setArr (hs : Sim P w M t h tm) {s g c : Nat} (hown : M.own s = []) (hn : NoRef s t h ∨ some (g, c) = M.m s) {Z : List Nat} (hl : Limbo w M (g :: Z)) (hg : g ∉ Z)
    {e : TypeId} {own : Bool} {es : List (List D)} {cur : Array Value} {vs : Nat → Nat → Value} {Bs : Nat → Nat → List Nat} (h1 : es.length ≤ c) (h2 : c ≤ maxLen) (h3 : ∀ e' ∈ es, e'.length = szT P e)
    (h4 : w.heap[g]? = some (.cells cur e (0, 0))) (h5 : cur.size = c * szT P e)
    (h6 : ∀ i j x, at2 es i j = some x → cur[i * szT P e + j]? = some (vs i j) ∧ Rep w (fun b => M.F b ∨ b ∈ Z) (vs i j) x ∧ (own = true → RepX w (Bs i j) (vs i j) x ∧ ∀ b ∈ Bs i j, b ∈ Z))
    (h7 : own = true → ∀ i j x i' j' x', at2 es i j = some x → at2 es i' j' = some x' → i ≠ i' ∨ j ≠ j' → ∀ b' ∈ Bs i j, b' ∉ Bs i' j') :
    Sim P w (arrMu M s g c own Z) t (upd h s (.arr e own es)) tm := by
  cases own with
  | true =>
    refine hs.setO hown hn hl ?_
    simp only [SimO, SimArr, upd_same]
    refine ⟨cur, vs, Bs, h1, h2, h3, h4, h5, by simp, fun i j x hx => ?_, h7 rfl⟩
    obtain ⟨q1, q2, q3⟩ := h6 i j x hx
    exact ⟨q1, (q3 rfl).1, fun b hb => ⟨by simp [(q3 rfl).2 b hb], fun e => hg (by rw [← e]; exact (q3 rfl).2 b hb)⟩⟩
  | false =>
    have hf := hs.freeze (L := Z) (fun b hb => hl b (by simp [hb]))
    refine hf.setO (L := [g]) hown hn (fun b hb => ?_) ?_
    · simp only [List.mem_singleton] at hb
      subst hb
      have := hl b (by simp)
      exact ⟨this.1, fun hq => hq.elim this.2.1 hg, this.2.2⟩
    · simp only [SimO, SimArr, upd_same]
      refine ⟨cur, vs, fun _ _ => [], h1, h2, h3, h4, h5, by simp, fun i j x hx => ?_, fun _ _ _ _ _ _ _ _ _ b hb => by simp at hb⟩
      obtain ⟨q1, q2, _⟩ := h6 i j x hx
      exact ⟨q1, ⟨rfl, q2⟩, by simp⟩

theorem own_of_D {own1 : Nat → List Nat} {h1 : Heap} (D : ∀ id, (own1 id = M.own id ∧ h1 id = h id) ∨ (own1 id = [] ∧ h1 id = .dead)) {id b : Nat} (hb : b ∈ own1 id) : b ∈ M.own id := by
  rcases D id with ⟨q, _⟩ | ⟨q, _⟩
  · rw [← q]; exact hb
  · rw [q] at hb; cases hb

/-- A row is written. -/
theorem store_arr (hs : Sim P w M t h tm) {id i sz off : Nat} {e : TypeId} {own o : Bool} {es : List (List D)} {cs xs : List D} {l : List A} {us : List Value} {h1 : Heap} (hr : RepL w M l us) (hk : sink h l = some (xs, o, h1))
    (hi : h1 id = .arr e own es) (hc : es[i]? = some cs) (hl : cs.length = sz) (hb : off + xs.length ≤ sz) {v : Value} (hv : RepA w M (.pe id i sz off) v) :
    ∃ g cur M', v = .pointer (some ⟨g, i * sz + off, none⟩) ∧ w.heap[g]? = some (.cells cur e (0, 0)) ∧ i * sz + off + us.length ≤ cur.size ∧ g ∈ M.own id ∧
      Sim P (w.setRow g (putAt cur.toList (i * sz + off) us).toArray) M' t (upd h1 id (.arr e (own && o) (es.set i (putAt cs off xs)))) tm ∧
      Step w M (w.setRow g (putAt cur.toList (i * sz + off) us).toArray) M' ∧ M'.m = M.m := by
  obtain ⟨own1, Bl, s1, l1, n1, n2, R1, E1, O1, D1⟩ := sink_sound l hs hr hk
  have ho := s1.ob id
  rw [hi] at ho
  simp only [SimO, SimArr] at ho
  simp only [RepA] at hv
  obtain ⟨g, c, hm, rfl⟩ := hv
  rw [hm] at ho
  obtain ⟨cur, vs, Bs, h1', h2', h3', h4', h5', h6', h7', h8'⟩ := ho
  have hsz : szT P e = sz := by rw [← h3' cs (List.mem_of_getElem? hc)]; exact hl
  have hil : i < es.length := (List.getElem?_eq_some_iff.1 hc).1
  have hbig : i * sz + sz ≤ cur.size := by
    rw [h5', hsz, ← Nat.succ_mul]
    exact Nat.mul_le_mul_right _ (by omega)
  have hcur : i * sz + off + us.length ≤ cur.size := by omega
  have hgid : g ∈ M.own id := own_of_D D1 h6'
  -- the object goes into limbo, its row is written
  obtain ⟨k1, k2⟩ := s1.kill id .dead (by simp [SimO, upd_same]) (by simp)
  let w2 := w.setRow g (putAt cur.toList (i * sz + off) us).toArray
  have hw2 : ∀ b, b ≠ g → w2.heap[b]? = w.heap[b]? := fun b hb => setRow_other hb
  have gl := k2 g h6'
  have k3 : Sim P w2 ⟨M.m, upd own1 id [], M.F⟩ t (upd h1 id .dead) tm :=
    k1.world (fun b hb => hw2 b fun e => gl.2.1 (by rw [← e]; exact hb)) (fun k b hb => hw2 b fun e => gl.2.2 k (by rw [← e]; exact hb)) (by show _ ≤ (w.setRow g _).heap.size; rw [setRow_size]; exact Nat.le_refl _)
  let Z := (own1 id).filter (fun b => b != g) ++ Bl.flatten
  have blg : ∀ b ∈ Bl.flatten, b ∉ own1 id := fun b hb => (l1 b hb).2.2 id
  have hgZ : g ∉ Z := by
    intro hq
    rcases List.mem_append.1 hq with hq | hq
    · simp at hq
    · exact blg g hq h6'
  have ownsub : ∀ k b, b ∈ upd own1 id [] k → b ∈ own1 k ∧ k ≠ id := by
    intro k b hb
    by_cases hkid : k = id
    · subst hkid; rw [upd_same] at hb; cases hb
    · rw [upd_ne _ _ hkid] at hb; exact ⟨hb, hkid⟩
  have hlim : Limbo w2 ⟨M.m, upd own1 id [], M.F⟩ (g :: Z) := by
    intro b hb
    have hsz2 : w2.heap.size = w.heap.size := setRow_size
    rcases List.mem_cons.1 hb with rfl | hb
    · exact ⟨by rw [hsz2]; exact gl.1, gl.2⟩
    · rcases List.mem_append.1 hb with hb | hb
      · have := k2 b ((List.mem_filter.1 hb).1)
        exact ⟨by rw [hsz2]; exact this.1, this.2⟩
      · have := l1 b hb
        exact ⟨by rw [hsz2]; exact this.1, this.2.1, fun k hk => this.2.2 k (ownsub k b hk).1⟩
  have memZ1 : ∀ b ∈ own1 id, b ≠ g → b ∈ Z := fun b hb hne => List.mem_append.2 (.inl (by simp [hb, hne]))
  have memZ2 : ∀ b ∈ Bl.flatten, b ∈ Z := fun b hb => List.mem_append.2 (.inr hb)
  let inn : Nat → Nat → Bool := fun i' j' => decide (i' = i ∧ off ≤ j' ∧ j' < off + xs.length)
  let vs2 : Nat → Nat → Value := fun i' j' => if inn i' j' then us.getD (j' - off) undef else vs i' j'
  let Bs2 : Nat → Nat → List Nat := fun i' j' => if inn i' j' then Bl.getD (j' - off) [] else Bs i' j'
  have hat : ∀ i' j' x, at2 (es.set i (putAt cs off xs)) i' j' = some x → (inn i' j' = true ∧ xs[j' - off]? = some x) ∨ (inn i' j' = false ∧ at2 es i' j' = some x) := by
    intro i' j' x hx
    unfold at2 at hx ⊢
    by_cases hii : i' = i
    · subst hii
      rw [List.getElem?_set_self hil] at hx
      simp only [Option.bind_some] at hx
      rw [putAt_get (by omega)] at hx
      by_cases hq : off ≤ j' ∧ j' < off + xs.length
      · rw [if_pos hq] at hx
        exact .inl ⟨by simp [inn, hq], hx⟩
      · rw [if_neg hq] at hx
        exact .inr ⟨by simp only [inn, true_and, decide_eq_false_iff_not]; exact hq, by rw [hc]; exact hx⟩
    · rw [List.getElem?_set_ne (fun e => hii e.symm)] at hx
      exact .inr ⟨by simp [inn, hii], hx⟩
  have cellsAt : ∀ i' j', j' < sz → (putAt cur.toList (i * sz + off) us).toArray[i' * sz + j']? = if inn i' j' then us[j' - off]? else cur[i' * sz + j']? := by
    intro i' j' hj
    rw [List.getElem?_toArray, putAt_get (by simpa using hcur), ← n2]
    by_cases hii : i' = i
    · subst hii
      by_cases hq : off ≤ j' ∧ j' < off + xs.length
      · rw [if_pos (by omega), if_pos (by simp [inn, hq])]
        congr 1; omega
      · rw [if_neg (by omega), if_neg (by simp only [inn, true_and, decide_eq_true_eq]; exact hq)]
        simp
    · have hn : ¬ (i * sz + off ≤ i' * sz + j' ∧ i' * sz + j' < i * sz + off + xs.length) := by
        intro hq
        rcases Nat.lt_or_gt_of_ne hii with q | q
        · have : (i' + 1) * sz ≤ i * sz := Nat.mul_le_mul_right _ q
          rw [Nat.succ_mul] at this; omega
        · have : (i + 1) * sz ≤ i' * sz := Nat.mul_le_mul_right _ q
          rw [Nat.succ_mul] at this; omega
      rw [if_neg hn, if_neg (by simp [inn, hii])]
      simp
  have k5 := k3.setArr (s := id) (g := g) (c := c) (upd_same _ _ _) (.inr hm.symm) hlim hgZ (e := e) (own := own && o) (es := es.set i (putAt cs off xs)) (cur := (putAt cur.toList (i * sz + off) us).toArray) (vs := vs2) (Bs := Bs2)
    (by simpa using h1') h2' (by
      intro e' he'
      rcases List.mem_or_eq_of_mem_set he' with q | rfl
      · exact h3' e' q
      · unfold putAt; simp; omega)
    (setRow_heap w g cur _ e (0, 0) h4') (by
      rw [List.size_toArray]; unfold putAt; simp; rw [← h5']; omega)
    (by
      intro i' j' x hx
      have hj : j' < sz := by
        rcases hat i' j' x hx with ⟨q, _⟩ | ⟨_, q⟩
        · simp [inn] at q; omega
        · have := at2_lt q h3'; omega
      rw [hsz, cellsAt i' j' hj]
      rcases hat i' j' x hx with ⟨q, qx⟩ | ⟨q, qx⟩
      · have hlt : j' - off < xs.length := (List.getElem?_eq_some_iff.1 qx).1
        have hu : us[j' - off]? = some (us.getD (j' - off) undef) := by
          rw [List.getElem?_eq_getElem (by omega), List.getD_eq_getElem?_getD, List.getElem?_eq_getElem (by omega)]; rfl
        have hB : Bl[j' - off]? = some (Bl.getD (j' - off) []) := by
          rw [List.getElem?_eq_getElem (by omega), List.getD_eq_getElem?_getD, List.getElem?_eq_getElem (by omega)]; rfl
        obtain ⟨r1, r2⟩ := R1 _ _ _ _ qx hu hB
        have hBm : ∀ b ∈ Bl.getD (j' - off) [], b ∈ Bl.flatten := fun b hb => List.mem_flatten.2 ⟨_, List.mem_of_getElem? hB, hb⟩
        have hne : ∀ b ∈ Bl.flatten, b ≠ g := fun b hb e => blg b hb (by rw [e]; exact h6')
        simp only [q, if_true, vs2, Bs2]
        refine ⟨hu, r1.mono fun b hb => ⟨hb.imp (fun q => q) fun hb => memZ2 b (hBm b hb), ?_⟩, fun hq => ⟨(r2 (by revert hq; cases own <;> simp)).mono fun b hb => hw2 b (hne b (hBm b hb)), fun b hb => memZ2 b (hBm b hb)⟩⟩
        rcases hb with hb | hb
        · exact hw2 b fun e => gl.2.1 (by rw [← e]; exact hb)
        · exact hw2 b (hne b (hBm b hb))
      · obtain ⟨q1, q2, q3⟩ := h7' i' j' x qx
        simp only [q, if_false, Bool.false_eq_true, vs2, Bs2]
        rw [hsz] at q1
        refine ⟨q1, ?_, fun hq => ?_⟩
        · cases own with
          | true => exact (RepX.rep q2 (F := fun b => b ∈ Bs i' j') (fun b hb => hb)).mono fun b hb => ⟨.inr (memZ1 b (q3 b hb).1 (q3 b hb).2), hw2 b (q3 b hb).2⟩
          | false => exact q2.2.mono fun b hb => ⟨.inl hb, hw2 b fun e => gl.2.1 (by rw [← e]; exact hb)⟩
        · cases own with
          | true => exact ⟨RepX.mono q2 fun b hb => hw2 b (q3 b hb).2, fun b hb => memZ1 b (q3 b hb).1 (q3 b hb).2⟩
          | false => cases hq)
    (by
      intro hq i1 j1 x1 i2 j2 x2 hx1 hx2 hne b hb1 hb2
      have hown : own = true := by revert hq; cases own <;> simp
      subst hown
      rcases hat i1 j1 x1 hx1 with ⟨q1, qx1⟩ | ⟨q1, qx1⟩ <;> rcases hat i2 j2 x2 hx2 with ⟨q2, qx2⟩ | ⟨q2, qx2⟩
      · simp only [Bs2, q1, q2, if_true] at hb1 hb2
        have e1 : i1 = i ∧ off ≤ j1 := by simp [inn] at q1; omega
        have e2 : i2 = i ∧ off ≤ j2 := by simp [inn] at q2; omega
        have hl1 : j1 - off < Bl.length := by rw [n1]; exact (List.getElem?_eq_some_iff.1 qx1).1
        have hl2 : j2 - off < Bl.length := by rw [n1]; exact (List.getElem?_eq_some_iff.1 qx2).1
        rw [List.getD_eq_getElem?_getD, List.getElem?_eq_getElem hl1] at hb1
        rw [List.getD_eq_getElem?_getD, List.getElem?_eq_getElem hl2] at hb2
        exact E1 (j1 - off) (j2 - off) _ _ (by omega) (List.getElem?_eq_getElem hl1) (List.getElem?_eq_getElem hl2) b hb1 hb2
      · simp only [Bs2, q1, q2, if_true, if_false, Bool.false_eq_true] at hb1 hb2
        have hl1 : j1 - off < Bl.length := by rw [n1]; exact (List.getElem?_eq_some_iff.1 qx1).1
        rw [List.getD_eq_getElem?_getD, List.getElem?_eq_getElem hl1] at hb1
        exact blg b (List.mem_flatten.2 ⟨_, List.getElem_mem hl1, hb1⟩) ((h7' i2 j2 x2 qx2).2.2 b hb2).1
      · simp only [Bs2, q1, q2, if_true, if_false, Bool.false_eq_true] at hb1 hb2
        have hl2 : j2 - off < Bl.length := by rw [n1]; exact (List.getElem?_eq_some_iff.1 qx2).1
        rw [List.getD_eq_getElem?_getD, List.getElem?_eq_getElem hl2] at hb2
        exact blg b (List.mem_flatten.2 ⟨_, List.getElem_mem hl2, hb2⟩) ((h7' i1 j1 x1 qx1).2.2 b hb1).1
      · simp only [Bs2, q1, q2, if_false, Bool.false_eq_true] at hb1 hb2
        exact h8' i1 j1 x1 i2 j2 x2 qx1 qx2 hne b hb1 hb2)
  rw [upd_upd] at k5
  have Zown : ∀ b, b = g ∨ b ∈ Z → ∃ k, b ∈ M.own k := by
    intro b hb
    rcases hb with rfl | hb
    · exact ⟨id, hgid⟩
    · rcases List.mem_append.1 hb with hb | hb
      · exact ⟨id, own_of_D D1 ((List.mem_filter.1 hb).1)⟩
      · exact O1 b hb
  refine ⟨g, cur, _, rfl, h4', hcur, hgid, k5, ⟨rfl, rfl, rfl, by rw [setRow_size]; exact Nat.le_refl _, fun b hb hn => setRow_other fun e => hn id (by rw [e]; exact hgid), fun b hb => arrMu_F1 (M := ⟨M.m, upd own1 id [], M.F⟩) _ _ _ _ _ b hb, fun b hb => ?_, fun k b hb => ?_⟩, ?_⟩
  · rcases arrMu_F2 _ _ _ _ _ b hb with q | q
    · exact .inl q
    · exact .inr (.inl (Zown b (.inr q)))
  · rcases arrMu_own _ _ _ _ _ k b hb with q | q
    · exact .inl ⟨k, own_of_D D1 (ownsub k b q).1⟩
    · exact .inl (Zown b q)
  · rw [arrMu_m]
    simp only
    rw [← hm, upd_self]
end
end Go.AX
