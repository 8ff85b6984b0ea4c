/- append as a whole; every operation that touches memory. -/
import Derived.Test.YtfbphnkfddgihaaAxMem5
namespace Go.AX
section
variable {P : Program} {w w' : World} {M : Mu} {t : Nat → A} {h : Heap} {tm : Array Value}

theorem at2_append {xs ys : List (List D)} {i j : Nat} {x : D} (hq : at2 (xs ++ ys) i j = some x) : (i < xs.length ∧ at2 xs i j = some x) ∨ (xs.length ≤ i ∧ at2 ys (i - xs.length) j = some x) := by
  unfold at2 at *
  rw [List.getElem?_append] at hq
  split at hq
  · rename_i hlt; exact .inl ⟨hlt, hq⟩
  · rename_i hge; exact .inr ⟨by omega, hq⟩

theorem append_sound (hs : Sim P w M t h tm) {s : Nat} (hown : M.own s = []) (hn : NoRef s t h) {e ty ut : TypeId} {x y : A} {v u : Value} {es ys : List (List D)} {o1 o2 : Bool} {h1 h2 : Heap} {z : List A}
    (hx : RepA w M x v) (hy : RepA w M y u) (hb : baseA h e x = some (es, o1, h1)) (hm : moreA h1 y = some (ys, o2, h2)) (he : elT P ty = some e) (hz : zeroT P e = some z) (hzl : z.length = szT P e) (hsz : szT P e ≠ 0)
    (hbytes : (es.length + ys.length) * bytesT P e ≤ 140737488355328) (h63 : es.length + ys.length ≤ 9223372036854775807) (hyl : ∀ cs ∈ ys, cs.length = szT P e) :
    ∃ v' w' M', (Builtin.append_ #[ty, ty] ut #[v, u]).run P w = .ok v' w' ∧ Sim P w' M' t (upd h2 s (.arr e (o1 && o2) (es ++ ys))) tm ∧ RepA w' M' (.os s (es.length + ys.length)) v' ∧ Step w M w' M' ∧ ∀ k, k ≠ s → M'.m k = M.m k := by
  obtain ⟨own1, O, s1, l1, OO, D1, hbase⟩ := base_sound hs hb hx
  have hy1 : RepA w ⟨M.m, own1, M.F⟩ y u := RepA.mono (M := M) (M' := ⟨M.m, own1, M.F⟩) (fun b hb => ⟨hb, rfl⟩) hy fun _ _ => rfl
  obtain ⟨own2, B, s2, l2, OB, D2, hR, hX⟩ := more_sound s1 hm hy1
  obtain ⟨a, c, vsy, Bsy, rfl, ry, dy⟩ := row_of hR hX hyl
  obtain ⟨i, hi, hie⟩ := szT_info hsz
  obtain ⟨zv, hzv, hzr⟩ := zeroT_run (P := P) (w := w) (M := M) hz
  have hiz : i.zero = some zv := by
    simp only [zeroValue, typeInfo, Sem.run_bind, run_program, Result.andThen_ok, hi, Sem.run_pure] at hzv
    cases hq : i.zero with
    | none => rw [hq] at hzv; simp [unsupported] at hzv
    | some v' => rw [hq] at hzv; simp at hzv; rw [hzv]
  have hzs : zv.cells.size = szT P e := by have := hzr.length; simp at this; omega
  have hbi : i.bytes = bytesT P e := by simp [bytesT, Program.bytesOf, hi]
  have hpos : 0 < szT P e := by omega
  -- the row that append starts from
  have hB : ∃ (xs : List Value) (vs : Nat → Nat → Value) (Bs : Nat → Nat → List Nat), w.ownsRow 0 e (szT P e) v es.length xs ∧ (∀ g, v.ownBlock = some g → g ∈ O) ∧ (∀ e' ∈ es, e'.length = szT P e) ∧
      (∀ i j x, at2 es i j = some x → xs[i * szT P e + j]? = some (vs i j) ∧ RepB o1 w M.F (Bs i j) (vs i j) x ∧ ∀ b' ∈ Bs i j, b' ∈ O ∧ some b' ≠ v.ownBlock) ∧
      (∀ i j x i' j' x', at2 es i j = some x → at2 es i' j' = some x' → i ≠ i' ∨ j ≠ j' → ∀ b' ∈ Bs i j, b' ∉ Bs i' j') := by
    rcases hbase with ⟨rfl, rfl⟩ | ⟨g, cp, cur, vs, Bs, rfl, q0, q1, q2, q3, q4, q5, q6, q7⟩
    · exact ⟨[], fun _ _ => undef, fun _ _ => [], World.ownsRow_nil w 0 e _, by simp [Value.ownBlock], by simp, by simp [at2], by simp⟩
    · refine ⟨cur.toList.take (es.length * szT P e), vs, Bs, ⟨?_, .inr ⟨g, cp, cur, rfl, Nat.zero_le _, q4, q1, q2, q5, rfl⟩⟩, ?_, q3, fun i j x hx => ?_, q7⟩
      · rw [List.length_take]
        have := Nat.mul_le_mul_right (szT P e) q1
        simp; omega
      · intro g' hg'
        simp [Value.ownBlock] at hg'
        rw [← hg']; exact q0
      · obtain ⟨r1, r2, r3⟩ := q6 i j x hx
        have hlt := at2_lt hx q3
        have : i * szT P e + j < es.length * szT P e := by
          have : (i + 1) * szT P e ≤ es.length * szT P e := Nat.mul_le_mul_right _ hlt.1
          rw [Nat.succ_mul] at this; omega
        refine ⟨by rw [List.getElem?_take_of_lt this]; simpa using r1, r2, fun b' hb' => ⟨(r3 b' hb').1, ?_⟩⟩
        simp only [Value.ownBlock]
        intro hq
        injection hq with hq
        exact (r3 b' hb').2 hq
  obtain ⟨xs, vs, Bs, hrow, hOg, hel, rb, db⟩ := hB
  -- what is appended
  let news : List Value := (List.range (ys.length * szT P e)).map fun k => vsy (k / szT P e) (k % szT P e)
  have newsAt : ∀ (i' j' : Nat), i' < ys.length → j' < szT P e → news[i' * szT P e + j']? = some (vsy i' j') := by
    intro i' j' hi' hj'
    have hlt : i' * szT P e + j' < ys.length * szT P e := by
      have : (i' + 1) * szT P e ≤ ys.length * szT P e := Nat.mul_le_mul_right _ hi'
      rw [Nat.succ_mul] at this; omega
    simp only [news, List.getElem?_map, List.getElem?_range hlt, Option.map_some]
    have e1 : (i' * szT P e + j') / szT P e = i' := by
      rw [Nat.mul_comm, Nat.mul_add_div hpos, Nat.div_eq_of_lt hj']; omega
    have e2 : (i' * szT P e + j') % szT P e = j' := by
      rw [Nat.mul_comm, Nat.mul_add_mod, Nat.mod_eq_of_lt hj']
    rw [e1, e2]
  have newsIdx : ∀ (k : Nat) (u : Value), news[k]? = some u → ∃ i' j' x, at2 ys i' j' = some x ∧ u = vsy i' j' ∧ k = i' * szT P e + j' := by
    intro k u hu
    have hk : k < ys.length * szT P e := by
      have := (List.getElem?_eq_some_iff.1 hu).1
      simpa [news] using this
    simp only [news, List.getElem?_map, List.getElem?_range hk, Option.map_some, Option.some.injEq] at hu
    have h1 : k / szT P e < ys.length := by rw [Nat.div_lt_iff_lt_mul hpos]; exact hk
    obtain ⟨x, hx⟩ := at2_some h1 (Nat.mod_lt k hpos) hyl
    exact ⟨_, _, x, hx, hu.symm, by rw [Nat.mul_comm]; exact (Nat.div_add_mod k _).symm⟩
  have happ : ∃ v' w', (Builtin.append_ #[ty, ty] ut #[v, .slice a ys.length c]).run P w = .ok v' w' ∧ w'.ownsRow 0 e (szT P e) v' (es.length + ys.length) (xs ++ news) ∧ w.grownBy w' v.ownBlock ∧ (v'.ownBlock = v.ownBlock ∨ v'.ownBlock = some w.heap.size) := by
    cases a with
    | none =>
      have hy0 : ys = [] := by
        rcases ys with _ | ⟨y0, ys⟩
        · rfl
        · obtain ⟨x, hx⟩ := at2_some (es := y0 :: ys) (i := 0) (j := 0) (by simp) hpos hyl
          obtain ⟨_, q, _⟩ := ry 0 0 x hx
          cases q
      subst hy0
      refine ⟨v, w, append_none 0 ty ut e i (szT P e) (elT_und he) hi v _ xs hrow c, by simpa [news] using hrow, ⟨rfl, rfl, rfl, Nat.le_refl _, fun _ _ _ => rfl⟩, .inl rfl⟩
    | some ad =>
      obtain ⟨v', w', q1, q2, q3, _, q5⟩ := run_append_own_at (P := P) w 0 ty ut e i zv (szT P e) (bytesT P e) (elT_und he) hi hiz hie hbi hzs hpos v es.length xs hrow ad ys.length c news (by simp [news])
        (fun k u hu => by
          obtain ⟨i', j', x, hx, rfl, rfl⟩ := newsIdx k u hu
          obtain ⟨ad', q, hc, _⟩ := ry i' j' x hx
          injection q with q; subst q
          exact hc)
        (fun u hu => by
          obtain ⟨k, hk⟩ := List.mem_iff_getElem?.1 hu
          obtain ⟨i', j', x, hx, rfl, rfl⟩ := newsIdx k u hk
          obtain ⟨_, _, _, q, _⟩ := ry i' j' x hx
          exact rep_one q)
        (by simp only [maxLen]; omega) hbytes (Nat.zero_le _)
      exact ⟨v', w', q1, q2, q3, q5⟩
  obtain ⟨v', w', hrun, hrow', hg, hblk⟩ := happ
  -- blocks
  have own2sub : ∀ id b, b ∈ own2 id → b ∈ own1 id := fun id b hb => own_of_D (M := ⟨M.m, own1, M.F⟩) D2 hb
  have O_lt : ∀ b ∈ O, b < w.heap.size ∧ ¬ M.F b ∧ ∀ id, b ∉ own1 id := l1
  have B_lt : ∀ b ∈ B, b < w.heap.size ∧ ¬ M.F b ∧ ∀ id, b ∉ own2 id := l2
  have BO : ∀ b ∈ B, b ∉ O := by
    intro b hb hbO
    obtain ⟨id, hid⟩ := OB b hb
    exact (O_lt b hbO).2.2 id hid
  have same : ∀ b, b < w.heap.size → some b ≠ v.ownBlock → w'.heap[b]? = w.heap[b]? := fun b hb hne => hg.block b hb hne
  have notO : ∀ b, b ∉ O → some b ≠ v.ownBlock := fun b hb e => hb (hOg b e.symm)
  have sameF : ∀ b, M.F b → w'.heap[b]? = w.heap[b]? := fun b hb => same b (hs.fz b hb) (notO b fun hO => (O_lt b hO).2.1 hb)
  have sameB : ∀ b ∈ B, w'.heap[b]? = w.heap[b]? := fun b hb => same b (B_lt b hb).1 (notO b (BO b hb))
  have s3 : Sim P w' ⟨M.m, own2, M.F⟩ t h2 tm := s2.world sameF (fun id b hb => same b (s2.nf id b hb).2 (notO b fun hO => (O_lt b hO).2.2 id (own2sub id b hb))) hg.size
  have hown2 : own2 s = [] := own_nil_of_D (M := ⟨M.m, own1, M.F⟩) (own_nil_of_D hown D1) D2
  have hn2 : NoRef s t h2 := NoRef.of_D (M := ⟨M.m, own1, M.F⟩) (hn.of_D D1) D2
  have inM : ∀ b, b ∈ O ∨ b ∈ B → ∃ id, b ∈ M.own id := by
    intro b hb
    rcases hb with hb | hb
    · exact OO b hb
    · obtain ⟨id, hid⟩ := OB b hb
      exact ⟨id, own_of_D D1 hid⟩
  rcases hrow'.2 with ⟨rfl, hnm⟩ | ⟨g', cap', cur', rfl, _, hg', hnc, hcm, hcs, htake⟩
  · have hes : es = [] := List.eq_nil_of_length_eq_zero (by omega)
    have hys : ys = [] := List.eq_nil_of_length_eq_zero (by omega)
    subst hes; subst hys
    refine ⟨_, w', ⟨upd M.m s none, upd own2 s [], M.F⟩, hrun, s3.setO (L := []) hown2 (.inl hn2) (by simp [Limbo]) ?_, ?_, ⟨hg.os, hg.tape, hg.output, hg.size, fun b hb hne => same b hb (notO b fun hO => ?_), fun b hb => hb, fun b hb => .inl hb, fun id b hb => .inl ?_⟩, fun k hk => upd_ne _ _ hk⟩
    · simp [SimO, SimArr, upd_same]
    · simp [RepA, upd_same]
    · obtain ⟨id, hid⟩ := OO b hO
      exact hne id hid
    · simp only at hb
      by_cases hi : id = s
      · subst hi; rw [upd_same] at hb; cases hb
      · rw [upd_ne _ _ hi] at hb; exact ⟨id, own_of_D D1 (own2sub id b hb)⟩
  · have hgblk : v.ownBlock = some g' ∨ g' = w.heap.size := by
      rcases hblk with q | q
      · left; rw [← q]; rfl
      · right; simpa [Value.ownBlock] using q
    let Z := O.filter (fun b => b != g') ++ B
    have hgB : g' ∉ B := by
      intro hq
      rcases hgblk with q | q
      · exact BO g' hq (hOg g' q)
      · have := (B_lt g' hq).1; omega
    have hgZ : g' ∉ Z := by
      intro hq
      rcases List.mem_append.1 hq with hq | hq
      · simp at hq
      · exact hgB hq
    have hlim : Limbo w' ⟨M.m, own2, M.F⟩ (g' :: Z) := by
      intro b hb
      rcases List.mem_cons.1 hb with rfl | hb
      · rcases hgblk with q | q
        · have := O_lt b (hOg b q)
          exact ⟨Nat.lt_of_lt_of_le this.1 hg.size, this.2.1, fun id hid => this.2.2 id (own2sub id b hid)⟩
        · exact ⟨(Array.getElem?_eq_some_iff.1 hg').1, fun hF => by have := hs.fz b hF; omega, fun id hid => by have := (s2.nf id b hid).2; omega⟩
      · rcases List.mem_append.1 hb with hb | hb
        · have := O_lt b (List.mem_filter.1 hb).1
          exact ⟨Nat.lt_of_lt_of_le this.1 hg.size, this.2.1, fun id hid => this.2.2 id (own2sub id b hid)⟩
        · have := B_lt b hb
          exact ⟨Nat.lt_of_lt_of_le this.1 hg.size, this.2⟩
    have memO : ∀ b ∈ O, some b ≠ v.ownBlock → b ∈ Z := by
      intro b hb hne
      refine List.mem_append.2 (.inl ?_)
      have : b ≠ g' := by
        intro e
        rcases hgblk with q | q
        · exact hne (by rw [q, e])
        · have := (O_lt b hb).1; omega
      simp [hb, this]
    have memB : ∀ b ∈ B, b ∈ Z := fun b hb => List.mem_append.2 (.inr hb)
    have hxl : xs.length = es.length * szT P e := hrow.1
    have curAt : ∀ (k : Nat) (u : Value), (xs ++ news)[k]? = some u → cur'[k]? = some u := by
      intro k u hu
      rw [← htake] at hu
      have hk : k < (es.length + ys.length) * szT P e := by
        rcases Nat.lt_or_ge k ((es.length + ys.length) * szT P e) with q | q
        · exact q
        · rw [List.getElem?_take_eq_none q] at hu; cases hu
      rw [List.getElem?_take_of_lt hk] at hu
      simpa using hu
    have k5 := s3.setArr (s := s) (g := g') (c := cap') hown2 (.inl hn2) hlim hgZ (e := e) (own := o1 && o2) (es := es ++ ys) (cur := cur')
      (vs := fun i j => if i < es.length then vs i j else vsy (i - es.length) j) (Bs := fun i j => if i < es.length then Bs i j else Bsy (i - es.length) j)
      (by simpa using hnc) hcm (fun e' he' => by
        rcases List.mem_append.1 he' with q | q
        · exact hel e' q
        · exact hyl e' q) hg' hcs
      (by
        intro i' j' x hx
        rcases at2_append hx with ⟨hlt, hx⟩ | ⟨hge, hx⟩
        · obtain ⟨q1, q2, q3⟩ := rb i' j' x hx
          simp only [hlt, if_true]
          refine ⟨curAt _ _ (by rw [List.getElem?_append_left (List.getElem?_eq_some_iff.1 q1).1]; exact q1), ?_, fun hq => ?_⟩
          · cases o1 with
            | true => exact (RepX.rep q2 (F := fun b => b ∈ Bs i' j') fun b hb => hb).mono fun b hb => ⟨.inr (memO b (q3 b hb).1 (q3 b hb).2), same b (O_lt b (q3 b hb).1).1 (q3 b hb).2⟩
            | false => exact q2.2.mono fun b hb => ⟨.inl hb, sameF b hb⟩
          · cases o1 with
            | true => exact ⟨RepX.mono q2 fun b hb => same b (O_lt b (q3 b hb).1).1 (q3 b hb).2, fun b hb => memO b (q3 b hb).1 (q3 b hb).2⟩
            | false => cases hq
        · have hnl : ¬ i' < es.length := by omega
          obtain ⟨ad, _, _, q2, q3⟩ := ry _ j' x hx
          have hyb := at2_lt hx hyl
          simp only [hnl, if_false]
          refine ⟨curAt _ _ ?_, q2.mono fun b hb => ?_, fun hq => ?_⟩
          · have e1 : i' * szT P e = es.length * szT P e + (i' - es.length) * szT P e := by rw [← Nat.add_mul]; congr 1; omega
            rw [List.getElem?_append_right (by rw [hxl, e1]; omega), hxl]
            have e2 : i' * szT P e + j' - es.length * szT P e = (i' - es.length) * szT P e + j' := by omega
            rw [e2]
            exact newsAt _ _ hyb.1 hyb.2
          · rcases hb with hb | hb
            · exact ⟨.inl hb, sameF b hb⟩
            · exact ⟨.inr (memB b hb), sameB b hb⟩
          · have ho2 : o2 = true := by revert hq; cases o1 <;> simp
            obtain ⟨r1, r2⟩ := q3 ho2
            exact ⟨RepX.mono r1 fun b hb => sameB b (r2 b hb), fun b hb => memB b (r2 b hb)⟩)
      (by
        intro hq i1 j1 x1 i2 j2 x2 hx1 hx2 hne b hb1 hb2
        have ho2 : o2 = true := by revert hq; cases o1 <;> simp
        rcases at2_append hx1 with ⟨p1, hx1⟩ | ⟨p1, hx1⟩ <;> rcases at2_append hx2 with ⟨p2, hx2⟩ | ⟨p2, hx2⟩
        · simp only [p1, p2, if_true] at hb1 hb2
          exact db i1 j1 x1 i2 j2 x2 hx1 hx2 hne b hb1 hb2
        · simp only [p1, if_true, if_neg (show ¬ i2 < es.length by omega)] at hb1 hb2
          exact BO b ((ry _ _ _ hx2).choose_spec.2.2.2 ho2 |>.2 b hb2) ((rb _ _ _ hx1).2.2 b hb1).1
        · simp only [p2, if_true, if_neg (show ¬ i1 < es.length by omega)] at hb1 hb2
          exact BO b ((ry _ _ _ hx1).choose_spec.2.2.2 ho2 |>.2 b hb1) ((rb _ _ _ hx2).2.2 b hb2).1
        · simp only [if_neg (show ¬ i1 < es.length by omega), if_neg (show ¬ i2 < es.length by omega)] at hb1 hb2
          exact dy ho2 _ _ _ _ _ _ hx1 hx2 (by omega) b hb1 hb2)
    have Zin : ∀ b ∈ Z, b ∈ O ∨ b ∈ B := by
      intro b hb
      rcases List.mem_append.1 hb with hb | hb
      · exact .inl (List.mem_filter.1 hb).1
      · exact .inr hb
    refine ⟨_, w', _, hrun, k5, ?_, ⟨hg.os, hg.tape, hg.output, hg.size, fun b hb hne => same b hb (notO b fun hO => ?_), fun b hb => arrMu_F1 (M := ⟨M.m, own2, M.F⟩) _ _ _ _ _ b hb, fun b hb => ?_, fun k b hb => ?_⟩, fun k hk => ?_⟩
    · simp only [RepA, arrMu_m, upd_same]
      exact ⟨hnc, trivial⟩
    · obtain ⟨id, hid⟩ := OO b hO
      exact hne id hid
    · rcases arrMu_F2 _ _ _ _ _ b hb with q | q
      · exact .inl q
      · exact .inr (.inl (inM b (Zin b q)))
    · rcases arrMu_own _ _ _ _ _ k b hb with q | rfl | q
      · exact .inl ⟨k, own_of_D D1 (own2sub k b q)⟩
      · rcases hgblk with q | q
        · exact .inl (inM b (.inl (hOg b q)))
        · exact .inr (by omega)
      · exact .inl (inM b (Zin b q))
    · rw [arrMu_m]; exact upd_ne _ _ hk

theorem mem_sound {a : Act} (hs : Sim P w M t h a.tmps) {ρ : Operand → A} (hr : ∀ x, RepA w M (ρ x) (a.eval x)) (o : Oper) {s : Nat} (hal : isAl o.op = true → M.own s = [] ∧ NoRef s t h ∧ ∀ x, s ∉ refsA (ρ x)) {r : A} {h' : Heap}
    (hk : memA P o.op s ρ h = some (r, h')) :
    ∃ nx z w' M', (execOp a.eval o).run P w = .ok nx w' ∧ (nx = .value z ∨ (nx = .skip ∧ z = undef)) ∧ Sim P w' M' t h' a.tmps ∧ RepA w' M' r z ∧ Step w M w' M' ∧ ∀ k, k ≠ s ∨ isAl o.op = false → M'.m k = M.m k := by
  unfold memA at hk
  unfold execOp
  split at hk
  · rename_i ty heq
    rw [heq] at hal
    obtain ⟨a1, a2, a3⟩ := hal rfl
    simp only [heq]
    split at hk
    · rename_i z hz
      simp only [Option.some.injEq, Prod.mk.injEq] at hk
      obtain ⟨rfl, rfl⟩ := hk
      obtain ⟨v, hv, hrv⟩ := zeroT_run (P := P) (w := w) (M := M) hz
      obtain ⟨M', q1, q2, q3, q4⟩ := new_box hs a1 a2 hrv (by rw [refs_zeroT hz]; simp) ty
      refine ⟨_, _, _, M', ?_, .inl rfl, by simpa using q1, by simpa using q2, by simpa using q3, fun k hk => by rw [q4]; exact upd_ne _ _ (hk.resolve_right (by simp [isAl]))⟩
      simp only [Sem.run_bind, alloc_run hv, Result.andThen_ok, Sem.run_pure]
    · cases hk
  · rename_i ty x heq
    rw [heq] at hal
    obtain ⟨a1, a2, a3⟩ := hal rfl
    simp only [heq]
    split at hk
    · rename_i l hl
      simp only [Option.some.injEq, Prod.mk.injEq] at hk
      obtain ⟨rfl, rfl⟩ := hk
      have hL := leafs_sound hl (hr x)
      have href : s ∉ refsL l := by
        have h3 := a3 x
        cases hρ : ρ x with
        | agg cs => rw [hρ] at hl h3; simp [leafs] at hl; subst hl; simpa [refsA] using h3
        | tup cs => rw [hρ] at hl; simp [leafs] at hl
        | junk => rw [hρ] at hl; simp [leafs] at hl
        | _ => rw [hρ] at hl h3; simp [leafs] at hl; subst hl; simpa [refsL] using h3
      obtain ⟨M', q1, q2, q3, q4⟩ := new_box hs a1 a2 hL href ty
      refine ⟨_, _, _, M', ?_, .inl rfl, by simpa using q1, by simpa using q2, by simpa using q3, fun k hk => by rw [q4]; exact upd_ne _ _ (hk.resolve_right (by simp [isAl]))⟩
      simp only [Sem.run_bind, box_run, Result.andThen_ok, Sem.run_pure]
    · cases hk
  · rename_i ty n ps heq
    rw [heq] at hal
    obtain ⟨a1, a2, a3⟩ := hal rfl
    simp only [heq]
    split at hk
    · rename_i e he
      split at hk
      · rename_i z es own h1 hz hlit
        split at hk
        · rename_i hq
          simp only [Option.some.injEq, Prod.mk.injEq] at hk
          obtain ⟨rfl, rfl⟩ := hk
          have hpl : (ps.toList.map fun x => (x.1, ρ x.2)).length = n := by
            unfold litA at hlit
            split at hlit
            · split at hlit
              · simp only [Option.some.injEq, Prod.mk.injEq] at hlit
                obtain ⟨rfl, _, _⟩ := hlit
                have := hq.1
                simpa [chunk] using this
              · cases hlit
            · cases hlit
          obtain ⟨v, w', M', q1, q2, q3, q4, q5⟩ := slice_lit hs a1 a2 (ps := ps.map fun (i, x) => (i, a.eval x)) (by
            have := repP_map (w := w) (M := M) (xs := ps.toList) hr
            simpa using this) hlit ⟨_, hz⟩ he hq.2.1 (by rw [hpl]; exact hq.2.2) hq.1
          refine ⟨_, v, w', M', ?_, .inl rfl, q2, q3, q4, fun k hk => q5 k (hk.resolve_right (by simp [isAl]))⟩
          simp only [Sem.run_bind, q1, Result.andThen_ok, Sem.run_pure]
        · cases hk
      · cases hk
    · cases hk
  · rename_i ty x heq
    simp only [heq]
    obtain ⟨rfl, z, q1, q2⟩ := load_sound hs (hr x) hk
    exact ⟨_, z, w, M, by simp only [Sem.run_bind, q1, Result.andThen_ok, Sem.run_pure], .inl rfl, hs, q2, Step.refl w M, fun _ _ => rfl⟩
  · rename_i ty x y heq
    simp only [heq]
    obtain ⟨rfl, w', M', q1, q2, q3, q4⟩ := store_sound hs (hr y) (hr x) hk
    refine ⟨.skip, undef, w', M', by simp only [Sem.run_bind, q1, Result.andThen_ok, Sem.run_pure], .inr ⟨rfl, rfl⟩, q2, by simp [RepA], q3, fun k _ => by rw [q4]⟩
  · rename_i ty l c heq
    rw [heq] at hal
    obtain ⟨a1, a2, a3⟩ := hal rfl
    simp only [heq]
    split at hk
    · rename_i e x y he hl hc
      split at hk
      · rename_i z hz
        split at hk
        · rename_i zs h0 hsk
          split at hk
          · rename_i hq
            obtain ⟨rfl, g1, g2, g3, g4, g5⟩ := hq
            simp only [Option.some.injEq, Prod.mk.injEq] at hk
            obtain ⟨rfl, rfl⟩ := hk
            have r1 := hr l
            have r2 := hr c
            rw [hl] at r1; rw [hc] at r2
            simp only [RepA] at r1 r2
            obtain ⟨v, w', M', q1, q2, q3, q4, q5⟩ := make_lit hs a1 a2 hz hsk he g5 g4 g1 g2 g3
            refine ⟨_, v, w', M', ?_, .inl rfl, q2, q3, q4, fun k hk => q5 k (hk.resolve_right (by simp [isAl]))⟩
            simp only [rep_int r1, rep_int r2, Sem.run_bind, q1, Result.andThen_ok, Sem.run_pure]
          · cases hk
        · cases hk
      · cases hk
    · cases hk
  · rename_i xs ts heq
    rw [heq] at hal
    obtain ⟨a1, a2, a3⟩ := hal rfl
    simp only [heq]
    split at hk
    · rename_i x y ty u hx ht
      have e1 : xs = #[x, y] := by cases xs; simp_all
      have e2 : ts = #[ty, u] := by cases ts; simp_all
      subst e1; subst e2
      split at hk
      · rename_i e e' he he'
        split at hk
        · rename_i es own h1 z hb hz
          split at hk
          · rename_i ys own' h2 hm
            split at hk
            · rename_i hq
              obtain ⟨rfl, g0, g1, g2, g3, g4⟩ := hq
              simp only [Option.some.injEq, Prod.mk.injEq] at hk
              obtain ⟨rfl, rfl⟩ := hk
              obtain ⟨v, w', M', q1, q2, q3, q4, q5⟩ := append_sound (ut := o.type) hs a1 a2 (hr x) (hr y) hb hm he hz g0 g3 g1 g2 g4
              refine ⟨_, v, w', M', ?_, .inl rfl, q2, q3, q4, fun k hk => q5 k (hk.resolve_right (by simp [isAl]))⟩
              simp only [resolve, List.map_toArray, List.map_cons, List.map_nil, Sem.run_bind, Sem.run_pure, Result.andThen_ok, invoke, builtin, q1]
            · cases hk
          · cases hk
        · cases hk
      · cases hk
    · cases hk
  · cases hk
end
end Go.AX
