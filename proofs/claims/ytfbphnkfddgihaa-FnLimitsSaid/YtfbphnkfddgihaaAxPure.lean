/- The operations that only compute: the machine comes to what the abstract executor says. -/
import Derived.Test.YtfbphnkfddgihaaAxSem
namespace Go.AX
open Instr in
section
variable {P : Program} {w : World} {M : Mu}

theorem add_add (ad : Addr) (m n : Nat) : (ad.add m).add n = ad.add (m + n) := by
  unfold Addr.add
  by_cases hm : m = 0 <;> by_cases hn : n = 0 <;> simp [hm, hn, Nat.add_assoc]
theorem add0 (b off : Nat) : (⟨b, 0, none⟩ : Addr).add off = ⟨b, off, none⟩ := by
  unfold Addr.add; split <;> simp_all
theorem addb (b o off : Nat) : (⟨b, o, none⟩ : Addr).add off = ⟨b, o + off, none⟩ := by
  unfold Addr.add; split <;> simp_all
theorem szT_info {t : TypeId} (h : szT P t ≠ 0) : ∃ i, P.info? t = some i ∧ i.size = szT P t := by
  unfold szT Program.cellsOf at *
  cases hi : P.info? t with
  | none => simp [hi] at h
  | some i => exact ⟨i, rfl, by simp⟩
theorem run_sizeOf' {t : TypeId} {i : TypeInfo} (h : P.info? t = some i) : (sizeOf t).run P w = .ok i.size w := by
  simp [sizeOf, typeInfo, h]
theorem run_sz {t : TypeId} (h : szT P t ≠ 0) : (sizeOf t).run P w = .ok (szT P t) w := by
  obtain ⟨i, hi, he⟩ := szT_info h
  rw [run_sizeOf' hi, he]
theorem elT_und {t e : TypeId} (h : elT P t = some e) : P.underlying t = some (.slice e) := by
  unfold elT at h
  split at h
  · rename_i hu; rw [hu]; injection h with h; rw [h]
  · cases h
theorem fldT_und {t : TypeId} {f : Nat} {r : Nat × TypeId} (h : fldT P t f = some r) : ∃ fs fd, P.underlying t = some (.struct fs) ∧ fs[f]? = some fd ∧ fd.offset = r.1 ∧ fd.type = r.2 := by
  unfold fldT at h
  split at h
  · rename_i fs hu
    cases hf : fs[f]? with
    | none => simp [hf] at h
    | some fd => simp [hf] at h; subst h; exact ⟨fs, fd, hu, hf, rfl, rfl⟩
  · cases h
theorem aggT_run {t : TypeId} {d : TypeDesc} (hu : P.underlying t = some d) : (isAgg t).run P w = .ok (aggT P t) w := by
  unfold isAgg aggT
  simp only [Sem.run_bind, run_underlying hu, Result.andThen_ok, hu]
  cases d <;> simp

theorem un_sound (op : UnOp) {x r : A} {v : Value} (h : unA op x = some r) (hx : RepA w M x v) : ∃ z, (Op.unary op v).run P w = .ok z w ∧ RepA w M r z := by
  unfold unA at h
  split at h
  · simp only [RepA] at hx
    rw [rep_int hx]
    split at h
    · injection h with h; subst h; exact ⟨_, by simp [Op.unary, Op.intArith] <;> rfl, .int _ _⟩
    · cases h
  · simp only [RepA] at hx
    rw [rep_bool hx]
    split at h
    · injection h with h; subst h; exact ⟨_, by simp [Op.unary] <;> rfl, .bool _⟩
    · cases h
  · cases h

theorem conv_sound (src dst : TypeId) {x r : A} {v : Value} (h : convA P src dst x = some r) (hx : RepA w M x v) : ∃ z, (convert src dst v).run P w = .ok z w ∧ RepA w M r z := by
  unfold convA at h
  split at h
  · simp only [RepA] at hx
    rw [rep_int hx]
    split at h
    · rename_i k n _ _ d k' hs hd
      injection h with h; subst h
      exact ⟨.int k' (k'.wrap n), by unfold convert; simp only [Sem.run_bind, run_underlying hs, run_underlying hd, Result.andThen_ok]; simp [Conv.intToInt], .int _ _⟩
    · cases h
  · simp only [RepA] at hx
    rw [rep_str hx]
    split at h
    · rename_i s _ _ hs hd
      injection h with h; subst h
      exact ⟨.string s, by unfold convert; simp only [Sem.run_bind, run_underlying hs, run_underlying hd, Result.andThen_ok]; simp, .str _⟩
    · cases h
  · cases h

theorem rep_sl {F : Nat → Prop} {v : Value} {es : List (List D)} (h : Rep w F v (.sl es)) : ∃ (a : Option Addr) (c sz : Nat) (vs : Nat → Nat → Value), v = .slice a es.length c ∧ es.length ≤ c ∧ (∀ e ∈ es, e.length = sz) ∧
    (∀ i j x, at2 es i j = some x → ∃ ad, a = some ad ∧ F ad.block ∧ w.cell? (ad.add (i * sz + j)) = some (vs i j)) ∧ (∀ i j x, at2 es i j = some x → Rep w F (vs i j) x) := by
  cases h with
  | sl a c sz es vs hc hsz ha hr => exact ⟨a, c, sz, vs, rfl, hc, hsz, ha, hr⟩

theorem idx_sound (t : TypeId) {x i r : A} {v u : Value} (h : idxA P t x i = some r) (hx : RepA w M x v) (hi : RepA w M i u) : ∃ z, (indexAt t v u).run P w = .ok z w ∧ RepA w M r z := by
  unfold idxA at h
  split at h
  · rename_i es k i
    simp only [RepA] at hx hi
    rw [rep_int hi]
    obtain ⟨a, c, sz, vs, rfl, hc, hsz, ha, hr⟩ := rep_sl hx
    split at h
    · rename_i e he
      split at h
      · rename_i h0
        split at h
        · rename_i cs hcs
          split at h
          · rename_i hl
            injection h with h; subst h
            have hlt : i.toNat < es.length := by
              rcases Nat.lt_or_ge i.toNat es.length with q | q
              · exact q
              · simp [List.getElem?_eq_none q] at hcs
            have hcl : cs.length = sz := hsz cs (List.mem_of_getElem? hcs)
            have hcp : 0 < cs.length := by
              rcases cs with _ | ⟨c0, cs⟩
              · exact absurd rfl hl.2
              · simp
            have h2 : ∀ j x, cs[j]? = some x → at2 es i.toNat j = some x := by
              intro j x hx'; simp [at2, hcs, hx']
            obtain ⟨ad, rfl, _, _⟩ := ha i.toNat 0 _ (h2 0 _ (List.getElem?_eq_getElem hcp))
            refine ⟨.pointer (some (ad.add (i.toNat * szT P e))), ?_, ?_⟩
            · unfold indexAt
              simp only [asIntOf, Sem.run_bind, Sem.run_pure, Result.andThen_ok, run_underlying (elT_und he)]
              rw [if_pos ⟨h0, by omega⟩]
              simp only [Sem.run_bind, run_sz (P := P) (t := e) (by omega), Result.andThen_ok, Sem.run_pure]
            · simp only [RepA]
              refine ⟨_, fun j => vs i.toNat j, rfl, fun j y hj => ?_⟩
              obtain ⟨ad', e', hF, hc'⟩ := ha _ _ _ (h2 j y hj)
              injection e' with e'
              subst e'
              refine ⟨by unfold Addr.add; split <;> exact hF, ?_, hr _ _ _ (h2 j y hj)⟩
              rw [add_add, ← hl.1, hcl]; exact hc'
          · cases h
        · cases h
      · cases h
    · cases h
  · rename_i id n k i
    simp only [RepA] at hx hi
    rw [rep_int hi]
    split at h
    · rename_i e he
      split at h
      · rename_i h0
        injection h with h; subst h
        split at hx
        · rename_i b c hm
          obtain ⟨hnc, rfl⟩ := hx
          refine ⟨.pointer (some ⟨b, i.toNat * szT P e, none⟩), ?_, ?_⟩
          · unfold indexAt
            simp only [asIntOf, Sem.run_bind, Sem.run_pure, Result.andThen_ok, run_underlying (elT_und he)]
            rw [if_pos ⟨h0.1, by omega⟩]
            simp only [Sem.run_bind, run_sz (P := P) (t := e) h0.2.2, Result.andThen_ok, Sem.run_pure, add0]
          · simp only [RepA]
            exact ⟨b, c, hm, by simp⟩
        · omega
      · cases h
    · cases h
  · cases h

theorem fld_sound (s : TypeId) (f : Nat) {x r : A} {v : Value} (h : fldA P s f x = some r) (hx : RepA w M x v) : ∃ z, (fieldAt s v f).run P w = .ok z w ∧ RepA w M r z := by
  have key : ∀ (o : Nat) (t : TypeId) (ad : Addr), fldT P s f = some (o, t) → szT P t ≠ 0 → (fieldAt s (.pointer (some ad)) f).run P w = .ok (.pointer (some (ad.add o))) w := by
    intro o t ad hf hz
    obtain ⟨fs, fd, hu, hg, h1, h2⟩ := fldT_und hf
    simp only at h1 h2
    subst h1; subst h2
    unfold fieldAt
    simp only [Sem.run_bind, run_underlying hu, Result.andThen_ok, hg, sureAddr, Sem.run_pure]
    unfold fieldPlace
    simp only [Sem.run_bind, run_sz hz, Result.andThen_ok, if_neg hz, Sem.run_pure]
  unfold fldA at h
  split at h
  · split at h
    · rename_i o t hf
      split at h
      · cases h
      · rename_i hz
        injection h with h; subst h
        simp only [RepA] at hx
        obtain ⟨b, c, hm, rfl⟩ := hx
        exact ⟨_, key _ _ _ hf hz, by simp only [RepA]; exact ⟨b, c, hm, by rw [addb]⟩⟩
    · cases h
  · split at h
    · rename_i o t hf
      split at h
      · cases h
      · rename_i hz
        injection h with h; subst h
        simp only [RepA] at hx
        obtain ⟨b, c, hm, rfl⟩ := hx
        exact ⟨_, key _ _ _ hf hz, by simp only [RepA]; exact ⟨b, c, hm, by rw [addb, Nat.add_assoc]⟩⟩
    · cases h
  · split at h
    · rename_i o t hf
      split at h
      · cases h
      · rename_i hz
        injection h with h; subst h
        simp only [RepA] at hx
        obtain ⟨ad, vs, rfl, hr⟩ := hx
        refine ⟨_, key _ _ _ hf hz, ?_⟩
        simp only [RepA]
        refine ⟨_, fun j => vs (o + j), rfl, fun j x hj => ?_⟩
        have := hr (o + j) x (by simpa [List.getElem?_drop] using hj)
        rw [add_add]
        exact ⟨by unfold Addr.add; split <;> exact this.1, this.2.1, this.2.2⟩
    · cases h
  · cases h

theorem part_sound (t : TypeId) (off : Nat) {cs : List A} {vs : List Value} {r : A} (h : partA P t cs off = some r) (hx : RepL w M cs vs) : ∃ z, (part t vs.toArray off).run P w = .ok z w ∧ RepA w M r z := by
  unfold partA at h
  split at h
  · cases h
  · rename_i hd
    split at h
    · split at h
      · rename_i ha hl
        injection h with h; subst h
        refine ⟨.agg (vs.toArray.extract off (off + szT P t)), ?_, ?_⟩
        · unfold part
          simp only [Sem.run_bind, aggT_run hd, Result.andThen_ok, ha, if_true, run_sz (P := P) (t := t) hl.2, Sem.run_pure]
        · simp only [RepA]
          refine ⟨(vs.drop off).take (szT P t), ?_, (hx.drop off).take _⟩
          simp [List.extract_toArray]
      · cases h
    · rename_i ha
      obtain ⟨v, hv, hr⟩ := hx.get h
      refine ⟨v, ?_, hr⟩
      unfold part
      simp only [Sem.run_bind, aggT_run hd, Result.andThen_ok, ha, Bool.false_eq_true, if_false]
      simp [hv]

theorem index_sound (t : TypeId) {x i r : A} {v u : Value} (h : indexA P t x i = some r) (hx : RepA w M x v) (hi : RepA w M i u) : ∃ z, (index t v u).run P w = .ok z w ∧ RepA w M r z := by
  unfold indexA at h
  split at h
  · rename_i s k i
    simp only [RepA] at hx hi
    rw [rep_int hi, rep_str hx]
    split at h
    · rename_i hu
      split at h
      · rename_i h0
        split at h
        · rename_i b hb
          injection h with h; subst h
          refine ⟨.int .u8 b.toNat, ?_, .int _ _⟩
          unfold index
          simp only [asIntOf, Sem.run_bind, Sem.run_pure, Result.andThen_ok, run_underlying hu, if_pos h0, hb]
        · cases h
      · cases h
    · cases h
  · cases h

/-! ### x[lo:hi] -/
def RepO (w : World) (M : Mu) : Option A → Option Value → Prop
  | none, none => True
  | some a, some v => RepA w M a v
  | _, _ => False
theorem intA_sound {a : Option A} {v : Option Value} {i : Option Int} (h : intA a = some i) (hr : RepO w M a v) : (i = none ∧ v = none) ∨ ∃ k n, i = some n ∧ v = some (.int k n) := by
  unfold intA at h
  split at h
  · injection h with h; subst h
    cases v with
    | none => exact .inl ⟨rfl, rfl⟩
    | some v => simp [RepO] at hr
  · rename_i k n
    injection h with h; subst h
    cases v with
    | none => simp [RepO] at hr
    | some v => simp only [RepO, RepA] at hr; rw [rep_int hr]; exact .inr ⟨k, n, rfl, rfl⟩
  · cases h
theorem bounds_sound (b : Bool) (len cap : Nat) {lo hi : Option A} {vlo vhi : Option Value} {l h : Option Int} (hl : intA lo = some l) (hh : intA hi = some h) (rl : RepO w M lo vlo) (rh : RepO w M hi vhi)
    (h0 : 0 ≤ l.getD 0) (h1 : l.getD 0 ≤ h.getD len) (h2 : h.getD len ≤ cap) : (sliceBounds b len cap vlo vhi none).run P w = .ok ((l.getD 0).toNat, (h.getD len).toNat, cap) w := by
  have sb : ∀ k (n : Int) (y : Nat) c, 0 ≤ n → n ≤ y → (sliceBound (.int k n) y c).run P w = .ok n.toNat w := by
    intro k n y c q1 q2
    unfold sliceBound
    simp only [asIntOf, Sem.run_bind, Sem.run_pure, Result.andThen_ok]
    rw [if_pos ⟨q1, q2⟩]; simp
  unfold sliceBounds
  rcases intA_sound hh rh with ⟨rfl, rfl⟩ | ⟨k2, n2, rfl, rfl⟩
  · rcases intA_sound hl rl with ⟨rfl, rfl⟩ | ⟨k1, n1, rfl, rfl⟩
    · simp
    · simp only [Option.getD_some, Option.getD_none] at *
      simp only [Sem.run_bind, Sem.run_pure, Result.andThen_ok, sb k1 n1 len _ h0 h1]
      simp
  · rcases intA_sound hl rl with ⟨rfl, rfl⟩ | ⟨k1, n1, rfl, rfl⟩
    · simp only [Option.getD_some, Option.getD_none] at *
      simp only [Sem.run_bind, Sem.run_pure, Result.andThen_ok, sb k2 n2 cap _ h1 h2]
      simp
    · simp only [Option.getD_some] at *
      simp only [Sem.run_bind, Sem.run_pure, Result.andThen_ok, sb k2 n2 cap _ (by omega) h2, sb k1 n1 n2.toNat _ h0 (by omega)]

theorem slice_run (t e : TypeId) (he : P.underlying t = some (.slice e)) (hz : szT P e ≠ 0) (a : Option Addr) (len cap : Nat) {vlo vhi : Option Value} {l h : Nat}
    (hb : (sliceBounds true len cap vlo vhi none).run P w = .ok (l, h, cap) w) : (sliceAt t (.slice a len cap) vlo vhi none).run P w = .ok (.slice (if cap = l then a else a.map (·.add (l * szT P e))) (h - l) (cap - l)) w := by
  unfold sliceAt
  simp only [Sem.run_bind, run_underlying he, Result.andThen_ok]
  unfold slice
  simp only [Sem.run_bind, run_underlying he, Result.andThen_ok, hb, run_sz hz, Sem.run_pure]

theorem at2_drop_take {es : List (List D)} {l h i j : Nat} {x : D} (q : at2 ((es.take h).drop l) i j = some x) : l + i < h ∧ at2 es (l + i) j = some x := by
  unfold at2 at *
  rw [List.getElem?_drop] at q
  by_cases hlt : l + i < h
  · exact ⟨hlt, by rwa [List.getElem?_take_of_lt hlt] at q⟩
  · rw [List.getElem?_take_eq_none (by omega)] at q; simp at q

theorem sliceA_sound (t : TypeId) {x r : A} {v : Value} {lo hi : Option A} {vlo vhi : Option Value} (h : sliceA P t x lo hi = some r) (hx : RepA w M x v) (rl : RepO w M lo vlo) (rh : RepO w M hi vhi) :
    ∃ z, (sliceAt t v vlo vhi none).run P w = .ok z w ∧ RepA w M r z := by
  unfold sliceA at h
  split at h
  · rename_i l u hl hu
    split at h
    · rename_i es
      simp only [RepA] at hx
      obtain ⟨a, c, sz, vs, rfl, hc, hsz, ha, hr⟩ := rep_sl hx
      split at h
      · rename_i e he
        split at h
        · rename_i hq
          obtain ⟨q0, q1, q2, q3, q4⟩ := hq
          injection h with h; subst h
          have hb := bounds_sound (P := P) (w := w) (M := M) true es.length c hl hu rl rh q0 q1 (by omega)
          refine ⟨_, slice_run t e (elT_und he) (by omega) a es.length c hb, ?_⟩
          simp only [RepA]
          have hlen : ((es.take (u.getD ↑es.length).toNat).drop (l.getD 0).toNat).length = (u.getD ↑es.length).toNat - (l.getD 0).toNat := by
            simp only [List.length_drop, List.length_take]; omega
          rw [← hlen]
          refine .sl _ _ sz _ (fun i j => vs ((l.getD 0).toNat + i) j) (by omega) (fun e' he' => hsz e' (List.mem_of_mem_take (List.mem_of_mem_drop he'))) ?_ ?_
          · intro i j y hy
            obtain ⟨hlt, hy'⟩ := at2_drop_take hy
            obtain ⟨ad, rfl, hF, hcell⟩ := ha _ _ _ hy'
            rw [if_neg (by omega)]
            have hsz' : szT P e = sz := by
              unfold at2 at hy'
              cases he2 : es[(l.getD 0).toNat + i]? with
              | none => simp [he2] at hy'
              | some e' => rw [← q4 e' (List.mem_of_getElem? he2), hsz e' (List.mem_of_getElem? he2)]
            refine ⟨ad.add ((l.getD 0).toNat * szT P e), rfl, by unfold Addr.add; split <;> exact hF, ?_⟩
            rw [add_add, hsz']
            have : (l.getD 0).toNat * sz + (i * sz + j) = ((l.getD 0).toNat + i) * sz + j := by rw [Nat.add_mul]; omega
            rw [this]; exact hcell
          · intro i j y hy
            exact hr _ _ _ (at2_drop_take hy).2
        · cases h
      · cases h
    · rename_i id n
      simp only [RepA] at hx
      split at h
      · rename_i e he
        split at h
        · rename_i hq
          obtain ⟨q0, q1, q2, q3⟩ := hq
          injection h with h; subst h
          split at hx
          · rename_i b c hm
            obtain ⟨hnc, rfl⟩ := hx
            have hb := bounds_sound (P := P) (w := w) (M := M) true n c hl hu rl rh (by omega) (by omega) (by omega)
            refine ⟨_, slice_run t e (elT_und he) q3 _ n c hb, ?_⟩
            simp only [RepA, hm]
            refine ⟨by omega, ?_⟩
            have h0 : (l.getD 0).toNat = 0 := by omega
            rw [h0]
            simp [Addr.add]
          · rename_i hm
            obtain ⟨rfl, rfl⟩ := hx
            have hb := bounds_sound (P := P) (w := w) (M := M) true 0 0 hl hu rl rh (by omega) (by omega) (by omega)
            refine ⟨_, slice_run t e (elT_und he) q3 _ 0 0 hb, ?_⟩
            simp only [RepA, hm]
            have h0 : (l.getD 0).toNat = 0 := by omega
            have h1 : (u.getD ↑(0 : Nat)).toNat = 0 := by omega
            rw [h0, h1]
            exact ⟨rfl, by simp⟩
        · cases h
      · cases h
    · simp only [RepA] at hx
      subst hx
      split at h
      · rename_i e he
        split at h
        · rename_i hq
          obtain ⟨q0, q1, q3⟩ := hq
          injection h with h; subst h
          have hb := bounds_sound (P := P) (w := w) (M := M) true 0 0 hl hu rl rh (by omega) (by simpa using by omega) (by simpa using by omega)
          refine ⟨_, slice_run t e (elT_und he) q3 _ 0 0 hb, ?_⟩
          simp only [RepA]
          have h0 : (l.getD 0).toNat = 0 := by omega
          have h1 : (u.getD ↑(0 : Nat)).toNat = 0 := by simpa using by omega
          rw [h0, h1]
          simp
        · cases h
      · cases h
    · rename_i s
      simp only [RepA] at hx
      rw [rep_str hx]
      split at h
      · rename_i hu'
        split at h
        · rename_i hq
          obtain ⟨q0, q1, q2⟩ := hq
          injection h with h; subst h
          have hb := bounds_sound (P := P) (w := w) (M := M) false s.size s.size hl hu rl rh q0 q1 q2
          refine ⟨.string (s.extract (l.getD 0).toNat (u.getD ↑s.size).toNat), ?_, .str _⟩
          unfold sliceAt
          simp only [Sem.run_bind, run_underlying hu', Result.andThen_ok]
          unfold slice
          simp only [Sem.run_bind, run_underlying hu', Result.andThen_ok, Option.isSome_none, Bool.false_eq_true, if_false, hb, Sem.run_pure]
        · cases h
      · cases h
    · cases h
  · cases h

/-! ### literals of structs and arrays -/
theorem putAt_cons {α : Type} (cs : List α) (off : Nat) (x : α) (l : List α) (h : off + (l.length + 1) ≤ cs.length) : putAt (cs.set off x) (off + 1) l = putAt cs off (x :: l) := by
  unfold putAt
  have h1 : (cs.set off x).take (off + 1) = cs.take off ++ [x] := by
    rw [List.take_succ_eq_append_getElem (by simp; omega), List.take_set_of_le (Nat.le_refl _)]
    simp
  have h2 : (cs.set off x).drop (off + 1 + l.length) = cs.drop (off + (l.length + 1)) := by
    rw [List.drop_set_of_lt (by omega)]
    congr 1; omega
  rw [h1, h2]
  simp
theorem fold_put (l : List Value) (off k : Nat) (cs : Array Value) (h : off + k + l.length ≤ cs.size) :
    ((l.zipIdx k).foldl (fun (cs : Array Value) x => cs.setIfInBounds (off + x.2) x.1) cs).toList = putAt cs.toList (off + k) l := by
  induction l generalizing k cs with
  | nil => simp [putAt]
  | cons x l ih =>
    simp only [List.length_cons] at h
    rw [List.zipIdx_cons, List.foldl_cons, ih (k + 1) _ (by simp; omega)]
    simp only [Array.toList_setIfInBounds]
    rw [← putAt_cons _ (off + k) x l (by simpa using by omega)]
    rfl
theorem leafs_sound {a : A} {v : Value} {l : List A} (h : leafs a = some l) (hr : RepA w M a v) : RepL w M l v.cells.toList := by
  unfold leafs at h
  split at h
  · injection h with h; subst h
    simp only [RepA] at hr
    obtain ⟨vs, rfl, hr⟩ := hr
    simpa [Value.cells] using hr
  · cases h
  · cases h
  · rename_i h1 h2 h3
    injection h with h; subst h
    have : v.cells = #[v] := by
      cases a with
      | d x => simp only [RepA] at hr; cases hr <;> rfl
      | es => simp only [RepA] at hr; rw [hr]; rfl
      | os id n => simp only [RepA] at hr; split at hr
                   · rw [hr.2]; rfl
                   · rw [hr.2]; rfl
      | ptr id off => simp only [RepA] at hr; obtain ⟨_, _, _, rfl⟩ := hr; rfl
      | pe id i sz off => simp only [RepA] at hr; obtain ⟨_, _, _, rfl⟩ := hr; rfl
      | dp cs => simp only [RepA] at hr; obtain ⟨_, _, rfl, _⟩ := hr; rfl
      | fn f cap => simp only [RepA] at hr; obtain ⟨_, rfl, _⟩ := hr; rfl
      | agg cs => exact absurd rfl (h1 cs)
      | tup cs => exact absurd rfl (h2 cs)
      | undef => simp only [RepA] at hr; rw [hr]; rfl
      | junk => exact absurd rfl h3
    rw [this]
    simpa [RepL] using hr
def RepP (w : World) (M : Mu) : List (Nat × A) → List (Nat × Value) → Prop
  | [], [] => True
  | (i, a) :: l, (j, v) :: l' => i = j ∧ RepA w M a v ∧ RepP w M l l'
  | [], _ :: _ => False
  | _ :: _, [] => False
theorem repP_map {xs : List (Nat × Operand)} {f : Operand → A} {g : Operand → Value} (h : ∀ x, RepA w M (f x) (g x)) : RepP w M (xs.map fun x => (x.1, f x.2)) (xs.map fun x => (x.1, g x.2)) := by
  induction xs with
  | nil => simp [RepP]
  | cons x xs ih => simp only [List.map_cons, RepP]; exact ⟨trivial, h _, ih⟩
theorem fill_sound {fs : Nat → Option (Nat × Nat)} {cells : List A} {parts : List (Nat × A)} {r : List A} {cs : Array Value} {ps : List (Nat × Value)} (h : fillA P fs cells parts = some r)
    (hc : RepL w M cells cs.toList) (hp : RepP w M parts ps) : ∃ cs', fill fs cs ps = some cs' ∧ RepL w M r cs'.toList := by
  induction parts generalizing cells cs ps with
  | nil =>
    cases ps with
    | nil => simp only [fillA, Option.some.injEq] at h; subst h; exact ⟨cs, rfl, hc⟩
    | cons p ps => simp [RepP] at hp
  | cons p parts ih =>
    obtain ⟨i, a⟩ := p
    cases ps with
    | nil => simp [RepP] at hp
    | cons q ps =>
      obtain ⟨j, v⟩ := q
      simp only [RepP] at hp
      obtain ⟨rfl, ha, hp⟩ := hp
      simp only [fillA] at h
      split at h
      · rename_i off size l hf hl
        split at h
        · rename_i hq
          have hl' := leafs_sound hl ha
          have hlen := hl'.length
          have hcl := hc.length
          simp only [Array.length_toList] at hlen hcl
          simp only [fill, hf]
          rw [if_neg (by simp; omega)]
          refine ih h ?_ hp
          have := fold_put v.cells.toList off 0 cs (by simp; omega)
          rw [← Array.foldl_toList, Array.toList_zipIdx]
          rw [show (fun (cs : Array Value) (x : Value × Nat) => match x with | (c, j) => cs.setIfInBounds (off + j) c) = fun cs x => cs.setIfInBounds (off + x.2) x.1 from rfl]
          rw [this]
          exact hc.putAt hl' off
        · cases h
      · cases h

theorem mapM_sizes {fs : List Field} (h : ∀ f ∈ fs, szT P f.type ≠ 0) : (fs.mapM fun f => (do pure (f.offset, ← sizeOf f.type) : Sem (Nat × Nat))).run P w = .ok (fs.map fun f => (f.offset, szT P f.type)) w := by
  induction fs with
  | nil => simp
  | cons f fs ih =>
    rw [List.mapM_cons]
    simp only [Sem.run_bind, run_sz (h f (by simp)), Result.andThen_ok, Sem.run_pure, ih fun g hg => h g (by simp [hg]), List.map_cons]

theorem build_sound (t : TypeId) {parts : List (Nat × A)} {ps : Array (Nat × Value)} {r : A} (h : buildA P t parts = some r) (hp : RepP w M parts ps.toList) : ∃ z, (build t ps).run P w = .ok z w ∧ RepA w M r z := by
  have hz0 : ∀ {z : List A}, zeroT P t = some z → ∃ v, (zeroValue t).run P w = .ok v w ∧ RepL w M z v.cells.toList := by
    intro z hz
    unfold zeroT at hz
    cases hi : P.info? t with
    | none => simp [hi] at hz
    | some i =>
      cases hv : i.zero with
      | none => simp [hi, hv] at hz
      | some v =>
        simp [hi, hv] at hz
        refine ⟨v, by simp [zeroValue, typeInfo, hi, hv], ?_⟩
        subst hz
        have := repL_map (w := w) (M := M) (xs := v.cells.toList) (f := ofLeaf) (g := id) fun x _ => ofLeaf_rep x
        simpa using this
  unfold buildA at h
  split at h
  · rename_i z fs hz hu
    split at h
    · rename_i hall
      cases hf : fillA P (fun i => (fldT P t i).map fun x => (x.1, szT P x.2)) z parts with
      | none => simp [hf] at h
      | some r' =>
        simp [hf] at h
        subst h
        obtain ⟨v, hv, hr⟩ := hz0 hz
        obtain ⟨cs', hfill, hr'⟩ := fill_sound hf hr hp
        refine ⟨.agg cs', ?_, by simp only [RepA]; exact ⟨cs'.toList, by simp, hr'⟩⟩
        have hm : (fs.mapM fun f => (do pure (f.offset, ← sizeOf f.type) : Sem (Nat × Nat))).run P w = .ok (fs.map fun f => (f.offset, szT P f.type)) w := by
          rw [Array.mapM_eq_mapM_toList]
          have := mapM_sizes (P := P) (w := w) (fs := fs.toList) (by
            intro f hf
            have := List.all_eq_true.1 hall f hf
            simpa using this)
          rw [map_eq_pure_bind, Sem.run_bind, this, Result.andThen_ok, Sem.run_pure]
          congr 1
          exact Array.toList_inj.1 (by simp)
        unfold build
        simp only [Sem.run_bind, hv, Result.andThen_ok, run_underlying hu, hm]
        have hplace : (fun i => (fs.map fun f => (f.offset, szT P f.type))[i]?) = fun i => (fldT P t i).map fun x => (x.1, szT P x.2) := by
          funext i
          simp [fldT, hu, Option.map_map]
          rfl
        rw [hplace, hfill]
        simp
    · cases h
  · rename_i z n e hz hu
    split at h
    · rename_i hs
      cases hf : fillA P (fun i => some (i * szT P e, szT P e)) z parts with
      | none => simp [hf] at h
      | some r' =>
        simp [hf] at h
        subst h
        obtain ⟨v, hv, hr⟩ := hz0 hz
        obtain ⟨cs', hfill, hr'⟩ := fill_sound hf hr hp
        refine ⟨.agg cs', ?_, by simp only [RepA]; exact ⟨cs'.toList, by simp, hr'⟩⟩
        unfold build
        simp only [Sem.run_bind, hv, Result.andThen_ok, run_underlying hu, run_sz hs, hfill]
        simp
    · cases h
  · cases h

theorem repO_map {ρ : Operand → A} {σ : Operand → Value} (h : ∀ x, RepA w M (ρ x) (σ x)) (x : Option Operand) : RepO w M (x.map ρ) (x.map σ) := by
  cases x with
  | none => simp [RepO]
  | some x => exact h x
theorem len_sound (t : TypeId) {x r : A} {v : Value} (ty : TypeId) (h : (match P.underlying t with
      | some (.slice _) => (match x with | .d (.str _) => none | a => lenA a)
      | some .string => (match x with | .d (.str s) => lenA (.d (.str s)) | _ => none)
      | _ => none) = some r) (hx : RepA w M x v) : ∃ z, (Builtin.len_ #[t] ty #[v]).run P w = .ok z w ∧ RepA w M r z := by
  split at h
  · rename_i e hu
    have key : ∀ (a : Option Addr) (n c : Nat), (Builtin.len_ #[t] ty #[.slice a n c]).run P w = .ok (.int .i64 n) w := by
      intro a n c
      simp [Builtin.len_, run_underlying hu, goInt]
    split at h
    · cases h
    · unfold lenA at h
      split at h
      · injection h with h; subst h
        simp only [RepA] at hx
        obtain ⟨a, c, sz, vs, rfl, _⟩ := rep_sl hx
        exact ⟨_, key _ _ _, .int _ _⟩
      · rename_i hne; exact absurd rfl (hne _)
      · injection h with h; subst h
        simp only [RepA] at hx
        subst hx
        exact ⟨_, key _ _ _, .int _ _⟩
      · injection h with h; subst h
        simp only [RepA] at hx
        split at hx
        · rw [hx.2]; exact ⟨_, key _ _ _, .int _ _⟩
        · rw [hx.1, hx.2]; exact ⟨_, key _ _ _, .int _ _⟩
      · cases h
  · rename_i hu
    split at h
    · rename_i s
      simp only [lenA, Option.some.injEq] at h
      subst h
      simp only [RepA] at hx
      rw [rep_str hx]
      exact ⟨.int .i64 s.size, by simp [Builtin.len_, run_underlying hu, goInt], .int _ _⟩
    · cases h
  · cases h

theorem pure_sound {a : Act} {ρ : Operand → A} (hr : ∀ x, RepA w M (ρ x) (a.eval x)) (o : Oper) {r : A} (h : pureA P o.op ρ = some r) :
    ∃ z, (execOp a.eval o).run P w = .ok (.value z) w ∧ RepA w M r z := by
  have fin' : ∀ {m : Sem Value}, (∃ z, m.run P w = .ok z w ∧ RepA w M r z) → ∃ z, ((m.run P w).andThen fun a w' => Result.ok (Next.value a) w') = .ok (.value z) w ∧ RepA w M r z := by
    rintro m ⟨z, hz, hz'⟩
    exact ⟨z, by simp [hz], hz'⟩
  have fin : ∀ {m : Sem Value}, (∃ z, m.run P w = .ok z w ∧ RepA w M r z) → ∃ z, (do pure (.value (← m)) : Sem Next).run P w = .ok (.value z) w ∧ RepA w M r z := by
    rintro m ⟨z, hz, hz'⟩
    exact ⟨z, by simp [hz], hz'⟩
  unfold pureA at h
  unfold execOp
  split at h
  · rename_i x heq
    simp only [heq]
    injection h with h; subst h
    exact ⟨_, by simp, hr x⟩
  · rename_i x heq
    simp only [heq]
    injection h with h; subst h
    exact ⟨_, by simp, hr x⟩
  · rename_i c x y heq
    simp only [heq]
    have hc := hr c
    split at h
    · rename_i hcb; injection h with h; subst h
      rw [hcb] at hc; simp only [RepA] at hc
      exact ⟨_, by simp [rep_bool hc, asBool], hr x⟩
    · rename_i hcb; injection h with h; subst h
      rw [hcb] at hc; simp only [RepA] at hc
      exact ⟨_, by simp [rep_bool hc, asBool], hr y⟩
    · cases h
  · rename_i t ps heq
    simp only [heq]
    exact fin (build_sound t h (by
      have := repP_map (xs := ps.toList) hr
      simpa using this))
  · rename_i x heq
    simp only [heq]
    have hx := hr x
    split at h
    · rename_i hq; injection h with h; subst h
      rw [hq] at hx
      have hx' := hx
      simp only [RepA] at hx'
      obtain ⟨b, c, hm, hv⟩ := hx'
      exact ⟨a.eval x, by rw [hv]; rfl, hx⟩
    · rename_i hq; injection h with h; subst h
      rw [hq] at hx
      have hx' := hx
      simp only [RepA] at hx'
      obtain ⟨b, c, hm, hv⟩ := hx'
      exact ⟨a.eval x, by rw [hv]; rfl, hx⟩
    · rename_i hq; injection h with h; subst h
      rw [hq] at hx
      have hx' := hx
      simp only [RepA] at hx'
      obtain ⟨b, c, hv, _⟩ := hx'
      exact ⟨a.eval x, by rw [hv]; rfl, hx⟩
    · rename_i hq; injection h with h; subst h
      rw [hq] at hx
      have hx' := hx
      simp only [RepA] at hx'
      obtain ⟨vs, hv, _⟩ := hx'
      exact ⟨a.eval x, by rw [hv]; rfl, hx⟩
    · cases h
  · rename_i op t x y t2 heq
    simp only [heq]
    exact fin (bin_sound op t x y h (hr x) (hr y))
  · rename_i op t x heq
    simp only [heq]
    exact fin (un_sound op h (hr x))
  · rename_i s d x heq
    simp only [heq]
    exact fin (conv_sound s d h (hr x))
  · rename_i t x lo hi heq
    simp only [heq]
    exact fin (sliceA_sound t h (hr x) (repO_map hr lo) (repO_map hr hi))
  · rename_i s x f heq
    simp only [heq]
    exact fin (fld_sound s f h (hr x))
  · rename_i t x f heq
    simp only [heq]
    have hx := hr x
    split at h
    · rename_i cs off u hq hf
      rw [hq] at hx
      simp only [RepA] at hx
      obtain ⟨vs, hv, hl⟩ := hx
      obtain ⟨fs, fd, hu, hg, h1, h2⟩ := fldT_und hf
      simp only at h1 h2
      subst h1; subst h2
      refine fin ?_
      obtain ⟨z, hz, hz'⟩ := part_sound (P := P) _ _ h hl
      refine ⟨z, ?_, hz'⟩
      unfold field
      simp only [Sem.run_bind, run_underlying hu, Result.andThen_ok, hg, hv, asAgg, Sem.run_pure, hz]
    · cases h
  · rename_i t x i heq
    simp only [heq]
    exact fin (idx_sound t h (hr x) (hr i))
  · rename_i t x i heq
    simp only [heq]
    exact fin (index_sound t h (hr x) (hr i))
  · rename_i f first cap heq
    simp only [heq]
    split at h
    · rename_i h0
      injection h with h; subst h
      refine fin ⟨.func (.func f) #[] (cap.map a.eval), ?_, ?_⟩
      · simp [makeFunc, Array.eq_empty_of_size_eq_zero h0]
      · simp only [RepA]
        exact ⟨cap.toList.map a.eval, congrArg (Value.func _ _) (Array.toList_inj.1 (by simp)), repL_map fun x _ => hr x⟩
    · cases h
  · rename_i x i heq
    simp only [heq]
    have hx := hr x
    split at h
    · rename_i vs hq
      rw [hq] at hx
      simp only [RepA] at hx
      obtain ⟨us, hv, hl⟩ := hx
      obtain ⟨u, hu, hu'⟩ := hl.get h
      refine fin ⟨u, ?_, hu'⟩
      simp [extract, hv, hu]
    · cases h
  · rename_i xs ts heq
    simp only [heq]
    split at h
    · rename_i x t hx ht
      have e1 : xs = #[x] := by cases xs; simp_all
      have e2 : ts = #[t] := by cases ts; simp_all
      subst e1; subst e2
      simp only [resolve, List.map_toArray, List.map_cons, List.map_nil, Sem.run_bind, Sem.run_pure, Result.andThen_ok, invoke, builtin]
      exact fin' (len_sound t o.type h (hr x))
    · cases h
  · rename_i xs ts heq
    simp only [heq]
    split at h
    · rename_i x y hx
      have e1 : xs = #[x, y] := by cases xs; simp_all
      subst e1
      split at h
      · rename_i k p k' q hp hq
        split at h
        · rename_i hk
          subst hk
          injection h with h; subst h
          have r1 := hr x
          have r2 := hr y
          rw [hp] at r1; rw [hq] at r2
          simp only [RepA] at r1 r2
          simp only [resolve, List.map_toArray, List.map_cons, List.map_nil, Sem.run_bind, Sem.run_pure, Result.andThen_ok, invoke, builtin, rep_int r1, rep_int r2]
          refine fin' ⟨.int k (if p < q then q else p), ?_, .int _ _⟩
          simp [Builtin.max_, Builtin.max2]
        · cases h
      · cases h
    · cases h
  · rename_i xs ts heq
    simp only [heq]
    split at h
    · rename_i x y hx
      have e1 : xs = #[x, y] := by cases xs; simp_all
      subst e1
      split at h
      · rename_i k p k' q hp hq
        split at h
        · rename_i hk
          subst hk
          injection h with h; subst h
          have r1 := hr x
          have r2 := hr y
          rw [hp] at r1; rw [hq] at r2
          simp only [RepA] at r1 r2
          simp only [resolve, List.map_toArray, List.map_cons, List.map_nil, Sem.run_bind, Sem.run_pure, Result.andThen_ok, invoke, builtin, rep_int r1, rep_int r2]
          refine fin' ⟨.int k (if q < p then q else p), ?_, .int _ _⟩
          simp [Builtin.min_, Builtin.min2]
        · cases h
      · cases h
    · cases h
  · cases h
end
end Go.AX
