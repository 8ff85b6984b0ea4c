/- Memory operations and calls as conditions on what follows; the step. -/
import Derived.Test.YtfbphnkfddgihaaAxOp
namespace Go.AX

abbrev HK := A → Heap → Prop
noncomputable def sinkK (h : Heap) (l : List A) (k : List D → Bool → Heap → Prop) : Prop :=
  List.rec (motive := fun _ => Heap → (List D → Bool → Heap → Prop) → Prop) (fun h k => k [] true h) (fun a _ ih h k => match a with
    | .d (.sl es) => ih h fun xs _ h2 => k (.sl es :: xs) false h2
    | .d (.int t n) => ih h fun xs o h2 => k (.int t n :: xs) o h2
    | .d (.bool b) => ih h fun xs o h2 => k (.bool b :: xs) o h2
    | .d (.str s) => ih h fun xs o h2 => k (.str s :: xs) o h2
    | .es => ih h fun xs o h2 => k (.sl [] :: xs) o h2
    | .os id n => (match h id with
      | .arr _ own es => Take es n fun ys => ih (upd h id .dead) fun xs o h2 => k (.sl ys :: xs) (own && o) h2
      | .frz es => Take es n fun ys => ih h fun xs _ h2 => k (.sl ys :: xs) false h2
      | _ => False)
    | _ => False) l h k
def rdK (h : Heap) (n : Nat) (a : A) (k : List A → Prop) : Prop :=
  match a with
  | .pe id i sz off => (match h id with
    | .arr _ own es => Row es i fun cs => (match decide (cs.length = sz ∧ off + n ≤ sz ∧ (own = true → ((cs.drop off).take n).all notSl = true)) with
      | true => k (((cs.drop off).take n).map .d)
      | false => False)
    | .frz es => Row es i fun cs => (match decide (cs.length = sz ∧ off + n ≤ sz) with
      | true => k (((cs.drop off).take n).map .d)
      | false => False)
    | _ => False)
  | a => match rd h n a with
    | some l => k l
    | none => False
noncomputable def wrK (h : Heap) (vs : List A) (a : A) (k : Heap → Prop) : Prop :=
  match a with
  | .pe id i sz off => sinkK h vs fun xs o h1 => (match h1 id with
    | .arr t own es => Row es i fun cs => (match decide (cs.length = sz ∧ off + xs.length ≤ sz) with
      | true => fcEs (putAt cs off xs) fun c => k (upd h1 id (.arr t (own && o) (es.set i c)))
      | false => False)
    | _ => False)
  | .ptr id off => (match h id with
    | .box t cs => (match decide (off + vs.length ≤ cs.length) with
      | true => fcQL (putAt cs off vs) fun c => k (upd h id (.box t c))
      | false => False)
    | _ => False)
  | _ => False
def baseK (h : Heap) (e : TypeId) (a : A) (k : List (List D) → Bool → Heap → Prop) : Prop :=
  match a with
  | .es => k [] true h
  | .os id n => (match h id with
    | .arr e' own es => (match decide (e' = e) with
      | true => Take es n fun ys => k ys own (upd h id .dead)
      | false => False)
    | _ => False)
  | _ => False
def moreK (h : Heap) (a : A) (k : List (List D) → Bool → Heap → Prop) : Prop :=
  match a with
  | .es => k [] true h
  | .d (.sl ys) => k ys false h
  | .os id n => (match h id with
    | .arr _ own es => Take es n fun ys => k ys own (upd h id .dead)
    | .frz es => Take es n fun ys => k ys false h
    | _ => False)
  | _ => False
noncomputable def litK (h : Heap) (sz : Nat) (parts : List (Nat × A)) (k : List (List D) → Bool → Heap → Prop) : Prop :=
  match litL sz 0 parts with
  | some l => sinkK h l fun xs o h1 => k (chunk parts.length sz xs) o h1
  | none => False
noncomputable def memK (P : Program) (o : Op) (s : Nat) (ρ : Operand → A) (h : Heap) (k : HK) : Prop :=
  match o with
  | .alloc t => (match zeroT P t with
    | some z => fcQL z fun z => k (.ptr s 0) (upd h s (.box t z))
    | none => False)
  | .box t x => (match leafs (ρ x) with
    | some l => fcQL l fun l => k (.ptr s 0) (upd h s (.box t l))
    | none => False)
  | .buildSlice t n ps => (match elT P t with
    | some e => (match zeroT P e with
      | some _ => litK h (szT P e) (ps.toList.map fun x => (x.1, ρ x.2)) fun es own h1 => (match decide (es.length = n ∧ szT P e ≠ 0 ∧ n * szT P e ≤ 16777216) with
        | true => fcERs es fun es => k (.os s es.length) (upd h1 s (.arr e own es))
        | false => False)
      | none => False)
    | none => False)
  | .load t a => (match P.underlying t with
    | some _ => rdK h (szT P t) (ρ a) fun cs => (match decide (szT P t = 0) with
      | true => False
      | false => (match aggT P t with
        | true => k (.agg cs) h
        | false => (match cs with
          | [c] => k c h
          | _ => False)))
    | none => False)
  | .store t a x => (match leafs (ρ x) with
    | some l => (match decide (l.length = szT P t ∧ szT P t ≠ 0 ∧ l.all leafOk = true) with
      | true => wrK h l (ρ a) fun h' => k .undef h'
      | false => False)
    | none => False)
  | .makeSlice t l c => (match elT P t, ρ l, ρ c with
    | some e, .d (.int .i64 l), .d (.int .i64 c) => (match zeroT P e with
      | some z => (match sink (fun _ => .gone) z with
        | some (zs, true, _) => (match decide (zs.length = szT P e ∧ szT P e ≠ 0) with
          | true => Req (l = c ∧ 0 ≤ l ∧ l ≤ 9223372036854775807 ∧ l * bytesT P e ≤ 140737488355328) (fcEs zs fun zs => k (.os s l.toNat) (upd h s (.arr e true (List.replicate l.toNat zs))))
          | false => False)
        | _ => False)
      | none => False)
    | _, _, _ => False)
  | .call { callee := .builtin .append, args, argTypes } => (match args.toList, argTypes.toList with
    | [x, y], [t, u] => (match elT P t, elT P u with
      | some e, some _ => (match zeroT P e with
        | some z => baseK h e (ρ x) fun es own h1 => moreK h1 (ρ y) fun ys own' h2 => (match decide (t = u ∧ z.length = szT P e ∧ szT P e ≠ 0) with
          | true => Req ((es.length + ys.length) * bytesT P e ≤ 140737488355328 ∧ es.length + ys.length ≤ 9223372036854775807 ∧ (∀ cs ∈ ys, cs.length = szT P e)) (k (.os s (es.length + ys.length)) (upd h2 s (.arr e (own && own') (es ++ ys))))
          | false => False)
        | none => False)
      | _, _ => False)
    | _, _ => False)
  | _ => False
def memOp : Op → Bool
  | .alloc _ | .box _ _ | .buildSlice _ _ _ | .load _ _ | .store _ _ _ | .makeSlice _ _ _ => true
  | .call { callee := .builtin .append, .. } => true
  | _ => false

/-! ### calls -/
def deepK (h : Heap) (a : A) (k : A → List Nat → Prop) : Prop :=
  match a with
  | .os id n => (match h id with
    | .arr _ _ es => Take es n fun ys => k (.d (.sl ys)) [id]
    | .frz es => Take es n fun ys => k (.d (.sl ys)) []
    | _ => False)
  | a => match deepA h a with
    | some (x, b) => k x b
    | none => False
noncomputable def deepLK (h : Heap) (l : List A) (k : List A → List Nat → Prop) : Prop :=
  List.rec (motive := fun _ => (List A → List Nat → Prop) → Prop) (fun k => k [] []) (fun a _ ih k => deepK h a fun x b => ih fun xs b' => k (x :: xs) (b ++ b')) l k
noncomputable def moveK (h : Heap) (j : Nat) (l : List A) (k : List A → List (Nat × TypeId × Bool × List (List D)) → Prop) : Prop :=
  List.rec (motive := fun _ => Nat → (List A → List (Nat × TypeId × Bool × List (List D)) → Prop) → Prop) (fun _ k => k [] []) (fun a _ ih j k => match a with
    | .os id n => (match h id with
      | .arr t own es => Req (n ≤ es.length) (ih (j + 1) fun xs m => k (.os (8 + j) n :: xs) ((id, t, own, es) :: m))
      | .frz es => Take es n fun ys => ih j fun xs m => k (.d (.sl ys) :: xs) m
      | _ => False)
    | .d x => ih j fun xs m => k (.d x :: xs) m
    | .es => ih j fun xs m => k (.es :: xs) m
    | .undef => ih j fun xs m => k (.undef :: xs) m
    | .junk => ih j fun xs m => k (.junk :: xs) m
    | _ => False) l j k
noncomputable def passK (h : Heap) (p : Pass) (a : A) (k : A → Pass → Prop) : Prop :=
  match a with
  | .ptr id 0 => (match h id with
    | .box t cs => moveK h p.os.length cs fun cs' m => k (.ptr (64 * p.bs.length) 0) ⟨p.bs ++ [(id, t, cs')], p.os ++ m, p.br⟩
    | _ => False)
  | .agg cs => deepLK h cs fun xs l => k (.agg xs) ⟨p.bs, p.os, p.br ++ l⟩
  | .ptr _ (_ + 1) => False
  | a => deepK h a fun x l => k x ⟨p.bs, p.os, p.br ++ l⟩
noncomputable def passLK (h : Heap) (p : Pass) (l : List A) (k : List A → Pass → Prop) : Prop :=
  List.rec (motive := fun _ => Pass → (List A → Pass → Prop) → Prop) (fun p k => k [] p) (fun a _ ih p k => passK h p a fun x p1 => ih p1 fun xs p2 => k (x :: xs) p2) l p k
/-- The heap behind a call; plain where nothing went over. -/
def backF (h : Heap) (s : Nat) (p : Pass) (r : A) (H : Hp) : Heap :=
  match p.bs, p.os, H.os with
  | [], [], [] => (match p.br with
    | [] => h
    | _ => (match lentBack r H with
      | true => h
      | false => backH h s p r H))
  | _, _, _ => backH h s p r H
def backK (h : Heap) (s : Nat) (p : Pass) (r : A) (H : Hp) (k : Heap → Prop) : Prop :=
  match p.bs, p.os, H.os with
  | [], [], [] => (match p.br with
    | [] => k h
    | _ => (match lentBack r H with
      | true => k h
      | false => k (backH h s p r H)))
  | _, _, _ => k (backH h s p r H)
noncomputable def callStep (P : Program) (dst : Option Tmp) (st : St) (f : FuncId) (vs : List A) (K : St → Prop) : Prop :=
  match st with
  | ⟨n, t, h⟩ => passLK h ⟨[], [], []⟩ (unfnL vs) fun xs p => match passOk p (site dst) with
    | true => refnK vs xs fun xs => CallOk P f xs p.hp fun r H => fcA (ren (site dst) (p.bs.map (·.1)) r) fun r' => backK h (site dst) p r H fun h' => fcS (put ⟨n, t, h⟩ dst r' h') K
    | false => False
noncomputable def doOp (P : Program) (o : Oper) (st : St) (K : St → Prop) : Prop :=
  match st with
  | ⟨n, t, h⟩ => match isCall o.op with
    | some (f, args) => (match val ⟨n, t, h⟩ f with
      | .fn g cap => callStep P o.dst ⟨n, t, h⟩ g (args.map (val ⟨n, t, h⟩) ++ cap) K
      | _ => False)
    | none => (match memOp o.op with
      | true => fcN (site o.dst) fun s => memK P o.op s (val ⟨n, t, h⟩) h fun r h' => fcA r fun r => fcS (put ⟨n, t, h⟩ o.dst r h') K
      | false => pureK P o.op (val ⟨n, t, h⟩) fun r => fcP o.op r fun r => fcS (put ⟨n, t, h⟩ o.dst r h) K)
def guardK (ops : Array Oper) (st : St) (o : Oper) (k : Bool → Prop) : Prop :=
  match o.guard with
  | none => k true
  | some (g, want) => match (ops[g]?).bind (·.dst) with
    | some d => (match st.t d with
      | .d (.bool b) => k (b == want)
      | .undef => k false
      | _ => False)
    | none => False
noncomputable def stepOp (P : Program) (ops : Array Oper) (o : Oper) (st : St) (K : St → Prop) : Prop :=
  match dstOk st o with
  | true => guardK ops st o fun b => match b with
    | true => doOp P o st K
    | false => (match st with
      | ⟨n, t, h⟩ => fcS (put ⟨n, t, h⟩ o.dst .undef h) K)
  | false => False

section
variable {P : Program}
theorem sinkK_ex : ∀ {l : List A} {h : Heap} {k : List D → Bool → Heap → Prop}, sinkK h l k → ∃ xs o h1, sink h l = some (xs, o, h1) ∧ k xs o h1
  | [], h, k, hk => ⟨_, _, _, rfl, hk⟩
  | a :: l, h, k, hk => by
    cases a with
    | d x =>
      cases x with
      | int t n =>
        obtain ⟨xs, o, h1, hs, hk⟩ := sinkK_ex (l := l) (k := fun xs o h2 => k (.int t n :: xs) o h2) hk
        exact ⟨_, _, _, by simp only [sink, hs]; rfl, hk⟩
      | bool b =>
        obtain ⟨xs, o, h1, hs, hk⟩ := sinkK_ex (l := l) (k := fun xs o h2 => k (.bool b :: xs) o h2) hk
        exact ⟨_, _, _, by simp only [sink, hs]; rfl, hk⟩
      | str b =>
        obtain ⟨xs, o, h1, hs, hk⟩ := sinkK_ex (l := l) (k := fun xs o h2 => k (.str b :: xs) o h2) hk
        exact ⟨_, _, _, by simp only [sink, hs]; rfl, hk⟩
      | sl es =>
        obtain ⟨xs, o, h1, hs, hk⟩ := sinkK_ex (l := l) (k := fun xs _ h2 => k (.sl es :: xs) false h2) hk
        exact ⟨_, _, _, by simp only [sink, hs]; rfl, hk⟩
    | es =>
      obtain ⟨xs, o, h1, hs, hk⟩ := sinkK_ex (l := l) (k := fun xs o h2 => k (.sl [] :: xs) o h2) hk
      exact ⟨_, _, _, by simp only [sink, hs]; rfl, hk⟩
    | os id n =>
      have hk : (match h id with
        | .arr _ own es => Take es n fun ys => sinkK (upd h id .dead) l fun xs o h2 => k (.sl ys :: xs) (own && o) h2
        | .frz es => Take es n fun ys => sinkK h l fun xs _ h2 => k (.sl ys :: xs) false h2
        | _ => False) := hk
      split at hk
      · rename_i t own es hi
        obtain ⟨hn, hk⟩ := hk.ex
        obtain ⟨xs, o, h1, hs, hk⟩ := sinkK_ex hk
        exact ⟨_, _, _, by simp only [sink, hi]; rw [if_pos hn]; simp only [hs], hk⟩
      · rename_i es hi
        obtain ⟨hn, hk⟩ := hk.ex
        obtain ⟨xs, o, h1, hs, hk⟩ := sinkK_ex hk
        exact ⟨_, _, _, by simp only [sink, hi]; rw [if_pos hn]; simp only [hs]; rfl, hk⟩
      · exact hk.elim
    | ptr _ _ => exact hk.elim
    | pe _ _ _ _ => exact hk.elim
    | dp _ => exact hk.elim
    | fn _ _ => exact hk.elim
    | agg _ => exact hk.elim
    | tup _ => exact hk.elim
    | undef => exact hk.elim
    | junk => exact hk.elim
theorem rdK_ex {h : Heap} {n : Nat} {a : A} {k : List A → Prop} (hk : rdK h n a k) : ∃ l, rd h n a = some l ∧ k l := by
  unfold rdK at hk
  split at hk
  · split at hk
    · rename_i hi
      obtain ⟨cs, hc, hk⟩ := hk.ex
      split at hk
      · rename_i hd
        exact ⟨_, by simp only [rd, hi, hc]; rw [if_pos (of_decide_eq_true hd)], hk⟩
      · exact hk.elim
    · rename_i hi
      obtain ⟨cs, hc, hk⟩ := hk.ex
      split at hk
      · rename_i hd
        exact ⟨_, by simp only [rd, hi, hc]; rw [if_pos (of_decide_eq_true hd)], hk⟩
      · exact hk.elim
    · exact hk.elim
  · split at hk
    · rename_i l hl; exact ⟨l, hl, hk⟩
    · exact hk.elim
theorem wrK_ex {h : Heap} {vs : List A} {a : A} {k : Heap → Prop} (hk : wrK h vs a k) : ∃ h', wr h vs a = some h' ∧ k h' := by
  unfold wrK at hk
  split at hk
  · obtain ⟨xs, o, h1, hs, hk⟩ := sinkK_ex hk
    split at hk
    · rename_i hi
      obtain ⟨cs, hc, hk⟩ := hk.ex
      split at hk
      · rename_i hd
        rw [fcEs_eq] at hk
        exact ⟨_, by simp only [wr, hs, hi, hc]; rw [if_pos (of_decide_eq_true hd)], hk⟩
      · exact hk.elim
    · exact hk.elim
  · split at hk
    · rename_i hi
      split at hk
      · rename_i hd
        rw [fcQL_eq] at hk
        exact ⟨_, by simp only [wr, hi]; rw [if_pos (of_decide_eq_true hd)], hk⟩
      · exact hk.elim
    · exact hk.elim
  · exact hk.elim
theorem baseK_ex {h : Heap} {e : TypeId} {a : A} {k : List (List D) → Bool → Heap → Prop} (hk : baseK h e a k) : ∃ es o h1, baseA h e a = some (es, o, h1) ∧ k es o h1 := by
  unfold baseK at hk
  split at hk
  · exact ⟨_, _, _, rfl, hk⟩
  · split at hk
    · rename_i hi
      split at hk
      · rename_i hd
        obtain ⟨hn, hk⟩ := hk.ex
        exact ⟨_, _, _, by simp only [baseA, hi]; rw [if_pos ⟨hn, of_decide_eq_true hd⟩], hk⟩
      · exact hk.elim
    · exact hk.elim
  · exact hk.elim
theorem moreK_ex {h : Heap} {a : A} {k : List (List D) → Bool → Heap → Prop} (hk : moreK h a k) : ∃ es o h1, moreA h a = some (es, o, h1) ∧ k es o h1 := by
  unfold moreK at hk
  split at hk
  · exact ⟨_, _, _, rfl, hk⟩
  · exact ⟨_, _, _, rfl, hk⟩
  · split at hk
    · rename_i hi
      obtain ⟨hn, hk⟩ := hk.ex
      exact ⟨_, _, _, by simp only [moreA, hi]; rw [if_pos hn], hk⟩
    · rename_i hi
      obtain ⟨hn, hk⟩ := hk.ex
      exact ⟨_, _, _, by simp only [moreA, hi]; rw [if_pos hn], hk⟩
    · exact hk.elim
  · exact hk.elim
theorem memK_ex {o : Op} {s : Nat} {ρ : Operand → A} {h : Heap} {k : HK} (hk : memK P o s ρ h k) : ∃ r h', memA P o s ρ h = some (r, h') ∧ k r h' := by
  unfold memK at hk
  split at hk
  · split at hk
    · rename_i z hz
      rw [fcQL_eq] at hk
      exact ⟨_, _, by simp only [memA, hz], hk⟩
    · exact hk.elim
  · split at hk
    · rename_i l hl
      rw [fcQL_eq] at hk
      exact ⟨_, _, by simp only [memA, hl], hk⟩
    · exact hk.elim
  · split at hk
    · rename_i e he
      split at hk
      · rename_i z hz
        unfold litK at hk
        split at hk
        · rename_i l hl
          obtain ⟨xs, o, h1, hs, hk⟩ := sinkK_ex hk
          split at hk
          · rename_i hd
            rw [fcERs_eq] at hk
            exact ⟨_, _, by simp only [memA, he, hz, litA, hl, hs]; rw [if_pos (of_decide_eq_true hd)], hk⟩
          · exact hk.elim
        · exact hk.elim
      · exact hk.elim
    · exact hk.elim
  · split at hk
    · rename_i u hu
      obtain ⟨cs, hc, hk⟩ := rdK_ex hk
      split at hk
      · exact hk.elim
      · rename_i hz
        have hz := of_decide_eq_false hz
        split at hk
        · rename_i ha
          exact ⟨_, _, by simp only [memA, hu, hc]; rw [if_neg hz, if_pos ha], hk⟩
        · rename_i ha
          split at hk
          · exact ⟨_, _, by simp only [memA, hu, hc]; rw [if_neg hz, if_neg (by rw [ha]; simp)], hk⟩
          · exact hk.elim
    · exact hk.elim
  · split at hk
    · rename_i l hl
      split at hk
      · rename_i hd
        obtain ⟨h', hw, hk⟩ := wrK_ex hk
        exact ⟨_, _, by simp only [memA, hl]; rw [if_pos (of_decide_eq_true hd)]; simp only [hw], hk⟩
      · exact hk.elim
    · exact hk.elim
  · split at hk
    · rename_i e l' c' he hl hc
      split at hk
      · rename_i z hz
        split at hk
        · rename_i zs h' hs
          split at hk
          · rename_i hd
            have hd := of_decide_eq_true hd
            obtain ⟨hq, hk⟩ := hk.ex
            rw [fcEs_eq] at hk
            exact ⟨_, _, by simp only [memA, he, hl, hc, hz, hs]; rw [if_pos ⟨hq.1, hq.2.1, hq.2.2.1, hq.2.2.2, hd.1, hd.2⟩], hk⟩
          · exact hk.elim
        · exact hk.elim
      · exact hk.elim
    · exact hk.elim
  · split at hk
    · rename_i x y t u hx ht
      split at hk
      · rename_i e e2 he he2
        split at hk
        · rename_i z hz
          obtain ⟨es, own, h1, hb, hk⟩ := baseK_ex hk
          obtain ⟨ys, own', h2, hm, hk⟩ := moreK_ex hk
          split at hk
          · rename_i hd
            have hd := of_decide_eq_true hd
            obtain ⟨hq, hk⟩ := hk.ex
            exact ⟨_, _, by simp only [memA, hx, ht, he, he2, hb, hz, hm]; rw [if_pos ⟨hd.1, hd.2.1, hq.1, hq.2.1, hd.2.2, hq.2.2⟩], hk⟩
          · exact hk.elim
        · exact hk.elim
      · exact hk.elim
    · exact hk.elim
  · exact hk.elim
theorem deepK_ex {h : Heap} {a : A} {k : A → List Nat → Prop} (hk : deepK h a k) : ∃ x b, deepA h a = some (x, b) ∧ k x b := by
  unfold deepK at hk
  split at hk
  · split at hk
    · rename_i hi
      obtain ⟨hn, hk⟩ := hk.ex
      exact ⟨_, _, by simp only [deepA, hi]; rw [if_pos hn], hk⟩
    · rename_i hi
      obtain ⟨hn, hk⟩ := hk.ex
      exact ⟨_, _, by simp only [deepA, hi]; rw [if_pos hn], hk⟩
    · exact hk.elim
  · split at hk
    · rename_i x b hx; exact ⟨x, b, hx, hk⟩
    · exact hk.elim
theorem deepLK_ex {h : Heap} {l : List A} {k : List A → List Nat → Prop} (hk : deepLK h l k) : ∃ x b, deepL h l = some (x, b) ∧ k x b := by
  induction l generalizing k with
  | nil => exact ⟨_, _, rfl, hk⟩
  | cons a l ih =>
    have hk : deepK h a fun x b => deepLK h l fun xs b' => k (x :: xs) (b ++ b') := hk
    obtain ⟨x, b, hx, hk⟩ := deepK_ex hk
    obtain ⟨xs, b', hl, hk⟩ := ih hk
    exact ⟨_, _, by simp only [deepL, hx, hl], hk⟩
theorem moveK_ex {h : Heap} {l : List A} {j : Nat} {k : List A → List (Nat × TypeId × Bool × List (List D)) → Prop} (hk : moveK h j l k) : ∃ x m, moveL h j l = some (x, m) ∧ k x m := by
  induction l generalizing j k with
  | nil => exact ⟨_, _, by simp only [moveL], hk⟩
  | cons a l ih =>
    cases a with
    | os id n =>
      have hk : (match h id with
        | .arr t own es => Req (n ≤ es.length) (moveK h (j + 1) l fun xs m => k (.os (8 + j) n :: xs) ((id, t, own, es) :: m))
        | .frz es => Take es n fun ys => moveK h j l fun xs m => k (.d (.sl ys) :: xs) m
        | _ => False) := hk
      split at hk
      · rename_i hi
        obtain ⟨hn, hk⟩ := hk.ex
        obtain ⟨xs, m, hl, hk⟩ := ih hk
        exact ⟨_, _, by simp only [moveL, hi, hl]; rw [if_pos hn], hk⟩
      · rename_i hi
        obtain ⟨hn, hk⟩ := hk.ex
        obtain ⟨xs, m, hl, hk⟩ := ih hk
        exact ⟨_, _, by simp only [moveL, hi, hl]; rw [if_pos hn], hk⟩
      · exact hk.elim
    | d x => obtain ⟨xs, m, hl, hk⟩ := ih (k := fun xs m => k (.d x :: xs) m) hk; exact ⟨_, _, by simp only [moveL, hl], hk⟩
    | es => obtain ⟨xs, m, hl, hk⟩ := ih (k := fun xs m => k (.es :: xs) m) hk; exact ⟨_, _, by simp only [moveL, hl], hk⟩
    | undef => obtain ⟨xs, m, hl, hk⟩ := ih (k := fun xs m => k (.undef :: xs) m) hk; exact ⟨_, _, by simp only [moveL, hl], hk⟩
    | junk => obtain ⟨xs, m, hl, hk⟩ := ih (k := fun xs m => k (.junk :: xs) m) hk; exact ⟨_, _, by simp only [moveL, hl], hk⟩
    | ptr _ _ => exact hk.elim
    | pe _ _ _ _ => exact hk.elim
    | dp _ => exact hk.elim
    | fn _ _ => exact hk.elim
    | agg _ => exact hk.elim
    | tup _ => exact hk.elim
theorem passK_ex {h : Heap} {p : Pass} {a : A} {k : A → Pass → Prop} (hk : passK h p a k) : ∃ x q, passA h p a = some (x, q) ∧ k x q := by
  have deep : ∀ a : A, (∀ id off, a ≠ .ptr id off) → (∀ cs, a ≠ .agg cs) → deepK h a (fun x l => k x ⟨p.bs, p.os, p.br ++ l⟩) → ∃ x q, passA h p a = some (x, q) ∧ k x q := by
    intro a h1 h2 hk
    obtain ⟨x, l, hx, hk⟩ := deepK_ex hk
    refine ⟨_, _, ?_, hk⟩
    cases a <;> first
      | (simp only [passA, hx]; done)
      | exact absurd rfl (h1 _ _)
      | exact absurd rfl (h2 _)
  unfold passK at hk
  split at hk
  · split at hk
    · rename_i hi
      obtain ⟨cs', m, hm, hk⟩ := moveK_ex hk
      exact ⟨_, _, by simp only [passA, hi, hm], hk⟩
    · exact hk.elim
  · obtain ⟨xs, l, hl, hk⟩ := deepLK_ex hk
    exact ⟨_, _, by simp only [passA, hl], hk⟩
  · exact hk.elim
  · rename_i h1 h2 h3
    refine deep _ (fun id off e => ?_) (fun cs e => h2 cs e) hk
    cases off with
    | zero => exact h1 id e
    | succ n => exact h3 id n e
theorem passLK_ex {h : Heap} {l : List A} {p : Pass} {k : List A → Pass → Prop} (hk : passLK h p l k) : ∃ x q, passL h p l = some (x, q) ∧ k x q := by
  induction l generalizing p k with
  | nil => exact ⟨_, _, rfl, hk⟩
  | cons a l ih =>
    have hk : passK h p a fun x p1 => passLK h p1 l fun xs p2 => k (x :: xs) p2 := hk
    obtain ⟨x, p1, hx, hk⟩ := passK_ex hk
    obtain ⟨xs, p2, hl, hk⟩ := ih hk
    exact ⟨_, _, by simp only [passL, hx, hl], hk⟩
theorem backF_eq {h : Heap} {s : Nat} {p : Pass} {r : A} {H : Hp} : backF h s p r H = backH h s p r H := by
  unfold backF
  split
  · rename_i h1 h2 h3
    have key : (p.br.contains · = true) = (p.br.contains · = true) := rfl
    split
    · rename_i h4
      funext id
      simp [backH, h1, h2, h3, h4, idx]
      omega
    · split
      · rename_i hl
        funext id
        simp [backH, h1, h2, h3, hl, idx]
        omega
      · rfl
  · rfl
theorem backK_eq {h : Heap} {s : Nat} {p : Pass} {r : A} {H : Hp} {k : Heap → Prop} : backK h s p r H k = k (backH h s p r H) := by
  rw [← backF_eq]
  unfold backK backF
  split
  · split
    · rfl
    · split <;> rfl
  · rfl
theorem stepOp_ex {ops : Array Oper} {o : Oper} {st : St} {K : St → Prop} (h : stepOp P ops o st K) : ∃ r h', StR P ops o st r h' ∧ K (put st o.dst r h') := by
  unfold stepOp at h
  obtain ⟨stn, stt, sth⟩ := st
  split at h
  · rename_i hd
    have hg : ∃ b, wantedA ops ⟨stn, stt, sth⟩ o = some b ∧ (match b with | true => doOp P o ⟨stn, stt, sth⟩ K | false => K (put ⟨stn, stt, sth⟩ o.dst .undef sth)) := by
      unfold guardK at h
      unfold wantedA
      split at h
      · rename_i hg; simp only [hg]; exact ⟨true, rfl, h⟩
      · rename_i g want hg
        simp only [hg]
        split at h
        · rename_i d hd'
          simp only [hd']
          split at h
          · rename_i b hb
            have hb' : stt d = .d (.bool b) := hb
            exact ⟨_, by simp only [hb'], h⟩
          · rename_i hb
            have hb' : stt d = .undef := hb
            exact ⟨false, by simp only [hb'], h⟩
          · exact h.elim
        · exact h.elim
    obtain ⟨b, hw, h⟩ := hg
    cases b with
    | false => exact ⟨_, _, ⟨hd, .inr ⟨hw, rfl, rfl⟩⟩, h⟩
    | true =>
      simp only at h
      unfold doOp at h
      simp only at h
      split at h
      · rename_i f args hc
        split at h
        · rename_i g cap hv
          obtain ⟨xs, p, hp, h⟩ := passLK_ex h
          split at h
          · rename_i hok
            rw [refnK_eq] at h
            obtain ⟨r0, H', hct, hk⟩ := h.ex
            rw [fcA_eq, backK_eq, fcS_eq] at hk
            exact ⟨_, _, ⟨hd, .inl ⟨hw, by simp only [DoR, hc]; exact ⟨g, cap, xs, p, r0, H', hv, hp, hok, hct, rfl, rfl⟩⟩⟩, hk⟩
          · exact h.elim
        · exact h.elim
      · rename_i hc
        split at h
        · rw [fcN_eq] at h
          obtain ⟨r, h', hm, hk⟩ := memK_ex h
          rw [fcA_eq, fcS_eq] at hk
          exact ⟨r, h', ⟨hd, .inl ⟨hw, by simp only [DoR, hc]; exact .inr hm⟩⟩, hk⟩
        · obtain ⟨r, hr, hk⟩ := pureK_ex h
          rw [fcP_eq, fcS_eq] at hk
          exact ⟨r, sth, ⟨hd, .inl ⟨hw, by simp only [DoR, hc]; exact .inl ⟨hr, trivial⟩⟩⟩, hk⟩
  · exact h.elim
end
end Go.AX
