/- Part 8: slices that are owned. -/
import Derived.Test.YtndgmmcpjmgfgaaGreatDoorXL7
set_option linter.unusedSimpArgs false
set_option linter.unusedVariables false
namespace Bg
open Go Go.Proofs

/-- A slice of k elements of m cells each, whose memory is the holder's own. -/
def own (a : Option Addr) (cap e m k : Nat) (cs : List Value) : Asn := fun h => cs.length = k * m ∧
  ((a = none ∧ k = 0 ∧ cap = 0 ∧ h = fun _ => none) ∨ ∃ b pre post, a = some ⟨b, pre.length, none⟩ ∧ k ≤ cap ∧ post.length = (cap - k) * m ∧ pt b (pre ++ cs ++ post) e h)
theorem own_of_pt {b e m k : Nat} {cs : List Value} (hl : cs.length = k * m) {h : Hl} (hp : pt b cs e h) : own (some ⟨b, 0, none⟩) k e m k cs h :=
  ⟨hl, .inr ⟨b, [], [], rfl, Nat.le_refl _, by simp, by simpa using hp⟩⟩
theorem own_nil {e m : Nat} {h : Hl} (hh : h = fun _ => none) : own none 0 e m 0 [] h := ⟨by simp, .inl ⟨rfl, rfl, rfl, hh⟩⟩
theorem Rd.own {b o cap e m k : Nat} {cs : List Value} : Rd (own (some ⟨b, o, none⟩) cap e m k cs) b o cs := fun h hh => by
  obtain ⟨hl, ⟨h1, _⟩ | ⟨b', pre, post, h1, h2, h3, h4⟩⟩ := hh
  · cases h1
  · simp only [Option.some.injEq, Addr.mk.injEq] at h1
    obtain ⟨rfl, rfl, _⟩ := h1
    subst h4
    refine ⟨(pre ++ cs ++ post).toArray, e, (0, 0), by simp, fun j v hj => ?_⟩
    have := (List.getElem?_eq_some_iff.1 hj).1
    simp only [List.getElem?_toArray]
    rw [List.getElem?_append_left (by simp; omega), List.getElem?_append_right (by omega)]
    simpa using hj
/-- An element's cell. -/
theorem rd_cell {A : Asn} {b o : Nat} {cs : List Value} (h : Rd A b o cs) (j f : Nat) {v : Value} (hv : cs[j + f]? = some v) : Rd A b (addO (o + j) f) [v] := by
  rw [addO_eq, Nat.add_assoc]
  exact h.sub (j + f) [v] fun k u hk => by
    cases k with
    | zero => simp at hk; subst hk; exact hv
    | succ k => simp at hk
theorem rd_cell0 {A : Asn} {b o : Nat} {cs : List Value} (h : Rd A b o cs) (j : Nat) {v : Value} (hv : cs[j]? = some v) : Rd A b (o + j) [v] :=
  h.sub j [v] fun k u hk => by
    cases k with
    | zero => simp at hk; subst hk; exact hv
    | succ k => simp at hk
/-- An element whole. -/
theorem rd_elem {A : Asn} {b o : Nat} {cs : List Value} (h : Rd A b o cs) (j m : Nat) {ds : List Value} (hd : (cs.drop j).take m = ds) : Rd A b (o + j) ds :=
  h.sub j ds fun k v hk => by
    subst hd
    rw [List.getElem?_take] at hk
    split at hk
    · rw [List.getElem?_drop] at hk; exact hk
    · cases hk
theorem flat_cell {α : Type} (f : α → List Value) (m : Nat) (hm : ∀ x, (f x).length = m) : ∀ (l : List α) (i j : Nat) (x : α), l[i]? = some x → j < m → (l.flatMap f)[i * m + j]? = (f x)[j]?
  | y :: l, 0, j, x, h, hj => by
    simp at h; subst h
    simp only [List.flatMap_cons, Nat.zero_mul, Nat.zero_add]
    rw [List.getElem?_append_left (by rw [hm]; exact hj)]
  | y :: l, i + 1, j, x, h, hj => by
    simp only [List.flatMap_cons]
    rw [List.getElem?_append_right (by rw [hm, Nat.succ_mul]; omega), hm]
    have := flat_cell f m hm l i j x (by simpa using h) hj
    rw [← this]
    congr 1
    rw [Nat.succ_mul]; omega
theorem flat_elem {α : Type} (f : α → List Value) (m : Nat) (hm : ∀ x, (f x).length = m) (l : List α) (i : Nat) (x : α) (h : l[i]? = some x) : ((l.flatMap f).drop (i * m)).take m = f x := by
  apply List.ext_getElem?
  intro j
  rw [List.getElem?_take]
  by_cases hj : j < m
  · rw [if_pos hj, List.getElem?_drop, flat_cell f m hm l i j x h hj]
  · rw [if_neg hj, List.getElem?_eq_none (by rw [hm]; omega)]
theorem flat_len {α : Type} (f : α → List Value) (m : Nat) (hm : ∀ x, (f x).length = m) : ∀ l : List α, (l.flatMap f).length = l.length * m
  | [] => by simp
  | x :: l => by simp only [List.flatMap_cons, List.length_append, List.length_cons, hm, flat_len f m hm l, Nat.succ_mul]; omega

/-- A cell of element i, an element whole. -/
theorem rd_at {α : Type} {f : α → List Value} {m : Nat} (hm : ∀ x, (f x).length = m) {A : Asn} {b o : Nat} {l : List α} (h : Rd A b o (l.flatMap f)) {i : Nat} {x : α} (hx : l[i]? = some x) (j : Nat) {v : Value} (hj : Nat.blt j m = true) (hv : (f x)[j]? = some v) : Rd A b (addO (o + i * m) j) [v] :=
  rd_cell h (i * m) j (by rw [flat_cell f m hm l i j x hx (Nat.le_of_ble_eq_true hj)]; exact hv)
theorem rd_el {α : Type} {f : α → List Value} {m : Nat} (hm : ∀ x, (f x).length = m) {A : Asn} {b o : Nat} {l : List α} (h : Rd A b o (l.flatMap f)) {i : Nat} {x : α} (hx : l[i]? = some x) : Rd A b (o + i * m) (f x) :=
  rd_elem h (i * m) m (flat_elem f m hm l i x hx)

section
variable {P : Program} {T : Tb} {ops : Array Oper} {incs : List (Nat × Nat)} {Q : Exit → Act → World → Prop} {w0 : World} {n : Nat} {l : List Nat} {F : Facts} {s : Slots} {H : List Asn} {i : Nat} {d : Option Nat} {K : Act → World → Prop}
theorem Parts.holds {h : Hl} {L : List Asn} (hp : Parts h L) {j : Nat} {A : Asn} (hj : L[j]? = some A) : ∃ h', A h' := by
  obtain ⟨c, hc⟩ := hp
  exact ⟨_, hc j A hj⟩
/-- What a part says of numbers. -/
theorem kSay (j : Nat) {A : Asn} {p : Prop} (hA : ∀ h, A h → p) (hj : H[j]? = some A) (k : p → KS w0 n K s H) : KS w0 n K s H := fun a w hF hS => by
  obtain ⟨h', hh⟩ := hS.parts.holds hj
  exact k (hA h' hh) a w hF hS
theorem tSay (j : Nat) {A : Asn} {p : Prop} (hA : ∀ h, A h → p) (hj : H[j]? = some A) (k : p → TS P ops incs Q w0 n l F s H) : TS P ops incs Q w0 n l F s H := fun a w hF hS => by
  obtain ⟨h', hh⟩ := hS.parts.holds hj
  exact k (hA h' hh) a w hF hS
theorem own_len {a : Option Addr} {cap e m k : Nat} {cs : List Value} : ∀ h, own a cap e m k cs h → cs.length = k * m ∧ k ≤ cap := fun h hh => by
  obtain ⟨hl, ⟨_, rfl, rfl, _⟩ | ⟨b', pre, post, h1, h2, h3, h4⟩⟩ := hh
  · exact ⟨hl, Nat.le_refl _⟩
  · exact ⟨hl, h2⟩
theorem own_some {a : Option Addr} {cap e m k : Nat} {cs : List Value} (hk : 0 < k) : ∀ h, own a cap e m k cs h → ∃ b o, a = some ⟨b, o, none⟩ := fun h hh => by
  obtain ⟨hl, ⟨_, rfl, _⟩ | ⟨b', pre, post, h1, h2, h3, h4⟩⟩ := hh
  · omega
  · exact ⟨b', pre.length, h1⟩

/-- append(s, x...): s is owned. -/
theorem tApp (hT : TOk P T) (j j2 : Nat) {x y : Operand} {t t' : TypeId} {e m by' : Nat} {a : Option Addr} {cap k : Nat} {cs cs2 : List Value} {B : Option Addr} {k2 c2 : Nat} {A2 : Asn} {ag : Bool} {zs : List Z}
    (hr2 : cs2 = [] ∨ ∃ b2 o2, B = some ⟨b2, o2, none⟩ ∧ Rd A2 b2 o2 cs2) (hl2 : cs2.length = k2 * m) (h1 : cs2.all (·.oneCell') = true) (hbig : (4 * (k + k2) + 2048) * by' ≤ 2 ^ 48)
    (ho : opAt ops n s i = .go (.call { callee := .builtin .append, args := #[x, y], argTypes := #[t, t'] }) d) (hx : evs s x = some (.slice a k cap)) (hy : evs s y = some (.slice B k2 c2)) (hj : H[j]? = some (own a cap e m k cs)) (hj2 : H[j2]? = some A2)
    (ht : getS T.sl t = some (e, m, by')) (ht' : (getS T.sl t').isSome = true) (hz : getZ T.zo e = some (ag, zs)) (hzl : zs.length = m) (hby : Nat.blt 0 by' = true)
    (hO : ∀ a' cap' w, St w0 w (H.set j (own a' cap' e m (k + k2) (cs ++ cs2))) → Owed incs i F w)
    (c : ∀ a' cap', runS T ops n (fun l s => TS P ops incs Q w0 n l F s (H.set j (own a' cap' e m (k + k2) (cs ++ cs2)))) l (putS d (.slice a' (k + k2) cap') s)) : TS P ops incs Q w0 n (i :: l) F s H := by
  refine TS.chain ho rfl (fun ac w o hop hdst hd hF hS => ?_)
  subst hdst
  have hexec : (execOp ac.eval o).run P w = ((Builtin.append_ #[t, t'] o.type #[.slice a k cap, .slice B k2 c2]).run P w).andThen fun v w' => .ok (.value v) w' := by
    simp only [execOp, hop]
    simp [resolve, invoke, builtin, hF.eval hx, hF.eval hy]
  have hr : 0 < cs2.length → ∃ b off, B = some ⟨b, off, none⟩ ∧ w.rangeAt b off cs2 := fun h0 => by
    rcases hr2 with rfl | ⟨b2, o2, hB, hrd⟩
    · simp at h0
    · exact ⟨b2, o2, hB, hrd.range hS j2 hj2⟩
  obtain ⟨q, hq⟩ := Option.isSome_iff_exists.1 ht'
  have hjl := (List.getElem?_eq_some_iff.1 hj).1
  obtain ⟨col, hcol⟩ := hS.parts
  obtain ⟨hl, hcase⟩ := hcol j _ hj
  unfold Does
  rw [hexec]
  -- how the new state is had
  by_cases hfit : k + k2 ≤ cap
  · rcases hcase with ⟨rfl, rfl, rfl, hemp⟩ | ⟨b, pre, post, rfl, hkc, hpost, hpt⟩
    · -- nothing to append to nothing
      have hk2 : k2 = 0 := by omega
      subst hk2
      have hcs2 : cs2 = [] := List.eq_nil_of_length_eq_zero (by simpa using hl2)
      subst hcs2
      have hcs : cs = [] := List.eq_nil_of_length_eq_zero (by simpa using hl)
      subst hcs
      rw [run_append_fit hT ht ⟨q, hq⟩ hfit hl2 hr (by simp) o.type]
      simp only [Result.andThen_ok, Upon]
      have hS' : St w0 w (H.set j (own none 0 e m (0 + 0) ([] ++ []))) := by
        have e0 : H.set j (own none 0 e m (0 + 0) ([] ++ [])) = H := by
          have := (List.getElem?_eq_some_iff.1 hj).2
          simp only [Nat.add_zero, List.append_nil]
          rw [← this, List.set_getElem_self]
        rw [e0]; exact hS
      exact ⟨hO none 0 w hS', tR hT (c none 0) _ _ (hF.putS _ hd) hS'⟩
    · have hb : Bg.hl w b = some (.cells (pre ++ cs ++ post).toArray e (0, 0)) := by
        have := congrFun hpt b
        simp only [part, if_true] at this
        split at this
        · exact this
        · cases this
      rw [run_append_fit hT ht ⟨q, hq⟩ hfit hl2 hr (by simp) o.type]
      have hadd : (⟨b, pre.length, none⟩ : Addr).add (k * m) = ⟨b, pre.length + k * m, none⟩ := Addr.add_mid b _ _
      have hkm : (cap - k) * m = k2 * m + (cap - (k + k2)) * m := by rw [← Nat.add_mul]; congr 1; omega
      have hst := run_store_pt (P := P) (w := w) (b := b) (off := pre.length + k * m) (vs := pre ++ cs ++ post) (ty := e) (cs := cs2) hb (by simp only [List.length_append]; omega) (fun v hv => List.all_eq_true.1 h1 v hv)
      simp only [hadd, hst, Result.andThen_ok, Upon]
      have hspl : spl (pre ++ cs ++ post) (pre.length + k * m) cs2 = pre ++ (cs ++ cs2) ++ post.drop (k2 * m) := by
        unfold spl
        have e1 : pre.length + k * m = (pre ++ cs).length := by simp [hl]
        rw [e1, List.take_left, List.drop_append, hl2]
        simp
      rw [hspl]
      obtain ⟨f1, f2, f3, f4, f5, f6⟩ := setRow_facts w b (pre ++ (cs ++ cs2) ++ post.drop (k2 * m)).toArray _ e hb
      have hS1 : St w0 w (H.set j (pt b (pre ++ cs ++ post) e)) := ⟨hS.os, hS.tape, hS.output, hS.size, ⟨col, fun jj X hX => by
        by_cases ee : j = jj
        · subst ee
          have : (H.set j (pt b (pre ++ cs ++ post) e))[j]? = some (pt b (pre ++ cs ++ post) e) := by simp [hjl]
          rw [this] at hX
          simp only [Option.some.injEq] at hX
          subst hX
          exact hpt
        · rw [List.getElem?_set, if_neg ee] at hX
          exact hcol jj X hX⟩⟩
      have hset : (H.set j (pt b (pre ++ cs ++ post) e))[j]? = some (pt b (pre ++ cs ++ post) e) := by simp [hjl]
      have hS2 := hS1.put hset f1 f2 f3 f4 f5 f6
      rw [List.set_set] at hS2
      have hS' : St w0 (w.setRow b (pre ++ (cs ++ cs2) ++ post.drop (k2 * m)).toArray) (H.set j (own (some ⟨b, pre.length, none⟩) cap e m (k + k2) (cs ++ cs2))) := by
        have := hS2.parts.imp j (pt b (pre ++ (cs ++ cs2) ++ post.drop (k2 * m)) e) (own (some ⟨b, pre.length, none⟩) cap e m (k + k2) (cs ++ cs2)) (by rw [List.getElem?_set]; simp [hjl]) (fun h hh =>
          ⟨by simp [hl, hl2, Nat.add_mul], .inr ⟨b, pre, post.drop (k2 * m), rfl, hfit, by simp; omega, hh⟩⟩)
        rw [List.set_set] at this
        exact ⟨hS2.os, hS2.tape, hS2.output, hS2.size, this⟩
      exact ⟨hO _ _ _ hS', tR hT (c _ _) _ _ (hF.putS _ hd) hS'⟩
  · have hro : 0 < cs.length → ∃ b off, a = some ⟨b, off, none⟩ ∧ w.rangeAt b off cs := fun h0 => by
      have hk0 : 0 < k := by
        rcases Nat.eq_zero_or_pos k with h | h
        · subst h; simp at hl; simp [hl] at h0
        · exact h
      obtain ⟨b, o', ha⟩ := own_some (a := a) (cap := cap) (e := e) (m := m) (k := k) (cs := cs) hk0 _ (hcol j (own a cap e m k cs) hj)
      subst ha
      exact ⟨b, o', rfl, (Rd.own (k := k)).range hS j hj⟩
    obtain ⟨nc, hnc, hrun⟩ := run_append_grow (w := w) (cap := cap) (len := k) (k := k2) (A := a) (B := B) (c := c2) (old := cs) (cs := cs2) hT ht ⟨q, hq⟩ hz hzl (Nat.le_of_ble_eq_true hby) (by omega) hl2 hr hl hro hbig o.type
    rw [hrun]
    simp only [Result.andThen_ok, Upon]
    have hS1 := (hS.drew).alloc (.cells (cs ++ cs2 ++ (Builtin.zeroCells (zs.map Z.val).toArray (nc - (k + k2))).toList).toArray e (0, 0))
    have hS' : St w0 (w.drew.alloc (.cells (cs ++ cs2 ++ (Builtin.zeroCells (zs.map Z.val).toArray (nc - (k + k2))).toList).toArray e (0, 0))) (H.set j (own (some ⟨w.heap.size, 0, none⟩) nc e m (k + k2) (cs ++ cs2))) := by
      have h1 := hS1.parts.pick (List.range' 1 H.length |>.set j 0) (by
        rw [List.nodup_iff_pairwise_ne, List.pairwise_iff_getElem]
        intro p q' hp hq' hlt
        simp only [List.length_set, List.length_range'] at hp hq'
        rw [List.getElem_set, List.getElem_set]
        simp only [List.getElem_range']
        by_cases e1 : j = p
        · rw [if_pos e1, if_neg (by omega)]; omega
        · by_cases e2 : j = q'
          · rw [if_neg e1, if_pos e2]; omega
          · rw [if_neg e1, if_neg e2]; omega) (by
        intro x hx
        rcases List.mem_or_eq_of_mem_set hx with hx | rfl
        · simp [List.mem_range'] at hx; simp; omega
        · simp)
      have e1 : Bg.pick (ob w.drew.heap.size (.cells (cs ++ cs2 ++ (Builtin.zeroCells (zs.map Z.val).toArray (nc - (k + k2))).toList).toArray e (0, 0)) :: H) (List.range' 1 H.length |>.set j 0) = H.set j (pt w.heap.size (cs ++ cs2 ++ (Builtin.zeroCells (zs.map Z.val).toArray (nc - (k + k2))).toList) e) := by
        unfold Bg.pick
        apply List.ext_getElem?
        intro p
        rw [List.getElem?_map, List.getElem?_set, List.getElem?_set]
        by_cases hp : j = p
        · subst hp; simp [hjl]; rfl
        · simp only [hp, if_false]
          by_cases hpl : p < H.length
          · rw [List.getElem?_range' (by simpa using hpl)]
            simp [hpl, Nat.add_comm 1 p, List.getD]
          · rw [List.getElem?_eq_none (by simp; omega), List.getElem?_eq_none (by omega)]; rfl
      rw [e1] at h1
      have h2 := h1.imp j (pt w.heap.size (cs ++ cs2 ++ (Builtin.zeroCells (zs.map Z.val).toArray (nc - (k + k2))).toList) e) (own (some ⟨w.heap.size, 0, none⟩) nc e m (k + k2) (cs ++ cs2)) (by rw [List.getElem?_set]; simp [hjl]) (fun h hh =>
        ⟨by simp [hl, hl2, Nat.add_mul], .inr ⟨w.heap.size, [], (Builtin.zeroCells (zs.map Z.val).toArray (nc - (k + k2))).toList, rfl, hnc, by simp [Builtin.zeroCells, hzl], by simpa using hh⟩⟩)
      rw [List.set_set] at h2
      exact ⟨hS1.os, hS1.tape, hS1.output, hS1.size, h2⟩
    exact ⟨hO _ _ _ hS', tR hT (c _ _) _ _ (hF.putS _ hd) hS'⟩
end
end Bg
