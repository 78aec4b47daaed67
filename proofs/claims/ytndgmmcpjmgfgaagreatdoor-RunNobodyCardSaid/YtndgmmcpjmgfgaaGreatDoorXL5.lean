/- Part 5: parts that are opened and shut; rows of memory behind slices. -/
import Derived.Test.YtndgmmcpjmgfgaaGreatDoorXL4
set_option linter.unusedSimpArgs false
set_option linter.unusedVariables false
namespace Bg
open Go Go.Proofs

section
variable {P : Program} {T : Tb} {ops : Array Oper} {incs : List (Nat × Nat)} {Q : Exit → Act → World → Prop} {w0 : World} {n : Nat} {l : List Nat} {F : Facts} {s : Slots} {H : List Asn} {i : Nat} {d : Option Nat} {K : Act → World → Prop}

theorem St.parts_mono {w : World} {H' : List Asn} (h : St w0 w H) (hp : Parts (hl w) H → Parts (hl w) H') : St w0 w H' := ⟨h.os, h.tape, h.output, h.size, hp h.parts⟩
/-- A part told by others, with what is known of them. -/
theorem Parts.use {h : Hl} {L : List Asn} (hp : Parts h L) (j : Nat) {A : Asn} {α : Type} {p : α → Prop} {M : α → List Asn} (hj : L[j]? = some A) (hA : ∀ h, A h → ∃ x, p x ∧ star (M x) h) : ∃ x, p x ∧ Parts h (L.set j emp ++ M x) := by
  obtain ⟨c, hc⟩ := hp
  obtain ⟨x, hx, hs⟩ := hA _ (hc j A hj)
  have h2 : Parts h (L.set j (star (M x))) := by
    refine ⟨c, fun k X hk => ?_⟩
    rw [List.getElem?_set] at hk
    split at hk
    · rename_i e; subst e
      split at hk
      · simp at hk; subst hk; exact hs
      · cases hk
    · exact hc k X hk
  have hlt := (List.getElem?_eq_some_iff.1 hj).1
  have h3 := h2.open j (M x) (by rw [List.getElem?_set]; simp [hlt])
  rw [List.set_set] at h3
  exact ⟨x, hx, h3⟩
theorem kUse (j : Nat) {A : Asn} {α : Type} {p : α → Prop} {M : α → List Asn} (hA : ∀ h, A h → ∃ x, p x ∧ star (M x) h) (hj : H[j]? = some A) (k : ∀ x, p x → KS w0 n K s (H.set j emp ++ M x)) : KS w0 n K s H := by
  intro a w hF hS
  obtain ⟨x, hx, hp⟩ := hS.parts.use j hj hA
  exact k x hx a w hF ⟨hS.os, hS.tape, hS.output, hS.size, hp⟩
theorem tUse (j : Nat) {A : Asn} {α : Type} {p : α → Prop} {M : α → List Asn} (hA : ∀ h, A h → ∃ x, p x ∧ star (M x) h) (hj : H[j]? = some A) (k : ∀ x, p x → TS P ops incs Q w0 n l F s (H.set j emp ++ M x)) : TS P ops incs Q w0 n l F s H := by
  intro a w hF hS
  obtain ⟨x, hx, hp⟩ := hS.parts.use j hj hA
  exact k x hx a w hF ⟨hS.os, hS.tape, hS.output, hS.size, hp⟩
/-- Parts told as one. -/
theorem Parts.shut {h : Hl} {L : List Asn} (hp : Parts h L) (is : List Nat) (hok : okIs L.length is = true) {A : Asn} (hA : ∀ h, star (Bg.pick L is) h → A h) : Parts h (A :: Bg.pick L (others L.length is)) := by
  have h1 := (hp.split is hok).close
  exact h1.imp 0 _ A (by simp) hA
theorem kShut (A : Asn) (is : List Nat) (hok : okIs H.length is = true) (hA : ∀ h, star (Bg.pick H is) h → A h) (k : KS w0 n K s (A :: Bg.pick H (others H.length is))) : KS w0 n K s H :=
  fun a w hF hS => k a w hF (hS.parts_mono fun hp => hp.shut is hok hA)
theorem tShut (A : Asn) (is : List Nat) (hok : okIs H.length is = true) (hA : ∀ h, star (Bg.pick H is) h → A h) (k : TS P ops incs Q w0 n l F s (A :: Bg.pick H (others H.length is))) : TS P ops incs Q w0 n l F s H :=
  fun a w hF hS => k a w hF (hS.parts_mono fun hp => hp.shut is hok hA)
/-- The parts in another order, some forgotten. -/
theorem kH (is : List Nat) (hok : okIs H.length is = true) (k : KS w0 n K s (Bg.pick H is)) : KS w0 n K s H := fun a w hF hS => by
  simp only [okIs, Bool.and_eq_true] at hok
  exact k a w hF (hS.parts_mono fun hp => hp.pick is (nodupB_spec hok.1) fun i hi => Nat.le_of_ble_eq_true (List.all_eq_true.1 hok.2 i hi))
theorem tH (is : List Nat) (hok : okIs H.length is = true) (k : TS P ops incs Q w0 n l F s (Bg.pick H is)) : TS P ops incs Q w0 n l F s H := fun a w hF hS => by
  simp only [okIs, Bool.and_eq_true] at hok
  exact k a w hF (hS.parts_mono fun hp => hp.pick is (nodupB_spec hok.1) fun i hi => Nat.le_of_ble_eq_true (List.all_eq_true.1 hok.2 i hi))
/-- One part in another's place. -/
theorem kImp (j : Nat) {A : Asn} (B : Asn) (hj : H[j]? = some A) (hAB : ∀ h, A h → B h) (k : KS w0 n K s (H.set j B)) : KS w0 n K s H :=
  fun a w hF hS => k a w hF (hS.parts_mono fun hp => hp.imp j A B hj hAB)
theorem tImp (j : Nat) {A : Asn} (B : Asn) (hj : H[j]? = some A) (hAB : ∀ h, A h → B h) (k : TS P ops incs Q w0 n l F s (H.set j B)) : TS P ops incs Q w0 n l F s H :=
  fun a w hF hS => k a w hF (hS.parts_mono fun hp => hp.imp j A B hj hAB)
/-- The same, written otherwise. -/
theorem kEqH (H' : List Asn) (e : H = H') (k : KS w0 n K s H') : KS w0 n K s H := e ▸ k
theorem tEqH (H' : List Asn) (e : H = H') (k : TS P ops incs Q w0 n l F s H') : TS P ops incs Q w0 n l F s H := e ▸ k
end

/-! ### What is read and not written -/
/-- In a heap like this the cells cs lie in block b from off on. -/
def Rd (A : Asn) (b off : Nat) (cs : List Value) : Prop := ∀ h, A h → ∃ c ty fr, h b = some (.cells c ty fr) ∧ ∀ k v, cs[k]? = some v → c[off + k]? = some v
theorem Rd.pt {b off : Nat} {vs cs : List Value} {ty : TypeId} (h : ∀ k v, cs[k]? = some v → vs[off + k]? = some v) : Rd (pt b vs ty) b off cs := fun hh hp => by
  subst hp
  exact ⟨vs.toArray, ty, (0, 0), by simp, fun k v hk => by simpa using h k v hk⟩
theorem Rd.range {A : Asn} {b off : Nat} {cs : List Value} (h : Rd A b off cs) {w0 w : World} {H : List Asn} (hS : St w0 w H) (j : Nat) (hj : H[j]? = some A) : w.rangeAt b off cs := by
  obtain ⟨c, hc⟩ := hS.parts
  obtain ⟨cc, ty, fr, hb, hv⟩ := h _ (hc j A hj)
  have hb' : w.heap[b]? = some (.cells cc ty fr) := by
    simp only [part, hl] at hb
    split at hb
    · exact hb
    · cases hb
  intro k v hk
  rw [cell_of_row w b (off + k) cc ty fr hb']
  exact hv k v hk
theorem Rd.sub {A : Asn} {b off : Nat} {cs : List Value} (h : Rd A b off cs) (o : Nat) (ds : List Value) (hd : ∀ k v, ds[k]? = some v → cs[o + k]? = some v) : Rd A b (off + o) ds := fun hh hA => by
  obtain ⟨c, ty, fr, hb, hv⟩ := h hh hA
  exact ⟨c, ty, fr, hb, fun k v hk => by rw [Nat.add_assoc]; exact hv _ v (hd k v hk)⟩
/-- Rows of k cells behind a slice's value, read and not written. -/
structure RdS (A : Asn) (v : Value) (k : Nat) (rows : List (List Value)) : Prop where
  form : ∃ a cap, v = .slice a rows.length cap ∧ rows.length ≤ cap
  cells : 0 < rows.length → ∃ b off cap, v = .slice (some ⟨b, off, none⟩) rows.length cap ∧ Rd A b off rows.flatten
  long : ∀ r ∈ rows, r.length = k

section
variable {P : Program} {T : Tb} {ops : Array Oper} {incs : List (Nat × Nat)} {Q : Exit → Act → World → Prop} {w0 : World} {n : Nat} {l : List Nat} {F : Facts} {s : Slots} {H : List Asn} {i : Nat} {d : Option Nat}
theorem tLdR (hT : TOk P T) (j : Nat) {A : Asn} {t : TypeId} {x : Operand} {b off : Nat} {v : Value} (hr : Rd A b off [v])
    (ho : opAt ops n s i = .go (.load t x) d) (hx : evs s x = some (.pointer (some ⟨b, off, none⟩))) (hj : H[j]? = some A) (ht : hasN T.sc t = true)
    (k : runS T ops n (fun l s => TS P ops incs Q w0 n l ((i, fun w => w.rangeAt b off [v]) :: F) s H) l (putS d v s)) : TS P ops incs Q w0 n (i :: l) F s H := by
  refine TS.float _ ho rfl (fun w hS => hr.range hS j hj) (fun a w o hop hF hr => ?_) (tR hT k)
  have hc : w.cell? ⟨b, off, none⟩ = some v := by simpa using hr 0 v (by simp)
  simp only [execOp, hop, Instr.loadAt, Instr.sureAddr, hF.eval hx]
  simp [loadVar, (sc_of hT ht).1 w, hc]
theorem tLdRA (hT : TOk P T) (j : Nat) {A : Asn} (cs : List Value) {t m : TypeId} {x : Operand} {b off : Nat} (hr : Rd A b off cs)
    (ho : opAt ops n s i = .go (.load t x) d) (hx : evs s x = some (.pointer (some ⟨b, off, none⟩))) (hj : H[j]? = some A) (ht : getN T.ag t = some m) (hl : cs.length = m)
    (k : runS T ops n (fun l s => TS P ops incs Q w0 n l ((i, fun w => w.rangeAt b off cs) :: F) s H) l (putS d (.agg cs.toArray) s)) : TS P ops incs Q w0 n (i :: l) F s H := by
  refine TS.float _ ho rfl (fun w hS => hr.range hS j hj) (fun a w o hop hF hr => ?_) (tR hT k)
  obtain ⟨dd, h1, h2, h3⟩ := ag_of hT ht
  simp only [execOp, hop, hF.eval hx]
  rw [Sem.run_bind, run_loadAt_mid w b off t cs dd hr h1 h2 (by rw [hl]; exact h3)]
  rfl
end
end Bg
