/-
  A library of walks over a heap told as a list of parts (separation logic), for the model's Code.wp and Calls.
  Part 1: heaps, parts, frames.
-/
import Derived.WalkKit
import Derived.Orders
set_option linter.unusedSimpArgs false
set_option linter.unusedVariables false
namespace Bg
open Go

/-! ### Heaps and parts -/
abbrev Hl := Nat → Option Obj
abbrev Asn := Hl → Prop

/-- A block that is these cells. -/
def pt (b : Nat) (vs : List Value) (ty : TypeId) : Asn := fun h => h = fun x => if x = b then some (.cells vs.toArray ty (0, 0)) else none
/-- A block that is this object (a map). -/
def ob (b : Nat) (o : Obj) : Asn := fun h => h = fun x => if x = b then some o else none
def emp : Asn := fun h => h = fun _ => none
/-- What holds of numbers alone. -/
def pure' (p : Prop) : Asn := fun h => p ∧ h = fun _ => none
def ex {α : Type} (F : α → Asn) : Asn := fun h => ∃ x, F x h

/-- The part of a heap whose blocks bear the colour i. -/
def part (h : Hl) (c : Nat → Nat) (i : Nat) : Hl := fun x => if c x = i then h x else none
/-- The heap is parted: the i-th part is as the i-th assertion says; nothing is said of other colours. -/
def Parts (h : Hl) (L : List Asn) : Prop := ∃ c : Nat → Nat, ∀ (i : Nat) (A : Asn), L[i]? = some A → A (part h c i)
/-- All of a heap, parted. -/
def star (L : List Asn) : Asn := fun h => ∃ c : Nat → Nat, (∀ x, h x ≠ none → c x < L.length) ∧ ∀ (i : Nat) (A : Asn), L[i]? = some A → A (part h c i)

def hl (w : World) : Hl := fun x => w.heap[x]?
structure St (w0 w : World) (L : List Asn) : Prop where
  os : w.os = w0.os
  tape : w.tape = w0.tape
  output : w.output = w0.output
  size : w0.heap.size ≤ w.heap.size
  parts : Parts (hl w) L

theorem St.start {w : World} {L : List Asn} (h : Parts (hl w) L) : St w w L := ⟨rfl, rfl, rfl, Nat.le_refl _, h⟩
theorem St.again {w0 w : World} {L : List Asn} (h : St w0 w L) : St w w L := .start h.parts
theorem St.step {w0 w w1 : World} {L L1 : List Asn} (h : St w0 w L) (k : St w w1 L1) : St w0 w1 L1 :=
  ⟨k.os.trans h.os, k.tape.trans h.tape, k.output.trans h.output, Nat.le_trans h.size k.size, k.parts⟩
theorem St.drew {w0 w : World} {L : List Asn} (h : St w0 w L) : St w0 w.drew L := ⟨h.os, h.tape, h.output, h.size, h.parts⟩

theorem part_part (h : Hl) (c : Nat → Nat) (i : Nat) (x : Nat) (hx : c x = i) : part h c i x = h x := by simp [part, hx]
theorem part_congr {h h' : Hl} {c c' : Nat → Nat} {i j : Nat} (e : ∀ x, (if c x = i then h x else none) = (if c' x = j then h' x else none)) : part h c i = part h' c' j := funext e

/-- Read a block. -/
theorem Parts.get {h : Hl} {L : List Asn} (hp : Parts h L) {i b : Nat} {o : Obj} (hi : L[i]? = some (ob b o)) : h b = some o := by
  obtain ⟨c, hc⟩ := hp
  have e := congrFun (hc i (ob b o) hi) b
  simp only [part, if_true] at e
  split at e
  · exact e
  · cases e
theorem pt_eq (b : Nat) (vs : List Value) (ty : TypeId) : pt b vs ty = ob b (.cells vs.toArray ty (0, 0)) := rfl
theorem Parts.cells {h : Hl} {L : List Asn} (hp : Parts h L) {i b : Nat} {vs : List Value} {ty : TypeId} (hi : L[i]? = some (pt b vs ty)) : h b = some (.cells vs.toArray ty (0, 0)) := hp.get hi

/-- Write a block. -/
theorem Parts.set {h h' : Hl} {L : List Asn} (hp : Parts h L) {i b : Nat} {o o' : Obj} (hi : L[i]? = some (ob b o)) (hb : h' b = some o') (ho : ∀ x, x ≠ b → h' x = h x) : Parts h' (L.set i (ob b o')) := by
  have hgb := hp.get hi
  obtain ⟨c, hc⟩ := hp
  have hci : c b = i := by
    have e := congrFun (hc i (ob b o) hi) b
    simp only [part, if_true] at e
    split at e
    · assumption
    · cases e
  refine ⟨c, fun j A hj => ?_⟩
  rw [List.getElem?_set] at hj
  split at hj
  · rename_i hij
    subst hij
    split at hj
    · simp only [Option.some.injEq] at hj
      subst hj
      funext x
      simp only [part]
      by_cases hx : x = b
      · subst hx; simp [hci, hb]
      · have e := congrFun (hc i (ob b o) hi) x
        simp only [part, hx, if_false] at e
        simp only [hx, if_false, ho x hx]
        exact e
    · cases hj
  · rename_i hij
    have := hc j A hj
    have e : part h' c j = part h c j := by
      funext x
      simp only [part]
      by_cases hx : x = b
      · subst hx; simp [hci, hij]
      · rw [ho x hx]
    rw [e]; exact this

/-- A new block. -/
theorem Parts.fresh {h h' : Hl} {L : List Asn} (hp : Parts h L) {b : Nat} {o : Obj} (hn : h b = none) (hb : h' b = some o) (ho : ∀ x, x ≠ b → h' x = h x) : Parts h' (ob b o :: L) := by
  obtain ⟨c, hc⟩ := hp
  refine ⟨fun x => if x = b then 0 else c x + 1, fun j A hj => ?_⟩
  cases j with
  | zero =>
    simp at hj; subst hj
    funext x
    simp only [part]
    by_cases hx : x = b
    · subst hx; simp [hb]
    · simp [hx]
  | succ j =>
    have := hc j A (by simpa using hj)
    have e : part h' (fun x => if x = b then 0 else c x + 1) (j + 1) = part h c j := by
      funext x
      simp only [part]
      by_cases hx : x = b
      · subst hx; simp [hn]
      · simp [hx, ho x hx]
    rw [e]; exact this

/-- Turn the order: 'is' are places of L, each once at most; what is left out is forgotten. -/
def pick (L : List Asn) (is : List Nat) : List Asn := is.map fun i => L.getD i (fun _ => True)
theorem Parts.pick {h : Hl} {L : List Asn} (hp : Parts h L) (is : List Nat) (hn : is.Nodup) (hl : ∀ i ∈ is, i < L.length) : Parts h (Bg.pick L is) := by
  obtain ⟨c, hc⟩ := hp
  refine ⟨fun x => (is.idxOf? (c x)).getD is.length, fun j A hj => ?_⟩
  simp only [Bg.pick, List.getElem?_map, Option.map_eq_some_iff] at hj
  obtain ⟨i, hi, rfl⟩ := hj
  have hlt := hl i (List.mem_of_getElem? hi)
  have := hc i (L.getD i (fun _ => True)) (by simp [List.getD, hlt])
  have e : part h (fun x => (is.idxOf? (c x)).getD is.length) j = part h c i := by
    funext x
    simp only [part]
    by_cases hx : c x = i
    · have : is.idxOf? i = some j := by
        rw [List.idxOf?, List.findIdx?_eq_some_iff_getElem]
        obtain ⟨hjl, hji⟩ := List.getElem?_eq_some_iff.1 hi
        refine ⟨hjl, by simp [hji], fun k hk => ?_⟩
        simp only [Bool.not_eq_true, beq_eq_false_iff_ne]
        intro hki
        exact (List.pairwise_iff_getElem.1 hn) k j (by omega) hjl hk (hki.trans hji.symm)
      simp [hx, this]
    · have : (is.idxOf? (c x)).getD is.length ≠ j := by
        intro hj'
        cases hq : is.idxOf? (c x) with
        | none =>
          rw [hq] at hj'
          simp at hj'
          have := (List.getElem?_eq_some_iff.1 hi).1
          omega
        | some k =>
          rw [hq] at hj'
          simp at hj'
          subst hj'
          rw [List.idxOf?, List.findIdx?_eq_some_iff_getElem] at hq
          obtain ⟨h1, h2, _⟩ := hq
          have := (List.getElem?_eq_some_iff.1 hi).2
          simp at h2
          exact hx (h2 ▸ this)
      simp [hx, this]
  rw [e]; exact this

/-- The rest under one name, and back. -/
theorem Parts.fold {h : Hl} {A B : List Asn} (hp : Parts h (A ++ B)) : Parts h (A ++ [star B]) := by
  obtain ⟨c, hc⟩ := hp
  refine ⟨fun x => if c x < A.length then c x else if c x < A.length + B.length then A.length else A.length + 1, fun j X hj => ?_⟩
  by_cases hjl : j < A.length
  · rw [List.getElem?_append_left hjl] at hj
    have := hc j X (by rw [List.getElem?_append_left hjl]; exact hj)
    have e : part h (fun x => if c x < A.length then c x else if c x < A.length + B.length then A.length else A.length + 1) j = part h c j := by
      funext x
      simp only [part]
      by_cases h1 : c x < A.length
      · simp [h1]
      · have : ¬ c x = j := by omega
        simp only [h1, if_false, this]
        split <;> (split <;> first | omega | rfl)
    rw [e]; exact this
  · rw [List.getElem?_append_right (by omega)] at hj
    have hj0 : j = A.length := by
      have := (List.getElem?_eq_some_iff.1 hj).1
      simp at this; omega
    subst hj0
    simp at hj; subst hj
    refine ⟨fun x => c x - A.length, fun x hx => ?_, fun k X hk => ?_⟩
    · simp only [part] at hx
      by_cases h1 : c x < A.length
      · exact absurd (by simp only [h1, if_true, show ¬ c x = A.length by omega, if_false]) hx
      · by_cases h2 : c x < A.length + B.length
        · show c x - A.length < B.length
          omega
        · exact absurd (by simp only [h1, h2, if_false, show ¬ A.length + 1 = A.length by omega]) hx
    · have hkl := (List.getElem?_eq_some_iff.1 hk).1
      have := hc (A.length + k) X (by rw [List.getElem?_append_right (by omega)]; simpa using hk)
      have e : part (part h (fun x => if c x < A.length then c x else if c x < A.length + B.length then A.length else A.length + 1) A.length) (fun x => c x - A.length) k = part h c (A.length + k) := by
        funext x
        simp only [part]
        by_cases h1 : c x = A.length + k
        · simp [h1, show ¬ A.length + k < A.length by omega, show A.length + k < A.length + B.length by omega]
        · simp only [h1, if_false]
          by_cases h2 : c x < A.length
          · simp only [h2, if_true, show ¬ c x = A.length by omega, if_false, ite_self]
          · by_cases h3 : c x < A.length + B.length
            · simp only [show ¬ c x - A.length = k by omega, if_false]
            · simp only [h2, h3, if_false, show ¬ A.length + 1 = A.length by omega, ite_self]
      rw [e]; exact this
theorem Parts.unfold {h : Hl} {A B : List Asn} (hp : Parts h (A ++ [star B])) : Parts h (A ++ B) := by
  obtain ⟨c, hc⟩ := hp
  obtain ⟨d, hd, hdc⟩ := hc A.length (star B) (by simp)
  refine ⟨fun x => if c x < A.length then c x else if c x = A.length then A.length + d x else A.length + B.length, fun j X hj => ?_⟩
  by_cases hjl : j < A.length
  · rw [List.getElem?_append_left hjl] at hj
    have := hc j X (by rw [List.getElem?_append_left hjl]; exact hj)
    have e : part h (fun x => if c x < A.length then c x else if c x = A.length then A.length + d x else A.length + B.length) j = part h c j := by
      funext x
      simp only [part]
      by_cases h1 : c x < A.length
      · simp [h1]
      · have : ¬ c x = j := by omega
        simp only [h1, if_false, this]
        split <;> (split <;> first | omega | rfl)
    rw [e]; exact this
  · rw [List.getElem?_append_right (by omega)] at hj
    have hjb := (List.getElem?_eq_some_iff.1 hj).1
    have := hdc (j - A.length) X hj
    have e : part h (fun x => if c x < A.length then c x else if c x = A.length then A.length + d x else A.length + B.length) j = part (part h c A.length) d (j - A.length) := by
      funext x
      simp only [part]
      by_cases h1 : c x < A.length
      · simp only [h1, if_true, show ¬ c x = j by omega, if_false, show ¬ c x = A.length by omega]
        split <;> rfl
      · by_cases h2 : c x = A.length
        · simp only [h2, Nat.lt_irrefl, if_false, if_true]
          by_cases h3 : d x = j - A.length
          · simp [h3, show A.length + (j - A.length) = j by omega]
          · simp [h3, show ¬ A.length + d x = j by omega]
        · simp only [h1, h2, if_false, show ¬ A.length + B.length = j by omega]
          split <;> rfl
    rw [e]; exact this

/-- One part in the place of another, of whatever heap. -/
theorem Parts.imp {h : Hl} {L : List Asn} (hp : Parts h L) (i : Nat) (A B : Asn) (hi : L[i]? = some A) (hAB : ∀ h, A h → B h) : Parts h (L.set i B) := by
  obtain ⟨c, hc⟩ := hp
  refine ⟨c, fun j X hj => ?_⟩
  rw [List.getElem?_set] at hj
  split at hj
  · rename_i hij
    subst hij
    split at hj
    · simp at hj; subst hj; exact hAB _ (hc i A hi)
    · cases hj
  · exact hc j X hj
/-- A part that is several parts: they come behind. -/
theorem Parts.open {h : Hl} {L : List Asn} (hp : Parts h L) (i : Nat) (M : List Asn) (hi : L[i]? = some (star M)) : Parts h (L.set i emp ++ M) := by
  obtain ⟨c, hc⟩ := hp
  have hil := (List.getElem?_eq_some_iff.1 hi).1
  obtain ⟨d, hd, hdc⟩ := hc i (star M) hi
  refine ⟨fun x => if c x = i then L.length + d x else if c x < L.length then c x else L.length + M.length, fun j X hj => ?_⟩
  by_cases hjl : j < L.length
  · rw [List.getElem?_append_left (by simpa using hjl), List.getElem?_set] at hj
    split at hj
    · rename_i hij
      subst hij
      simp at hj; subst hj
      funext x
      simp only [part]
      by_cases h1 : c x = i
      · simp [h1, show ¬ L.length + d x = i by omega]
      · simp only [h1, if_false]
        split
        · simp [h1]
        · simp [show ¬ L.length + M.length = i by omega]
    · rename_i hij
      have := hc j X hj
      have e : part h (fun x => if c x = i then L.length + d x else if c x < L.length then c x else L.length + M.length) j = part h c j := by
        funext x
        simp only [part]
        by_cases h1 : c x = i
        · simp [h1, show ¬ L.length + d x = j by omega, show ¬ i = j by omega]
        · simp only [h1, if_false]
          split
          · rfl
          · simp [show ¬ L.length + M.length = j by omega, show ¬ c x = j by omega]
      rw [e]; exact this
  · rw [List.getElem?_append_right (by simpa using hjl)] at hj
    simp only [List.length_set] at hj
    have hjm := (List.getElem?_eq_some_iff.1 hj).1
    have := hdc (j - L.length) X hj
    have e : part h (fun x => if c x = i then L.length + d x else if c x < L.length then c x else L.length + M.length) j = part (part h c i) d (j - L.length) := by
      funext x
      simp only [part]
      by_cases h1 : c x = i
      · simp only [h1, if_true]
        by_cases h3 : d x = j - L.length
        · simp [h3, show L.length + (j - L.length) = j by omega]
        · simp [h3, show ¬ L.length + d x = j by omega]
      · simp only [h1, if_false]
        split
        · simp only [show ¬ c x = j by omega, if_false]; split <;> rfl
        · simp only [show ¬ L.length + M.length = j by omega, if_false]; split <;> rfl
    rw [e]; exact this
theorem Parts.close {h : Hl} {B M : List Asn} (hp : Parts h (M ++ B)) : Parts h (star M :: B) := by
  have h1 := hp.pick ((List.range' M.length B.length) ++ List.range M.length) (by
      rw [List.nodup_append]
      refine ⟨List.nodup_range', List.nodup_range, fun a ha b hb => ?_⟩
      simp at ha hb; omega) (by intro i hi; simp at hi ⊢; omega)
  have e : Bg.pick (M ++ B) ((List.range' M.length B.length) ++ List.range M.length) = B ++ M := by
    unfold Bg.pick
    rw [List.map_append]
    congr 1
    · apply List.ext_getElem? ; intro k
      simp only [List.getElem?_map]
      by_cases hk : k < B.length
      · simp [hk, List.getD, List.getElem?_append_right]
      · simp [hk, List.getElem?_eq_none (show B.length ≤ k by omega)]
    · apply List.ext_getElem? ; intro k
      simp only [List.getElem?_map]
      by_cases hk : k < M.length
      · simp [hk, List.getD, List.getElem?_append_left]
      · simp [hk, List.getElem?_eq_none (show M.length ≤ k by omega)]
  rw [e] at h1
  have h2 := h1.fold
  have h3 := h2.pick (B.length :: List.range B.length) (by simp [List.nodup_range]) (by intro i hi; simp at hi ⊢; omega)
  have e2 : Bg.pick (B ++ [star M]) (B.length :: List.range B.length) = star M :: B := by
    unfold Bg.pick
    simp only [List.map_cons]
    congr 1
    · simp [List.getD]
    · apply List.ext_getElem? ; intro k
      simp only [List.getElem?_map]
      by_cases hk : k < B.length
      · simp [hk, List.getD, List.getElem?_append_left]
      · simp [hk, List.getElem?_eq_none (show B.length ≤ k by omega)]
  rwa [e2] at h3

/-- What holds of numbers alone, taken out. -/
theorem Parts.exis {h : Hl} {L : List Asn} (hp : Parts h L) (i : Nat) {α : Type} (F : α → Asn) (hi : L[i]? = some (ex F)) : ∃ x, Parts h (L.set i (F x)) := by
  obtain ⟨c, hc⟩ := hp
  obtain ⟨x, hx⟩ := hc i _ hi
  refine ⟨x, c, fun j X hj => ?_⟩
  rw [List.getElem?_set] at hj
  split at hj
  · rename_i hij
    subst hij
    split at hj
    · simp at hj; subst hj; exact hx
    · cases hj
  · exact hc j X hj
theorem Parts.said {h : Hl} {L : List Asn} (hp : Parts h L) (i : Nat) (p : Prop) (hi : L[i]? = some (pure' p)) : p := by
  obtain ⟨c, hc⟩ := hp
  exact (hc i _ hi).1

end Bg
