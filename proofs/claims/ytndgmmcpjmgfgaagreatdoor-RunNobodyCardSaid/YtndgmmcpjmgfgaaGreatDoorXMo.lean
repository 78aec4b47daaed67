/- The data, and how they lie in memory. -/
import Derived.Test.YtndgmmcpjmgfgaaGreatDoorXL10
set_option linter.unusedSimpArgs false
set_option linter.unusedVariables false
namespace Go.Proofs
open Bg
abbrev ptr (p : Nat) : Value := .pointer (some ⟨p, 0, none⟩)
abbrev vi (n : Int) : Value := .int .i64 n
/-- A step of a profile: how many nodes are free from a time on. -/
structure Stp where
  at_ : Int
  free : Int
  deriving DecidableEq
def encStp (x : Stp) : List Value := [vi x.at_, vi x.free]
theorem encStp_len (x : Stp) : (encStp x).length = 2 := rfl
structure Prof where
  steps : List Stp
  ver : Int
/-- The step in which a time lies. -/
def ix (l : List Stp) (t : Int) : Nat := (l.takeWhile fun x => decide (x.at_ ≤ t)).length - 1
def Rising (l : List Stp) : Prop := l.Pairwise fun a b => a.at_ < b.at_
/-- How many steps begin ahead of a time. -/
def ahead (l : List Stp) (t : Int) : Nat := (l.takeWhile fun x => decide (x.at_ < t)).length
theorem ahead_le (l : List Stp) (t : Int) : ahead l t ≤ l.length := (List.takeWhile_sublist _).length_le
theorem takeWhile_len {α : Type} (p : α → Bool) : ∀ (l : List α) (k : Nat), k ≤ l.length → (∀ j x, l[j]? = some x → j < k → p x = true) → (∀ x, l[k]? = some x → p x = false) → (l.takeWhile p).length = k
  | [], k, hk, _, _ => by simp at hk; simp [hk]
  | y :: l, 0, _, _, h2 => by simp [h2 y rfl]
  | y :: l, k + 1, hk, h1, h2 => by
    have := h1 0 y rfl (by omega)
    simp only [List.takeWhile_cons, this, if_true, List.length_cons]
    rw [takeWhile_len p l k (by simpa using hk) (fun j x hx hj => h1 (j + 1) x (by simpa using hx) (by omega)) (fun x hx => h2 x (by simpa using hx))]
theorem rising_lt {l : List Stp} (h : Rising l) {i j : Nat} {x y : Stp} (hi : l[i]? = some x) (hj : l[j]? = some y) (hij : i < j) : x.at_ < y.at_ := by
  obtain ⟨h1, rfl⟩ := List.getElem?_eq_some_iff.1 hi
  obtain ⟨h2, rfl⟩ := List.getElem?_eq_some_iff.1 hj
  exact List.pairwise_iff_getElem.1 h i j h1 h2 hij
theorem ahead_eq {l : List Stp} (h : Rising l) (t : Int) (k : Nat) (hk : k ≤ l.length) (h1 : ∀ x, 0 < k → l[k - 1]? = some x → x.at_ < t) (h2 : ∀ x, l[k]? = some x → t ≤ x.at_) : ahead l t = k := by
  refine takeWhile_len _ l k hk (fun j x hx hj => ?_) (fun x hx => ?_)
  · simp only [decide_eq_true_eq]
    have hlt : k - 1 < l.length := by omega
    have h3 := h1 l[k - 1] (by omega) (List.getElem?_eq_getElem hlt)
    by_cases hjk : j = k - 1
    · subst hjk
      rw [List.getElem?_eq_getElem hlt] at hx
      simp only [Option.some.injEq] at hx
      rw [← hx]; exact h3
    · have := rising_lt h hx (List.getElem?_eq_getElem hlt) (by omega)
      omega
  · simp only [decide_eq_false_iff_not]
    have := h2 x hx
    omega
/-- The place that the search finds. -/
theorem ix_eq {l : List Stp} (h : Rising l) (t : Int) : ix l t = if (∃ x, l[ahead l t]? = some x ∧ x.at_ = t) then ahead l t else ahead l t - 1 := by
  have hk := ahead_le l t
  have hp : ∀ j x, l[j]? = some x → j < ahead l t → x.at_ < t := fun j x hx hj => by
    have : x ∈ l.takeWhile (fun x => decide (x.at_ < t)) := by
      rw [List.mem_iff_getElem?]
      refine ⟨j, ?_⟩
      have hpre := List.takeWhile_prefix (p := fun x : Stp => decide (x.at_ < t)) (l := l)
      obtain ⟨r, hr⟩ := hpre
      have h3 : ((l.takeWhile fun x => decide (x.at_ < t)) ++ r)[j]? = some x := by rw [hr]; exact hx
      rw [List.getElem?_append_left hj] at h3
      exact h3
    simpa using List.all_eq_true.1 List.all_takeWhile x this
  have hn : ∀ x, l[ahead l t]? = some x → t ≤ x.at_ := fun x hx => by
    rcases Int.lt_or_le x.at_ t with hlt | hge
    · exfalso
      have : ahead l t = ahead l t + 1 := by
        have hlen := (List.getElem?_eq_some_iff.1 hx).1
        unfold ahead
        have e := List.takeWhile_append_dropWhile (p := fun x : Stp => decide (x.at_ < t)) (l := l)
        have h4 : ((l.takeWhile fun x => decide (x.at_ < t)) ++ (l.dropWhile fun x => decide (x.at_ < t)))[ahead l t]? = some x := by rw [e]; exact hx
        rw [List.getElem?_append_right (by unfold ahead; omega)] at h4
        have h5 : (l.dropWhile fun x => decide (x.at_ < t))[0]? = some x := by
          unfold ahead at h4; simpa using h4
        have h6 := List.head?_dropWhile_not (fun x : Stp => decide (x.at_ < t)) l
        rw [List.head?_eq_getElem?, h5] at h6
        simp at h6
        omega
      omega
    · exact hge
  split
  · rename_i hx
    obtain ⟨x, hx, hxt⟩ := hx
    have hlen := (List.getElem?_eq_some_iff.1 hx).1
    have : (l.takeWhile fun x => decide (x.at_ ≤ t)).length = ahead l t + 1 := by
      refine takeWhile_len _ l _ (by omega) (fun j y hy hj => ?_) (fun y hy => ?_)
      · simp only [decide_eq_true_eq]
        by_cases hje : j = ahead l t
        · subst hje; rw [hx] at hy; cases hy; omega
        · have := hp j y hy (by omega); omega
      · simp only [decide_eq_false_iff_not]
        have := rising_lt h hx hy (by omega)
        omega
    unfold ix; omega
  · rename_i hx
    have : (l.takeWhile fun x => decide (x.at_ ≤ t)).length = ahead l t := by
      refine takeWhile_len _ l _ hk (fun j y hy hj => ?_) (fun y hy => ?_)
      · simp only [decide_eq_true_eq]
        have := hp j y hy hj; omega
      · simp only [decide_eq_false_iff_not]
        have := hn y hy
        intro hle
        exact hx ⟨y, hy, by omega⟩
    unfold ix; omega
/-- The least of what is free in steps that begin ahead of a time. -/
def leastL (to : Int) : List Stp → Int → Int
  | [], n => n
  | s :: r, n => if to ≤ s.at_ then n else leastL to r (min n s.free)
def mostL (to : Int) : List Stp → Int → Int
  | [], n => n
  | s :: r, n => if to ≤ s.at_ then n else mostL to r (max n s.free)
end Go.Proofs
