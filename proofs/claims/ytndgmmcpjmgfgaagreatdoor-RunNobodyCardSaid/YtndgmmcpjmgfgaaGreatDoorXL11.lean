/- Part 11: from a contract to what a law's statement asks. -/
import Derived.Test.YtndgmmcpjmgfgaaGreatDoorXL10
import Derived.WalkKit
import Derived.ProofKit
import Derived.OpenShut
import Derived.Deep.DeepHandedRow
import Derived.Lib.LaidTab
set_option linter.unusedSimpArgs false
set_option linter.unusedVariables false
namespace Bg
open Go Go.Proofs

/-! ### Reading with other spare places -/
section
variable {H : Type} {enc : TypeId × Value → H} {P : Program} {w w' : World} {base : Nat} {sp : Nat → Bool}
/-- A set of types with all that they are made of; no slice among them is of elements without cells. -/
def TypesOk (P : Program) (G : TypeId → Prop) : Prop := ∀ t, G t → match P.underlying t with
  | some (.pointer e) => G e
  | some (.slice e) => G e ∧ 0 < P.cellsOf e
  | some (.struct fs) => ∀ f ∈ fs.toList, G f.type
  | some (.array _ e) => G e
  | some (.map _ e) => G e
  | _ => True
def typesB (P : Program) : Bool := (List.range P.types.size).all fun t => match P.underlying t with
  | some (.pointer e) => Nat.blt e P.types.size
  | some (.slice e) => Nat.blt e P.types.size && Nat.blt 0 (P.cellsOf e)
  | some (.struct fs) => fs.toList.all fun f => Nat.blt f.type P.types.size
  | some (.array _ e) => Nat.blt e P.types.size
  | some (.map _ e) => Nat.blt e P.types.size
  | _ => true
theorem typesB_ok {P : Program} (h : typesB P = true) : TypesOk P (fun t => t < P.types.size) := by
  intro t ht
  have := List.all_eq_true.1 h t (List.mem_range.2 ht)
  revert this
  split <;> intro this
  · exact Nat.le_of_ble_eq_true this
  · simp only [Bool.and_eq_true] at this
    exact ⟨Nat.le_of_ble_eq_true this.1, Nat.le_of_ble_eq_true this.2⟩
  · intro f hf
    exact Nat.le_of_ble_eq_true (List.all_eq_true.1 this f hf)
  · exact Nat.le_of_ble_eq_true this
  · exact Nat.le_of_ble_eq_true this
  · trivial
theorem trodStep_spare {r r' : TypeId → List Value → Option (DataW H × List MemPlace)} {G : TypeId → Prop} (hG : TypesOk P G)
    (hr : ∀ t cs x, G t → r t cs = some x → (∀ p ∈ x.2, sp p.block = true) → r' t cs = some x) {t : TypeId} {cs : List Value} {x : DataW H × List MemPlace} (gt : G t)
    (h : DataW.trodStep enc P w base (fun _ => true) true r t cs = some x) (hs : ∀ p ∈ x.2, sp p.block = true) : DataW.trodStep enc P w base sp true r' t cs = some x := by
  have gg := hG t gt
  unfold DataW.trodStep at h ⊢
  split at h
  case h_1 => exact h
  case h_2 => exact h
  case h_3 => exact h
  case h_4 => exact h
  case h_5 => exact h
  case h_6 e a ht =>
    rw [ht] at gg
    simp only [Option.map_eq_some_iff, Option.bind_eq_some_iff] at h ⊢
    obtain ⟨y, ⟨cs', hc, hy⟩, rfl⟩ := h
    exact ⟨y, ⟨cs', hc, hr _ _ _ gg hy (fun p hp => hs p (by simp [hp]))⟩, rfl⟩
  case h_7 => exact h
  case h_8 e a len cap ht =>
    rw [ht] at gg
    simp only at h ⊢
    split at h
    · rename_i hc
      rw [if_pos hc]
      simp only [if_true, Option.map_eq_some_iff, Option.bind_eq_some_iff] at h ⊢
      obtain ⟨elems, he, rest, hrest, rfl⟩ := h
      have hrl : rest.length = cap - len := by simpa using mapM_some_length hrest
      have one : ∀ (i : Nat) (y : DataW H × List MemPlace), y ∈ elems ++ rest →
          (w.cells? base (a.add (i * P.cellsOf e)) (P.cellsOf e)).bind (r e) = some y → (w.cells? base (a.add (i * P.cellsOf e)) (P.cellsOf e)).bind (r' e) = some y := by
        intro i y hy hv
        simp only [Option.bind_eq_some_iff] at hv ⊢
        obtain ⟨cs', hc', hy'⟩ := hv
        exact ⟨cs', hc', hr _ _ _ gg.1 hy' (fun p hp => hs p (List.mem_append_right _ (List.mem_flatMap.2 ⟨y, hy, hp⟩)))⟩
      refine ⟨elems, mapM_carry he (fun i y _ hy => one i y (List.mem_append_left _ hy)), rest, ?_, rfl⟩
      by_cases h0 : cap - len = 0
      · have hr0 : rest = [] := List.eq_nil_of_length_eq_zero (by omega)
        subst hr0
        rw [h0]
        split <;> rfl
      · have hpos := gg.2
        have hb : sp a.block = true := by
          refine hs (.cell a.block (a.off + 0)) (List.mem_append_left _ (MemPlace.mem_row.2 ⟨0, ?_, rfl⟩))
          exact Nat.mul_pos (by omega) hpos
        rw [if_pos hb]
        exact mapM_carry hrest (fun j y _ hy => one (len + j) y (List.mem_append_right _ hy))
    · cases h
  case h_9 fs ht =>
    rw [ht] at gg
    split at h
    · rename_i hc
      rw [if_pos hc]
      simp only [Option.map_eq_some_iff] at h ⊢
      obtain ⟨xs, hx, rfl⟩ := h
      exact ⟨xs, mapM_carry hx (fun f y hf hy hv => hr _ _ _ (gg f hf) hv (fun p hp => hs p (List.mem_flatMap.2 ⟨y, hy, hp⟩))), rfl⟩
    · cases h
  case h_10 n e ht =>
    rw [ht] at gg
    split at h
    · rename_i hc
      rw [if_pos hc]
      simp only [Option.map_eq_some_iff] at h ⊢
      obtain ⟨xs, hx, rfl⟩ := h
      exact ⟨xs, mapM_carry hx (fun f y _ hy hv => hr _ _ _ gg hv (fun p hp => hs p (List.mem_flatMap.2 ⟨y, hy, hp⟩))), rfl⟩
    · cases h
  case h_11 => exact h
  case h_12 => exact h
  case h_13 => exact h
  case h_14 k e b ht =>
    rw [ht] at gg
    split at h
    · rename_i es clock hb
      split at h
      · rename_i hc
        simp only [Option.bind_eq_some_iff] at h
        obtain ⟨entries, he, hd⟩ := h
        split at hd
        · rename_i hris
          have hx := Option.some.inj hd
          subst hx
          simp only [hb, if_pos hc, Option.bind_eq_some_iff]
          refine ⟨entries, mapM_carry he (fun x y _ hy hv => ?_), by simp [hris]⟩
          simp only [Option.bind_eq_some_iff] at hv ⊢
          obtain ⟨key, hk, hz⟩ := hv
          refine ⟨key, hk, ?_⟩
          split at hz
          · rename_i hf
            rw [if_pos hf]
            simp only [Option.map_eq_some_iff] at hz ⊢
            obtain ⟨q, hq, rfl⟩ := hz
            exact ⟨q, hr _ _ _ gg hq (fun p hp => hs p (List.mem_cons_of_mem _ (List.mem_flatMap.2 ⟨_, hy, hp⟩))), rfl⟩
          · cases hz
        · cases hd
      · cases h
    · cases h
  all_goals first | exact h | cases h
theorem trod_spare {G : TypeId → Prop} (hG : TypesOk P G) : ∀ (n : Nat) (t : TypeId) (cs : List Value) (x : DataW H × List MemPlace), G t →
    DataW.trod enc P w base (fun _ => true) true n t cs = some x → (∀ p ∈ x.2, sp p.block = true) → DataW.trod enc P w base sp true n t cs = some x := by
  intro n
  induction n with
  | zero => intro t cs x _ h; simp [DataW.trod] at h
  | succ n ih =>
    intro t cs x gt h hs
    rw [DataW.trod_step] at h ⊢
    exact trodStep_spare hG ih gt h hs
/-- What the arguments read as, in a world that has kept what they lead to. -/
theorem trodAll_kept {G : TypeId → Prop} (hG : TypesOk P G) : ∀ {ts : List TypeId} {vs : List Value} {ds : List (DataW H)} {ps : List MemPlace}, (∀ t ∈ ts, G t) →
    DataW.TrodAll enc P w base (fun _ => true) true ts vs ds ps → (∀ p ∈ ps, w.sameAt w' p) → (∀ p ∈ ps, sp p.block = true) → DataW.TrodAll enc P w' base sp true ts vs ds ps
  | [], [], [], _, _, h, _, _ => h
  | _ :: _, _ :: _, _ :: _, _, hg, ⟨p, q, ⟨n, h1⟩, h2, e⟩, hk, hs => by
    subst e
    exact ⟨p, q, ⟨n, DataW.trod_carry n _ _ _ (trod_spare hG n _ _ _ (hg _ (by simp)) h1 (fun x hx => hs x (List.mem_append_left _ hx))) (fun x hx => hk x (List.mem_append_left _ hx))⟩,
      trodAll_kept hG (fun t ht => hg t (by simp [ht])) h2 (fun x hx => hk x (List.mem_append_right _ hx)) (fun x hx => hs x (List.mem_append_right _ hx)), rfl⟩
end

/-! ### A world in which all that was there is there -/
structure Kept (W W' : World) : Prop where
  os : W'.os = W.os
  output : W'.output = W.output
  size : W.heap.size ≤ W'.heap.size
  heap : ∀ (i : Nat) (o : Obj), W.heap[i]? = some o → W'.heap[i]? = some o
theorem Kept.same {W W' : World} (h : Kept W W') (p : MemPlace) (hp : p.block < W.heap.size) : W.sameAt W' p := by
  have h1 : W.heap[p.block]? = some W.heap[p.block] := Array.getElem?_eq_getElem hp
  have h2 := h.heap _ _ h1
  cases p with
  | cell b off =>
    simp only [MemPlace.block] at h1 h2
    simp only [World.sameAt, World.cell?, h1, h2]
  | map b =>
    simp only [MemPlace.block] at h1 h2
    simp only [World.sameAt, h1, h2]
theorem Kept.kept {W W' : World} (h : Kept W W') (may : MemPlace → Prop) : W.keptBut W' may := by
  refine ⟨h.os, h.output, fun i hi => ?_⟩
  have h1 : W.heap[i]? = some W.heap[i] := Array.getElem?_eq_getElem hi
  rw [h.heap _ _ h1, h1]
  cases W.heap[i] with
  | cells c t fr => exact ⟨rfl, rfl, rfl, fun _ _ => rfl⟩
  | map es clock => exact .inr ⟨rfl, rfl⟩
  | _ => rfl
theorem Kept.frozen {W W' : World} (h : Kept W W') (a : Addr) (ha : a.block < W.heap.size) : W'.frozen? a = W.frozen? a := by
  have h1 : W.heap[a.block]? = some W.heap[a.block] := Array.getElem?_eq_getElem ha
  simp only [World.frozen?, h.heap _ _ h1, h1]
/-- All of a heap, as it is. -/
def eqH (W : World) : Asn := fun h => h = hl W
theorem start_eq (W : World) : Parts (hl W) [eqH W] := ⟨fun _ => 0, fun i A hA => by
  match i, hA with
  | 0, hA =>
    obtain rfl := Option.some.inj hA
    show _ = _
    funext x
    simp [part]⟩
theorem kept_of {W w' : World} (h : St W w' [eqH W]) : Kept W w' := by
  obtain ⟨c, hc⟩ := h.parts
  have h0 : part (hl w') c 0 = hl W := hc 0 _ rfl
  refine ⟨h.os, h.output, h.size, fun i o hi => ?_⟩
  have : part (hl w') c 0 i = some o := by rw [h0]; exact hi
  simp only [part] at this
  split at this
  · exact this
  · cases this
/-- A law that answers true, and reads nothing. -/
theorem Con.law {P : Program} {f : FuncId} {args : Array Value} {v0 : Value} (c : Con P f args [] (fun v H => v = v0 ∧ H = [])) (W : World) : Calls P f args W fun e w' => e = .returned v0 ∧ Kept W w' :=
  (c.calls (eqH W) W (start_eq W)).mono fun e w' ⟨v, H', he, ⟨hv, hH⟩, hS⟩ => by
    subst hv hH
    exact ⟨he, kept_of hS⟩
/-- A law that answers true, and reads what there is. -/
theorem Con.lawR {P : Program} {f : FuncId} {args : Array Value} {v0 : Value} {W : World} (c : Con P f args [eqH W] (fun v H => v = v0 ∧ H = [eqH W])) : Calls P f args W fun e w' => e = .returned v0 ∧ Kept W w' :=
  (c.calls emp W ⟨fun _ => 0, fun i A hA => by
    match i, hA with
    | 0, hA =>
      obtain rfl := Option.some.inj hA
      show _ = _
      funext x
      simp [part]
    | 1, hA =>
      obtain rfl := Option.some.inj hA
      show _ = _
      funext x
      simp [part]⟩).mono fun e w' ⟨v, H', he, ⟨hv, hH⟩, hS⟩ => by
    subst hv hH
    refine ⟨he, kept_of ⟨hS.os, hS.tape, hS.output, hS.size, ?_⟩⟩
    obtain ⟨k, hk⟩ := hS.parts
    refine ⟨k, fun i A hA => ?_⟩
    match i, hA with
    | 0, hA => exact hk 0 A hA

/-! ### What the statement's form asks -/
section
variable {H : Type} {enc : TypeId × Value → H} {P : Program}
theorem post_law {f : Func} {s : ChangeSpec} {apart fresh handsOn again : Bool} {W W' : World} {args : Array Value} {v : Value} {ds gs : List (DataW H)} {before : List MemPlace} {G : TypeId → Prop}
    (hG : TypesOk P G) (hgs' : ∀ t ∈ f.params.toList, G t)
    (hW : DataW.Whole enc P f.params.toList s.vars apart W args.toList ds gs before)
    (hv : s.vars = []) (hargs : (s.fn H (ds ++ gs)).args = ds) (hgs : (s.fn H (ds ++ gs)).vars = [])
    (hres : ∀ (b : Nat) (sp : Nat → Bool) (hd : Bool), DataW.TrodAll enc P W' b sp hd f.resultTypes.toList (v.resultList f.resultTypes.size) (s.fn H (ds ++ gs)).results [])
    (hk : Kept W W')
    (hok : ∀ (j : Nat) (t : TypeId) (r : Value), f.resultTypes[j]? = some t → (v.resultList f.resultTypes.size)[j]? = some r → Value.okWide P W' .any 0 t r) :
    s.post enc P f apart fresh handsOn again W args v W' := by
  have hlt := hW.lt
  obtain ⟨p, q, hA, hV, hpq, hz, hn⟩ := hW
  rw [hv] at hV
  obtain ⟨h1, h2⟩ := ChangeShapes.trodVars_none hV
  have hb : before = p ++ [] := by rw [hpq, h2]
  have hlt' : ∀ x ∈ p, x.block < W.heap.size := fun x hx => hlt x (by rw [hb]; simpa using hx)
  have back : ∀ sp : Nat → Bool, (∀ x ∈ p, sp x.block = true) → DataW.TrodAll enc P W' 0 sp true f.params.toList args.toList (s.fn H (ds ++ gs)).args p := fun sp hsp => by
    rw [hargs]
    exact trodAll_kept hG hgs' hA (fun x hx => hk.same x (hlt' x hx)) hsp
  have nov : ∀ sp : Nat → Bool, DataW.TrodVars enc P W' sp s.vars (s.fn H (ds ++ gs)).vars [] := fun sp => by rw [hv, hgs]; exact rfl
  refine ⟨ds, gs, before, [], p, [], ⟨p, q, hA, by rw [hv]; exact hV, hpq, hz, hn⟩, hres _ _ _, back _ (fun x hx => by simpa using hlt' x hx), nov _, World.keptBut_mono (fun x hx => ⟨hx, ?_⟩) (hk.kept (· ∈ before)), fun _ => ?_⟩
  · rw [hb] at hx
    exact Or.inr (by simpa using hx)
  · refine ⟨hok, _, _, ([] ++ p) ++ [], ⟨[] ++ p, [], ChangeShapes.trodAll_append (back _ (fun _ _ => rfl)) (hres _ _ _), nov _, rfl, ?_, ?_⟩, ?_⟩
    · intro b off hp
      have hp' : MemPlace.cell b off ∈ before := by rw [hb]; simpa using hp
      rw [hk.frozen _ (hlt _ hp')]
      exact hz b off hp'
    · intro ha
      have := hn ha
      rw [hb] at this
      simpa using this
    · intro x hx _
      rw [hb]
      simpa using hx
end
theorem params_ok {l : List Nat} {n : Nat} (h : (l.all fun t => Nat.blt t n) = true) : ∀ t ∈ l, t < n := fun t ht => Nat.le_of_ble_eq_true (List.all_eq_true.1 h t ht)
end Bg
