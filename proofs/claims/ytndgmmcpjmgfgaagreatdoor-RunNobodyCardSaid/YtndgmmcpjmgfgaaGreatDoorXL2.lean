/- Part 2: frames; regions, whatever their order. -/
import Derived.Test.YtndgmmcpjmgfgaaGreatDoorXL1
set_option linter.unusedSimpArgs false
set_option linter.unusedVariables false
namespace Bg
open Go

/-! ### Frames: what is known of the slots -/
abbrev Slots := List (Nat × Value)
def look : Slots → Nat → Option Value
  | [], _ => none
  | (d, v) :: r, t => bif Nat.beq d t then some v else look r t
def evs (s : Slots) : Operand → Option Value
  | .tmp t => look s t
  | .const v => some v
  | .global g => some (.pointer (some ⟨g, 0, none⟩))
  | .func f => some (.func (.func f) #[] #[])
structure Fr (n : Nat) (s : Slots) (a : Act) : Prop where
  size : a.tmps.size = n
  defers : a.defers = []
  at_ : ∀ t v, look s t = some v → t < n → a.tmps.getD t undef = v
  lt : ∀ t v, look s t = some v → t < n

theorem Fr.eval {n : Nat} {s : Slots} {a : Act} (h : Fr n s a) {x : Operand} {v : Value} (hx : evs s x = some v) : a.eval x = v := by
  cases x <;> simp only [evs, Option.some.injEq] at hx <;> first | exact hx | skip
  exact h.at_ _ _ hx (h.lt _ _ hx)
theorem Fr.put {n : Nat} {s : Slots} {a : Act} (h : Fr n s a) (d : Nat) (v : Value) (hd : d < n) : Fr n ((d, v) :: s) (a.put (some d) v) := by
  refine ⟨by simp [Act.put, h.size], h.defers, fun t u ht hlt => ?_, fun t u ht => ?_⟩
  · simp only [look] at ht
    cases hb : Nat.beq d t with
    | true =>
      obtain rfl := Nat.eq_of_beq_eq_true hb
      simp only [Nat.beq_refl, cond_true, Option.some.injEq] at ht
      subst ht
      simp [Act.put, h.size, hd]
    | false =>
      have hne : d ≠ t := Nat.ne_of_beq_eq_false hb
      simp only [hb, cond_false] at ht
      have := h.at_ t u ht (h.lt _ _ ht)
      simp only [Act.put, Array.getD_eq_getD_getElem?, Array.getElem?_setIfInBounds_ne hne] at this ⊢
      exact this
  · simp only [look] at ht
    cases hb : Nat.beq d t with
    | true => have := Nat.eq_of_beq_eq_true hb; omega
    | false =>
      simp only [hb, cond_false] at ht
      exact h.lt _ _ ht
theorem Fr.put' {n : Nat} {s : Slots} {a : Act} (h : Fr n s a) (v : Value) : Fr n s (a.put none v) := h
/-- Fewer slots. -/
def sub (s' s : Slots) : Prop := ∀ t v, look s' t = some v → look s t = some v
theorem Fr.sub {n : Nat} {s s' : Slots} {a : Act} (h : Fr n s a) (hs : sub s' s) : Fr n s' a :=
  ⟨h.size, h.defers, fun t v ht hlt => h.at_ t v (hs t v ht) hlt, fun t v ht => h.lt t v (hs t v ht)⟩
theorem sub_nil (s : Slots) : Bg.sub [] s := fun t v h => by simp [look] at h
theorem sub_cons {s s' : Slots} {d : Nat} {v : Value} (h : look s d = some v) (hs : Bg.sub s' s) : Bg.sub ((d, v) :: s') s := fun t u ht => by
  simp only [look] at ht
  cases hb : Nat.beq d t with
  | true =>
    obtain rfl := Nat.eq_of_beq_eq_true hb
    simp at ht; subst ht; exact h
  | false => simp only [hb, cond_false] at ht; exact hs _ _ ht

/-! ### One operation -/
/-- Operations that leave the world alone and give one value. -/
def isFl : Op → Bool
  | .move _ | .assign _ | .pick .. | .load .. | .nilCheck _ | .binOp .. | .unOp .. | .convert .. | .fieldAddr .. | .field .. | .indexAddr .. | .index .. | .extract .. | .build .. | .slice .. | .makeInterface .. | .makeFunc .. | .lookup .. => true
  | .call { callee := .builtin .len, .. } | .call { callee := .builtin .cap, .. } | .call { callee := .builtin .min, .. } | .call { callee := .builtin .max, .. } => true
  | _ => false
def isFloat (o : Oper) : Bool := isFl o.op
/-- What a step must come to. -/
def Upon (P : Program) (o : Oper) (a : Act) (next : Act → World → Prop) : Result Next → Prop
  | .ok (.value v) w' => next (a.put o.dst v) w'
  | .ok .skip w' => next (a.put o.dst undef) w'
  | .ok (.enter f args) w' => Calls P f args w' fun e w'' => ∃ v, e = .returned v ∧ next (a.put o.dst v) w''
  | .ok (.row row args) w' => Rows P row args w' fun v w'' => next (a.put o.dst v) w''
  | _ => False
def Does (P : Program) (o : Oper) (a : Act) (w : World) (next : Act → World → Prop) : Prop := Upon P o a next ((execOp a.eval o).run P w)

theorem Does.wp {P : Program} {o : Oper} {a : Act} {w : World} {next : Act → World → Prop} {Q : Exit → Act → World → Prop} (h : Does P o a w next) : o.wp P a w next Q := by
  unfold Does at h
  unfold Oper.wp
  generalize (execOp a.eval o).run P w = r at h ⊢
  cases r with
  | ok n w' =>
    cases n <;> simp only [Upon, Oper.upon] at h ⊢ <;> try exact h
    exact h.mono fun e w'' ⟨v, he, hn⟩ => by subst he; exact hn
  | halt x w' => cases x <;> simp only [Upon] at h

abbrev Facts := List (Nat × (World → Prop))
/-- What is owed behind operation i: the facts that operations which may still be to come lean on. -/
def Owed (incs : List (Nat × Nat)) (i : Nat) : Facts → World → Prop
  | [], _ => True
  | q :: r, w => (bif incs.contains (q.1, i) then q.2 w else True) ∧ Owed incs i r w
section
variable (P : Program) (ops : Array Oper) (incs : List (Nat × Nat)) (Q : Exit → Act → World → Prop)
def tOp (i : Nat) (K : Facts → Act → World → Prop) (F : Facts) (a : Act) (w : World) : Prop :=
  match ops[i]? with
  | none => False
  | some o =>
    if Region.wanted o (yielded ops a.tmps) then
      if isFloat o then ∃ (v : Value) (φ : World → Prop), (∀ w', φ w' → (execOp a.eval o).run P w' = .ok (.value v) w') ∧ φ w ∧ K ((i, φ) :: F) (a.put o.dst v) w
      else Does P o a w fun a' w' => Owed incs i F w' ∧ K F a' w'
    else K F (a.put o.dst undef) w
def TW : List Nat → Facts → Act → World → Prop
  | [], _, a, w => Q .normal a w
  | i :: l, F, a, w => tOp P ops incs i (TW l) F a w
end

section
variable {P : Program} {ops : Array Oper} {incs : List (Nat × Nat)} {Q : Exit → Act → World → Prop}

theorem Upon.map {o : Oper} {a b : Act} {K K' : Act → World → Prop} {r : Result Next} (h : ∀ u w, K (a.put o.dst u) w → K' (b.put o.dst u) w) (hh : Upon P o a K r) : Upon P o b K' r := by
  cases r with
  | ok n w' =>
    cases n <;> simp only [Upon] at hh ⊢
    case value => exact h _ _ hh
    case skip => exact h _ _ hh
    case enter => exact hh.mono fun e w'' ⟨v, he, hn⟩ => ⟨v, he, h _ _ hn⟩
    case row => exact hh.mono fun _ _ hn => h _ _ hn
  | halt x w' => simp only [Upon] at hh
theorem Upon.mono {o : Oper} {a : Act} {K K' : Act → World → Prop} {r : Result Next} (h : ∀ a w, K a w → K' a w) (hh : Upon P o a K r) : Upon P o a K' r := hh.map fun _ _ => h _ _
theorem tOp_some {i : Nat} {o : Oper} (ho : ops[i]? = some o) (K : Facts → Act → World → Prop) (F : Facts) (a : Act) (w : World) : tOp P ops incs i K F a w =
    if Region.wanted o (yielded ops a.tmps) then
      if isFloat o then ∃ (v : Value) (φ : World → Prop), (∀ w', φ w' → (execOp a.eval o).run P w' = .ok (.value v) w') ∧ φ w ∧ K ((i, φ) :: F) (a.put o.dst v) w
      else Does P o a w fun a' w' => Owed incs i F w' ∧ K F a' w'
    else K F (a.put o.dst undef) w := by unfold tOp; rw [ho]
theorem tOp_mono {i : Nat} {F : Facts} {a : Act} {w : World} {K K' : Facts → Act → World → Prop} (h : ∀ F a w, K F a w → K' F a w) (hh : tOp P ops incs i K F a w) : tOp P ops incs i K' F a w := by
  cases ho : ops[i]? with
  | none => simp [tOp, ho] at hh
  | some o =>
    rw [tOp_some ho] at hh ⊢
    by_cases hw : Region.wanted o (yielded ops a.tmps) = true
    · rw [if_pos hw] at hh ⊢
      by_cases hf : isFloat o = true
      · rw [if_pos hf] at hh ⊢
        obtain ⟨v, φ, h1, h2, h3⟩ := hh
        exact ⟨v, φ, h1, h2, h _ _ _ h3⟩
      · rw [if_neg hf] at hh ⊢
        exact Upon.mono (fun a w ⟨h1, h2⟩ => ⟨h1, h _ _ _ h2⟩) hh
    · rw [if_neg hw] at hh ⊢
      exact h _ _ _ hh

/-- In the order in which they stand: no more is asked. -/
theorem TW.list {l : List Nat} : ∀ {F : Facts} {a : Act} {w : World}, TW P ops incs Q l F a w → wpOps P ops Q l a w := by
  induction l with
  | nil => intro F a w h; exact h
  | cons i l ih =>
    intro F a w h
    simp only [TW, tOp] at h
    simp only [wpOps]
    cases ho : ops[i]? with
    | none => simp [ho] at h
    | some o =>
      simp only [ho] at h ⊢
      split
      · rename_i hw
        simp only [hw, if_true] at h
        refine .inl ?_
        split at h
        · obtain ⟨v, φ, h1, h2, h3⟩ := h
          unfold Oper.wp
          rw [h1 w h2]
          exact ih h3
        · exact Does.wp (Upon.mono (fun a w h => ih h.2) h)
      · rename_i hw
        simp only [hw] at h
        exact ih h

theorem noSelect_of_float {o : Oper} (h : isFloat o = true) : ∀ cs b, o.op ≠ .select cs b := by
  intro cs b e
  simp [isFloat, isFl, e] at h

/-- A float f is put off behind s. -/
theorem tOp_swap {f s : Nat} {of os : Oper} (hof : ops[f]? = some of) (hos : ops[s]? = some os) (hf : isFloat of = true) (hap : of.apart ops os = true)
    (hss : ∀ cs b, os.op ≠ .select cs b) (hs : isFloat os = true ∨ incs.contains (f, s) = true) {K : Facts → Act → World → Prop}
    (hK2 : ∀ p q F a w, K (p :: q :: F) a w → K (q :: p :: F) a w) {F : Facts} {a : Act} {w : World}
    (h : tOp P ops incs f (fun F a w => tOp P ops incs s K F a w) F a w) : tOp P ops incs s (fun F a w => tOp P ops incs f K F a w) F a w := by
  obtain ⟨a1, a2, a3⟩ := Oper.apart_spec hap
  have hsf := noSelect_of_float hf
  -- what f does in another frame
  have again : ∀ (a : Act) (u : Value), (execOp (a.put os.dst u).eval of = execOp a.eval of) ∧ (Region.wanted of (yielded ops (a.put os.dst u).tmps) = Region.wanted of (yielded ops a.tmps)) :=
    fun a u => ⟨execOp_put of hsf a os.dst u a3, wanted_put of a os.dst u a3⟩
  have againS : ∀ (a : Act) (u : Value), (execOp (a.put of.dst u).eval os = execOp a.eval os) ∧ (Region.wanted os (yielded ops (a.put of.dst u).tmps) = Region.wanted os (yielded ops a.tmps)) :=
    fun a u => ⟨execOp_put os hss a of.dst u a1, wanted_put os a of.dst u a1⟩
  have comm : ∀ (a : Act) (u v : Value), (a.put of.dst v).put os.dst u = (a.put os.dst u).put of.dst v := fun a u v => Act.put_comm a v u a2
  rw [tOp_some hof] at h
  rw [tOp_some hos]
  by_cases hwf : Region.wanted of (yielded ops a.tmps) = true
  · rw [if_pos hwf, if_pos hf] at h
    obtain ⟨v, φ, h1, h2, h3⟩ := h
    have fin : ∀ (u : Value) (F : Facts) (w' : World), φ w' → K ((f, φ) :: F) ((a.put of.dst v).put os.dst u) w' → tOp P ops incs f K F (a.put os.dst u) w' := fun u F w' hφ hk => by
      rw [tOp_some hof, if_pos ((again a u).2.trans hwf), if_pos hf]
      exact ⟨v, φ, fun w' hw' => by rw [(again a u).1]; exact h1 w' hw', hφ, by rw [← comm]; exact hk⟩
    rw [tOp_some hos, (againS a v).2] at h3
    by_cases hws : Region.wanted os (yielded ops a.tmps) = true
    · rw [if_pos hws] at h3 ⊢
      by_cases hsF : isFloat os = true
      · rw [if_pos hsF] at h3 ⊢
        obtain ⟨u, ψ, k1, k2, k3⟩ := h3
        exact ⟨u, ψ, fun w' hw' => by rw [← (againS a v).1]; exact k1 w' hw', k2, fin _ _ _ h2 (hK2 _ _ _ _ _ k3)⟩
      · rw [if_neg hsF] at h3 ⊢
        have hinc := hs.resolve_left hsF
        unfold Does at h3 ⊢
        rw [(againS a v).1] at h3
        refine h3.map fun u w' ⟨ho, hk⟩ => ⟨ho.2, fin _ _ _ ?_ hk⟩
        have := ho.1
        rw [hinc] at this
        exact this
    · rw [if_neg hws] at h3 ⊢
      exact fin _ _ _ h2 h3
  · rw [if_neg hwf] at h
    have fin : ∀ (u : Value) (F : Facts) (w' : World), K F ((a.put of.dst undef).put os.dst u) w' → tOp P ops incs f K F (a.put os.dst u) w' := fun u F w' hk => by
      rw [tOp_some hof, if_neg (by rw [(again a u).2]; exact hwf), ← comm]; exact hk
    rw [tOp_some hos, (againS a undef).2] at h
    by_cases hws : Region.wanted os (yielded ops a.tmps) = true
    · rw [if_pos hws] at h ⊢
      by_cases hsF : isFloat os = true
      · rw [if_pos hsF] at h ⊢
        obtain ⟨u, ψ, k1, k2, k3⟩ := h
        exact ⟨u, ψ, fun w' hw' => by rw [← (againS a undef).1]; exact k1 w' hw', k2, fin _ _ _ k3⟩
      · rw [if_neg hsF] at h ⊢
        unfold Does at h ⊢
        rw [(againS a undef).1] at h
        exact h.map fun u w' ⟨ho, hk⟩ => ⟨ho, fin _ _ _ hk⟩
    · rw [if_neg hws] at h ⊢
      exact fin _ _ _ h

theorem Owed.less {incs : List (Nat × Nat)} {i : Nat} {w : World} : ∀ {F G : Facts}, (∀ q ∈ G, q ∈ F) → Owed incs i F w → Owed incs i G w := by
  have get : ∀ {F : Facts}, Owed incs i F w → ∀ q ∈ F, bif incs.contains (q.1, i) then q.2 w else True := by
    intro F
    induction F with
    | nil => intro _ q hq; cases hq
    | cons p r ih =>
      intro h q hq
      cases hq with
      | head => exact h.1
      | tail _ hm => exact ih h.2 q hm
  intro F G hG h
  induction G with
  | nil => trivial
  | cons p r ih => exact ⟨get h p (hG p (by simp)), ih fun q hq => hG q (by simp [hq])⟩
theorem TW.less {l : List Nat} : ∀ {F G : Facts} {a : Act} {w : World}, (∀ q ∈ G, q ∈ F) → TW P ops incs Q l F a w → TW P ops incs Q l G a w := by
  induction l with
  | nil => intro F G a w _ h; exact h
  | cons i l ih =>
    intro F G a w hG h
    simp only [TW] at h ⊢
    cases ho : ops[i]? with
    | none => simp [tOp, ho] at h
    | some o =>
      rw [tOp_some ho] at h ⊢
      by_cases hw : Region.wanted o (yielded ops a.tmps) = true
      · rw [if_pos hw] at h ⊢
        by_cases hf : isFloat o = true
        · rw [if_pos hf] at h ⊢
          obtain ⟨v, φ, h1, h2, h3⟩ := h
          refine ⟨v, φ, h1, h2, ih (fun q hq => ?_) h3⟩
          rcases List.mem_cons.1 hq with rfl | hq
          · simp
          · exact List.mem_cons_of_mem _ (hG q hq)
        · rw [if_neg hf] at h ⊢
          exact Upon.mono (fun a w ⟨h1, h2⟩ => ⟨h1.less hG, ih hG h2⟩) h
      · rw [if_neg hw] at h ⊢
        exact ih hG h

/-! What comes ahead of what. -/
def befsGo : List Oper → List Nat → List Nat
  | [], acc => acc
  | o :: r, acc => befsGo r (acc ++ [o.after.toList.foldl (fun s e => bif Region.binds .any e then s ||| 1 <<< e.on ||| acc.getD e.on 0 else s) 0])
def befs (ops : List Oper) : List Nat := befsGo ops []
/-- What a mask of operation i says is so: a direct edge, or one more. -/
def MaskOk (ops : List Oper) (acc : List Nat) (i m : Nat) : Prop := ∀ j, m.testBit j = true → ∃ o, ops[i]? = some o ∧ ∃ e ∈ o.after, Region.binds .any e = true ∧ (e.on = j ∨ (e.on < i ∧ ∃ m', acc[e.on]? = some m' ∧ m'.testBit j = true))
theorem fold_mask (es : List Edge) (acc : List Nat) (s : Nat) (j : Nat) (h : (es.foldl (fun s e => bif Region.binds .any e then s ||| 1 <<< e.on ||| acc.getD e.on 0 else s) s).testBit j = true) :
    s.testBit j = true ∨ ∃ e ∈ es, Region.binds .any e = true ∧ (e.on = j ∨ ∃ m', acc[e.on]? = some m' ∧ m'.testBit j = true) := by
  induction es generalizing s with
  | nil => exact .inl h
  | cons e es ih =>
    simp only [List.foldl_cons] at h
    rcases ih _ h with h | ⟨e', he', hb, hc⟩
    · cases hb : Region.binds .any e with
      | false => simp only [hb, cond_false] at h; exact .inl h
      | true =>
        simp only [hb, cond_true, Nat.testBit_or, Bool.or_eq_true] at h
        rcases h with (h | h) | h
        · exact .inl h
        · refine .inr ⟨e, by simp, hb, .inl ?_⟩
          rw [Nat.one_shiftLeft, Nat.testBit_two_pow] at h
          simpa using h
        · refine .inr ⟨e, by simp, hb, .inr ?_⟩
          cases hm : acc[e.on]? with
          | none => simp [List.getD, hm] at h
          | some m' => exact ⟨m', rfl, by simpa [List.getD, hm] using h⟩
    · exact .inr ⟨e', by simp [he'], hb, hc⟩
theorem befsGo_ok (ops : List Oper) : ∀ (r : List Oper) (pre : List Oper) (acc : List Nat), ops = pre ++ r → acc.length = pre.length → (∀ i m, acc[i]? = some m → MaskOk ops acc i m) → ∀ i m, (befsGo r acc)[i]? = some m → MaskOk ops (befsGo r acc) i m := by
  intro r
  induction r with
  | nil => intro pre acc _ _ h; exact h
  | cons o r ih =>
    intro pre acc hops hlen h
    simp only [befsGo]
    refine ih (pre ++ [o]) _ (by simp [hops]) (by simp [hlen]) ?_
    intro i m him j hj
    by_cases hi : i < acc.length
    · rw [List.getElem?_append_left hi] at him
      obtain ⟨o', ho', e, he, hb, hc⟩ := h i m him j hj
      refine ⟨o', ho', e, he, hb, hc.imp_right ?_⟩
      rintro ⟨hlt, m', hm', ht⟩
      exact ⟨hlt, m', by rw [List.getElem?_append_left (by omega)]; exact hm', ht⟩
    · have hlt := (List.getElem?_eq_some_iff.1 him).1
      simp only [List.length_append, List.length_cons, List.length_nil] at hlt
      have hie : i = acc.length := by omega
      subst hie
      rw [List.getElem?_append_right (by omega)] at him
      simp only [Nat.sub_self, List.getElem?_cons_zero, Option.some.injEq] at him
      subst him
      rcases fold_mask _ _ _ _ hj with h0 | ⟨e, he, hb, hc⟩
      · simp at h0
      · refine ⟨o, by rw [hops, List.getElem?_append_right (by omega)]; simp [hlen], e, by simpa using he, hb, hc.imp_right ?_⟩
        rintro ⟨m', hm', ht⟩
        have := (List.getElem?_eq_some_iff.1 hm').1
        exact ⟨this, m', by rw [List.getElem?_append_left this]; exact hm', ht⟩

def nodupB : List Nat → Bool
  | [] => true
  | x :: r => !r.contains x && nodupB r
def pairOk (ops : Array Oper) (B : List Nat) (incs : List (Nat × Nat)) (x y : Nat) : Bool :=
  match ops[x]?, ops[y]? with
  | some ox, some oy => (!ox.after.any fun e => Region.binds .any e && e.on == y) && ((B.getD y 0).testBit x || isFloat ox && (ox.apart ops oy && (isFloat oy || incs.contains (x, y))))
  | _, _ => false
def pairsB (ops : Array Oper) (B : List Nat) (incs : List (Nat × Nat)) : List Nat → Bool
  | [] => true
  | x :: r => r.all (pairOk ops B incs x) && pairsB ops B incs r
def okR (ops : List Oper) (ord : List Nat) (incs : List (Nat × Nat)) : Bool :=
  (nodupB ord && Nat.ble ord.length ops.length) && (ord.all (fun i => Nat.blt i ops.length) && ((List.range ops.length).all (fun i => ord.contains i) && (Region.noSelect ops.toArray && (ops.all (fun o => o.after.all fun e => Nat.blt e.on ops.length) &&
    ((List.range ops.length).all (fun i => match ops[i]? with | some o => !o.after.any fun e => Region.binds .any e && e.on == i | none => true) && pairsB ops.toArray (befs ops) incs ord)))))

theorem TW.pull {i : Nat} {oi : Oper} (hoi : ops[i]? = some oi) (hsel : ∀ cs b, oi.op ≠ .select cs b) {l2 : List Nat} : ∀ {l1 : List Nat} {F : Facts} {a : Act} {w : World},
    (∀ x ∈ l1, ∃ ox, ops[x]? = some ox ∧ isFloat ox = true ∧ ox.apart ops oi = true ∧ (isFloat oi = true ∨ incs.contains (x, i) = true)) →
    TW P ops incs Q (l1 ++ i :: l2) F a w → TW P ops incs Q (i :: (l1 ++ l2)) F a w := by
  intro l1
  induction l1 with
  | nil => intro F a w _ h; exact h
  | cons x l1 ih =>
    intro F a w hx h
    obtain ⟨ox, hox, hf, hap, hs⟩ := hx x (by simp)
    have h1 : tOp P ops incs x (fun F a w => TW P ops incs Q (i :: (l1 ++ l2)) F a w) F a w := tOp_mono (fun F a w h => ih (fun y hy => hx y (by simp [hy])) h) h
    exact tOp_swap hox hoi hf hap hsel hs (fun p q F a w h => h.less (by intro r hr; simp at hr ⊢; rcases hr with rfl | rfl | hr <;> simp_all)) h1

theorem wpOp_of_tOp {i : Nat} {K : Facts → Act → World → Prop} {K' : Act → World → Prop} (hK : ∀ F a w, K F a w → K' a w) {F : Facts} {a : Act} {w : World} (h : tOp P ops incs i K F a w) : wpOp P ops Q i K' a w := by
  unfold wpOp
  cases ho : ops[i]? with
  | none => simp [tOp, ho] at h
  | some o =>
    rw [tOp_some ho] at h
    simp only
    by_cases hw : Region.wanted o (yielded ops a.tmps) = true
    · rw [if_pos hw] at h ⊢
      refine .inl ?_
      by_cases hf : isFloat o = true
      · rw [if_pos hf] at h
        obtain ⟨v, φ, h1, h2, h3⟩ := h
        unfold Oper.wp
        rw [h1 w h2]
        exact hK _ _ _ h3
      · rw [if_neg hf] at h
        exact Does.wp (Upon.mono (fun a w h => hK _ _ _ h.2) h)
    · rw [if_neg hw] at h ⊢
      exact hK _ _ _ h

theorem nodupB_spec {l : List Nat} (h : nodupB l = true) : l.Nodup := by
  induction l with
  | nil => exact List.nodup_nil
  | cons x r ih =>
    simp only [nodupB, Bool.and_eq_true, Bool.not_eq_true'] at h
    exact List.nodup_cons.2 ⟨by simpa using h.1, ih h.2⟩
theorem pairsB_sub {B : List Nat} {l : List Nat} : ∀ {r : List Nat}, r.Sublist l → pairsB ops B incs l = true → pairsB ops B incs r = true := by
  induction l with
  | nil => intro r hr _; cases hr; rfl
  | cons x l ih =>
    intro r hr h
    simp only [pairsB, Bool.and_eq_true] at h
    cases hr with
    | cons _ hr => exact ih hr h.2
    | cons_cons _ hr =>
      simp only [pairsB, Bool.and_eq_true]
      exact ⟨List.all_eq_true.2 fun y hy => List.all_eq_true.1 h.1 y (hr.mem hy), ih hr h.2⟩
theorem pairsB_mid {B : List Nat} {y : Nat} {l2 : List Nat} : ∀ {l1 : List Nat}, pairsB ops B incs (l1 ++ y :: l2) = true → ∀ x ∈ l1, pairOk ops B incs x y = true := by
  intro l1
  induction l1 with
  | nil => intro _ x hx; cases hx
  | cons z l1 ih =>
    intro h x hx
    simp only [List.cons_append, pairsB, Bool.and_eq_true] at h
    rcases List.mem_cons.1 hx with rfl | hx
    · exact List.all_eq_true.1 h.1 y (by simp)
    · exact ih h.2 x hx

/-- A listing is closed: what comes ahead of what is listed is listed. -/
def Closed (ops : List Oper) (listed : Array Bool) : Prop := ∀ i o, ops[i]? = some o → listed.getD i false = true → ∀ e ∈ o.after, Region.binds .any e = true → listed.getD e.on false = true
theorem listed_of_mask {l : List Oper} {listed : Array Bool} (hc : Closed l listed) : ∀ (i : Nat) (m j : Nat), (befs l)[i]? = some m → m.testBit j = true → (∀ o, l[i]? = some o → ∀ e ∈ o.after, Region.binds .any e = true → listed.getD e.on false = true) → listed.getD j false = true := by
  intro i
  induction i using Nat.strongRecOn with
  | _ i ih =>
    intro m j hm hj hr
    have hok := befsGo_ok l l [] [] rfl rfl (by intro i m h; simp at h)
    obtain ⟨o, ho, e, he, hb, hcase⟩ := hok i m hm j hj
    have hl := hr o ho e he hb
    rcases hcase with rfl | ⟨hlt, m', hm', ht⟩
    · exact hl
    · exact ih e.on hlt m' j hm' ht fun o' ho' e' he' hb' => hc e.on o' ho' hl e' he' hb'

theorem wpAny_of_TW {l0 : List Oper} {ord : List Nat} (hok : okR l0 ord incs = true) : ∀ (fuel : Nat) (listed : Array Bool) (l : List Nat) (F : Facts) (a : Act) (w : World),
    l.Sublist ord → listed.size = l0.length → (∀ i, i ∈ l ↔ i < l0.length ∧ listed.getD i true = false) → Closed l0 listed → l.length ≤ fuel → TW P l0.toArray incs Q l F a w → wpAny P .any l0.toArray Q fuel listed a w := by
  simp only [okR, Bool.and_eq_true] at hok
  obtain ⟨⟨hn, _⟩, hlt, hall, hns, hed, hself, hp⟩ := hok
  have hnod := nodupB_spec hn
  intro fuel
  induction fuel with
  | zero =>
    intro listed l F a w hs hsz hm hc hf h
    have : l = [] := List.eq_nil_of_length_eq_zero (by omega)
    subst this
    refine ⟨?_, h⟩
    cases hr : Region.ready .any l0.toArray listed with
    | nil => rfl
    | cons j r =>
      have hj : j ∈ Region.ready .any l0.toArray listed := by rw [hr]; simp
      obtain ⟨h1, o, ho, _⟩ := mem_ready.1 hj
      have := (hm j).2 ⟨by have := (Array.getElem?_eq_some_iff.1 ho).1; simpa using this, h1⟩
      cases this
  | succ fuel ih =>
    intro listed l F a w hs hsz hm hc hf h
    have hpl := pairsB_sub hs hp
    have hln : l.Nodup := hs.nodup hnod
    refine ⟨fun hr => ?_, fun i hi => ?_⟩
    · -- the first one that is left is ready
      cases l with
      | nil => exact h
      | cons x r =>
        exfalso
        obtain ⟨hx1, hx2⟩ := (hm x).1 (by simp)
        have hox : l0[x]? = some l0[x] := List.getElem?_eq_getElem hx1
        have hxr : x ∈ Region.ready .any l0.toArray listed := by
          rw [mem_ready]
          refine ⟨hx2, l0[x], by simp, fun e he hb => ?_⟩
          have helt : e.on < l0.length := by
            have := List.all_eq_true.1 hed l0[x] (List.getElem_mem hx1)
            have := Array.all_eq_true_iff_forall_mem.1 this e he
            exact Nat.le_of_ble_eq_true this
          cases hle : listed.getD e.on true with
          | true =>
            have hsz' : e.on < listed.size := by omega
            simp [hsz'] at hle ⊢
            exact hle
          | false =>
            exfalso
            have hmem := (hm e.on).2 ⟨helt, hle⟩
            rcases List.mem_cons.1 hmem with heq | hmem
            · have := List.all_eq_true.1 hself x (by simpa using hx1)
              simp only [hox, Bool.not_eq_true'] at this
              have h2 : (l0[x].after.any fun e => Region.binds .any e && e.on == x) = true := Array.any_eq_true'.2 ⟨e, he, by simp [hb, heq]⟩
              rw [h2] at this; cases this
            · simp only [pairsB, Bool.and_eq_true] at hpl
              have := List.all_eq_true.1 hpl.1 e.on hmem
              unfold pairOk at this
              simp only [List.getElem?_toArray, hox] at this
              have hoe : l0[e.on]? = some l0[e.on] := List.getElem?_eq_getElem helt
              simp only [hoe, Bool.and_eq_true, Bool.not_eq_true'] at this
              have h2 : (l0[x].after.any fun e' => Region.binds .any e' && e'.on == e.on) = true := Array.any_eq_true'.2 ⟨e, he, by simp [hb]⟩
              rw [h2] at this; cases this.1
        rw [hr] at hxr; cases hxr
    · obtain ⟨h1, oi, hoi, hall'⟩ := mem_ready.1 hi
      have hil : i < l0.length := by have := (Array.getElem?_eq_some_iff.1 hoi).1; simpa using this
      have himem := (hm i).2 ⟨hil, h1⟩
      obtain ⟨l1, l2, rfl⟩ := List.append_of_mem himem
      have hpull := TW.pull (P := P) (Q := Q) (incs := incs) hoi (Region.noSelect_spec hns i oi · · hoi) (l1 := l1) (l2 := l2) (F := F) (a := a) (w := w) (fun x hx => by
        have hpx := pairsB_mid hpl x hx
        unfold pairOk at hpx
        cases hox : l0.toArray[x]? with
        | none => simp [hox] at hpx
        | some ox =>
          simp only [hox, hoi, Bool.and_eq_true, Bool.or_eq_true] at hpx
          rcases hpx.2 with hmask | ⟨hf, hap, hs'⟩
          · exfalso
            cases hbm : (befs l0)[i]? with
            | none => simp [List.getD, hbm] at hmask
            | some m =>
              have := listed_of_mask hc i m x hbm (by simpa [List.getD, hbm] using hmask) (fun o ho e he hb => by
                have : o = oi := by
                  have h3 : l0.toArray[i]? = some o := by simpa using ho
                  rw [hoi] at h3; simpa using h3.symm
                subst this
                exact hall' e he hb)
              have hx0 := ((hm x).1 (by simp [hx])).2
              have hxs : x < listed.size := by have := ((hm x).1 (by simp [hx])).1; omega
              simp [hxs] at this hx0
              rw [this] at hx0; cases hx0
          · exact ⟨ox, rfl, hf, hap, hs'⟩) h
      refine wpOp_of_tOp (fun F' a' w' hk => ?_) hpull
      have hnd : i ∉ l1 ++ l2 := by
        intro hmem
        have := hln
        rw [List.nodup_append] at this
        obtain ⟨n1, n2, n3⟩ := this
        rcases List.mem_append.1 hmem with hmem | hmem
        · exact n3 i hmem i (by simp) rfl
        · exact (List.nodup_cons.1 n2).1 hmem
      refine ih (listed.setIfInBounds i true) (l1 ++ l2) F' a' w' ?_ (by simp [hsz]) ?_ ?_ (by simp at hf ⊢; omega) hk
      · exact ((List.sublist_append_of_sublist_right (List.sublist_cons_self _ _)).trans (List.Sublist.refl _)).trans (by exact hs) |> fun x => (List.Sublist.append (List.Sublist.refl l1) (List.sublist_cons_self i l2)).trans hs
      · intro j
        by_cases hji : i = j
        · subst hji
          have : i < listed.size := by omega
          simp [hnd, this]
        · rw [getD_set_ne true hji]
          have := hm j
          simp only [List.mem_append, List.mem_cons] at this ⊢
          constructor
          · intro hj; exact this.1 (by rcases hj with hj | hj <;> simp [hj])
          · intro hj
            rcases this.2 hj with hj | hj | hj
            · exact .inl hj
            · exact absurd hj.symm hji
            · exact .inr hj
      · intro k ok hk hlk e he hb
        by_cases hki : i = k
        · subst hki
          have : ok = oi := by
            have h3 : l0.toArray[i]? = some ok := by simpa using hk
            rw [hoi] at h3; simpa using h3.symm
          subst this
          exact getD_set_true (hall' e he hb)
        · rw [getD_set_ne false hki] at hlk
          exact getD_set_true (hc k ok hk hlk e he hb)

theorem wp_region_TW {id : Nat} {l0 : List Oper} {ord : List Nat} {a : Act} {w : World} (hm : P.follows .mixedOrders = true) (hok : okR l0 ord incs = true) (h : TW P l0.toArray incs Q ord [] a w.drew) : (Code.region id l0.toArray true).wp P Q a w := by
  refine wp_region_any hm ?_
  have hok' := hok
  simp only [okR, Bool.and_eq_true] at hok'
  obtain ⟨⟨hn, hle⟩, hlt, hall, _⟩ := hok'
  have hlen : ord.length ≤ l0.toArray.size := by simpa using Nat.le_of_ble_eq_true hle
  refine wpAny_of_TW hok l0.toArray.size _ ord [] a _ (List.Sublist.refl _) (by simp) (fun i => ?_) ?_ hlen h
  · constructor
    · intro hi
      have := List.all_eq_true.1 hlt i hi
      have hi' : i < l0.length := Nat.le_of_ble_eq_true this
      exact ⟨hi', by simp [hi']⟩
    · rintro ⟨hi, _⟩
      have := List.all_eq_true.1 hall i (by simpa using hi)
      simpa using this
  · intro i o ho hl
    have hi : i < l0.length := (List.getElem?_eq_some_iff.1 ho).1
    simp [hi] at hl
theorem wp_region_TW0 {id : Nat} {l0 : List Oper} {a : Act} {w : World} (h : TW P l0.toArray [] Q (List.range l0.length) [] a w) : (Code.region id l0.toArray false).wp P Q a w :=
  wp_region (by simpa using TW.list h)
end
end Bg
