/- Part 4: operations on memory; calls; code. -/
import Derived.Test.YtndgmmcpjmgfgaaGreatDoorXL3
import Derived.Shelf.Abstract
import Derived.Laws.CopyRow
set_option linter.unusedSimpArgs false
set_option linter.unusedVariables false
namespace Bg
open Go Go.Proofs

/-! ### What is owed -/
section
variable {incs : List (Nat × Nat)} {i j : Nat} {F : Facts} {φ : World → Prop} {w : World}
theorem owed0 : ∀ {F : Facts}, Owed [] i F w
  | [] => trivial
  | _ :: _ => ⟨trivial, owed0⟩
theorem owedE : Owed incs i [] w := trivial
theorem owedN (h : incs.contains (j, i) = false) (r : Owed incs i F w) : Owed incs i ((j, φ) :: F) w := ⟨by rw [h]; trivial, r⟩
theorem owedY (h : φ w) (r : Owed incs i F w) : Owed incs i ((j, φ) :: F) w := ⟨by cases incs.contains (j, i) <;> first | trivial | exact h, r⟩
end

section
variable {w0 w : World} {H : List Asn} {b off : Nat} {vs cs : List Value} {ty : TypeId}
theorem range_of (h : St w0 w H) (j : Nat) (hj : H[j]? = some (pt b vs ty)) (hv : ∀ k v, cs[k]? = some v → vs[off + k]? = some v) : w.rangeAt b off cs := by
  have hb : w.heap[b]? = some (.cells vs.toArray ty (0, 0)) := h.parts.cells hj
  intro k v hk
  rw [cell_of_row w b (off + k) vs.toArray ty (0, 0) hb]
  simpa using hv k v hk
theorem range1 (h : St w0 w H) (j : Nat) (hj : H[j]? = some (pt b vs ty)) {v : Value} (hv : vs[off]? = some v) : w.rangeAt b off [v] :=
  range_of h j hj fun k u hk => by
    cases k with
    | zero => simp at hk; subst hk; exact hv
    | succ k => simp at hk
theorem rangeN (h : St w0 w H) (j : Nat) (hj : H[j]? = some (pt b vs ty)) {n : Nat} (hv : (vs.drop off).take n = cs) : w.rangeAt b off cs :=
  range_of h j hj fun k u hk => by
    subst hv
    rw [List.getElem?_take] at hk
    split at hk
    · rw [List.getElem?_drop] at hk; exact hk
    · cases hk
end

section
variable {P : Program} {T : Tb} {ops : Array Oper} {incs : List (Nat × Nat)} {Q : Exit → Act → World → Prop} {w0 : World} {n : Nat} {l : List Nat} {F : Facts} {s : Slots} {H : List Asn} {i : Nat} {d : Option Nat}

theorem sc_of (hT : TOk P T) {t : Nat} (h : hasN T.sc t = true) : (∀ w, (isAgg t).run P w = .ok false w) ∧ ∃ i, P.info? t = some i ∧ i.size = 1 := by
  have := hT.sc t h
  simp only [scB, Bool.and_eq_true] at this
  obtain ⟨h1, h2⟩ := this
  refine ⟨fun w => ?_, sized_of h2⟩
  unfold isAgg
  cases hu : P.underlying t with
  | none => simp [hu] at h1
  | some d =>
    rw [Sem.run_bind]
    have : (underlying t).run P w = .ok d w := by simp [underlying, hu]
    rw [this]
    simp only [hu] at h1
    cases d <;> first | (simp at h1; done) | rfl
theorem ag_of (hT : TOk P T) {t m : Nat} (h : getN T.ag t = some m) : ∃ d, P.underlying t = some d ∧ d.isRow = true ∧ (P.info? t).map (·.size) = some m := by
  have := hT.ag t m h
  simp only [agB, Bool.and_eq_true] at this
  obtain ⟨h1, h2⟩ := this
  obtain ⟨i, hi, hm⟩ := sized_of h2
  cases hu : P.underlying t with
  | none => simp [hu] at h1
  | some d =>
    refine ⟨d, rfl, ?_, by simp [hi, hm]⟩
    simp only [hu] at h1
    cases d <;> first | rfl | (simp at h1; done)

/-- A load of one cell. -/
theorem tLd (hT : TOk P T) (j : Nat) {t : TypeId} {x : Operand} {b off : Nat} {vs : List Value} {ty : TypeId} {v : Value}
    (ho : opAt ops n s i = .go (.load t x) d) (hx : evs s x = some (.pointer (some ⟨b, off, none⟩))) (hj : H[j]? = some (pt b vs ty)) (ht : hasN T.sc t = true) (hv : vs[off]? = some v)
    (k : runS T ops n (fun l s => TS P ops incs Q w0 n l ((i, fun w => w.rangeAt b off [v]) :: F) s H) l (putS d v s)) : TS P ops incs Q w0 n (i :: l) F s H := by
  refine TS.float _ ho (rfl) (fun w hS => range1 hS j hj hv) (fun a w o hop hF hr => ?_) (tR hT k)
  have hc : w.cell? ⟨b, off, none⟩ = some v := by simpa using hr 0 v (by simp)
  simp only [execOp, hop, Instr.loadAt, Instr.sureAddr, hF.eval hx]
  simp [loadVar, (sc_of hT ht).1 w, hc]
/-- A load of a struct. -/
theorem tLdA (hT : TOk P T) (j : Nat) (cs : List Value) {t m : TypeId} {x : Operand} {b off : Nat} {vs : List Value} {ty : TypeId}
    (ho : opAt ops n s i = .go (.load t x) d) (hx : evs s x = some (.pointer (some ⟨b, off, none⟩))) (hj : H[j]? = some (pt b vs ty)) (ht : getN T.ag t = some m) (hv : (vs.drop off).take m = cs) (hl : cs.length = m)
    (k : runS T ops n (fun l s => TS P ops incs Q w0 n l ((i, fun w => w.rangeAt b off cs) :: F) s H) l (putS d (.agg cs.toArray) s)) : TS P ops incs Q w0 n (i :: l) F s H := by
  refine TS.float _ ho (rfl) (fun w hS => rangeN hS j hj hv) (fun a w o hop hF hr => ?_) (tR hT k)
  obtain ⟨dd, h1, h2, h3⟩ := ag_of hT ht
  simp only [execOp, hop, hF.eval hx]
  rw [Sem.run_bind, run_loadAt_mid w b off t cs dd hr h1 h2 (by rw [hl]; exact h3)]
  rfl

/-! Stores. -/
def spl (vs : List Value) (off : Nat) (cs : List Value) : List Value := vs.take off ++ cs ++ vs.drop (off + cs.length)
theorem pt_of {w : World} (hS : St w0 w H) {j b : Nat} {vs : List Value} {ty : TypeId} (hj : H[j]? = some (pt b vs ty)) : w.heap[b]? = some (.cells vs.toArray ty (0, 0)) := hS.parts.cells hj
theorem St.put {w w' : World} (hS : St w0 w H) {j b : Nat} {vs vs' : List Value} {ty : TypeId} (hj : H[j]? = some (pt b vs ty)) (h1 : w'.heap[b]? = some (.cells vs'.toArray ty (0, 0))) (h2 : ∀ x, x ≠ b → w'.heap[x]? = w.heap[x]?)
    (h3 : w'.os = w.os) (h4 : w'.tape = w.tape) (h5 : w'.output = w.output) (h6 : w'.heap.size = w.heap.size) : St w0 w' (H.set j (pt b vs' ty)) :=
  ⟨h3.trans hS.os, h4.trans hS.tape, h5.trans hS.output, by rw [h6]; exact hS.size, hS.parts.set hj h1 h2⟩
theorem run_store_pt {w : World} {b off : Nat} {vs cs : List Value} {ty : TypeId} (hb : w.heap[b]? = some (.cells vs.toArray ty (0, 0))) (hl : off + cs.length ≤ vs.length) (h1 : ∀ v ∈ cs, v.oneCell' = true) :
    (storeCells ⟨b, off, none⟩ cs 0).run P w = .ok () (w.setRow b (spl vs off cs).toArray) := by
  have := run_storeCells_at P b off ty cs 0 vs.toArray w hb (by simpa using hl) h1
  simpa [spl] using this
theorem setRow_facts (w : World) (b : Nat) (cs : Array Value) (vs : Array Value) (ty : TypeId) (hb : w.heap[b]? = some (.cells vs ty (0, 0))) :
    (w.setRow b cs).heap[b]? = some (.cells cs ty (0, 0)) ∧ (∀ x, x ≠ b → (w.setRow b cs).heap[x]? = w.heap[x]?) ∧ (w.setRow b cs).os = w.os ∧ (w.setRow b cs).tape = w.tape ∧ (w.setRow b cs).output = w.output ∧ (w.setRow b cs).heap.size = w.heap.size := by
  refine ⟨setRow_heap w b vs cs ty (0, 0) hb, fun x hx => ?_, rfl, rfl, rfl, by simp [World.setRow]⟩
  simp only [World.setRow, Array.getElem?_modify]
  rw [if_neg (by omega)]
theorem tSt (hT : TOk P T) (j : Nat) {t : TypeId} {x y : Operand} {b off : Nat} {vs : List Value} {ty : TypeId} {v : Value}
    (ho : opAt ops n s i = .go (.store t x y) d) (hx : evs s x = some (.pointer (some ⟨b, off, none⟩))) (hj : H[j]? = some (pt b vs ty)) (hy : evs s y = some v) (ht : hasN T.sc t = true) (hv : v.oneCell' = true) (hl : Nat.blt off vs.length = true)
    (hO : ∀ w, St w0 w (H.set j (pt b (vs.set off v) ty)) → Owed incs i F w)
    (k : runS T ops n (fun l s => TS P ops incs Q w0 n l F s (H.set j (pt b (vs.set off v) ty))) l (putS d undef s)) : TS P ops incs Q w0 n (i :: l) F s H := by
  refine TS.chain ho (rfl) (fun a w o hop hdst hd hF hS => ?_)
  subst hdst
  have hb := pt_of hS hj
  have hl' : off < vs.length := Nat.le_of_ble_eq_true hl
  obtain ⟨q, hq, hq1⟩ := (sc_of hT ht).2
  have hvc : v.cells = #[v] := by cases v <;> first | rfl | (simp [Value.oneCell'] at hv; done)
  have e : spl vs off [v] = vs.set off v := by
    unfold spl
    rw [List.set_eq_take_append_cons_drop, if_pos hl']
    simp
  have hrun := run_store_pt (P := P) (b := b) (off := off) (vs := vs) (ty := ty) (cs := [v]) hb (by simp; omega) (by simpa using hv)
  rw [e] at hrun
  obtain ⟨f1, f2, f3, f4, f5, f6⟩ := setRow_facts w b (vs.set off v).toArray vs.toArray ty hb
  have hS' := hS.put hj f1 f2 f3 f4 f5 f6
  unfold Does
  have : (execOp a.eval o).run P w = .ok .skip (w.setRow b (vs.set off v).toArray) := by
    simp only [execOp, hop, hF.eval hx, hF.eval hy, Instr.storeAt, Instr.sureAddr]
    simp [storeVar, Go.sizeOf, typeInfo, hq, hq1, hvc, hrun]
  rw [this]
  exact ⟨hO _ hS', tR hT k _ _ (hF.putS undef hd) hS'⟩
theorem tStA (hT : TOk P T) (j : Nat) {t m : TypeId} {x y : Operand} {b off : Nat} {vs cs : List Value} {ty : TypeId}
    (ho : opAt ops n s i = .go (.store t x y) d) (hx : evs s x = some (.pointer (some ⟨b, off, none⟩))) (hj : H[j]? = some (pt b vs ty)) (hy : evs s y = some (.agg cs.toArray)) (ht : getN T.ag t = some m) (hm : cs.length = m) (hv : cs.all (·.oneCell') = true) (hl : Nat.ble (off + m) vs.length = true)
    (hO : ∀ w, St w0 w (H.set j (pt b (spl vs off cs) ty)) → Owed incs i F w)
    (k : runS T ops n (fun l s => TS P ops incs Q w0 n l F s (H.set j (pt b (spl vs off cs) ty))) l (putS d undef s)) : TS P ops incs Q w0 n (i :: l) F s H := by
  refine TS.chain ho (rfl) (fun a w o hop hdst hd hF hS => ?_)
  subst hdst
  subst hm
  have hb := pt_of hS hj
  have hl' : off + cs.length ≤ vs.length := Nat.le_of_ble_eq_true hl
  obtain ⟨dd, h1, h2, h3⟩ := ag_of hT ht
  have hrun := run_store_pt (P := P) (cs := cs) hb hl' (fun v hv' => List.all_eq_true.1 hv v hv')
  obtain ⟨f1, f2, f3, f4, f5, f6⟩ := setRow_facts w b (spl vs off cs).toArray vs.toArray ty hb
  have hS' := hS.put hj f1 f2 f3 f4 f5 f6
  unfold Does
  have : (execOp a.eval o).run P w = .ok .skip (w.setRow b (spl vs off cs).toArray) := by
    simp only [execOp, hop, hF.eval hx, hF.eval hy, Instr.storeAt, Instr.sureAddr]
    cases hq : P.info? t with
    | none => simp [hq] at h3
    | some q =>
      have hs : q.size = cs.length := by simpa [hq] using h3
      simp [storeVar, Go.sizeOf, typeInfo, hq, hs, Value.cells, hrun]
  rw [this]
  exact ⟨hO _ hS', tR hT k _ _ (hF.putS undef hd) hS'⟩

/-! New blocks. -/
theorem St.alloc {w : World} (hS : St w0 w H) (o : Obj) : St w0 (w.alloc o) (ob w.heap.size o :: H) :=
  ⟨hS.os, hS.tape, hS.output, by have := hS.size; simp; omega, hS.parts.fresh (by simp [hl]) (by show (w.heap.push o)[w.heap.size]? = _; simp) (fun x hx => by show (w.heap.push o)[x]? = _; rw [Array.getElem?_push, if_neg hx]; rfl)⟩
theorem TS.new (hT : TOk P T) {op : Op} {obj : Obj} {v : Nat → Value} (ho : opAt ops n s i = .go op d) (hf : isFl op = false) (hr : ∀ a w (o : Oper), o.op = op → Fr n s a → (execOp a.eval o).run P w = .ok (.value (v w.heap.size)) (w.alloc obj))
    (hO : ∀ b w, St w0 w (ob b obj :: H) → Owed incs i F w) (k : ∀ b, runS T ops n (fun l s => TS P ops incs Q w0 n l F s (ob b obj :: H)) l (putS d (v b) s)) : TS P ops incs Q w0 n (i :: l) F s H := by
  refine TS.chain ho hf (fun a w o hop hdst hd hF hS => ?_)
  subst hdst
  unfold Does
  rw [hr a w o hop hF]
  exact ⟨hO _ _ (hS.alloc obj), tR hT (k _) _ _ (hF.putS _ hd) (hS.alloc obj)⟩
theorem tBox (hT : TOk P T) {t : TypeId} {x : Operand} {cs : List Value} {v : Value} (ho : opAt ops n s i = .go (.box t x) d) (hx : evs s x = some v) (hv : v.cells = cs.toArray)
    (hO : ∀ b w, St w0 w (pt b cs t :: H) → Owed incs i F w) (k : ∀ b, runS T ops n (fun l s => TS P ops incs Q w0 n l F s (pt b cs t :: H)) l (putS d (.pointer (some ⟨b, 0, none⟩)) s)) : TS P ops incs Q w0 n (i :: l) F s H := by
  refine TS.new hT (v := fun b => .pointer (some ⟨b, 0, none⟩)) (obj := .cells cs.toArray t (0, 0)) ho rfl (fun a w o hop hF => ?_) hO k
  simp [execOp, hop, hF.eval hx, Instr.box, newVar, newRow, hv]
theorem tAl (hT : TOk P T) {t : TypeId} {a : Bool} {zs : List Z} (ho : opAt ops n s i = .go (.alloc t) d) (hz : getZ T.zo t = some (a, zs))
    (hO : ∀ b w, St w0 w (pt b (zs.map Z.val) t :: H) → Owed incs i F w) (k : ∀ b, runS T ops n (fun l s => TS P ops incs Q w0 n l F s (pt b (zs.map Z.val) t :: H)) l (putS d (.pointer (some ⟨b, 0, none⟩)) s)) : TS P ops incs Q w0 n (i :: l) F s H := by
  obtain ⟨z, h1, h2, _⟩ := zero_of hT hz
  refine TS.new hT (v := fun b => .pointer (some ⟨b, 0, none⟩)) (obj := .cells (zs.map Z.val).toArray t (0, 0)) ho rfl (fun a w o hop hF => ?_) hO k
  simp [execOp, hop, Instr.alloc, h1 w, newVar, newRow, h2]

/-! Calls. -/
/-- What a call does: from the parts 'pre' to those that 'post' tells, whatever else there is. -/
structure Con (P : Program) (f : FuncId) (args : Array Value) (pre : List Asn) (post : Value → List Asn → Prop) : Prop where
  enters : Enters P f
  calls : ∀ (R : Asn) (w : World), Parts (hl w) (pre ++ [R]) → Calls P f args w fun e w' => ∃ v H', e = .returned v ∧ post v H' ∧ St w w' (H' ++ [R])
theorem Con.mono {f : FuncId} {args : Array Value} {pre : List Asn} {post post' : Value → List Asn → Prop} (h : Con P f args pre post) (hp : ∀ v H', post v H' → post' v H') : Con P f args pre post' :=
  ⟨h.enters, fun R w hw => (h.calls R w hw).mono fun _ _ ⟨v, H', h1, h2, h3⟩ => ⟨v, H', h1, hp v H' h2, h3⟩⟩

def evl (s : Slots) : List Operand → Option (List Value)
  | [] => some []
  | x :: r => match evs s x with
    | some v => match evl s r with
      | some vs => some (v :: vs)
      | none => none
    | none => none
theorem Fr.evl {a : Act} (F : Fr n s a) : ∀ {xs : List Operand} {vs : List Value}, Bg.evl s xs = some vs → xs.map a.eval = vs
  | [], vs, h => by simp [Bg.evl] at h; simp [h]
  | x :: r, vs, h => by
    simp only [Bg.evl] at h
    split at h
    · rename_i v hv
      split at h
      · rename_i us hu
        simp only [Option.some.injEq] at h; subst h
        simp [F.eval hv, F.evl hu]
      · cases h
    · cases h
/-- The places that are not among these. -/
def others (n : Nat) (is : List Nat) : List Nat := (List.range n).filter fun i => !is.contains i
def okIs (n : Nat) (is : List Nat) : Bool := nodupB is && is.all (fun i => Nat.blt i n)
theorem Parts.split {h : Hl} {L : List Asn} (hp : Parts h L) (is : List Nat) (hok : okIs L.length is = true) : Parts h (Bg.pick L is ++ Bg.pick L (others L.length is)) := by
  simp only [okIs, Bool.and_eq_true] at hok
  have hn := nodupB_spec hok.1
  have hlt : ∀ i ∈ is, i < L.length := fun i hi => Nat.le_of_ble_eq_true (List.all_eq_true.1 hok.2 i hi)
  have := hp.pick (is ++ others L.length is) (by
    rw [List.nodup_append]
    refine ⟨hn, List.nodup_range.filter _, fun a ha b hb => ?_⟩
    simp only [others, List.mem_filter, List.mem_range, Bool.not_eq_true', List.contains_eq_mem, decide_eq_false_iff_not] at hb
    rintro rfl
    exact hb.2 ha) (fun i hi => by
    rcases List.mem_append.1 hi with hi | hi
    · exact hlt i hi
    · simp only [others, List.mem_filter, List.mem_range] at hi; exact hi.1)
  simpa [Bg.pick] using this
theorem tCall (hT : TOk P T) {f : FuncId} {args : List Value} {pre : List Asn} {post : Value → List Asn → Prop} {fo : Operand} {aas : Array Operand} {ts : Array TypeId} (c : Con P f args.toArray pre post) (is : List Nat)
    (ho : opAt ops n s i = .go (.call { callee := .value fo, args := aas, argTypes := ts }) d) (hf : evs s fo = some (.func (.func f) #[] #[])) (ha : evl s aas.toList = some args) (hok : okIs H.length is = true) (hpre : Bg.pick H is = pre)
    (hO : ∀ v H1, post v H1 → ∀ w, St w0 w (H1 ++ Bg.pick H (others H.length is)) → Owed incs i F w)
    (k : ∀ v H1, post v H1 → runS T ops n (fun l s => TS P ops incs Q w0 n l F s (H1 ++ Bg.pick H (others H.length is))) l (putS d v s)) : TS P ops incs Q w0 n (i :: l) F s H := by
  refine TS.chain ho (rfl) (fun a w o hop hdst hd hF hS => ?_)
  subst hdst
  subst hpre
  have hargs : aas.map a.eval = args.toArray := by
    apply Array.ext'
    simpa using hF.evl ha
  unfold Does
  have hrun : (execOp a.eval o).run P w = .ok (.enter f args.toArray) w := by
    simp [execOp, hop, resolve, hF.eval hf, Deferred.ofValue, invoke, hargs, c.enters args.toArray w]
  rw [hrun]
  refine (c.calls _ w (hS.parts.split is hok).fold).mono fun e w' ⟨v, H1, he, hp, hS'⟩ => ⟨v, he, ?_⟩
  have hS2 : St w0 w' (H1 ++ Bg.pick H (others H.length is)) := hS.step ⟨hS'.os, hS'.tape, hS'.output, hS'.size, hS'.parts.unfold⟩
  exact ⟨hO v H1 hp w' hS2, tR hT (k v H1 hp) _ _ (hF.putS v hd) hS2⟩

/-- A call of which just one end is told. -/
theorem tCl (hT : TOk P T) {f : FuncId} {args : List Value} {pre L : List Asn} {v0 : Value} {fo : Operand} {aas : Array Operand} {ts : Array TypeId} (c : Con P f args.toArray pre (fun v H' => v = v0 ∧ H' = L)) (is : List Nat)
    (ho : opAt ops n s i = .go (.call { callee := .value fo, args := aas, argTypes := ts }) d) (hf : evs s fo = some (.func (.func f) #[] #[])) (ha : evl s aas.toList = some args) (hok : okIs H.length is = true) (hpre : Bg.pick H is = pre)
    (hO : ∀ w, St w0 w (L ++ Bg.pick H (others H.length is)) → Owed incs i F w)
    (k : runS T ops n (fun l s => TS P ops incs Q w0 n l F s (L ++ Bg.pick H (others H.length is))) l (putS d v0 s)) : TS P ops incs Q w0 n (i :: l) F s H :=
  tCall hT c is ho hf ha hok hpre (fun _ _ ⟨_, e⟩ w hw => hO w (e ▸ hw)) (fun _ _ ⟨e1, e2⟩ => by subst e1 e2; exact k)

/-! A truth that is not known, and a slot in other words; then on. -/
theorem tCs (hT : TOk P T) (t : Nat) {b : Bool} (hb : look s t = some (.bool b)) (h1 : b = true → runS T ops n (fun l s => TS P ops incs Q w0 n l F s H) l ((t, .bool true) :: s)) (h2 : b = false → runS T ops n (fun l s => TS P ops incs Q w0 n l F s H) l ((t, .bool false) :: s)) : TS P ops incs Q w0 n l F s H :=
  tCase t hb (fun h => tR hT (h1 h)) (fun h => tR hT (h2 h))
theorem tD (hT : TOk P T) (t : Nat) {p : Prop} [Decidable p] (hb : look s t = some (.bool (decide p))) (h1 : p → runS T ops n (fun l s => TS P ops incs Q w0 n l F s H) l ((t, .bool true) :: s)) (h2 : ¬ p → runS T ops n (fun l s => TS P ops incs Q w0 n l F s H) l ((t, .bool false) :: s)) : TS P ops incs Q w0 n l F s H :=
  tDec t hb (fun h => tR hT (h1 h)) (fun h => tR hT (h2 h))
theorem tND (hT : TOk P T) (t : Nat) {p : Prop} [Decidable p] (hb : look s t = some (.bool (!decide p))) (h1 : ¬ p → runS T ops n (fun l s => TS P ops incs Q w0 n l F s H) l ((t, .bool true) :: s)) (h2 : p → runS T ops n (fun l s => TS P ops incs Q w0 n l F s H) l ((t, .bool false) :: s)) : TS P ops incs Q w0 n l F s H :=
  tNot t hb (fun h => tR hT (h1 h)) (fun h => tR hT (h2 h))
theorem tW (hT : TOk P T) (t : Nat) {v : Value} (v' : Value) (hv : look s t = some v) (e : v = v') (h : runS T ops n (fun l s => TS P ops incs Q w0 n l F s H) l ((t, v') :: s)) : TS P ops incs Q w0 n l F s H :=
  tV t hv e (tR hT h)

/-! Sums. -/
theorem tInt (hT : TOk P T) {k : IntKind} {op : BinOp} {t t' : TypeId} {x y : Operand} {p q r : Int} (hr : ∀ w, (Op.intArith op k p q).run P w = .ok (.int k r) w) (hne : (op = .add ∨ op = .sub ∨ op = .mul)) (ho : opAt ops n s i = .go (.binOp op t x y t') d) (hx : evs s x = some (.int k p)) (hy : evs s y = some (.int k q))
    (c : runS T ops n (fun l s => TS P ops incs Q w0 n l F s H) l (putS d (.int k r) s)) : TS P ops incs Q w0 n (i :: l) F s H := by
  refine TS.float0 ho (fun a w o hop hF => ⟨by simp [isFloat, isFl, hop], ?_⟩) (tR hT c)
  have hg : (eqGuard op t x y (.int k p) (.int k q)).run P w = .ok () w := by rcases hne with rfl | rfl | rfl <;> simp [eqGuard]
  simp only [execOp, hop, hF.eval hx, hF.eval hy]
  rw [Sem.run_bind, Sem.run_bind, hg]
  simp only [Result.andThen_ok]
  rcases hne with rfl | rfl | rfl <;> simp [binOp, hr w]
theorem wrap64_in {x : Int} (h : -9223372036854775808 ≤ x ∧ x ≤ 9223372036854775807) : IntKind.i64.wrap x = x := IntWalk.i64_in x h
theorem tAdd (hT : TOk P T) {t t' : TypeId} {x y : Operand} {p q : Int} (ho : opAt ops n s i = .go (.binOp .add t x y t') d) (hx : evs s x = some (.int .i64 p)) (hy : evs s y = some (.int .i64 q)) (hb : -9223372036854775808 ≤ p + q ∧ p + q ≤ 9223372036854775807)
    (c : runS T ops n (fun l s => TS P ops incs Q w0 n l F s H) l (putS d (.int .i64 (p + q)) s)) : TS P ops incs Q w0 n (i :: l) F s H :=
  tInt hT (fun w => by simp [Op.intArith, wrap64_in hb]) (.inl rfl) ho hx hy c
theorem tSub (hT : TOk P T) {t t' : TypeId} {x y : Operand} {p q : Int} (ho : opAt ops n s i = .go (.binOp .sub t x y t') d) (hx : evs s x = some (.int .i64 p)) (hy : evs s y = some (.int .i64 q)) (hb : -9223372036854775808 ≤ p - q ∧ p - q ≤ 9223372036854775807)
    (c : runS T ops n (fun l s => TS P ops incs Q w0 n l F s H) l (putS d (.int .i64 (p - q)) s)) : TS P ops incs Q w0 n (i :: l) F s H :=
  tInt hT (fun w => by simp [Op.intArith, wrap64_in hb]) (.inr (.inl rfl)) ho hx hy c
theorem tMul (hT : TOk P T) {t t' : TypeId} {x y : Operand} {p q : Int} (ho : opAt ops n s i = .go (.binOp .mul t x y t') d) (hx : evs s x = some (.int .i64 p)) (hy : evs s y = some (.int .i64 q)) (hb : -9223372036854775808 ≤ p * q ∧ p * q ≤ 9223372036854775807)
    (c : runS T ops n (fun l s => TS P ops incs Q w0 n l F s H) l (putS d (.int .i64 (p * q)) s)) : TS P ops incs Q w0 n (i :: l) F s H :=
  tInt hT (fun w => by simp [Op.intArith, wrap64_in hb]) (.inr (.inr rfl)) ho hx hy c
theorem tNeg (hT : TOk P T) {t : TypeId} {x : Operand} {p : Int} (ho : opAt ops n s i = .go (.unOp .neg t x) d) (hx : evs s x = some (.int .i64 p)) (hb : -9223372036854775807 ≤ p ∧ p ≤ 9223372036854775807)
    (c : runS T ops n (fun l s => TS P ops incs Q w0 n l F s H) l (putS d (.int .i64 (-p)) s)) : TS P ops incs Q w0 n (i :: l) F s H := by
  refine TS.float0 ho (fun a w o hop hF => ⟨by simp [isFloat, isFl, hop], ?_⟩) (tR hT c)
  have := wrap64_in (x := 0 - p) (by omega)
  simp only [execOp, hop, hF.eval hx, Op.unary, Op.intArith, this]
  rw [Int.zero_sub]
  rfl
/-- An index within a slice. -/
theorem tIdx (hT : TOk P T) {t : TypeId} {x y : Operand} {b off len cap : Nat} {k : IntKind} {q : Int} {e m by' : Nat} (ho : opAt ops n s i = .go (.indexAddr t x y) d) (hx : evs s x = some (.slice (some ⟨b, off, none⟩) len cap)) (hy : evs s y = some (.int k q)) (ht : getS T.sl t = some (e, m, by')) (hq : 0 ≤ q ∧ q < len)
    (c : runS T ops n (fun l s => TS P ops incs Q w0 n l F s H) l (putS d (.pointer (some ⟨b, off + q.toNat * m, none⟩)) s)) : TS P ops incs Q w0 n (i :: l) F s H := by
  refine TS.float0 ho (fun a w o hop hF => ⟨by simp [isFloat, isFl, hop], ?_⟩) (tR hT c)
  have hs := hT.sl t _ ht
  simp only [slB, Bool.and_eq_true] at hs
  obtain ⟨h1, h2, _⟩ := hs
  have hu : P.underlying t = some (.slice e) := by
    revert h1; split
    · rename_i e' hu; intro h1; rw [hu, Nat.eq_of_beq_eq_true h1]
    · intro h1; cases h1
  obtain ⟨z, hz, hzm⟩ := sized_of h2
  have hadd : (⟨b, off, none⟩ : Addr).add (q.toNat * m) = ⟨b, off + q.toNat * m, none⟩ := Addr.add_mid b off _
  have hun : (underlying t).run P w = .ok (.slice e) w := by simp [underlying, hu]
  have hsz : (Go.sizeOf e).run P w = .ok m w := by simp [Go.sizeOf, typeInfo, hz, hzm]
  have hrun : (Instr.indexAt t (.slice (some ⟨b, off, none⟩) len cap) (.int k q)).run P w = .ok (.pointer (some ⟨b, off + q.toNat * m, none⟩)) w := by
    unfold Instr.indexAt
    simp only [asIntOf, Sem.run_bind, Sem.run_pure, Result.andThen_ok, hun]
    rw [if_pos hq]
    simp only [Sem.run_bind, hsz, Result.andThen_ok, Sem.run_pure, hadd]
  simp only [execOp, hop, hF.eval hx, hF.eval hy]
  rw [Sem.run_bind, hrun]
  rfl
/-- Is a pointer nil? -/
theorem tNil (hT : TOk P T) (neq : Bool) {t t' : TypeId} {x y : Operand} {a : Option Addr} (ho : opAt ops n s i = .go (.binOp (bif neq then .neq else .eql) t x y t') d) (hx : evs s x = some (.pointer a)) (hy : evs s y = some (.pointer none)) (ht : hasN T.pt t = true)
    (c : runS T ops n (fun l s => TS P ops incs Q w0 n l F s H) l (putS d (.bool (a.isNone != neq)) s)) : TS P ops incs Q w0 n (i :: l) F s H := by
  refine TS.float0 ho (fun a' w o hop hF => ⟨by simp [isFloat, isFl, hop], ?_⟩) (tR hT c)
  have hs := hT.pt t ht
  unfold ptB at hs
  have hu : ∃ e, P.underlying t = some (.pointer e) := by
    revert hs; split
    · rename_i e hu; intro _; exact ⟨e, hu⟩
    · intro hs; cases hs
  obtain ⟨e, hu⟩ := hu
  have he : (Op.equal t (.pointer a) (.pointer none)).run P w = .ok a.isNone w := by
    have hun : (underlying t).run P w = .ok (.pointer e) w := by simp [underlying, hu]
    have hd : Op.equal t (.pointer a) (.pointer none) = Op.equalIn (9999 + 1) t (.pointer a) (.pointer none) := rfl
    rw [hd]
    unfold Op.equalIn
    rw [Sem.run_bind, hun]
    cases a <;> rfl
  cases neq <;> simp [execOp, hop, hF.eval hx, hF.eval hy, eqGuard, binOp, he]
end

/-! ### Code -/
section
variable {P : Program} {T : Tb} {Q : Exit → Act → World → Prop} {w0 : World} {n : Nat} {s : Slots} {H : List Asn} {K : Act → World → Prop}
theorem kSeq {x y : Code} (h : KS w0 n (x.wp P (Exit.then (y.wp P Q) Q)) s H) : KS w0 n ((Code.seq x y).wp P Q) s H := fun a w hF hS => wp_seq (h a w hF hS)
theorem kN {next : Act → World → Prop} (h : KS w0 n next s H) : KS w0 n (Exit.then next Q .normal) s H := h
theorem kE {next : Act → World → Prop} {e : Nat} (h : KS w0 n (Q (.exit e)) s H) : KS w0 n (Exit.then next Q (.exit e)) s H := h
theorem kT {next : Act → World → Prop} (h : KS w0 n (Q .ret) s H) : KS w0 n (Exit.then next Q .ret) s H := h
theorem kBN {e : Nat} (h : KS w0 n (Q .normal) s H) : KS w0 n (Exit.inBlock e Q .normal) s H := h
theorem kBT {e : Nat} (h : KS w0 n (Q .ret) s H) : KS w0 n (Exit.inBlock e Q .ret) s H := h
theorem kBE {e : Nat} (h : KS w0 n (Q .normal) s H) : KS w0 n (Exit.inBlock e Q (.exit e)) s H := fun a w hF hS => by
  simp only [Exit.inBlock, if_true]; exact h a w hF hS
theorem kBX {e e' : Nat} (he : Nat.beq e' e = false) (h : KS w0 n (Q (.exit e')) s H) : KS w0 n (Exit.inBlock e Q (.exit e')) s H := fun a w hF hS => by
  have : ¬ e' = e := Nat.ne_of_beq_eq_false he
  simp only [Exit.inBlock, this, if_false]; exact h a w hF hS
theorem kSkip (h : KS w0 n (Q .normal) s H) : KS w0 n (Code.skip.wp P Q) s H := fun a w hF hS => wp_skip (h a w hF hS)
theorem kRet (h : KS w0 n (Q .ret) s H) : KS w0 n (Code.ret.wp P Q) s H := fun a w hF hS => wp_ret (h a w hF hS)
theorem kExit {e : Nat} (h : KS w0 n (Q (.exit e)) s H) : KS w0 n ((Code.exit e).wp P Q) s H := fun a w hF hS => wp_exit (h a w hF hS)
theorem kBlock {e : Nat} {c : Code} (h : KS w0 n (c.wp P (Exit.inBlock e Q)) s H) : KS w0 n ((Code.block e c).wp P Q) s H := fun a w hF hS => wp_block (h a w hF hS)
def upto : Nat → Nat → List Nat
  | 0, _ => []
  | m + 1, i => i :: upto m (i + 1)
theorem upto_eq : ∀ (m i : Nat), upto m i = List.range' i m
  | 0, _ => rfl
  | m + 1, i => by simp [upto, upto_eq m (i + 1), List.range'_succ]
theorem kReg (hT : TOk P T) {id : Nat} {l0 : List Oper} (h : runS T l0.toArray n (fun l s => TS P l0.toArray [] Q w0 n l [] s H) (upto l0.length 0) s) : KS w0 n ((Code.region id l0.toArray false).wp P Q) s H := fun a w hF hS =>
  wp_region_TW0 (by have := tR hT h a w hF hS; rwa [upto_eq, ← List.range_eq_range'] at this)
/-- A region and what is behind it. -/
theorem kR (hT : TOk P T) {id : Nat} {l0 : List Oper} {y : Code} (h : runS T l0.toArray n (fun l s => TS P l0.toArray [] (Exit.then (y.wp P Q) Q) w0 n l [] s H) (upto l0.length 0) s) : KS w0 n ((Code.seq (Code.region id l0.toArray false) y).wp P Q) s H := kSeq (kReg hT h)
theorem tE {P : Program} {ops : Array Oper} {incs : List (Nat × Nat)} {F : Facts} {next : Act → World → Prop} (h : KS w0 n next s H) : TS P ops incs (Exit.then next Q) w0 n [] F s H := h
theorem kRegD (hT : TOk P T) {id : Nat} {l0 : List Oper} (hm : P.follows .mixedOrders = true) (ord : List Nat) (incs : List (Nat × Nat)) (hok : okR l0 ord incs = true) (h : runS T l0.toArray n (fun l s => TS P l0.toArray incs Q w0 n l [] s H) ord s) : KS w0 n ((Code.region id l0.toArray true).wp P Q) s H :=
  fun a w hF hS => wp_region_TW hm hok (tR hT h a _ hF hS.drew)
theorem kRD (hT : TOk P T) {id : Nat} {l0 : List Oper} {y : Code} (hm : P.follows .mixedOrders = true) (ord : List Nat) (incs : List (Nat × Nat)) (hok : okR l0 ord incs = true) (h : runS T l0.toArray n (fun l s => TS P l0.toArray incs (Exit.then (y.wp P Q) Q) w0 n l [] s H) ord s) : KS w0 n ((Code.seq (Code.region id l0.toArray true) y).wp P Q) s H := kSeq (kRegD hT hm ord incs hok h)
theorem kIfT {c : Operand} {x y : Code} (hc : evs s c = some (.bool true)) (h : KS w0 n (x.wp P Q) s H) : KS w0 n ((Code.cond c x y).wp P Q) s H := fun a w hF hS => wp_cond_true (hF.eval hc) (h a w hF hS)
theorem kIfF {c : Operand} {x y : Code} (hc : evs s c = some (.bool false)) (h : KS w0 n (y.wp P Q) s H) : KS w0 n ((Code.cond c x y).wp P Q) s H := fun a w hF hS => wp_cond_false (hF.eval hc) (h a w hF hS)
theorem kIf {c : Operand} {x y : Code} {b : Bool} (hc : evs s c = some (.bool b)) (h1 : b = true → KS w0 n (x.wp P Q) s H) (h2 : b = false → KS w0 n (y.wp P Q) s H) : KS w0 n ((Code.cond c x y).wp P Q) s H := fun a w hF hS => by
  cases b with
  | true => exact wp_cond_true (hF.eval hc) (h1 rfl a w hF hS)
  | false => exact wp_cond_false (hF.eval hc) (h2 rfl a w hF hS)
theorem kIfD {c : Operand} {x y : Code} {p : Prop} [Decidable p] (hc : evs s c = some (.bool (decide p))) (h1 : p → KS w0 n (x.wp P Q) s H) (h2 : ¬ p → KS w0 n (y.wp P Q) s H) : KS w0 n ((Code.cond c x y).wp P Q) s H :=
  kIf hc (fun h => h1 (of_decide_eq_true h)) (fun h => h2 (of_decide_eq_false h))
theorem kIfND {c : Operand} {x y : Code} {p : Prop} [Decidable p] (hc : evs s c = some (.bool (!decide p))) (h1 : ¬ p → KS w0 n (x.wp P Q) s H) (h2 : p → KS w0 n (y.wp P Q) s H) : KS w0 n ((Code.cond c x y).wp P Q) s H :=
  kIf hc (fun h => h1 (of_decide_eq_false (by simpa using h))) (fun h => h2 (of_decide_eq_true (by simpa using h)))
/-- Fewer slots, the parts in another order. -/
theorem kSub {s' : Slots} {H' : List Asn} (is : List Nat) (hs : Bg.sub s' s) (hok : okIs H.length is = true) (hp : Bg.pick H is = H') (h : KS w0 n K s' H') : KS w0 n K s H := fun a w hF hS => by
  subst hp
  simp only [okIs, Bool.and_eq_true] at hok
  exact h a w (hF.sub hs) ⟨hS.os, hS.tape, hS.output, hS.size, hS.parts.pick is (nodupB_spec hok.1) fun i hi => Nat.le_of_ble_eq_true (List.all_eq_true.1 hok.2 i hi)⟩
/-- A loop: a state x of the invariant's at each round's head. -/
theorem kLoop {α : Type} {c : Code} (I : α → Prop) (S : α → Slots) (HH : α → List Asn) (μ : α → Nat) (x0 : α) (h0 : I x0) (is : List Nat) (hs : Bg.sub (S x0) s) (hok : okIs H.length is = true) (hp : Bg.pick H is = HH x0)
    (round : ∀ x, I x → KS w0 n (c.wp P (Exit.then (fun a w => ∃ y, I y ∧ μ y < μ x ∧ Fr n (S y) a ∧ St w0 w (HH y)) Q)) (S x) (HH x)) : KS w0 n ((Code.loop c).wp P Q) s H := by
  refine kSub is hs hok hp ?_
  intro a w hF hS
  intro b k cs
  have key : ∀ m x a w, μ x = m → I x → Fr n (S x) a → St w0 w (HH x) → ∃ e a' w', Q e a' w' ∧ Arrives P (lone (b.at a (.code c :: .inLoop c :: k)) cs w) b k cs e a' w' := by
    intro m
    induction m using Nat.strongRecOn with
    | _ m ih =>
      intro x a w hm hI hF hS
      obtain ⟨e, a₁, w₁, hq, harr⟩ := round x hI a w hF hS b (.inLoop c :: k) cs
      cases e with
      | normal =>
        obtain ⟨y, hI₁, hlt, hF₁, hS₁⟩ := hq
        obtain ⟨e₂, a₂, w₂, hq₂, harr₂⟩ := ih (μ y) (hm ▸ hlt) y a₁ w₁ rfl hI₁ hF₁ hS₁
        exact ⟨e₂, a₂, w₂, hq₂, .of_steps (Steps.trans harr (.one step_inLoop)) harr₂⟩
      | exit id => exact ⟨_, a₁, w₁, hq, .pass (x := .inLoop c) rfl (fun _ _ => .inl (by simp)) harr⟩
      | goto l => exact ⟨_, a₁, w₁, hq, .pass (x := .inLoop c) rfl (fun _ _ => .inl (by simp)) harr⟩
      | ret => exact ⟨_, a₁, w₁, hq, .pass (x := .inLoop c) rfl (fun _ _ => .inl (by simp)) harr⟩
      | panic ch => exact ⟨_, a₁, w₁, hq, .pass (x := .inLoop c) rfl (fun _ _ => .inl (by simp)) harr⟩
      | outgrown => exact ⟨_, a₁, w₁, hq, .pass (x := .inLoop c) rfl (fun _ _ => .inl (by simp)) harr⟩
  obtain ⟨e, a', w', hq, harr⟩ := key _ x0 a w rfl h0 hF hS
  exact ⟨e, a', w', hq, .of_steps (.one step_loop) harr⟩
/-- The next round. -/
theorem kNext {α : Type} {I : α → Prop} {S : α → Slots} {HH : α → List Asn} {μ : α → Nat} {m : Nat} (y : α) (hI : I y) (hm : μ y < m) (is : List Nat) (hs : Bg.sub (S y) s) (hok : okIs H.length is = true) (hp : Bg.pick H is = HH y) :
    KS w0 n (fun a w => ∃ y, I y ∧ μ y < m ∧ Fr n (S y) a ∧ St w0 w (HH y)) s H :=
  kSub is hs hok hp fun a w hF hS => ⟨y, hI, hm, hF, hS⟩
/-- Ways that meet again: what is behind is walked once. -/
theorem kCut {x y : Code} {α : Type} (I : α → Prop) (S : α → Slots) (HH : α → List Asn) (hx : KS w0 n (x.wp P (Exit.then (fun a w => ∃ z, I z ∧ Fr n (S z) a ∧ St w0 w (HH z)) Q)) s H) (hy : ∀ z, I z → KS w0 n (y.wp P Q) (S z) (HH z)) : KS w0 n ((Code.seq x y).wp P Q) s H := by
  intro a w hF hS
  refine wp_seq (wp_mono (hx a w hF hS) fun e a w hq => ?_)
  cases e <;> first
    | exact hq
    | (obtain ⟨z, hI, hF', hS'⟩ := hq; exact hy z hI a w hF' hS')
theorem kMeet {α : Type} {I : α → Prop} {S : α → Slots} {HH : α → List Asn} (z : α) (hI : I z) (is : List Nat) (hs : Bg.sub (S z) s) (hok : okIs H.length is = true) (hp : Bg.pick H is = HH z) :
    KS w0 n (fun a w => ∃ z, I z ∧ Fr n (S z) a ∧ St w0 w (HH z)) s H :=
  kSub is hs hok hp fun a w hF hS => ⟨z, hI, hF, hS⟩

/-! ### Functions -/
def argSlots : Nat → List Value → Slots
  | _, [] => []
  | i, v :: r => (i, v) :: argSlots (i + 1) r
theorem look_argSlots : ∀ {vs : List Value} {i t : Nat} {v : Value}, look (argSlots i vs) t = some v → i ≤ t ∧ vs[t - i]? = some v
  | v :: r, i, t, u, h => by
    simp only [argSlots, look] at h
    cases hb : Nat.beq i t with
    | true =>
      obtain rfl := Nat.eq_of_beq_eq_true hb
      simp only [Nat.beq_refl, cond_true, Option.some.injEq] at h
      simp [h]
    | false =>
      have hne := Nat.ne_of_beq_eq_false hb
      simp only [hb, cond_false] at h
      obtain ⟨h1, h2⟩ := look_argSlots h
      refine ⟨by omega, ?_⟩
      rw [show t - i = (t - (i + 1)) + 1 by omega]
      simpa using h2
theorem Con.intro {f : FuncId} {fn : Func} {c : Code} {args : List Value} {pre : List Asn} {post : Value → List Asn → Prop} (hf : P.funcs[f]? = some fn) (hname : (fn.name == "runtime.NumGoroutine") = false) (hb : fn.body = some c) (hn : fn.ntmps = n) (hl : Nat.ble args.length n = true)
    (h : ∀ (R : Asn) (w0 : World), KS w0 n (c.wp P (bodyPost P fn fun e w' => ∃ v H', e = .returned v ∧ post v H' ∧ St w0 w' (H' ++ [R]))) (argSlots 0 args) (pre ++ [R])) : Con P f args.toArray pre post := by
  refine ⟨enters_of hf hname hb, fun R w hw => calls_of_wp hf hb ?_⟩
  subst hn
  have hle : args.length ≤ fn.ntmps := Nat.le_of_ble_eq_true hl
  refine h R w _ w ⟨by simp; omega, rfl, fun t v ht hlt => ?_, fun t v ht => ?_⟩ (.start hw)
  · obtain ⟨_, h2⟩ := look_argSlots ht
    simp only [Nat.sub_zero] at h2
    have := (List.getElem?_eq_some_iff.1 h2).1
    rw [Array.getD_eq_getD_getElem?, Array.getElem?_append_left (by simpa using this)]
    simp [h2]
  · obtain ⟨_, h2⟩ := look_argSlots ht
    simp only [Nat.sub_zero] at h2
    have := (List.getElem?_eq_some_iff.1 h2).1
    omega
/-- The end of a function. -/
def resV (s : Slots) : List ResultVar → Option (List Value)
  | [] => some []
  | .tmp t :: r => match look s t with
    | some v => match resV s r with
      | some vs => some (v :: vs)
      | none => none
    | none => none
  | .cell _ _ :: _ => none
def resW (s : Slots) (rs : List ResultVar) : Option Value :=
  match resV s rs with
  | some [v] => some v
  | some vs => some (.tuple vs.toArray)
  | none => none
theorem kEndP {fn : Func} {e : Exit} (he : e = .normal ∨ e = .ret) {post : Value → List Asn → Prop} {R : Asn} {v : Value} (is : List Nat) (H' : List Asn) (hr : ∀ a w, Fr n s a → St w0 w H → (results fn a.tmps).run P w = .ok v w) (hok : okIs H.length is = true) (hp : Bg.pick H is = H' ++ [R]) (hpost : post v H') :
    KS w0 n (bodyPost P fn (fun e w' => ∃ v H', e = .returned v ∧ post v H' ∧ St w0 w' (H' ++ [R])) e) s H := by
  intro a w hF hS
  have : St w0 w (H' ++ [R]) := by
    rw [← hp]
    simp only [okIs, Bool.and_eq_true] at hok
    exact ⟨hS.os, hS.tape, hS.output, hS.size, hS.parts.pick is (nodupB_spec hok.1) fun i hi => Nat.le_of_ble_eq_true (List.all_eq_true.1 hok.2 i hi)⟩
  rcases he with rfl | rfl <;> exact ⟨hF.defers, v, hr a w hF hS, v, H', rfl, hpost, this⟩
def resOne (tmps : Array Value) : ResultVar → Sem Value
  | .tmp t => pure (tmps.getD t undef)
  | .cell a t => do loadVar t (← asAddr (tmps.getD a undef))
theorem results_eq (fn : Func) (tmps : Array Value) : results fn tmps = (do let vs ← fn.results.mapM (resOne tmps); pure (if h : vs.size = 1 then vs[0] else .tuple vs) : Sem Value) := rfl
theorem run_resV {a : Act} (hF : Fr n s a) (w : World) : ∀ {rs : List ResultVar} {vs : List Value}, resV s rs = some vs → (rs.mapM (resOne a.tmps)).run P w = .ok vs w := by
  intro rs
  induction rs with
  | nil => intro vs h; simp [resV] at h; subst h; rfl
  | cons r rs ih =>
    intro vs h
    cases r with
    | cell x t => simp [resV] at h
    | tmp t =>
      simp only [resV] at h
      split at h
      · rename_i u hu
        split at h
        · rename_i us hus
          simp only [Option.some.injEq] at h; subst h
          have := hF.at_ t u hu (hF.lt t u hu)
          rw [List.mapM_cons]
          simp only [resOne, Sem.run_bind, Sem.run_pure, Result.andThen_ok, this, ih hus]
        · cases h
      · cases h
theorem results_of {fn : Func} {v : Value} (hv : resW s fn.results.toList = some v) {a : Act} (hF : Fr n s a) (w : World) : (results fn a.tmps).run P w = .ok v w := by
  unfold resW at hv
  cases hvs : resV s fn.results.toList with
  | none => simp [hvs] at hv
  | some vs =>
    have h1 := run_resV (P := P) hF w hvs
    have h2 : (fn.results.mapM (resOne a.tmps)).run P w = .ok vs.toArray w := by
      rw [Array.mapM_eq_mapM_toList, Sem.run_map, h1]
      rfl
    rw [results_eq, Sem.run_bind, h2]
    simp only [Result.andThen_ok, Sem.run_pure]
    rw [hvs] at hv
    match vs, hv with
    | [], hv => simp at hv; subst hv; rfl
    | [u], hv => simp at hv; subst hv; rfl
    | u :: u' :: us, hv =>
      simp at hv; subst hv
      rw [dif_neg (by simp)]
/-- The end, where all results lie in slots. -/
theorem kEnd {fn : Func} {e : Exit} {post : Value → List Asn → Prop} {R : Asn} {v : Value} (is : List Nat) (H' : List Asn) (he : e = .normal ∨ e = .ret) (hv : resW s fn.results.toList = some v) (hok : okIs H.length is = true) (hp : Bg.pick H is = H' ++ [R]) (hpost : post v H') :
    KS w0 n (bodyPost P fn (fun e w' => ∃ v H', e = .returned v ∧ post v H' ∧ St w0 w' (H' ++ [R])) e) s H :=
  kEndP he is H' (fun _ w hF _ => results_of hv hF w) hok hp hpost
end
end Bg
