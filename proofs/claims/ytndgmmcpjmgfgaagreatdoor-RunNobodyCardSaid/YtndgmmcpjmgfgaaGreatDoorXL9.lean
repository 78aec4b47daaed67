/- Part 9: results that lie in cells; arrays; quotients. -/
import Derived.Test.YtndgmmcpjmgfgaaGreatDoorXL8
set_option linter.unusedSimpArgs false
set_option linter.unusedVariables false
namespace Bg
open Go Go.Proofs

section
variable {P : Program} {T : Tb} {ops : Array Oper} {incs : List (Nat × Nat)} {Q : Exit → Act → World → Prop} {w0 : World} {n : Nat} {l : List Nat} {F : Facts} {s : Slots} {H : List Asn} {i : Nat} {d : Option Nat} {K : Act → World → Prop}

/-! ### Results -/
/-- What the results are, behind the body. -/
def RR (P : Program) (n : Nat) (s : Slots) (w0 : World) (H : List Asn) (rs : List ResultVar) (vs : List Value) : Prop := ∀ a w, Fr n s a → St w0 w H → (rs.mapM (resOne a.tmps)).run P w = .ok vs w
theorem rN : RR P n s w0 H [] [] := fun _ _ _ _ => rfl
theorem RR.cons {r : ResultVar} {rs : List ResultVar} {v : Value} {vs : List Value} (h1 : ∀ a w, Fr n s a → St w0 w H → (resOne a.tmps r).run P w = .ok v w) (h2 : RR P n s w0 H rs vs) : RR P n s w0 H (r :: rs) (v :: vs) := fun a w hF hS => by
  rw [List.mapM_cons]
  simp only [Sem.run_bind, h1 a w hF hS, Result.andThen_ok, h2 a w hF hS, Sem.run_pure]
theorem rT {t : Nat} {rs : List ResultVar} {v : Value} {vs : List Value} (h : look s t = some v) (h2 : RR P n s w0 H rs vs) : RR P n s w0 H (.tmp t :: rs) (v :: vs) :=
  .cons (fun a w hF _ => by
    have := hF.at_ t v h (hF.lt t v h)
    simp only [resOne, this, Sem.run_pure]) h2
theorem rC (hT : TOk P T) (j : Nat) (cs : List Value) {a t m b off : Nat} {ws : List Value} {ty : TypeId} {rs : List ResultVar} {vs : List Value} (h : look s a = some (.pointer (some ⟨b, off, none⟩))) (hj : H[j]? = some (pt b ws ty)) (ht : getN T.ag t = some m) (hv : (ws.drop off).take m = cs) (hl : cs.length = m)
    (h2 : RR P n s w0 H rs vs) : RR P n s w0 H (.cell a t :: rs) (.agg cs.toArray :: vs) :=
  .cons (fun x w hF hS => by
    have := hF.at_ a _ h (hF.lt a _ h)
    obtain ⟨dd, h1, h2, h3⟩ := ag_of hT ht
    simp only [resOne, this, asAddr, Sem.run_bind, Sem.run_pure, Result.andThen_ok]
    exact run_loadVar_mid w b off t cs dd (rangeN hS j hj hv) h1 h2 (by rw [hl]; exact h3)) h2
theorem rC1 (hT : TOk P T) (j : Nat) {a t b off : Nat} {ws : List Value} {ty : TypeId} {v : Value} {rs : List ResultVar} {vs : List Value} (h : look s a = some (.pointer (some ⟨b, off, none⟩))) (hj : H[j]? = some (pt b ws ty)) (ht : hasN T.sc t = true) (hv : ws[off]? = some v)
    (h2 : RR P n s w0 H rs vs) : RR P n s w0 H (.cell a t :: rs) (v :: vs) :=
  .cons (fun x w hF hS => by
    have := hF.at_ a _ h (hF.lt a _ h)
    have hc : w.cell? ⟨b, off, none⟩ = some v := by simpa using range1 hS j hj hv 0 v (by simp)
    simp [resOne, this, asAddr, loadVar, (sc_of hT ht).1 w, hc]) h2
/-- The end, where some results lie in cells. -/
theorem kEndC {fn : Func} {e : Exit} {post : Value → List Asn → Prop} {R : Asn} {v : Value} (is : List Nat) (H' : List Asn) (he : e = .normal ∨ e = .ret) {vs : List Value} (hr : RR P n s w0 H fn.results.toList vs) (hv : (match vs with | [u] => u | us => .tuple us.toArray) = v) (hok : okIs H.length is = true) (hp : Bg.pick H is = H' ++ [R]) (hpost : post v H') :
    KS w0 n (bodyPost P fn (fun e w' => ∃ v H', e = .returned v ∧ post v H' ∧ St w0 w' (H' ++ [R])) e) s H :=
  kEndP he is H' (fun a w hF hS => by
    have h2 : (fn.results.mapM (resOne a.tmps)).run P w = .ok vs.toArray w := by
      rw [Array.mapM_eq_mapM_toList, Sem.run_map, hr a w hF hS]
      rfl
    rw [results_eq, Sem.run_bind, h2]
    simp only [Result.andThen_ok, Sem.run_pure]
    subst hv
    match vs with
    | [] => rfl
    | [u] => rfl
    | u :: u' :: us => rw [dif_neg (by simp)]) hok hp hpost

/-! ### Arrays -/
/-- An array type: how long, the element's type, its cells. -/
def arB (P : Program) (t len e m : Nat) : Bool := (match P.underlying t with | some (.array n' e') => Nat.beq n' len && Nat.beq e' e | _ => false) && sizedB P e m
theorem ar_of {t len e m : Nat} (h : arB P t len e m = true) : P.underlying t = some (.array len e) ∧ ∀ w, (Go.sizeOf e).run P w = .ok m w := by
  simp only [arB, Bool.and_eq_true] at h
  obtain ⟨h1, h2⟩ := h
  obtain ⟨z, hz, hzm⟩ := sized_of h2
  refine ⟨?_, fun w => by simp [Go.sizeOf, typeInfo, hz, hzm]⟩
  revert h1; split
  · rename_i a b hu
    intro h1
    simp only [Bool.and_eq_true] at h1
    rw [hu, Nat.eq_of_beq_eq_true h1.1, Nat.eq_of_beq_eq_true h1.2]
  · intro h1; cases h1
/-- An index within an array that lies in memory. -/
theorem tIdxP (hT : TOk P T) {t : TypeId} {len e m : Nat} (ha : arB P t len e m = true) {x y : Operand} {b off : Nat} {k : IntKind} {q : Int} (ho : opAt ops n s i = .go (.indexAddr t x y) d) (hx : evs s x = some (.pointer (some ⟨b, off, none⟩))) (hy : evs s y = some (.int k q)) (hq : 0 ≤ q ∧ q < len)
    (c : runS T ops n (fun l s => TS P ops incs Q w0 n l F s H) l (putS d (.pointer (some ⟨b, off + q.toNat * m, none⟩)) s)) : TS P ops incs Q w0 n (i :: l) F s H := by
  refine TS.float0 ho (fun a w o hop hF => ⟨by simp [isFloat, isFl, hop], ?_⟩) (tR hT c)
  obtain ⟨hu, hsz⟩ := ar_of ha
  have hadd : (⟨b, off, none⟩ : Addr).add (q.toNat * m) = ⟨b, off + q.toNat * m, none⟩ := Addr.add_mid b off _
  have hun : (underlying t).run P w = .ok (.array len e) w := by simp [underlying, hu]
  have hrun : (Instr.indexAt t (.pointer (some ⟨b, off, none⟩)) (.int k q)).run P w = .ok (.pointer (some ⟨b, off + q.toNat * m, none⟩)) w := by
    unfold Instr.indexAt
    simp only [asIntOf, Instr.sureAddr, Sem.run_bind, Sem.run_pure, Result.andThen_ok, hun]
    rw [if_pos hq]
    simp only [Sem.run_bind, hsz, Result.andThen_ok, Sem.run_pure, hadd]
  simp only [execOp, hop, hF.eval hx, hF.eval hy]
  rw [Sem.run_bind, hrun]
  rfl
/-- A cell of an array that is a value. -/
theorem tIdxV (hT : TOk P T) {t : TypeId} {len e : Nat} (ha : arB P t len e 1 = true) (he : hasN T.sc e = true) {x y : Operand} {cs : Array Value} {k : IntKind} {q : Int} {v : Value} (ho : opAt ops n s i = .go (.index t x y) d) (hx : evs s x = some (.agg cs)) (hy : evs s y = some (.int k q)) (hq : 0 ≤ q ∧ q < len) (hv : cs[q.toNat]? = some v)
    (c : runS T ops n (fun l s => TS P ops incs Q w0 n l F s H) l (putS d v s)) : TS P ops incs Q w0 n (i :: l) F s H := by
  refine TS.float0 ho (fun a w o hop hF => ⟨by simp [isFloat, isFl, hop], ?_⟩) (tR hT c)
  obtain ⟨hu, hsz⟩ := ar_of ha
  have hun : (underlying t).run P w = .ok (.array len e) w := by simp [underlying, hu]
  have hrun : (Instr.index t (.agg cs) (.int k q)).run P w = .ok v w := by
    unfold Instr.index
    simp only [asIntOf, Sem.run_bind, Sem.run_pure, Result.andThen_ok, hun]
    rw [if_pos hq]
    rw [Sem.run_bind, hsz]
    simp only [Result.andThen_ok]
    unfold Go.part
    rw [Sem.run_bind, (sc_of hT he).1 w]
    simp [hv]
  simp only [execOp, hop, hF.eval hx, hF.eval hy]
  rw [Sem.run_bind, hrun]
  rfl

/-- An array's value out of its parts. -/
def buildA (T : Tb) (s : Slots) (t m : Nat) (parts : List (Nat × Operand)) : Option (List Value) :=
  match getZ T.zo t with
  | some (true, zs) => match evp s parts with
    | some vs => fillL (fun i : Nat => some (i * m, m)) (zs.map Z.val) vs
    | none => none
  | _ => none
theorem tBdA (hT : TOk P T) {t : Nat} {len e m : Nat} (ha : arB P t len e m = true) {parts : Array (Nat × Operand)} {cs : List Value} (ho : opAt ops n s i = .go (.build t parts) d) (hb : buildA T s t m parts.toList = some cs)
    (k : runS T ops n (fun l s => TS P ops incs Q w0 n l F s H) l (putS d (.agg cs.toArray) s)) : TS P ops incs Q w0 n (i :: l) F s H := by
  refine TS.float0 ho (fun a w o hop hF => ⟨by simp [isFloat, isFl, hop], ?_⟩) (tR hT k)
  obtain ⟨hu, hsz⟩ := ar_of ha
  unfold buildA at hb
  split at hb
  · rename_i zs hz
    split at hb
    · rename_i vs hv
      obtain ⟨z, hz1, hz2, _⟩ := zero_of hT hz
      have hfill := fillL_eq _ vs _ cs hb
      have hparts : (parts.map fun (i, x) => (i, a.eval x)).toList = vs := by simpa using hF.evp hv
      have hun : (underlying t).run P w = .ok (.array len e) w := by simp [underlying, hu]
      have hrun : (Instr.build t (parts.map fun (i, x) => (i, a.eval x))).run P w = .ok (.agg cs.toArray) w := by
        unfold Instr.build
        simp only [Sem.run_bind, hz1 w, Result.andThen_ok, hun, hsz w, hz2, hparts, hfill, Sem.run_pure]
      simp only [execOp, hop]
      rw [Sem.run_bind, hrun]
      rfl
    · cases hb
  · cases hb

/-! ### Quotients -/
theorem tDiv (hT : TOk P T) (rem : Bool) {k : IntKind} {t t' : TypeId} {x y : Operand} {p q r : Int} (ho : opAt ops n s i = .go (.binOp (bif rem then .rem else .quo) t x y t') d) (hx : evs s x = some (.int k p)) (hy : evs s y = some (.int k q)) (hq : q ≠ 0) (hr : (bif rem then p.tmod q else k.wrap (p.tdiv q)) = r)
    (c : runS T ops n (fun l s => TS P ops incs Q w0 n l F s H) l (putS d (.int k r) s)) : TS P ops incs Q w0 n (i :: l) F s H := by
  refine TS.float0 ho (fun a w o hop hF => ⟨by simp [isFloat, isFl, hop], ?_⟩) (tR hT c)
  have hg : ∀ op : BinOp, op = .quo ∨ op = .rem → (eqGuard op t x y (.int k p) (.int k q)).run P w = .ok () w := by intro op h; rcases h with rfl | rfl <;> simp [eqGuard]
  simp only [execOp, hop, hF.eval hx, hF.eval hy]
  rw [Sem.run_bind, Sem.run_bind]
  cases rem with
  | false =>
    simp only [cond_false] at hr
    rw [cond_false, hg _ (.inl rfl)]
    simp only [Result.andThen_ok]
    simp [binOp, Op.intDiv, hq, hr]
  | true =>
    simp only [cond_true] at hr
    rw [cond_true, hg _ (.inr rfl)]
    simp only [Result.andThen_ok]
    simp [binOp, Op.intDiv, hq, hr]

theorem tQuo (hT : TOk P T) {t t' : TypeId} {x y : Operand} {p q : Int} (ho : opAt ops n s i = .go (.binOp .quo t x y t') d) (hx : evs s x = some (.int .i64 p)) (hy : evs s y = some (.int .i64 q)) (hq : q ≠ 0) (hb : -9223372036854775808 ≤ p.tdiv q ∧ p.tdiv q ≤ 9223372036854775807)
    (c : runS T ops n (fun l s => TS P ops incs Q w0 n l F s H) l (putS d (.int .i64 (p.tdiv q)) s)) : TS P ops incs Q w0 n (i :: l) F s H :=
  tDiv hT false ho hx hy hq (wrap64_in hb) c

/-! ### Loops that are unrolled -/
/-- Within a loop, ahead of a round. -/
def LP (P : Program) (c : Code) (Q : Exit → Act → World → Prop) : Act → World → Prop := fun a w => ∀ b k cs, ∃ e a' w', Q e a' w' ∧ Arrives P (lone (b.at a (.code c :: .inLoop c :: k)) cs w) b k cs e a' w'
theorem kLP {c : Code} (round : KS w0 n (c.wp P (Exit.then (LP P c Q) Q)) s H) : KS w0 n (LP P c Q) s H := by
  intro a w hF hS b k cs
  obtain ⟨e, a₁, w₁, hq, harr⟩ := round a w hF hS b (.inLoop c :: k) cs
  cases e with
  | normal =>
    obtain ⟨e₂, a₂, w₂, hq₂, harr₂⟩ := hq b k cs
    exact ⟨e₂, a₂, w₂, hq₂, .of_steps (Steps.trans harr (.one step_inLoop)) harr₂⟩
  | exit id => exact ⟨_, a₁, w₁, hq, .pass (x := .inLoop c) rfl (fun _ _ => .inl (by simp)) harr⟩
  | goto l => exact ⟨_, a₁, w₁, hq, .pass (x := .inLoop c) rfl (fun _ _ => .inl (by simp)) harr⟩
  | ret => exact ⟨_, a₁, w₁, hq, .pass (x := .inLoop c) rfl (fun _ _ => .inl (by simp)) harr⟩
  | panic ch => exact ⟨_, a₁, w₁, hq, .pass (x := .inLoop c) rfl (fun _ _ => .inl (by simp)) harr⟩
  | outgrown => exact ⟨_, a₁, w₁, hq, .pass (x := .inLoop c) rfl (fun _ _ => .inl (by simp)) harr⟩
theorem kUn {c : Code} (round : KS w0 n (c.wp P (Exit.then (LP P c Q) Q)) s H) : KS w0 n ((Code.loop c).wp P Q) s H := by
  intro a w hF hS b k cs
  obtain ⟨e, a₁, w₁, hq, harr⟩ := kLP round a w hF hS b k cs
  exact ⟨e, a₁, w₁, hq, .of_steps (.one step_loop) harr⟩
end
end Bg
