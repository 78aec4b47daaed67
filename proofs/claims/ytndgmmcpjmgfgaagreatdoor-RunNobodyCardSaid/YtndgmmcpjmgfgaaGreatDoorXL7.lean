/- Part 7: slices cut, appended to, copied; whole numbers turned and shifted. -/
import Derived.Test.YtndgmmcpjmgfgaaGreatDoorXL6
set_option linter.unusedSimpArgs false
set_option linter.unusedVariables false
namespace Bg
open Go Go.Proofs

section
variable {P : Program} {T : Tb} {ops : Array Oper} {incs : List (Nat × Nat)} {Q : Exit → Act → World → Prop} {w0 : World} {n : Nat} {l : List Nat} {F : Facts} {s : Slots} {H : List Asn} {i : Nat} {d : Option Nat}
/-- A bound of a cut. -/
def evo (s : Slots) (dflt : Int) : Option Operand → Option Int
  | none => some dflt
  | some x => match evs s x with
    | some (.int _ q) => some q
    | _ => none
def adr (a : Option Addr) (cap L m : Nat) : Option Addr := if cap = L then a else a.map (·.add (L * m))
theorem run_bound {k : IntKind} {q : Int} (L y : Nat) (c : BoundsCode) (hq : q = (L : Int)) (hle : L ≤ y) (w : World) : (Instr.sliceBound (.int k q) y c).run P w = .ok L w := by
  subst hq
  unfold Instr.sliceBound
  simp only [asIntOf, Sem.run_bind, Sem.run_pure, Result.andThen_ok]
  rw [if_pos ⟨by omega, by omega⟩]
  simp
theorem tSl (hT : TOk P T) (L R : Nat) {t : Nat} {x : Operand} {lo hi : Option Operand} {A : Option Addr} {len cap e m c : Nat} {q r : Int} (ho : opAt ops n s i = .go (.slice t x lo hi none) d) (hx : evs s x = some (.slice A len cap)) (ht : getS T.sl t = some (e, m, c))
    (hlo : evo s 0 lo = some q) (hhi : evo s len hi = some r) (hq : q = L ∧ r = R ∧ L ≤ R ∧ R ≤ cap)
    (k : runS T ops n (fun l s => TS P ops incs Q w0 n l F s H) l (putS d (.slice (adr A cap L m) (R - L) (cap - L)) s)) : TS P ops incs Q w0 n (i :: l) F s H := by
  refine TS.float0 ho (fun a w o hop hF => ⟨by simp [isFloat, isFl, hop], ?_⟩) (tR hT k)
  obtain ⟨hq, hr, hLR, hRc⟩ := hq
  obtain ⟨hu, z, hz, hzm, _⟩ := sl_of hT ht
  have hun : ∀ t', P.underlying t' = some (.slice e) → (underlying t').run P w = .ok (.slice e) w := fun t' h => by simp [underlying, h]
  have hsz : (Go.sizeOf e).run P w = .ok m w := by simp [Go.sizeOf, typeInfo, hz, hzm]
  have hb : (Instr.sliceBounds true len cap (lo.map a.eval) (hi.map a.eval) none).run P w = .ok (L, R, cap) w := by
    unfold Instr.sliceBounds
    simp only [Sem.run_bind, Sem.run_pure, Result.andThen_ok]
    cases hi with
    | none =>
      simp only [evo, Option.some.injEq] at hhi
      have : len = R := by omega
      subst this
      simp only [Option.map_none, Sem.run_pure, Result.andThen_ok]
      cases lo with
      | none =>
        simp only [evo, Option.some.injEq] at hlo
        have : L = 0 := by omega
        subst this
        rfl
      | some y =>
        simp only [evo] at hlo
        split at hlo
        · rename_i k' q' hy
          simp only [Option.some.injEq] at hlo
          simp only [Option.map_some, hF.eval hy, Sem.run_bind, run_bound (k := k') (q := q') L len _ (by omega) hLR w, Result.andThen_ok, Sem.run_pure]
        · cases hlo
    | some y' =>
      simp only [evo] at hhi
      split at hhi
      · rename_i k'' r' hy'
        simp only [Option.some.injEq] at hhi
        simp only [Option.map_some, hF.eval hy', Sem.run_bind, run_bound (k := k'') (q := r') R cap _ (by omega) hRc w, Result.andThen_ok]
        cases lo with
        | none =>
          simp only [evo, Option.some.injEq] at hlo
          have : L = 0 := by omega
          subst this
          rfl
        | some y =>
          simp only [evo] at hlo
          split at hlo
          · rename_i k' q' hy
            simp only [Option.some.injEq] at hlo
            simp only [Option.map_some, hF.eval hy, Sem.run_bind, run_bound (k := k') (q := q') L R _ (by omega) hLR w, Result.andThen_ok, Sem.run_pure]
          · cases hlo
      · cases hhi
  have hrun : (Instr.sliceAt t (.slice A len cap) (lo.map a.eval) (hi.map a.eval) none).run P w = .ok (.slice (adr A cap L m) (R - L) (cap - L)) w := by
    unfold Instr.sliceAt Instr.slice
    simp only [Sem.run_bind, hun t hu, Result.andThen_ok, hb, hsz, Sem.run_pure, adr]
  simp only [execOp, hop, hF.eval hx, Option.map_none]
  rw [Sem.run_bind, hrun]
  rfl

/-! Appends. -/
/-- The cells that are appended lie somewhere, unwritten. -/
theorem run_first {w : World} {m k : Nat} {A : Option Addr} {n' c : Nat} {cs : List Value} (hl : cs.length = k * m) (h : 0 < cs.length → ∃ b off, A = some ⟨b, off, none⟩ ∧ w.rangeAt b off cs) :
    (Builtin.firstCells m k (.slice A n' c)).run P w = .ok cs.toArray w := by
  unfold Builtin.firstCells
  rcases Nat.eq_zero_or_pos cs.length with h0 | h0
  · have : cs = [] := List.eq_nil_of_length_eq_zero h0
    subst this
    have hz : k * m = 0 := by simpa using hl.symm
    cases A with
    | none => rfl
    | some a => simp only [hz]; rfl
  · obtain ⟨b, off, rfl, hr⟩ := h h0
    rw [← hl]
    exact run_loadCells_list w ⟨b, off, none⟩ cs fun j v hv => by rw [Addr.add_mid]; exact hr j v hv
theorem nextcap_le (need cap : Nat) (h : cap < need) : Builtin.nextslicecap need cap ≤ 4 * need + 2048 := by
  unfold Builtin.nextslicecap
  split
  · omega
  · split
    · omega
    · simp only [Builtin.growBy]
      repeat' split
      all_goals omega
/-- append(s, x...), the one's cells in the own block from off on, room or not. -/
theorem run_append_fit {w : World} {t t' e m by' : Nat} (hT : TOk P T) (ht : getS T.sl t = some (e, m, by')) (ht' : ∃ q, getS T.sl t' = some q) {A B : Option Addr} {len cap k c : Nat} {cs : List Value}
    (hfit : len + k ≤ cap) (hl : cs.length = k * m) (hr : 0 < cs.length → ∃ b off, B = some ⟨b, off, none⟩ ∧ w.rangeAt b off cs) (hA : 0 < cs.length → A ≠ none) (ty : TypeId) :
    (Builtin.append_ #[t, t'] ty #[.slice A len cap, .slice B k c]).run P w = (match A with | some a => (storeCells (a.add (len * m)) cs 0).run P w | none => .ok () w).andThen fun _ w' => .ok (.slice A (len + k) cap) w' := by
  obtain ⟨hu, z, hz, hzm, hzb⟩ := sl_of hT ht
  obtain ⟨⟨e', m', c'⟩, hq⟩ := ht'
  obtain ⟨hu', _⟩ := sl_of hT hq
  have hun : (underlying t).run P w = .ok (.slice e) w := by simp [underlying, hu]
  have hun' : (underlying t').run P w = .ok (.slice e') w := by simp [underlying, hu']
  have hsz : (Go.sizeOf e).run P w = .ok m w := by simp [Go.sizeOf, typeInfo, hz, hzm]
  unfold Builtin.append_
  simp only [List.getElem?_toArray, List.getElem?_cons_zero, List.getElem?_cons_succ, Sem.run_bind, hun, hun', Result.andThen_ok, hsz, Sem.run_pure]
  simp only [Bool.false_eq_true, if_false, Builtin.lenOf, Sem.run_bind, Sem.run_pure, Result.andThen_ok]
  rw [if_pos hfit]
  simp only [Bool.not_false, if_true, Sem.run_bind, run_first (P := P) hl hr, Result.andThen_ok]
  cases A with
  | none => rfl
  | some a => simp only [Sem.run_bind, Sem.run_pure]
theorem run_append_grow {w : World} {t t' e m by' : Nat} (hT : TOk P T) (ht : getS T.sl t = some (e, m, by')) (ht' : ∃ q, getS T.sl t' = some q) {A B : Option Addr} {len cap k c : Nat} {old cs : List Value} {zs : List Z} {ag : Bool} (hz0 : getZ T.zo e = some (ag, zs)) (hzl : zs.length = m) (hby : 0 < by')
    (hgrow : cap < len + k) (hl : cs.length = k * m) (hr : 0 < cs.length → ∃ b off, B = some ⟨b, off, none⟩ ∧ w.rangeAt b off cs) (hlo : old.length = len * m) (hro : 0 < old.length → ∃ b off, A = some ⟨b, off, none⟩ ∧ w.rangeAt b off old) (hbig : (4 * (len + k) + 2048) * by' ≤ 2 ^ 48) (ty : TypeId) :
    ∃ nc, len + k ≤ nc ∧ (Builtin.append_ #[t, t'] ty #[.slice A len cap, .slice B k c]).run P w = .ok (.slice (some ⟨w.heap.size, 0, none⟩) (len + k) nc) (w.drew.alloc (.cells (old ++ cs ++ (Builtin.zeroCells (zs.map Z.val).toArray (nc - (len + k))).toList).toArray e (0, 0))) := by
  obtain ⟨hu, z, hz, hzm, hzb⟩ := sl_of hT ht
  obtain ⟨⟨e', m', c'⟩, hq⟩ := ht'
  obtain ⟨hu', _⟩ := sl_of hT hq
  obtain ⟨zv, z1, z2, _⟩ := zero_of hT hz0
  have hun : (underlying t).run P w = .ok (.slice e) w := by simp [underlying, hu]
  have hun' : (underlying t').run P w = .ok (.slice e') w := by simp [underlying, hu']
  have hsz : (Go.sizeOf e).run P w = .ok m w := by simp [Go.sizeOf, typeInfo, hz, hzm]
  have hinf : ∀ w, (typeInfo e).run P w = .ok z w := fun w => by simp [typeInfo, hz]
  have hnb : ¬ (Builtin.nextslicecap (len + k) cap * z.bytes > 2 ^ 48) := by
    rw [hzb]
    have := Nat.mul_le_mul_right by' (nextcap_le (len + k) cap hgrow)
    omega
  refine ⟨(Question.appendCap (len + k) cap e).cut (w.tape w.drawn (.appendCap (len + k) cap e)), ?_, ?_⟩
  · simp only [Question.cut]; omega
  unfold Builtin.append_
  simp only [List.getElem?_toArray, List.getElem?_cons_zero, List.getElem?_cons_succ, Sem.run_bind, hun, hun', Result.andThen_ok, hsz, Sem.run_pure]
  simp only [Bool.false_eq_true, if_false, Builtin.lenOf, Sem.run_bind, Sem.run_pure, Result.andThen_ok]
  rw [if_neg (by omega)]
  simp only [Sem.run_bind, hinf, Result.andThen_ok, false_or]
  have hz0' : ¬ (((len + k : Nat) : Int) > IntKind.i64.max ∧ z.bytes = 0) := by rintro ⟨_, h⟩; omega
  rw [if_neg hz0']
  simp only [Sem.run_bind, hinf, Result.andThen_ok, Sem.run_pure]
  rw [if_neg hnb]
  have hch : (choose (.appendCap (len + k) cap e)).run P w = .ok ((Question.appendCap (len + k) cap e).cut (w.tape w.drawn (.appendCap (len + k) cap e))) w.drew := by
    simp [choose, Sem.run, Question.forced]
  simp only [Sem.run_bind, hch, Result.andThen_ok, hinf, run_askRoom]
  have ho := run_first (P := P) (w := w.drew) (m := m) (k := len) (A := A) (n' := len) (c := cap) hlo (fun h => hro h)
  have hc := run_first (P := P) (w := w.drew) (m := m) (k := k) (A := B) (n' := k) (c := c) hl (fun h => hr h)
  rw [ho]
  simp only [Result.andThen_ok, Sem.run_bind, Bool.not_false, if_true, hc, z1, z2, newRow, run_newObj, Sem.run_pure]
  congr 1
  congr 2
  simp
end
end Bg
