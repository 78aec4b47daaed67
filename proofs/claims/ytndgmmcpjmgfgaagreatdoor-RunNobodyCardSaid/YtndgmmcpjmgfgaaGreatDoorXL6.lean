/- Part 6: structs and slices that are made; slices cut, appended to, copied. -/
import Derived.Test.YtndgmmcpjmgfgaaGreatDoorXL5
set_option linter.unusedSimpArgs false
set_option linter.unusedVariables false
namespace Bg
open Go Go.Proofs

/-! ### Parts of a row put in their places -/
theorem spl_len {vs cs : List Value} {off : Nat} (h : off + cs.length ≤ vs.length) : (spl vs off cs).length = vs.length := by
  unfold spl
  simp
  omega
theorem fold_set (cs : List Value) : ∀ (off : Nat) (vs : List Value) (k : Nat), off + k + cs.length ≤ vs.length →
    ((cs.zipIdx k).foldl (fun (a : Array Value) (x : Value × Nat) => a.setIfInBounds (off + x.2) x.1) vs.toArray) = (spl vs (off + k) cs).toArray := by
  induction cs with
  | nil => intro off vs k h; simp [spl]
  | cons c cs ih =>
    intro off vs k h
    simp only [List.zipIdx_cons, List.foldl_cons]
    have e : (vs.toArray.setIfInBounds (off + k) c) = (vs.set (off + k) c).toArray := by simp
    rw [e, ih off (vs.set (off + k) c) (k + 1) (by simp at h ⊢; omega)]
    congr 1
    simp at h
    unfold spl
    apply List.ext_getElem?
    intro j
    simp only [List.getElem?_append, List.length_append, List.length_take, List.length_set, List.length_cons, List.getElem?_take, List.getElem?_set, List.getElem?_drop]
    by_cases h1 : j < off + k
    · rw [if_pos (by omega), if_pos (by omega), if_pos (by omega), if_neg (by omega), if_pos (by omega), if_pos (by omega), if_pos (by omega)]
    · by_cases h2 : j = off + k
      · subst h2
        rw [if_pos (by omega), if_pos (by omega), if_pos (by omega), if_pos rfl, if_pos (by omega), if_pos (by omega), if_neg (by omega)]
        simp [show min (off + k) vs.length = off + k by omega]
      · by_cases h3 : j < off + k + 1 + cs.length
        · rw [if_pos (by omega), if_neg (by omega), if_pos (by omega), if_neg (by omega)]
          rw [show min (off + (k + 1)) vs.length = off + k + 1 by omega, show min (off + k) vs.length = off + k by omega]
          rw [show j - (off + k) = (j - (off + k + 1)) + 1 by omega]
          simp
        · rw [if_neg (by omega), if_neg (by omega)]
          rw [show min (off + (k + 1)) vs.length = off + k + 1 by omega, show min (off + k) vs.length = off + k by omega]
          rw [if_neg (by omega)]
          congr 1; omega
def fillL (pl : Nat → Option (Nat × Nat)) (cells : List Value) : List (Nat × Value) → Option (List Value)
  | [] => some cells
  | (i, v) :: r => match pl i with
    | none => none
    | some (off, size) => bif Nat.beq v.cells.size size && Nat.ble (off + size) cells.length then fillL pl (spl cells off v.cells.toList) r else none
theorem fillL_eq (pl : Nat → Option (Nat × Nat)) : ∀ (ps : List (Nat × Value)) (cells out : List Value), fillL pl cells ps = some out → Instr.fill pl cells.toArray ps = some out.toArray
  | [], cells, out, h => by simp only [fillL, Option.some.injEq] at h; subst h; rfl
  | (i, v) :: r, cells, out, h => by
    simp only [fillL] at h
    simp only [Instr.fill]
    split at h
    · cases h
    · rename_i off size hp
      rw [hp]
      cases hb : Nat.beq v.cells.size size && Nat.ble (off + size) cells.length with
      | false => simp [hb] at h
      | true =>
        simp only [hb, cond_true] at h
        simp only [Bool.and_eq_true] at hb
        have h1 := Nat.eq_of_beq_eq_true hb.1
        have h2 := Nat.le_of_ble_eq_true hb.2
        simp only
        rw [if_neg (by simp; omega)]
        have e : (v.cells.zipIdx.foldl (fun cs (x : Value × Nat) => cs.setIfInBounds (off + x.2) x.1) cells.toArray) = (spl cells off v.cells.toList).toArray := by
          have := fold_set v.cells.toList off cells 0 (by simp; omega)
          rw [← Array.foldl_toList]
          simpa using this
        have := fillL_eq pl r _ out h
        rw [← e] at this
        exact this
def evp (s : Slots) : List (Nat × Operand) → Option (List (Nat × Value))
  | [] => some []
  | (i, x) :: r => match evs s x with
    | some v => match evp s r with
      | some vs => some ((i, v) :: vs)
      | none => none
    | none => none
theorem Fr.evp {n : Nat} {s : Slots} {a : Act} (F : Fr n s a) : ∀ {xs : List (Nat × Operand)} {vs : List (Nat × Value)}, Bg.evp s xs = some vs → xs.map (fun (i, x) => (i, a.eval x)) = vs
  | [], vs, h => by simp [Bg.evp] at h; simp [h]
  | (i, x) :: r, vs, h => by
    simp only [Bg.evp] at h
    split at h
    · rename_i v hv
      split at h
      · rename_i us hu
        simp only [Option.some.injEq] at h; subst h
        have := F.evp hu
        simp [F.eval hv]
        simpa using this
      · cases h
    · cases h
def zerosOf (T : Tb) (t : Nat) : Option (List Value) := match getZ T.zo t with | some (_, zs) => some (zs.map Z.val) | none => none
/-- A struct's value out of its parts. -/
def buildV (T : Tb) (s : Slots) (t : Nat) (parts : List (Nat × Operand)) : Option (List Value) :=
  match getP T.pl t with
  | some ps => match getZ T.zo t with
    | some (true, zs) => match evp s parts with
      | some vs => fillL (fun i : Nat => ps[i]?) (zs.map Z.val) vs
      | none => none
    | _ => none
  | none => none
section
variable {P : Program} {T : Tb} {ops : Array Oper} {incs : List (Nat × Nat)} {Q : Exit → Act → World → Prop} {w0 : World} {n : Nat} {l : List Nat} {F : Facts} {s : Slots} {H : List Asn} {i : Nat} {d : Option Nat}
theorem pl_of (hT : TOk P T) {t : Nat} {ps : List (Nat × Nat)} (h : getP T.pl t = some ps) : ∃ fs, P.underlying t = some (.struct fs) ∧ ∀ w, (fs.mapM fun f => do pure (f.offset, ← Go.sizeOf f.type) : Sem (Array (Nat × Nat))).run P w = .ok ps.toArray w := by
  have := hT.pl t ps h
  simp only [plB] at this
  split at this
  · rename_i fs hu
    refine ⟨fs, hu, fun w => ?_⟩
    have key : ∀ (fl : List Field) (ps : List (Nat × Nat)), plB.go P fl ps = true → (fl.mapM fun f => do pure (f.offset, ← Go.sizeOf f.type) : Sem (List (Nat × Nat))).run P w = .ok ps w := by
      intro fl
      induction fl with
      | nil => intro ps h; cases ps with
        | nil => rfl
        | cons p ps => simp [plB.go] at h
      | cons f fl ih =>
        intro ps h
        cases ps with
        | nil => simp [plB.go] at h
        | cons p ps =>
          obtain ⟨o, c⟩ := p
          simp only [plB.go, Bool.and_eq_true] at h
          obtain ⟨h1, h2, h3⟩ := h
          split at h2
          · rename_i j hj
            rw [List.mapM_cons]
            simp only [Sem.run_bind, Go.sizeOf, typeInfo, run_program, Result.andThen_ok, hj, Sem.run_pure, Nat.eq_of_beq_eq_true h1, Nat.eq_of_beq_eq_true h2]
            have := ih ps h3
            simp only [Go.sizeOf, typeInfo] at this
            rw [this]; rfl
          · cases h2
    rw [Array.mapM_eq_mapM_toList, Sem.run_map, key fs.toList ps this]
    rfl
  · cases this
theorem tBd (hT : TOk P T) {t : Nat} {parts : Array (Nat × Operand)} {cs : List Value} (ho : opAt ops n s i = .go (.build t parts) d) (hb : buildV T s t parts.toList = some cs)
    (k : runS T ops n (fun l s => TS P ops incs Q w0 n l F s H) l (putS d (.agg cs.toArray) s)) : TS P ops incs Q w0 n (i :: l) F s H := by
  refine TS.float0 ho (fun a w o hop hF => ⟨by simp [isFloat, isFl, hop], ?_⟩) (tR hT k)
  unfold buildV at hb
  split at hb
  · rename_i ps hp
    split at hb
    · rename_i zs hz
      split at hb
      · rename_i vs hv
        obtain ⟨fs, hu, hm⟩ := pl_of hT hp
        obtain ⟨z, hz1, hz2, _⟩ := zero_of hT hz
        have hfill := fillL_eq _ vs _ cs hb
        have hparts : (parts.map fun (i, x) => (i, a.eval x)).toList = vs := by simpa using hF.evp hv
        have hun : (underlying t).run P w = .ok (.struct fs) w := by simp [underlying, hu]
        have hpl : (fun i : Nat => ps.toArray[i]?) = (fun i : Nat => ps[i]?) := by funext i; simp
        have hrun : (Instr.build t (parts.map fun (i, x) => (i, a.eval x))).run P w = .ok (.agg cs.toArray) w := by
          unfold Instr.build
          simp only [Sem.run_bind, hz1 w, Result.andThen_ok, hun, hm w, hz2, hparts, hpl, hfill, Sem.run_pure]
        simp only [execOp, hop]
        rw [Sem.run_bind, hrun]
        rfl
      · cases hb
    · cases hb
  · cases hb

/-! ### A slice written out -/
def seqs : Nat → List (Nat × Operand) → Option (List Operand)
  | _, [] => some []
  | i, (j, x) :: r => bif Nat.beq i j then match seqs (i + 1) r with
      | some xs => some (x :: xs)
      | none => none
    else none
def allCells (m : Nat) : List Value → Option (List Value)
  | [] => some []
  | v :: r => bif Nat.beq v.cells.size m then match allCells m r with
      | some cs => some (v.cells.toList ++ cs)
      | none => none
    else none
theorem allCells_len {m : Nat} : ∀ {vs cs : List Value}, allCells m vs = some cs → cs.length = vs.length * m
  | [], cs, h => by simp [allCells] at h; simp [h]
  | v :: r, cs, h => by
    simp only [allCells] at h
    cases hb : Nat.beq v.cells.size m with
    | false => simp [hb] at h
    | true =>
      simp only [hb, cond_true] at h
      split at h
      · rename_i cs' h'
        simp only [Option.some.injEq] at h; subst h
        have := allCells_len h'
        have := Nat.eq_of_beq_eq_true hb
        simp only [List.length_append, List.length_cons, Array.length_toList, Nat.succ_mul]
        omega
      · cases h
theorem fill_seq {m : Nat} : ∀ (vs cs : List Value) (done rest : List Value) (k : Nat), allCells m vs = some cs → done.length = k * m → rest.length = vs.length * m →
    fillL (fun i => some (i * m, m)) (done ++ rest) ((vs.zipIdx k).map fun (v, i) => (i, v)) = some (done ++ cs)
  | [], cs, done, rest, k, h, _, hr => by
    simp [allCells] at h; subst h
    have : rest = [] := List.eq_nil_of_length_eq_zero (by simpa using hr)
    simp [fillL, this]
  | v :: r, cs, done, rest, k, h, hd, hr => by
    simp only [allCells] at h
    cases hb : Nat.beq v.cells.size m with
    | false => simp [hb] at h
    | true =>
      simp only [hb, cond_true] at h
      have hm := Nat.eq_of_beq_eq_true hb
      split at h
      · rename_i cs' h'
        simp only [Option.some.injEq] at h; subst h
        have hlen : (v :: r).length * m = m + r.length * m := by simp [Nat.succ_mul]; omega
        simp only [List.zipIdx_cons, List.map_cons, fillL, hb, Bool.true_and]
        rw [show Nat.ble (k * m + m) (done ++ rest).length = true from Nat.ble_eq_true_of_le (by simp; omega)]
        simp only [cond_true]
        have e : spl (done ++ rest) (k * m) v.cells.toList = (done ++ v.cells.toList) ++ rest.drop m := by
          unfold spl
          rw [← hd, List.take_left, List.drop_append]
          simp [hm]
        rw [e, fill_seq r cs' (done ++ v.cells.toList) (rest.drop m) (k + 1) h' (by simp [hm, hd, Nat.succ_mul]) (by simp; omega)]
        simp
      · cases h
theorem seqs_map : ∀ {ps : List (Nat × Operand)} {i : Nat} {xs : List Operand} (f : Operand → Value), seqs i ps = some xs → ps.map (fun (j, x) => (j, f x)) = ((xs.map f).zipIdx i).map fun (v, i) => (i, v)
  | [], i, xs, f, h => by simp [seqs] at h; simp [h]
  | (j, x) :: r, i, xs, f, h => by
    simp only [seqs] at h
    cases hb : Nat.beq i j with
    | false => simp [hb] at h
    | true =>
      obtain rfl := Nat.eq_of_beq_eq_true hb
      simp only [Nat.beq_refl, cond_true] at h
      split at h
      · rename_i xs' h'
        simp only [Option.some.injEq] at h; subst h
        have := seqs_map f h'
        simp only [List.map_cons, List.zipIdx_cons]
        rw [this]
      · cases h
def buildS (T : Tb) (s : Slots) (t len : Nat) (parts : List (Nat × Operand)) : Option (Nat × List Value) :=
  match getS T.sl t with
  | some (e, m, _) => match seqs 0 parts with
    | some xs => match evl s xs with
      | some vs => bif Nat.beq vs.length len && (Nat.ble (len * m) 16777216 && (match getZ T.zo e with | some (_, zs) => Nat.beq zs.length m | none => false)) then match allCells m vs with
          | some cs => some (e, cs)
          | none => none
        else none
      | none => none
    | none => none
  | none => none
theorem sl_of (hT : TOk P T) {t e m c : Nat} (h : getS T.sl t = some (e, m, c)) : P.underlying t = some (.slice e) ∧ ∃ i, P.info? e = some i ∧ i.size = m ∧ i.bytes = c := by
  have hs := hT.sl t _ h
  simp only [slB, Bool.and_eq_true] at hs
  obtain ⟨h1, h2, h3⟩ := hs
  refine ⟨?_, ?_⟩
  · revert h1; split
    · rename_i e' hu; intro h1; rw [hu, Nat.eq_of_beq_eq_true h1]
    · intro h1; cases h1
  · obtain ⟨z, hz, hzm⟩ := sized_of h2
    rw [hz] at h3
    exact ⟨z, hz, hzm, Nat.eq_of_beq_eq_true h3⟩
theorem tBS (hT : TOk P T) {t len e : Nat} {parts : Array (Nat × Operand)} {cs : List Value} (ho : opAt ops n s i = .go (.buildSlice t len parts) d) (hb : buildS T s t len parts.toList = some (e, cs))
    (hO : ∀ b w, St w0 w (pt b cs e :: H) → Owed incs i F w)
    (k : ∀ b, runS T ops n (fun l s => TS P ops incs Q w0 n l F s (pt b cs e :: H)) l (putS d (.slice (some ⟨b, 0, none⟩) len len) s)) : TS P ops incs Q w0 n (i :: l) F s H := by
  refine TS.new hT (v := fun b => .slice (some ⟨b, 0, none⟩) len len) (obj := .cells cs.toArray e (0, 0)) ho rfl (fun a w o hop hF => ?_) hO k
  unfold buildS at hb
  split at hb
  · rename_i e' m c hs
    split at hb
    · rename_i xs hx
      split at hb
      · rename_i vs hv
        cases hc : Nat.beq vs.length len && (Nat.ble (len * m) 16777216 && (match getZ T.zo e' with | some (_, zs) => Nat.beq zs.length m | none => false)) with
        | false => rw [hc] at hb; simp at hb
        | true =>
          rw [hc] at hb
          simp only [cond_true] at hb
          simp only [Bool.and_eq_true] at hc
          obtain ⟨hc1, hc2, hc3⟩ := hc
          have hlen := Nat.eq_of_beq_eq_true hc1
          have hmax := Nat.le_of_ble_eq_true hc2
          split at hb
          · rename_i cs' hcs
            simp only [Option.some.injEq, Prod.mk.injEq] at hb
            obtain ⟨rfl, rfl⟩ := hb
            obtain ⟨hu, z, hz, hzm, _⟩ := sl_of hT hs
            split at hc3
            · rename_i q zs hzz
              obtain ⟨zv, z1, z2, _⟩ := zero_of hT hzz
              have hun : (underlying t).run P w = .ok (.slice e') w := by simp [underlying, hu]
              have hsz : (Go.sizeOf e').run P w = .ok m w := by simp [Go.sizeOf, typeInfo, hz, hzm]
              have hparts : (parts.map fun (i, x) => (i, a.eval x)).toList = (vs.zipIdx 0).map fun (v, i) => (i, v) := by
                have := seqs_map a.eval hx
                rw [hF.evl hv] at this
                simpa using this
              have hfill : ∀ zc : Array Value, zc.size = len * m → Instr.fill (fun i => some (i * m, m)) zc ((vs.zipIdx 0).map fun (v, i) => (i, v)) = some cs'.toArray := fun zc hzc => by
                have := fill_seq (m := m) vs cs' [] zc.toList 0 hcs (by simp) (by simp [hzc, hlen])
                simp only [List.nil_append] at this
                have := fillL_eq _ _ _ _ this
                simpa using this
              have hrun : (Instr.buildSlice t len (parts.map fun (i, x) => (i, a.eval x))).run P w = .ok (.slice (some ⟨w.heap.size, 0, none⟩) len len) (w.alloc (.cells cs'.toArray e' (0, 0))) := by
                unfold Instr.buildSlice
                simp only [Sem.run_bind, hun, Result.andThen_ok, hsz]
                rw [if_neg (by omega)]
                by_cases h0 : len * m = 0
                · simp only [h0, if_true, Sem.run_pure, Result.andThen_ok, hparts, Sem.run_bind]
                  rw [hfill _ (by simp [h0])]
                  simp [newRow]
                · simp only [h0, if_false, Sem.run_bind, z1 w, Result.andThen_ok, Sem.run_pure, hparts]
                  rw [hfill _ (by simp)]
                  simp [newRow]
              simp only [execOp, hop]
              rw [Sem.run_bind, hrun]
              rfl
            · cases hc3
          · cases hb
      · cases hb
    · cases hb
  · cases hb
end
end Bg
