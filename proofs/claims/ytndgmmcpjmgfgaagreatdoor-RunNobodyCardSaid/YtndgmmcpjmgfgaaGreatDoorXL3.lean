/- Part 3: the judgement on code; operations that leave the heap alone. -/
import Derived.Test.YtndgmmcpjmgfgaaGreatDoorXL2
import Derived.Deep.MidRow
set_option linter.unusedSimpArgs false
set_option linter.unusedVariables false
namespace Bg
open Go

/-! ### What is known of the program's types -/
/-- A cell of a zero value. -/
inductive Z where
  | int (k : IntKind)
  | bool
  | str
  | ptr
  | slc
  | map
  | fn
  | ifc
def Z.val : Z → Value
  | .int k => .int k 0
  | .bool => .bool false
  | .str => .string ⟨#[]⟩
  | .ptr => .pointer none
  | .slc => .slice none 0 0
  | .map => .map none
  | .fn => .nilFunc
  | .ifc => .nilIface
structure Tb where
  /-- struct type, field, where it begins -/
  fo : List (Nat × Nat × Nat)
  /-- types of one cell that are no aggregate -/
  sc : List Nat
  /-- structs and arrays, and how many cells they have -/
  ag : List (Nat × Nat)
  /-- slice types: the element's type, its cells, its bytes -/
  sl : List (Nat × Nat × Nat × Nat)
  /-- types of strings -/
  st : List Nat
  /-- pointer types to what has cells -/
  pt : List Nat
  /-- zero values: is it an aggregate, and its cells -/
  zo : List (Nat × Bool × List Z)
  /-- structs: where the fields begin, and their cells -/
  pl : List (Nat × List (Nat × Nat))
def Tb.off (T : Tb) (s i : Nat) : Option Nat := go T.fo where
  go : List (Nat × Nat × Nat) → Option Nat
    | [] => none
    | (a, b, c) :: r => bif Nat.beq a s && Nat.beq b i then some c else go r
def hasN : List Nat → Nat → Bool
  | [], _ => false
  | a :: r, t => bif Nat.beq a t then true else hasN r t
def getN : List (Nat × Nat) → Nat → Option Nat
  | [], _ => none
  | (a, c) :: r, t => bif Nat.beq a t then some c else getN r t
def getS : List (Nat × Nat × Nat × Nat) → Nat → Option (Nat × Nat × Nat)
  | [], _ => none
  | (a, c) :: r, t => bif Nat.beq a t then some c else getS r t
def getZ : List (Nat × Bool × List Z) → Nat → Option (Bool × List Z)
  | [], _ => none
  | (a, c) :: r, t => bif Nat.beq a t then some c else getZ r t
def getP : List (Nat × List (Nat × Nat)) → Nat → Option (List (Nat × Nat))
  | [], _ => none
  | (a, c) :: r, t => bif Nat.beq a t then some c else getP r t
def kEq : IntKind → IntKind → Bool
  | .i8, .i8 | .i16, .i16 | .i32, .i32 | .i64, .i64 | .u8, .u8 | .u16, .u16 | .u32, .u32 | .u64, .u64 => true
  | _, _ => false
theorem kEq_eq {a b : IntKind} (h : kEq a b = true) : a = b := by cases a <;> cases b <;> first | rfl | cases h
def zcB : Value → Z → Bool
  | .int k 0, .int k' => kEq k k'
  | .bool false, .bool => true
  | .string s, .str => Nat.beq s.size 0
  | .pointer none, .ptr => true
  | .slice none 0 0, .slc => true
  | .map none, .map => true
  | .nilFunc, .fn => true
  | .nilIface, .ifc => true
  | _, _ => false
theorem zcB_eq {v : Value} {z : Z} (h : zcB v z = true) : v = z.val := by
  unfold zcB at h
  split at h <;> first
    | (rw [kEq_eq h]; rfl)
    | rfl
    | (rename_i s; obtain ⟨d⟩ := s; have := Nat.eq_of_beq_eq_true h; simp only [ByteArray.size] at this; have : d = #[] := by simpa using this
       subst this; rfl)
    | cases h
def zlB : List Value → List Z → Bool
  | [], [] => true
  | v :: r, z :: q => zcB v z && zlB r q
  | _, _ => false
theorem zlB_eq : ∀ {vs : List Value} {zs : List Z}, zlB vs zs = true → vs = zs.map Z.val
  | [], [], _ => rfl
  | v :: r, z :: q, h => by
    simp only [zlB, Bool.and_eq_true] at h
    rw [zcB_eq h.1, zlB_eq h.2]; rfl
def zoB (P : Program) : Nat × Bool × List Z → Bool
  | (t, a, zs) => match P.info? t with
    | some i => match i.zero with
      | some (.agg cs) => a && zlB cs.toList zs
      | some v => !a && zlB [v] zs
      | none => false
    | none => false
def plB (P : Program) : Nat × List (Nat × Nat) → Bool
  | (t, ps) => match P.underlying t with
    | some (.struct fs) => go P fs.toList ps
    | _ => false
where go (P : Program) : List Field → List (Nat × Nat) → Bool
  | [], [] => true
  | f :: r, (o, c) :: q => Nat.beq f.offset o && ((match P.info? f.type with | some i => Nat.beq i.size c | none => false) && go P r q)
  | _, _ => false
def sizedB (P : Program) (t n : Nat) : Bool := match P.info? t with | some i => Nat.beq i.size n | none => false
def foB (P : Program) : Nat × Nat × Nat → Bool
  | (s, i, c) => match P.underlying s with
    | some (.struct fs) => match fs[i]? with
      | some f => Nat.beq f.offset c && (match P.info? f.type with | some j => !Nat.beq j.size 0 | none => false)
      | none => false
    | _ => false
def scB (P : Program) (t : Nat) : Bool := (match P.underlying t with | some (.struct _) => false | some (.array _ _) => false | some _ => true | none => false) && sizedB P t 1
def agB (P : Program) : Nat × Nat → Bool
  | (t, n) => (match P.underlying t with | some (.struct _) => true | some (.array _ _) => true | _ => false) && sizedB P t n
def slB (P : Program) : Nat × Nat × Nat × Nat → Bool
  | (t, e, n, b) => (match P.underlying t with | some (.slice e') => Nat.beq e' e | _ => false) && (sizedB P e n && (match P.info? e with | some i => Nat.beq i.bytes b | none => false))
def stB (P : Program) (t : Nat) : Bool := match P.underlying t with | some .string => true | _ => false
def ptB (P : Program) (t : Nat) : Bool := match P.underlying t with | some (.pointer e) => (match P.info? e with | some i => !Nat.beq i.size 0 | none => false) | _ => false
def tbB (P : Program) (T : Tb) : Bool := T.fo.all (foB P) && (T.sc.all (scB P) && (T.ag.all (agB P) && (T.sl.all (slB P) && (T.st.all (stB P) && (T.pt.all (ptB P) && (T.zo.all (zoB P) && T.pl.all (plB P)))))))

section
variable {P : Program} {T : Tb}
structure TOk (P : Program) (T : Tb) : Prop where
  fo : ∀ s i c, T.off s i = some c → foB P (s, i, c) = true
  sc : ∀ t, hasN T.sc t = true → scB P t = true
  ag : ∀ t n, getN T.ag t = some n → agB P (t, n) = true
  sl : ∀ t x, getS T.sl t = some x → slB P (t, x) = true
  st : ∀ t, hasN T.st t = true → stB P t = true
  pt : ∀ t, hasN T.pt t = true → ptB P t = true
  zo : ∀ t x, getZ T.zo t = some x → zoB P (t, x) = true
  pl : ∀ t x, getP T.pl t = some x → plB P (t, x) = true
theorem hasN_all {p : Nat → Bool} : ∀ {l : List Nat} {t : Nat}, l.all p = true → hasN l t = true → p t = true
  | a :: r, t, h, ht => by
    simp only [List.all_cons, Bool.and_eq_true] at h
    simp only [hasN] at ht
    cases hb : Nat.beq a t with
    | true => obtain rfl := Nat.eq_of_beq_eq_true hb; exact h.1
    | false => simp only [hb, cond_false] at ht; exact hasN_all h.2 ht
theorem getN_all {p : Nat × Nat → Bool} : ∀ {l : List (Nat × Nat)} {t n : Nat}, l.all p = true → getN l t = some n → p (t, n) = true
  | (a, c) :: r, t, n, h, ht => by
    simp only [List.all_cons, Bool.and_eq_true] at h
    simp only [getN] at ht
    cases hb : Nat.beq a t with
    | true => obtain rfl := Nat.eq_of_beq_eq_true hb; simp only [Nat.beq_refl, cond_true, Option.some.injEq] at ht; subst ht; exact h.1
    | false => simp only [hb, cond_false] at ht; exact getN_all h.2 ht
theorem getS_all {p : Nat × Nat × Nat × Nat → Bool} : ∀ {l : List (Nat × Nat × Nat × Nat)} {t : Nat} {x : Nat × Nat × Nat}, l.all p = true → getS l t = some x → p (t, x) = true
  | (a, c) :: r, t, x, h, ht => by
    simp only [List.all_cons, Bool.and_eq_true] at h
    simp only [getS] at ht
    cases hb : Nat.beq a t with
    | true => obtain rfl := Nat.eq_of_beq_eq_true hb; simp only [Nat.beq_refl, cond_true, Option.some.injEq] at ht; subst ht; exact h.1
    | false => simp only [hb, cond_false] at ht; exact getS_all h.2 ht
theorem getZ_all {p : Nat × Bool × List Z → Bool} : ∀ {l : List (Nat × Bool × List Z)} {t : Nat} {x : Bool × List Z}, l.all p = true → getZ l t = some x → p (t, x) = true
  | (a, c) :: r, t, x, h, ht => by
    simp only [List.all_cons, Bool.and_eq_true] at h
    simp only [getZ] at ht
    cases hb : Nat.beq a t with
    | true => obtain rfl := Nat.eq_of_beq_eq_true hb; simp only [Nat.beq_refl, cond_true, Option.some.injEq] at ht; subst ht; exact h.1
    | false => simp only [hb, cond_false] at ht; exact getZ_all h.2 ht
theorem getP_all {p : Nat × List (Nat × Nat) → Bool} : ∀ {l : List (Nat × List (Nat × Nat))} {t : Nat} {x : List (Nat × Nat)}, l.all p = true → getP l t = some x → p (t, x) = true
  | (a, c) :: r, t, x, h, ht => by
    simp only [List.all_cons, Bool.and_eq_true] at h
    simp only [getP] at ht
    cases hb : Nat.beq a t with
    | true => obtain rfl := Nat.eq_of_beq_eq_true hb; simp only [Nat.beq_refl, cond_true, Option.some.injEq] at ht; subst ht; exact h.1
    | false => simp only [hb, cond_false] at ht; exact getP_all h.2 ht
theorem off_all {p : Nat × Nat × Nat → Bool} : ∀ {l : List (Nat × Nat × Nat)} {s i c : Nat}, l.all p = true → Tb.off.go s i l = some c → p (s, i, c) = true
  | (a, b, d) :: r, s, i, c, h, ht => by
    simp only [List.all_cons, Bool.and_eq_true] at h
    simp only [Tb.off.go] at ht
    cases hb : Nat.beq a s && Nat.beq b i with
    | true =>
      simp only [Bool.and_eq_true] at hb
      obtain rfl := Nat.eq_of_beq_eq_true hb.1
      obtain rfl := Nat.eq_of_beq_eq_true hb.2
      simp only [Nat.beq_refl, Bool.and_self, cond_true, Option.some.injEq] at ht; subst ht; exact h.1
    | false => simp only [hb, cond_false] at ht; exact off_all h.2 ht
theorem TOk.of (h : tbB P T = true) : TOk P T := by
  simp only [tbB, Bool.and_eq_true] at h
  obtain ⟨h1, h2, h3, h4, h5, h6, h7, h8⟩ := h
  exact ⟨fun s i c hc => off_all h1 hc, fun t ht => hasN_all h2 ht, fun t n ht => getN_all h3 ht, fun t x ht => getS_all h4 ht, fun t ht => hasN_all h5 ht, fun t ht => hasN_all h6 ht, fun t x ht => getZ_all h7 ht, fun t x ht => getP_all h8 ht⟩

theorem sized_of {t n : Nat} (h : sizedB P t n = true) : ∃ i, P.info? t = some i ∧ i.size = n := by
  unfold sizedB at h
  split at h
  · rename_i i hi; exact ⟨i, hi, Nat.eq_of_beq_eq_true h⟩
  · cases h
theorem zero_of (hT : TOk P T) {t : Nat} {a : Bool} {zs : List Z} (h : getZ T.zo t = some (a, zs)) : ∃ z, (∀ w, (zeroValue t).run P w = .ok z w) ∧ z.cells = (zs.map Z.val).toArray ∧ (a = true → z = .agg (zs.map Z.val).toArray) ∧ (a = false → zs.map Z.val = [z]) := by
  have := hT.zo t _ h
  simp only [zoB] at this
  split at this
  · rename_i i hi
    split at this
    · rename_i cs hz
      simp only [Bool.and_eq_true] at this
      have e : cs = (zs.map Z.val).toArray := by rw [← zlB_eq this.2]
      exact ⟨.agg cs, fun w => by simp [zeroValue, typeInfo, hi, hz], by simp [Value.cells, e], fun _ => by rw [e], fun ha => by rw [ha] at this; exact absurd this.1 (by simp)⟩
    · rename_i v hna hz
      simp only [Bool.and_eq_true, Bool.not_eq_true'] at this
      have e := zlB_eq this.2
      refine ⟨v, fun w => by simp [zeroValue, typeInfo, hi, hz], ?_, fun ha => by rw [ha] at this; exact absurd this.1 (by simp), fun _ => e.symm⟩
      rw [← e]
      cases v <;> first | rfl | exact absurd rfl (hna _)
    · cases this
  · cases this
theorem run_fieldAt (hT : TOk P T) {s i c : Nat} (h : T.off s i = some c) (b o : Nat) (w : World) : (Instr.fieldAt s (.pointer (some ⟨b, o, none⟩)) i).run P w = .ok (.pointer (some ⟨b, o + c, none⟩)) w := by
  have := hT.fo s i c h
  simp only [foB] at this
  split at this
  · rename_i fs hu
    split at this
    · rename_i f hf
      simp only [Bool.and_eq_true] at this
      obtain ⟨h1, h2⟩ := this
      obtain rfl := Nat.eq_of_beq_eq_true h1
      split at h2
      · rename_i j hj
        have hz : ¬ j.size = 0 := by intro e; rw [e] at h2; simp at h2
        have hadd : (⟨b, o, none⟩ : Addr).add f.offset = ⟨b, o + f.offset, none⟩ := Addr.add_mid b o _
        simp [Instr.fieldAt, Instr.sureAddr, fieldPlace, underlying, Go.sizeOf, typeInfo, hu, hf, hj, hz, hadd]
      · cases h2
    · cases this
  · cases this
end

/-! ### Values of operations that look at no memory -/
def addO : Nat → Nat → Nat
  | 0, c => c
  | o + 1, c => o + 1 + c
theorem addO_eq (o c : Nat) : addO o c = o + c := by cases o <;> simp [addO]
def bin (op : BinOp) (x y : Value) : Option Value :=
  match x, y with
  | .int k a, .int k' b => bif kEq k k' then match op with
      | .eql => some (.bool (decide (a = b)))
      | .neq => some (.bool (!decide (a = b)))
      | .lss => some (.bool (decide (a < b)))
      | .leq => some (.bool (decide (a ≤ b)))
      | .gtr => some (.bool (decide (b < a)))
      | .geq => some (.bool (decide (b ≤ a)))
      | _ => none
    else none
  | _, _ => none
theorem bin_ok {P : Program} {op : BinOp} {x y v : Value} (t : TypeId) (X Y : Operand) (h : bin op x y = some v) (w : World) : (do eqGuard op t X Y x y; binOp op t x y : Sem Value).run P w = .ok v w := by
  unfold bin at h
  split at h
  · rename_i k a k' b
    cases hk : kEq k k' with
    | false => simp [hk] at h
    | true =>
      obtain rfl := kEq_eq hk
      simp only [hk, cond_true] at h
      have hg : (eqGuard op t X Y (.int k a) (.int k b)).run P w = .ok () w := by
        unfold eqGuard
        split <;> simp
      rw [Sem.run_bind, hg]
      simp only [Result.andThen_ok]
      cases op <;> first
        | (cases h; done)
        | (obtain rfl := Option.some.inj h
           simp only [binOp, ne_eq, not_true_eq_false, if_false, Op.intCmp, Sem.run_pure]
           all_goals first | rfl | (by_cases hab : a = b <;> simp [hab]))
  · cases h
def sval (T : Tb) (s : Slots) (op : Op) : Option Value :=
  match op with
  | .move x => evs s x
  | .assign x => evs s x
  | .pick c a b => match evs s c with
    | some (.bool true) => evs s a
    | some (.bool false) => evs s b
    | _ => none
  | .nilCheck x => match evs s x with
    | some (.pointer (some p)) => some (.pointer (some p))
    | _ => none
  | .fieldAddr st x i => match evs s x with
    | some (.pointer (some ⟨b, o, none⟩)) => match T.off st i with
      | some c => some (.pointer (some ⟨b, addO o c, none⟩))
      | none => none
    | _ => none
  | .extract x i => match evs s x with
    | some (.tuple vs) => vs.toList[i]?
    | _ => none
  | .unOp .not _ x => match evs s x with
    | some (.bool b) => some (.bool (!b))
    | _ => none
  | .binOp op _ x y _ => match evs s x, evs s y with
    | some a, some b => bin op a b
    | _, _ => none
  | .call { callee := .builtin .len, args := as, argTypes := ts } => match as.toList, ts.toList with
    | [x], [t] => match evs s x with
      | some (.slice _ n _) => match getS T.sl t with
        | some _ => some (.int .i64 n)
        | none => none
      | some (.string b) => bif hasN T.st t then some (.int .i64 b.size) else none
      | _ => none
    | _, _ => none
  | .call { callee := .builtin .max, args := as, argTypes := _ } => match as.toList with
    | [x, y] => match evs s x, evs s y with
      | some (.int k a), some (.int _ b) => some (.int k (max a b))
      | _, _ => none
    | _ => none
  | .call { callee := .builtin .min, args := as, argTypes := _ } => match as.toList with
    | [x, y] => match evs s x, evs s y with
      | some (.int k a), some (.int _ b) => some (.int k (min a b))
      | _, _ => none
    | _ => none
  | _ => none

theorem Fr.args1 {n : Nat} {s : Slots} {a : Act} (F : Fr n s a) {as : Array Operand} {x : Operand} {v : Value} (h : as.toList = [x]) (hx : evs s x = some v) : as.map a.eval = #[v] := by
  have : as = #[x] := by rw [← Array.toArray_toList (xs := as), h]
  subst this
  simp [F.eval hx]
theorem Fr.args2 {n : Nat} {s : Slots} {a : Act} (F : Fr n s a) {as : Array Operand} {x y : Operand} {v u : Value} (h : as.toList = [x, y]) (hx : evs s x = some v) (hy : evs s y = some u) : as.map a.eval = #[v, u] := by
  have : as = #[x, y] := by rw [← Array.toArray_toList (xs := as), h]
  subst this
  simp [F.eval hx, F.eval hy]

theorem sval_ok {P : Program} {T : Tb} (hT : TOk P T) {n : Nat} {s : Slots} {a : Act} (F : Fr n s a) {o : Oper} {v : Value} (h : sval T s o.op = some v) (w : World) : isFloat o = true ∧ (execOp a.eval o).run P w = .ok (.value v) w := by
  unfold sval at h
  split at h
  · rename_i x hop
    exact ⟨by simp [isFloat, isFl, hop], by simp [execOp, hop, F.eval h]⟩
  · rename_i x hop
    exact ⟨by simp [isFloat, isFl, hop], by simp [execOp, hop, F.eval h]⟩
  · rename_i c x y hop
    refine ⟨by simp [isFloat, isFl, hop], ?_⟩
    split at h
    · rename_i hc; simp [execOp, hop, F.eval hc, F.eval h, asBool]
    · rename_i hc; simp [execOp, hop, F.eval hc, F.eval h, asBool]
    · cases h
  · rename_i x hop
    refine ⟨by simp [isFloat, isFl, hop], ?_⟩
    split at h
    · rename_i p hp
      simp only [Option.some.injEq] at h; subst h
      simp [execOp, hop, F.eval hp]
    · cases h
  · rename_i st x i hop
    refine ⟨by simp [isFloat, isFl, hop], ?_⟩
    split at h
    · rename_i b o' hp
      split at h
      · rename_i c hc
        simp only [Option.some.injEq] at h; subst h
        simp [execOp, hop, F.eval hp, run_fieldAt hT hc, addO_eq]
      · cases h
    · cases h
  · rename_i x i hop
    refine ⟨by simp [isFloat, isFl, hop], ?_⟩
    split at h
    · rename_i vs hp
      have h' : vs[i]? = some v := by simpa using h
      simp [execOp, hop, F.eval hp, Instr.extract, h']
    · cases h
  · rename_i t x hop
    refine ⟨by simp [isFloat, isFl, hop], ?_⟩
    split at h
    · rename_i b hp
      simp only [Option.some.injEq] at h; subst h
      simp [execOp, hop, F.eval hp, Op.unary]
    · cases h
  · rename_i op t x y t' hop
    refine ⟨by simp [isFloat, isFl, hop], ?_⟩
    split at h
    · rename_i p q hp hq
      have := bin_ok (P := P) t x y h w
      simp only [execOp, hop, F.eval hp, F.eval hq]
      rw [Sem.run_bind, this]
      rfl
    · cases h
  · rename_i as ts hop
    refine ⟨by simp [isFloat, isFl, hop], ?_⟩
    split at h
    · rename_i x t ha ht
      have hts : ts = #[t] := by rw [← Array.toArray_toList (xs := ts), ht]
      split at h
      · rename_i A m c hx
        split at h
        · rename_i e he
          simp only [Option.some.injEq] at h; subst h
          have hs := hT.sl t _ he
          simp only [slB, Bool.and_eq_true] at hs
          have hu : ∃ e', P.underlying t = some (.slice e') := by
            revert hs; split
            · rename_i e' hu; intro _; exact ⟨e', hu⟩
            · intro hs; cases hs.1
          obtain ⟨e', hu⟩ := hu
          simp [execOp, hop, resolve, invoke, builtin, F.args1 ha hx, hts, Builtin.len_, underlying, hu, goInt]
        · cases h
      · rename_i b hx
        cases hb : hasN T.st t with
        | false => simp [hb] at h
        | true =>
          simp only [hb, cond_true, Option.some.injEq] at h; subst h
          have hs := hT.st t hb
          unfold stB at hs
          have hu : P.underlying t = some .string := by
            revert hs; split
            · rename_i hu; intro _; exact hu
            · intro hs; cases hs
          simp [execOp, hop, resolve, invoke, builtin, F.args1 ha hx, hts, Builtin.len_, underlying, hu, goInt]
      · cases h
    · cases h
  · rename_i as ts hop
    refine ⟨by simp [isFloat, isFl, hop], ?_⟩
    split at h
    · rename_i x y ha
      split at h
      · rename_i k p k' q hx hy
        simp only [Option.some.injEq] at h; subst h
        simp only [execOp, hop, resolve, invoke, builtin, F.args2 ha hx hy, Builtin.max_, Sem.run_bind, Sem.run_pure, Result.andThen_ok]
        simp [Builtin.max2]
        omega
      · cases h
    · cases h
  · rename_i as ts hop
    refine ⟨by simp [isFloat, isFl, hop], ?_⟩
    split at h
    · rename_i x y ha
      split at h
      · rename_i k p k' q hx hy
        simp only [Option.some.injEq] at h; subst h
        simp only [execOp, hop, resolve, invoke, builtin, F.args2 ha hx hy, Builtin.min_, Sem.run_bind, Sem.run_pure, Result.andThen_ok]
        simp [Builtin.min2]
        omega
      · cases h
    · cases h
  · cases h

/-! ### The judgements -/
def KS (w0 : World) (n : Nat) (K : Act → World → Prop) (s : Slots) (H : List Asn) : Prop := ∀ a w, Fr n s a → St w0 w H → K a w
def TS (P : Program) (ops : Array Oper) (incs : List (Nat × Nat)) (Q : Exit → Act → World → Prop) (w0 : World) (n : Nat) (l : List Nat) (F : Facts) (s : Slots) (H : List Asn) : Prop :=
  ∀ a w, Fr n s a → St w0 w H → TW P ops incs Q l F a w

/-- Is the operation to be done? -/
def guardOf (ops : Array Oper) (s : Slots) (o : Oper) : Option Bool :=
  match o.guard with
  | none => some true
  | some (j, want) => match ops[j]? with
    | some oj => match oj.dst with
      | some t => match look s t with
        | some (.bool b) => some (b == want)
        | some (.tuple _) => some false
        | _ => none
      | none => none
    | none => none
theorem guardOf_ok {ops : Array Oper} {n : Nat} {s : Slots} {a : Act} (F : Fr n s a) {o : Oper} {g : Bool} (h : guardOf ops s o = some g) : Region.wanted o (yielded ops a.tmps) = g := by
  unfold guardOf at h
  unfold Region.wanted
  split at h
  · rename_i hg; simp only [Option.some.injEq] at h; simp [hg, h]
  · rename_i j want hg
    split at h
    · rename_i oj hj
      split at h
      · rename_i t ht
        have hy : ∀ v, look s t = some v → a.tmps[t]? = some v := fun v hv => by
          have h1 := F.lt t v hv
          have h2 := F.at_ t v hv h1
          rw [Array.getD_eq_getD_getElem?, Array.getElem?_eq_getElem (by rw [F.size]; exact h1)] at h2
          rw [Array.getElem?_eq_getElem (by rw [F.size]; exact h1)]
          simpa using h2
        split at h
        · rename_i b hb
          simp only [Option.some.injEq] at h
          simp [hg, yielded, hj, ht, hy _ hb, ← h]
        · rename_i x hb
          simp only [Option.some.injEq] at h
          simp [hg, yielded, hj, ht, hy _ hb, ← h]
        · cases h
      · cases h
    · cases h
inductive OpAt where
  | go (op : Op) (d : Option Nat)
  | skip (d : Option Nat)
  | stop
def putS (d : Option Nat) (v : Value) (s : Slots) : Slots := match d with | some d => (d, v) :: s | none => s
def fitB (n : Nat) : Option Nat → Bool
  | some d => Nat.blt d n
  | none => true
/-- The i-th operation, as the slots say. -/
def opAt (ops : Array Oper) (n : Nat) (s : Slots) (i : Nat) : OpAt :=
  match ops[i]? with
  | none => .stop
  | some ⟨dst, op, ty, pos, aft, g⟩ => bif fitB n dst then match guardOf ops s ⟨dst, op, ty, pos, aft, g⟩ with
      | some true => match dst with
        | some d => .go op (some d)
        | none => .go op none
      | some false => match dst with
        | some d => .skip (some d)
        | none => .skip none
      | none => .stop
    else .stop
theorem Fr.putS {n : Nat} {s : Slots} {a : Act} (h : Fr n s a) {d : Option Nat} (v : Value) (hd : fitB n d = true) : Fr n (Bg.putS d v s) (a.put d v) := by
  cases d with
  | none => exact h
  | some d => exact h.put d v (Nat.le_of_ble_eq_true hd)
section
variable {P : Program} {ops : Array Oper} {incs : List (Nat × Nat)} {Q : Exit → Act → World → Prop} {w0 : World} {n : Nat} {l : List Nat} {F : Facts} {s : Slots} {H : List Asn}
theorem opAt_go {i : Nat} {op : Op} {d : Option Nat} (h : opAt ops n s i = .go op d) : ∃ o : Oper, ops[i]? = some o ∧ o.op = op ∧ o.dst = d ∧ fitB n d = true ∧ guardOf ops s o = some true := by
  unfold opAt at h
  split at h
  · cases h
  · rename_i dst op' ty pos aft g ho
    cases hf : fitB n dst with
    | false => simp [hf] at h
    | true =>
      simp only [hf, cond_true] at h
      split at h
      · rename_i hg
        cases dst <;> cases h <;> exact ⟨_, ho, rfl, rfl, hf, hg⟩
      · cases dst <;> cases h
      · cases h
theorem opAt_skip {i : Nat} {d : Option Nat} (h : opAt ops n s i = .skip d) : ∃ o : Oper, ops[i]? = some o ∧ o.dst = d ∧ fitB n d = true ∧ guardOf ops s o = some false := by
  unfold opAt at h
  split at h
  · cases h
  · rename_i dst op' ty pos aft g ho
    cases hf : fitB n dst with
    | false => simp [hf] at h
    | true =>
      simp only [hf, cond_true] at h
      split at h
      · cases dst <;> cases h
      · rename_i hg
        cases dst <;> cases h <;> exact ⟨_, ho, rfl, hf, hg⟩
      · cases h
theorem TW.more {l : List Nat} {F : Facts} {i : Nat} {a : Act} {w : World} (h : TW P ops incs Q l F a w) : TW P ops incs Q l ((i, fun _ => True) :: F) a w := by
  induction l generalizing F a w with
  | nil => exact h
  | cons j l ih =>
    -- facts that say nothing
    have key : ∀ (l : List Nat) (F G : Facts) (a : Act) (w : World), (∀ q ∈ G, q ∈ F ∨ ∀ w, q.2 w) → TW P ops incs Q l F a w → TW P ops incs Q l G a w := by
      intro l
      induction l with
      | nil => intro F G a w _ h; exact h
      | cons j l ih =>
        intro F G a w hG h
        simp only [TW] at h ⊢
        cases ho : ops[j]? with
        | none => simp [tOp, ho] at h
        | some o =>
          rw [tOp_some ho] at h ⊢
          by_cases hw : Region.wanted o (yielded ops a.tmps) = true
          · rw [if_pos hw] at h ⊢
            by_cases hf : isFloat o = true
            · rw [if_pos hf] at h ⊢
              obtain ⟨v, φ, h1, h2, h3⟩ := h
              refine ⟨v, φ, h1, h2, ih _ _ _ _ (fun q hq => ?_) h3⟩
              rcases List.mem_cons.1 hq with rfl | hq
              · exact .inl (by simp)
              · exact (hG q hq).imp_left (List.mem_cons_of_mem _)
            · rw [if_neg hf] at h ⊢
              refine Upon.mono (fun a w ⟨h1, h2⟩ => ⟨?_, ih _ _ _ _ hG h2⟩) h
              clear h2
              induction G with
              | nil => trivial
              | cons p r ih' =>
                refine ⟨?_, ih' fun q hq => hG q (by simp [hq])⟩
                cases hc : incs.contains (p.1, j) with
                | false => trivial
                | true =>
                  rcases hG p (by simp) with hp | hp
                  · have := (h1.less (G := [p]) (by simpa using hp)).1
                    rw [hc] at this; exact this
                  · exact hp _
          · rw [if_neg hw] at h ⊢
            exact ih _ _ _ _ hG h
    exact key _ F _ a w (fun q hq => by
      rcases List.mem_cons.1 hq with rfl | hq
      · exact .inr fun _ => trivial
      · exact .inl hq) h

/-- One operation that leaves the world alone, and whose value hangs on no memory. -/
theorem TS.float0 {i : Nat} {op : Op} {d : Option Nat} {v : Value} (ho : opAt ops n s i = .go op d) (hr : ∀ a w (o : Oper), o.op = op → Fr n s a → isFloat o = true ∧ (execOp a.eval o).run P w = .ok (.value v) w)
    (k : TS P ops incs Q w0 n l F (putS d v s) H) : TS P ops incs Q w0 n (i :: l) F s H := by
  intro a w hF hS
  obtain ⟨o, h1, h0, h2, h3, h4⟩ := opAt_go ho
  subst h2
  have hf := (hr a w o h0 hF).1
  simp only [TW]
  rw [tOp_some h1, if_pos (guardOf_ok hF h4), if_pos hf]
  exact ⟨v, fun _ => True, fun w' _ => (hr a w' o h0 hF).2, trivial, (k _ _ (hF.putS v h3) hS).more⟩
theorem TS.skip {i : Nat} {d : Option Nat} (ho : opAt ops n s i = .skip d) (k : TS P ops incs Q w0 n l F (putS d undef s) H) : TS P ops incs Q w0 n (i :: l) F s H := by
  intro a w hF hS
  obtain ⟨o, h1, h2, h3, h4⟩ := opAt_skip ho
  subst h2
  simp only [TW]
  rw [tOp_some h1, if_neg (by rw [guardOf_ok hF h4]; simp)]
  exact k _ _ (hF.putS undef h3) hS
/-- One whose value hangs on cells that stand. -/
theorem TS.float {i : Nat} {op : Op} {d : Option Nat} {v : Value} (φ : World → Prop) (ho : opAt ops n s i = .go op d) (hf : isFl op = true) (hφ : ∀ w, St w0 w H → φ w) (hr : ∀ a w (o : Oper), o.op = op → Fr n s a → φ w → (execOp a.eval o).run P w = .ok (.value v) w)
    (k : TS P ops incs Q w0 n l ((i, φ) :: F) (putS d v s) H) : TS P ops incs Q w0 n (i :: l) F s H := by
  intro a w hF hS
  obtain ⟨o, h1, h0, h2, h3, h4⟩ := opAt_go ho
  subst h2 h0
  simp only [TW]
  rw [tOp_some h1, if_pos (guardOf_ok hF h4), if_pos (show isFloat o = true from hf)]
  exact ⟨v, φ, fun w' hw' => hr a w' o rfl hF hw', hφ w hS, k _ _ (hF.putS v h3) hS⟩
/-- One that does something. -/
theorem TS.chain {i : Nat} {op : Op} {d : Option Nat} (ho : opAt ops n s i = .go op d) (hf : isFl op = false)
    (hr : ∀ a w (o : Oper), o.op = op → o.dst = d → fitB n d = true → Fr n s a → St w0 w H → Does P o a w fun a' w' => Owed incs i F w' ∧ TW P ops incs Q l F a' w') : TS P ops incs Q w0 n (i :: l) F s H := by
  intro a w hF hS
  obtain ⟨o, h1, h0, h2, h3, h4⟩ := opAt_go ho
  simp only [TW]
  rw [tOp_some h1, if_pos (guardOf_ok hF h4), if_neg (by unfold isFloat; rw [h0, hf]; simp)]
  exact hr a w o h0 h2 h3 hF hS

/-- Does a guard hang on this operation? -/
def gdB (i : Nat) : List Oper → Bool
  | [] => false
  | o :: r => match o.guard with
    | some (j, _) => bif Nat.beq j i then true else gdB i r
    | none => gdB i r
/-- The operations that look at no memory, one behind the other; up to one on which a guard hangs. -/
def runS (T : Tb) (ops : Array Oper) (n : Nat) (k : List Nat → Slots → Prop) : List Nat → Slots → Prop
  | [], s => k [] s
  | i :: l, s => match opAt ops n s i with
    | .go op d => match sval T s op with
      | some v => match d with
        | some d => bif gdB i ops.toList then k l ((d, v) :: s) else runS T ops n k l ((d, v) :: s)
        | none => runS T ops n k l s
      | none => k (i :: l) s
    | .skip d => match d with
      | some d => runS T ops n k l ((d, undef) :: s)
      | none => runS T ops n k l s
    | .stop => k (i :: l) s
theorem tR {T : Tb} (hT : TOk P T) (h : runS T ops n (fun l s => TS P ops incs Q w0 n l F s H) l s) : TS P ops incs Q w0 n l F s H := by
  induction l generalizing s with
  | nil => exact h
  | cons i l ih =>
    simp only [runS] at h
    split at h
    · rename_i op d ho
      split at h
      · rename_i v hv
        refine TS.float0 ho (fun a w o ho hF => sval_ok hT hF (by rw [ho]; exact hv) w) ?_
        cases d with
        | none => exact ih h
        | some d =>
          cases hg : gdB i ops.toList with
          | true => simp only [hg, cond_true] at h; exact h
          | false => simp only [hg, cond_false] at h; exact ih h
      · exact h
    · rename_i d ho
      refine TS.skip ho (ih ?_)
      cases d <;> exact h
    · exact h
theorem tN (h : KS w0 n (Q .normal) s H) : TS P ops incs Q w0 n [] F s H := h
/-- A truth that is not known. -/
theorem tCase (t : Nat) {b : Bool} (hb : look s t = some (.bool b)) (h1 : b = true → TS P ops incs Q w0 n l F ((t, .bool true) :: s) H) (h2 : b = false → TS P ops incs Q w0 n l F ((t, .bool false) :: s) H) : TS P ops incs Q w0 n l F s H := by
  intro a w hF hS
  have hF' : Fr n ((t, .bool b) :: s) a := ⟨hF.size, hF.defers, fun t' v ht hlt => by
      simp only [look] at ht
      cases hbq : Nat.beq t t' with
      | true =>
        obtain rfl := Nat.eq_of_beq_eq_true hbq
        simp only [Nat.beq_refl, cond_true, Option.some.injEq] at ht
        subst ht
        exact hF.at_ _ _ hb hlt
      | false => simp only [hbq, cond_false] at ht; exact hF.at_ _ _ ht hlt, fun t' v ht => by
      simp only [look] at ht
      cases hbq : Nat.beq t t' with
      | true => obtain rfl := Nat.eq_of_beq_eq_true hbq; exact hF.lt _ _ hb
      | false => simp only [hbq, cond_false] at ht; exact hF.lt _ _ ht⟩
  cases b with
  | true => exact h1 rfl a w hF' hS
  | false => exact h2 rfl a w hF' hS
theorem tDec (t : Nat) {p : Prop} [Decidable p] (hb : look s t = some (.bool (decide p))) (h1 : p → TS P ops incs Q w0 n l F ((t, .bool true) :: s) H) (h2 : ¬ p → TS P ops incs Q w0 n l F ((t, .bool false) :: s) H) : TS P ops incs Q w0 n l F s H :=
  tCase t hb (fun h => h1 (of_decide_eq_true h)) (fun h => h2 (of_decide_eq_false h))
theorem tNot (t : Nat) {p : Prop} [Decidable p] (hb : look s t = some (.bool (!decide p))) (h1 : ¬ p → TS P ops incs Q w0 n l F ((t, .bool true) :: s) H) (h2 : p → TS P ops incs Q w0 n l F ((t, .bool false) :: s) H) : TS P ops incs Q w0 n l F s H :=
  tCase t hb (fun h => h1 (of_decide_eq_false (by simpa using h))) (fun h => h2 (of_decide_eq_true (by simpa using h)))
/-! Behind an operation on which a guard hangs. -/
theorem tG1 {T : Tb} (hT : TOk P T) {t : Nat} {b : Bool} (hb : b = true) (h : runS T ops n (fun l s => TS P ops incs Q w0 n l F s H) l ((t, .bool true) :: s)) : TS P ops incs Q w0 n l F ((t, .bool b) :: s) H := by subst hb; exact tR hT h
theorem tG0 {T : Tb} (hT : TOk P T) {t : Nat} {b : Bool} (hb : b = false) (h : runS T ops n (fun l s => TS P ops incs Q w0 n l F s H) l ((t, .bool false) :: s)) : TS P ops incs Q w0 n l F ((t, .bool b) :: s) H := by subst hb; exact tR hT h
theorem tGB {T : Tb} (hT : TOk P T) {t : Nat} {b : Bool} (h1 : b = true → runS T ops n (fun l s => TS P ops incs Q w0 n l F s H) l ((t, .bool true) :: s)) (h0 : b = false → runS T ops n (fun l s => TS P ops incs Q w0 n l F s H) l ((t, .bool false) :: s)) : TS P ops incs Q w0 n l F ((t, .bool b) :: s) H := by
  cases b with
  | true => exact tR hT (h1 rfl)
  | false => exact tR hT (h0 rfl)
theorem tGD {T : Tb} (hT : TOk P T) {t : Nat} {p : Prop} [Decidable p] (h1 : p → runS T ops n (fun l s => TS P ops incs Q w0 n l F s H) l ((t, .bool true) :: s)) (h0 : ¬ p → runS T ops n (fun l s => TS P ops incs Q w0 n l F s H) l ((t, .bool false) :: s)) : TS P ops incs Q w0 n l F ((t, .bool (decide p)) :: s) H :=
  tGB hT (fun h => h1 (of_decide_eq_true h)) (fun h => h0 (of_decide_eq_false h))
theorem tGN {T : Tb} (hT : TOk P T) {t : Nat} {p : Prop} [Decidable p] (h1 : ¬ p → runS T ops n (fun l s => TS P ops incs Q w0 n l F s H) l ((t, .bool true) :: s)) (h0 : p → runS T ops n (fun l s => TS P ops incs Q w0 n l F s H) l ((t, .bool false) :: s)) : TS P ops incs Q w0 n l F ((t, .bool (!decide p)) :: s) H :=
  tGB hT (fun h => h1 (of_decide_eq_false (by simpa using h))) (fun h => h0 (of_decide_eq_true (by simpa using h)))
/-- A slot's value, in other words. -/
theorem tV (t : Nat) {v v' : Value} (hv : look s t = some v) (e : v = v') (h : TS P ops incs Q w0 n l F ((t, v') :: s) H) : TS P ops incs Q w0 n l F s H := by
  subst e
  intro a w hF hS
  refine h a w ⟨hF.size, hF.defers, fun t' v' ht hlt => ?_, fun t' v' ht => ?_⟩ hS
  · simp only [look] at ht
    cases hbq : Nat.beq t t' with
    | true =>
      obtain rfl := Nat.eq_of_beq_eq_true hbq
      simp only [Nat.beq_refl, cond_true, Option.some.injEq] at ht
      subst ht
      exact hF.at_ _ _ hv hlt
    | false => simp only [hbq, cond_false] at ht; exact hF.at_ _ _ ht hlt
  · simp only [look] at ht
    cases hbq : Nat.beq t t' with
    | true => obtain rfl := Nat.eq_of_beq_eq_true hbq; exact hF.lt _ _ hv
    | false => simp only [hbq, cond_false] at ht; exact hF.lt _ _ ht
end
end Bg
