/- Part 10: bits. -/
import Derived.Test.YtndgmmcpjmgfgaaGreatDoorXL9
set_option linter.unusedSimpArgs false
set_option linter.unusedVariables false
namespace Bg
open Go Go.Proofs

section
variable {P : Program} {T : Tb} {ops : Array Oper} {incs : List (Nat × Nat)} {Q : Exit → Act → World → Prop} {w0 : World} {n : Nat} {l : List Nat} {F : Facts} {s : Slots} {H : List Asn} {i : Nat} {d : Option Nat} {K : Act → World → Prop}

/-- Any operation on two values that are at hand. -/
theorem tBin (hT : TOk P T) {op : BinOp} {t t' : TypeId} {x y : Operand} {p q r : Value} (hne : (op matches .eql | .neq) = false) (ho : opAt ops n s i = .go (.binOp op t x y t') d) (hx : evs s x = some p) (hy : evs s y = some q) (hr : ∀ w, (binOp op t p q).run P w = .ok r w)
    (c : runS T ops n (fun l s => TS P ops incs Q w0 n l F s H) l (putS d r s)) : TS P ops incs Q w0 n (i :: l) F s H := by
  refine TS.float0 ho (fun a w o hop hF => ⟨by simp [isFloat, isFl, hop], ?_⟩) (tR hT c)
  have hg : (eqGuard op t x y p q).run P w = .ok () w := by cases op <;> first | (simp [eqGuard]; done) | (simp at hne)
  simp only [execOp, hop, hF.eval hx, hF.eval hy]
  rw [Sem.run_bind, Sem.run_bind, hg]
  simp only [Result.andThen_ok, hr w]
  rfl
theorem tShl (hT : TOk P T) {t t' : TypeId} {x y : Operand} {k k' : IntKind} {p q r : Int} (ho : opAt ops n s i = .go (.binOp .shl t x y t') d) (hx : evs s x = some (.int k p)) (hy : evs s y = some (.int k' q)) (hq : 0 ≤ q) (hr : k.wrap (p * 2 ^ (min q.toNat k.bits)) = r)
    (c : runS T ops n (fun l s => TS P ops incs Q w0 n l F s H) l (putS d (.int k r) s)) : TS P ops incs Q w0 n (i :: l) F s H :=
  tBin hT rfl ho hx hy (fun w => by
    have : ¬ q < 0 := by omega
    simp [binOp, Op.shift, this, hr]) c
theorem tShr (hT : TOk P T) {t t' : TypeId} {x y : Operand} {k k' : IntKind} {p q r : Int} (ho : opAt ops n s i = .go (.binOp .shr t x y t') d) (hx : evs s x = some (.int k p)) (hy : evs s y = some (.int k' q)) (hq : 0 ≤ q) (hr : p.fdiv (2 ^ (min q.toNat k.bits)) = r)
    (c : runS T ops n (fun l s => TS P ops incs Q w0 n l F s H) l (putS d (.int k r) s)) : TS P ops incs Q w0 n (i :: l) F s H :=
  tBin hT rfl ho hx hy (fun w => by
    have : ¬ q < 0 := by omega
    simp [binOp, Op.shift, this, hr]) c
/-- A sum that may wrap, of any kind. -/
theorem tAr (hT : TOk P T) {op : BinOp} (hop : op = .add ∨ op = .sub ∨ op = .mul) {t t' : TypeId} {x y : Operand} {k : IntKind} {p q r : Int} (ho : opAt ops n s i = .go (.binOp op t x y t') d) (hx : evs s x = some (.int k p)) (hy : evs s y = some (.int k q)) (hr : (match op with | .add => k.wrap (p + q) | .sub => k.wrap (p - q) | _ => k.wrap (p * q)) = r)
    (c : runS T ops n (fun l s => TS P ops incs Q w0 n l F s H) l (putS d (.int k r) s)) : TS P ops incs Q w0 n (i :: l) F s H :=
  tInt hT (fun w => by subst hr; rcases hop with rfl | rfl | rfl <;> simp [Op.intArith]) hop ho hx hy c
/-- A set of nodes, as a value. -/
abbrev us (x : BitVec 64) : Value := .int .u64 (x.toNat : Int)
theorem us_of (x : BitVec 64) : BitVec.ofInt 64 (x.toNat : Int) = x := by
  apply BitVec.eq_of_toNat_eq
  simp
theorem us_wrap (x : BitVec 64) : IntKind.u64.wrap (x.toNat : Int) = (x.toNat : Int) := IntWalk.u64_in _ (by have := x.isLt; omega)
def bvop (op : BinOp) (x y : BitVec 64) : BitVec 64 := match op with
  | .and => x &&& y
  | .or => x ||| y
  | .xor => x ^^^ y
  | _ => x &&& ~~~y
theorem tBit (hT : TOk P T) {op : BinOp} (hop : op = .and ∨ op = .or ∨ op = .xor ∨ op = .andNot) {t t' : TypeId} {x y : Operand} {p q : BitVec 64} (ho : opAt ops n s i = .go (.binOp op t x y t') d) (hx : evs s x = some (us p)) (hy : evs s y = some (us q))
    (c : runS T ops n (fun l s => TS P ops incs Q w0 n l F s H) l (putS d (us (bvop op p q)) s)) : TS P ops incs Q w0 n (i :: l) F s H :=
  tBin hT (by rcases hop with rfl | rfl | rfl | rfl <;> rfl) ho hx hy (fun w => by
    have h1 := us_of p; have h2 := us_of q
    rcases hop with rfl | rfl | rfl | rfl <;> simp only [binOp, Op.intBits, ne_eq, not_true_eq_false, if_false, IntKind.bits, bvop] <;> rw [h1, h2, us_wrap] <;> rfl) c
end
end Bg
