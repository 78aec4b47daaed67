/- What an act is, as an argument. -/
import Derived.Test.YtndgmmcpjmgfgaaGreatDoorXCl
import Derived.Test.YtndgmmcpjmgfgaaGreatDoorXMo
set_option linter.unusedSimpArgs false
set_option linter.unusedVariables false
namespace Go.Proofs
open Go.ChangeShapes Go.WideShapes Go.ChangeAt Go.RowKit Bg
set_option maxRecDepth 100000
theorem act_open {H : Type} {enc : TypeId × Value → H} {W : World} {r : Reach} {base base' : Nat} {sp : Nat → Bool} {held : Bool} {v : Value} {d : DataW H} {ps : List MemPlace} (hval : Value.okWide Tryz.prog W r base 64 v) (hd : DataW.Trod enc Tryz.prog W base' sp held 64 v d ps) :
    ∃ k a l c m, v = .agg [vi k, .slice a l c, vi m].toArray := by
  obtain ⟨cs, rfl, hcs⟩ := okWide_struct Tryz.underlying64 hval
  obtain ⟨fuel, hf⟩ := hd
  have hf' : DataW.trod enc Tryz.prog W base' sp held fuel 64 cs.toList = some (d, ps) := hf
  obtain ⟨xs, n, _, hx, hl, hlen, hfld⟩ := DataW.trod_struct Tryz.underlying64 hf'
  have c3 : Tryz.prog.cellsOf 64 = 3 := by kernel_rfl
  rw [c3] at hl
  obtain ⟨l⟩ := cs
  match l, hl, xs, hlen with
  | [x, y, z], _, [y0, y1, y2], _ =>
    have e0 : DataW.trod enc Tryz.prog W base' sp held n 3 [x] = some y0 := hfld 0 _ rfl
    have e1 : DataW.trod enc Tryz.prog W base' sp held n 62 [y] = some y1 := hfld 1 _ rfl
    have e2 : DataW.trod enc Tryz.prog W base' sp held n 3 [z] = some y2 := hfld 2 _ rfl
    obtain ⟨k, h0, _⟩ := DataW.trod_int Tryz.underlying3 e0
    obtain ⟨m, h2, _⟩ := DataW.trod_int Tryz.underlying3 e2
    simp only [List.cons.injEq, and_true] at h0 h2
    subst h0 h2
    rcases DataW.trod_slice Tryz.underlying62 e1 with ⟨h1, _⟩ | ⟨a, len, cap, elems, rest, n', _, h1, _⟩
    · simp only [List.cons.injEq, and_true] at h1
      subst h1
      exact ⟨k, none, 0, 0, m, rfl⟩
    · simp only [List.cons.injEq, and_true] at h1
      subst h1
      exact ⟨k, some a, len, cap, m, rfl⟩
end Go.Proofs
