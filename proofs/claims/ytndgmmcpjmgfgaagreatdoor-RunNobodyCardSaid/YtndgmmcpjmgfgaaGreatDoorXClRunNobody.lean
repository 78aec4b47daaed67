/- For every input 'berthagelaw25.RunNobody' returns true, and each argument reads afterwards as it read before. Conditions: none beyond those of the given card (the listed table of math/bits holds what its text lays). -/
import Derived.Test.YtndgmmcpjmgfgaaGreatDoorCards
import Derived.Test.YtndgmmcpjmgfgaaGreatDoorTie
import Derived.Test.YtndgmmcpjmgfgaaGreatDoorXCl
import Derived.Test.YtndgmmcpjmgfgaaGreatDoorXRn
import Derived.Test.YtndgmmcpjmgfgaaGreatDoorXAo
set_option linter.unusedSimpArgs false
set_option linter.unusedVariables false
namespace Go.Proofs.YtndgmmcpjmgfgaaGreatDoor
open Go.ChangeShapes Go.WideShapes Go.ChangeAt Go.RowKit Bg
set_option maxRecDepth 100000
set_option maxHeartbeats 1000000
theorem runNobody_contract (H : Type) (enc : TypeId × Value → H) (W : World) (base : Nat) (args : Array Value) (ds gs : List (DataW H)) (before : List MemPlace)
    (hval : ∀ (j : Nat) t v, Tryz.f5.params[j]? = some t → args[j]? = some v → Value.okWide Tryz.prog W .any base t v)
    (hW : DataW.Whole enc Tryz.prog Tryz.f5.params.toList Rows.runNobodySpec.vars false W args.toList ds gs before) :
    Calls Tryz.prog 5 args W fun e W' => ∃ v, e = .returned v ∧ Rows.runNobodySpec.post enc Tryz.prog Tryz.f5 false true false false W args v W' := by
  have hW' := hW
  obtain ⟨p, q, hA0, hV, rfl, hfz, hnd⟩ := hW
  have hA : DataW.TrodAll enc Tryz.prog W 0 (fun _ => true) true Tryz.f5.params.toList args.toList ds p := hA0
  rw [Tryz.params5] at hA hval
  obtain ⟨v0, vs0, d0, ds0, p0, q0, hargs, rfl, rfl, h0, r0⟩ := trodAll_cons hA
  obtain ⟨rfl, rfl, rfl⟩ := trodAll_nil r0
  obtain rfl : args = #[v0] := by cases args; simp_all
  obtain ⟨rfl, rfl⟩ := trodVars_none hV
  obtain ⟨k, a, l, c, m, rfl⟩ := act_open (hval 0 64 v0 rfl rfl) h0
  refine ((run_nobody k m a l c).law W).mono fun e W' ⟨he, hk⟩ => ?_
  subst he
  exact ⟨_, rfl, post_law cl_types (params_ok (by kernel_rfl)) hW' rfl rfl rfl (fun _ _ _ => trodAll_cons_mk (shut_bool Tryz.underlying4 _) trodAll_mk0) hk (ok_one (by kernel_rfl) rfl (okWide_bool_mk Tryz.underlying4 _))⟩
theorem runNobody_met (os : Os) : laidMet Tryz.prog Rows.runNobodyRow.laid ((laidWorld os).forCall (fun _ _ => 0) ⟨#[], #[.agg [vi 0, .slice none 0 0, vi 0].toArray], []⟩).memory :=
  laidMet_of_run' 8 (by kernel_rfl) (by kernel_rfl)
theorem runNobody_reads (os : Os) {H : Type} (enc : TypeId × Value → H) : ∃ places, DataW.whole enc Tryz.prog ((laidWorld os).forCall (fun _ _ => 0) ⟨#[], #[.agg [vi 0, .slice none 0 0, vi 0].toArray], []⟩).memory Tryz.f5.params.toList Rows.runNobodySpec.vars false (#[.agg [vi 0, .slice none 0 0, vi 0].toArray] : Array Value).toList 8 = some ([.agg [.lit (.int .i64 0), .nil, .lit (.int .i64 0)]], [], places) :=
  ⟨[], by kernel_rfl⟩
theorem runNobody_lifted (os : Os) (started : os.Started) (H : Type) (enc : TypeId × Value → H) (F : Stop.Interp) :
    ReturnsInHanded {} Tryz.checked os 5 .any ((OpenSpec.ofChange Rows.runNobodySpec).preRow enc Tryz.prog Tryz.f5 Rows.runNobodyRow.domain false Rows.runNobodyRow.laid) (((OpenSpec.ofChange Rows.runNobodySpec).at F).post enc Tryz.prog Tryz.f5 false true false false) := by
  obtain ⟨places, hx⟩ := runNobody_reads os enc
  refine returnsInHanded_of_row (C := Tryz.checked) (s := OpenSpec.ofChange Rows.runNobodySpec) cl_own started (by kernel_rfl) Tryz.func5
    (witness_row_at (enc := enc) (C := Tryz.checked) false (laidWorld os) #[.agg [vi 0, .slice none 0 0, vi 0].toArray] rfl (by kernel_rfl) (by kernel_rfl) (by kernel_rfl)
      (OpenSpec.preRow_of_cond 8 hx (by kernel_rfl) (fun k hk => by cases hk) (by kernel_rfl) (runNobody_met os))) ?_
  intro W base args ds gs before hval hW _ _ _ _ _ _
  exact runNobody_contract H enc W base args ds gs before hval hW
theorem runNobody_said : Rows.RunNobodySaid :=
  OpenClaim.holds_of_cond 5 Tryz.f5 rfl rfl rfl rfl rfl rfl rfl ⟨rfl, rfl, rfl, rfl, rfl⟩ rfl rfl rfl rfl rfl (by kernel_rfl) Tryz.func5 (by kernel_rfl)
    (of_decide_eq_true (by kernel_rfl)) (by unfold Func.isWrapper; first | (rw [if_pos (by decide +kernel)]; kernel_rfl) | (rw [if_neg (by decide +kernel)]; exact ⟨rfl, rfl⟩))
    (fun os started H enc _ F => by rw [OpenClaim.pre_eq_preRow]; exact runNobody_lifted os started H enc F)
theorem runNobody_plain (f : FuncId) (fn : Func) (hf : Tryz.pinned.checked.prog.funcNamed "berthage/berthagelaw25.RunNobody" = some f) (hfn : Tryz.pinned.checked.prog.funcs[f]? = some fn) :
    false = Tryz.pinned.checked.prog.looks [] ∧ ∀ (j : Nat) t, fn.params[j]? = some t → Tryz.pinned.checked.prog.wantsStandIn t = false := by
  obtain rfl : f = 5 := Option.some.inj ((show Tryz.prog.funcNamed "berthage/berthagelaw25.RunNobody" = some 5 by kernel_rfl).symm.trans hf) |>.symm
  obtain rfl : fn = Tryz.f5 := (Option.some.inj (Tryz.func5.symm.trans hfn)).symm
  refine ⟨by kernel_rfl, fun j t ht => ?_⟩
  rw [Tryz.params5] at ht
  have hm := Array.mem_of_getElem? ht
  obtain rfl : t = 64 := by simpa using hm
  exact (show Tryz.prog.wantsStandIn 64 = false by kernel_rfl)
/-- The card. -/
theorem runNobody_card : Rows.RunNobodyCardSaid :=
  Claim7.holds_tied_plain_at .later [] _ _ _ _ runNobody_said (fun _ h => by cases h) (by kernel_rfl) (fun _ h => by cases h) runNobody_row_tie rfl ⟨rfl, rfl⟩ (by kernel_rfl) rfl runNobody_plain (by kernel_rfl)
end Go.Proofs.YtndgmmcpjmgfgaaGreatDoor
