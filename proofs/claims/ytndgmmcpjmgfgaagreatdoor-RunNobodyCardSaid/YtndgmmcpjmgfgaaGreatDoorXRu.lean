/- The rules, and how many steps are said. -/
import Derived.Test.YtndgmmcpjmgfgaaGreatDoorXTab
set_option linter.unusedSimpArgs false
set_option linter.unusedVariables false
namespace Go.Proofs
open Bg
set_option maxRecDepth 10000
/-- A lane of locks. -/
def laneV (a b c : Bool) : Value := .agg [.bool a, .bool b, .bool c].toArray
theorem of_02 (b : Nat) : Con Tryz.prog 71 [.slice (some ⟨b, 0, none⟩) 2 2].toArray [pt b [vi 0, vi 2] 3] (fun v H => v = laneV true false true ∧ H = []) := by
  refine Con.intro Tryz.func71 (by kernel_rfl) rfl Tryz.ntmps71 rfl ?_; intro R w0
  refine kR tok ?_
  refine tAl tok rfl rfl (fun _ _ _ => owed0) (fun b2 => ?_)
  refine tE ?_
  refine kR tok ?_
  refine tAl tok rfl rfl (fun _ _ _ => owed0) (fun b3 => ?_)
  refine tE ?_
  refine kSeq ?_
  refine kR tok ?_
  refine tE ?_
  refine kBlock ?_
  refine kUn ?_
  refine kR tok ?_
  refine tE ?_
  refine kSeq ?_
  refine kIfT rfl ?_
  refine kSkip ?_
  refine kN ?_
  refine kSeq ?_
  refine kBlock ?_
  refine kR tok ?_
  refine tIdx tok rfl rfl rfl rfl (by decide) ?_
  refine tLd tok 2 rfl rfl rfl rfl rfl ?_
  refine tE ?_
  refine kReg tok ?_
  refine tIdxP tok ar_53 rfl rfl rfl (by decide) ?_
  refine tSt tok 0 rfl rfl rfl rfl rfl rfl rfl (fun _ _ => owed0) ?_
  refine tN ?_
  refine kBN ?_
  refine kN ?_
  refine kReg tok ?_
  refine tAdd tok rfl rfl rfl (by decide) ?_
  refine tE ?_
  refine kLP ?_
  refine kR tok ?_
  refine tE ?_
  refine kSeq ?_
  refine kIfT rfl ?_
  refine kSkip ?_
  refine kN ?_
  refine kSeq ?_
  refine kBlock ?_
  refine kR tok ?_
  refine tIdx tok rfl rfl rfl rfl (by decide) ?_
  refine tLd tok 2 rfl rfl rfl rfl rfl ?_
  refine tE ?_
  refine kReg tok ?_
  refine tIdxP tok ar_53 rfl rfl rfl (by decide) ?_
  refine tSt tok 0 rfl rfl rfl rfl rfl rfl rfl (fun _ _ => owed0) ?_
  refine tN ?_
  refine kBN ?_
  refine kN ?_
  refine kReg tok ?_
  refine tAdd tok rfl rfl rfl (by decide) ?_
  refine tE ?_
  refine kLP ?_
  refine kR tok ?_
  refine tE ?_
  refine kSeq ?_
  refine kIfF rfl ?_
  refine kExit ?_
  refine kE ?_
  refine kE ?_
  refine kBE ?_
  refine kN ?_
  refine kR tok ?_
  refine tLdA tok 0 _ rfl rfl rfl rfl rfl rfl ?_
  refine tStA tok 1 rfl rfl rfl rfl rfl rfl rfl rfl (fun _ _ => owed0) ?_
  refine tE ?_
  refine kRet ?_
  refine kEndC [3] _ (.inr rfl) (rC tok 1 _ rfl rfl rfl rfl rfl rN) rfl rfl rfl ⟨rfl, rfl⟩
theorem of_0 (b : Nat) : Con Tryz.prog 71 [.slice (some ⟨b, 0, none⟩) 1 1].toArray [pt b [vi 0] 3] (fun v H => v = laneV true false false ∧ H = []) := by
  refine Con.intro Tryz.func71 (by kernel_rfl) rfl Tryz.ntmps71 rfl ?_; intro R w0
  refine kR tok ?_
  refine tAl tok rfl rfl (fun _ _ _ => owed0) (fun b2 => ?_)
  refine tE ?_
  refine kR tok ?_
  refine tAl tok rfl rfl (fun _ _ _ => owed0) (fun b3 => ?_)
  refine tE ?_
  refine kSeq ?_
  refine kR tok ?_
  refine tE ?_
  refine kBlock ?_
  refine kUn ?_
  refine kR tok ?_
  refine tE ?_
  refine kSeq ?_
  refine kIfT rfl ?_
  refine kSkip ?_
  refine kN ?_
  refine kSeq ?_
  refine kBlock ?_
  refine kR tok ?_
  refine tIdx tok rfl rfl rfl rfl (by decide) ?_
  refine tLd tok 2 rfl rfl rfl rfl rfl ?_
  refine tE ?_
  refine kReg tok ?_
  refine tIdxP tok ar_53 rfl rfl rfl (by decide) ?_
  refine tSt tok 0 rfl rfl rfl rfl rfl rfl rfl (fun _ _ => owed0) ?_
  refine tN ?_
  refine kBN ?_
  refine kN ?_
  refine kReg tok ?_
  refine tAdd tok rfl rfl rfl (by decide) ?_
  refine tE ?_
  refine kLP ?_
  refine kR tok ?_
  refine tE ?_
  refine kSeq ?_
  refine kIfF rfl ?_
  refine kExit ?_
  refine kE ?_
  refine kE ?_
  refine kBE ?_
  refine kN ?_
  refine kR tok ?_
  refine tLdA tok 0 _ rfl rfl rfl rfl rfl rfl ?_
  refine tStA tok 1 rfl rfl rfl rfl rfl rfl rfl rfl (fun _ _ => owed0) ?_
  refine tE ?_
  refine kRet ?_
  refine kEndC [3] _ (.inr rfl) (rC tok 1 _ rfl rfl rfl rfl rfl rN) rfl rfl rfl ⟨rfl, rfl⟩
theorem of_1 (b : Nat) : Con Tryz.prog 71 [.slice (some ⟨b, 0, none⟩) 1 1].toArray [pt b [vi 1] 3] (fun v H => v = laneV false true false ∧ H = []) := by
  refine Con.intro Tryz.func71 (by kernel_rfl) rfl Tryz.ntmps71 rfl ?_; intro R w0
  refine kR tok ?_
  refine tAl tok rfl rfl (fun _ _ _ => owed0) (fun b2 => ?_)
  refine tE ?_
  refine kR tok ?_
  refine tAl tok rfl rfl (fun _ _ _ => owed0) (fun b3 => ?_)
  refine tE ?_
  refine kSeq ?_
  refine kR tok ?_
  refine tE ?_
  refine kBlock ?_
  refine kUn ?_
  refine kR tok ?_
  refine tE ?_
  refine kSeq ?_
  refine kIfT rfl ?_
  refine kSkip ?_
  refine kN ?_
  refine kSeq ?_
  refine kBlock ?_
  refine kR tok ?_
  refine tIdx tok rfl rfl rfl rfl (by decide) ?_
  refine tLd tok 2 rfl rfl rfl rfl rfl ?_
  refine tE ?_
  refine kReg tok ?_
  refine tIdxP tok ar_53 rfl rfl rfl (by decide) ?_
  refine tSt tok 0 rfl rfl rfl rfl rfl rfl rfl (fun _ _ => owed0) ?_
  refine tN ?_
  refine kBN ?_
  refine kN ?_
  refine kReg tok ?_
  refine tAdd tok rfl rfl rfl (by decide) ?_
  refine tE ?_
  refine kLP ?_
  refine kR tok ?_
  refine tE ?_
  refine kSeq ?_
  refine kIfF rfl ?_
  refine kExit ?_
  refine kE ?_
  refine kE ?_
  refine kBE ?_
  refine kN ?_
  refine kR tok ?_
  refine tLdA tok 0 _ rfl rfl rfl rfl rfl rfl ?_
  refine tStA tok 1 rfl rfl rfl rfl rfl rfl rfl rfl (fun _ _ => owed0) ?_
  refine tE ?_
  refine kRet ?_
  refine kEndC [3] _ (.inr rfl) (rC tok 1 _ rfl rfl rfl rfl rfl rN) rfl rfl rfl ⟨rfl, rfl⟩
theorem of_2 (b : Nat) : Con Tryz.prog 71 [.slice (some ⟨b, 0, none⟩) 1 1].toArray [pt b [vi 2] 3] (fun v H => v = laneV false false true ∧ H = []) := by
  refine Con.intro Tryz.func71 (by kernel_rfl) rfl Tryz.ntmps71 rfl ?_; intro R w0
  refine kR tok ?_
  refine tAl tok rfl rfl (fun _ _ _ => owed0) (fun b2 => ?_)
  refine tE ?_
  refine kR tok ?_
  refine tAl tok rfl rfl (fun _ _ _ => owed0) (fun b3 => ?_)
  refine tE ?_
  refine kSeq ?_
  refine kR tok ?_
  refine tE ?_
  refine kBlock ?_
  refine kUn ?_
  refine kR tok ?_
  refine tE ?_
  refine kSeq ?_
  refine kIfT rfl ?_
  refine kSkip ?_
  refine kN ?_
  refine kSeq ?_
  refine kBlock ?_
  refine kR tok ?_
  refine tIdx tok rfl rfl rfl rfl (by decide) ?_
  refine tLd tok 2 rfl rfl rfl rfl rfl ?_
  refine tE ?_
  refine kReg tok ?_
  refine tIdxP tok ar_53 rfl rfl rfl (by decide) ?_
  refine tSt tok 0 rfl rfl rfl rfl rfl rfl rfl (fun _ _ => owed0) ?_
  refine tN ?_
  refine kBN ?_
  refine kN ?_
  refine kReg tok ?_
  refine tAdd tok rfl rfl rfl (by decide) ?_
  refine tE ?_
  refine kLP ?_
  refine kR tok ?_
  refine tE ?_
  refine kSeq ?_
  refine kIfF rfl ?_
  refine kExit ?_
  refine kE ?_
  refine kE ?_
  refine kBE ?_
  refine kN ?_
  refine kR tok ?_
  refine tLdA tok 0 _ rfl rfl rfl rfl rfl rfl ?_
  refine tStA tok 1 rfl rfl rfl rfl rfl rfl rfl rfl (fun _ _ => owed0) ?_
  refine tE ?_
  refine kRet ?_
  refine kEndC [3] _ (.inr rfl) (rC tok 1 _ rfl rfl rfl rfl rfl rN) rfl rfl rfl ⟨rfl, rfl⟩
theorem of_012 (b : Nat) : Con Tryz.prog 71 [.slice (some ⟨b, 0, none⟩) 3 3].toArray [pt b [vi 0, vi 1, vi 2] 3] (fun v H => v = laneV true true true ∧ H = []) := by
  refine Con.intro Tryz.func71 (by kernel_rfl) rfl Tryz.ntmps71 rfl ?_; intro R w0
  refine kR tok ?_
  refine tAl tok rfl rfl (fun _ _ _ => owed0) (fun b2 => ?_)
  refine tE ?_
  refine kR tok ?_
  refine tAl tok rfl rfl (fun _ _ _ => owed0) (fun b3 => ?_)
  refine tE ?_
  refine kSeq ?_
  refine kR tok ?_
  refine tE ?_
  refine kBlock ?_
  refine kUn ?_
  refine kR tok ?_
  refine tE ?_
  refine kSeq ?_
  refine kIfT rfl ?_
  refine kSkip ?_
  refine kN ?_
  refine kSeq ?_
  refine kBlock ?_
  refine kR tok ?_
  refine tIdx tok rfl rfl rfl rfl (by decide) ?_
  refine tLd tok 2 rfl rfl rfl rfl rfl ?_
  refine tE ?_
  refine kReg tok ?_
  refine tIdxP tok ar_53 rfl rfl rfl (by decide) ?_
  refine tSt tok 0 rfl rfl rfl rfl rfl rfl rfl (fun _ _ => owed0) ?_
  refine tN ?_
  refine kBN ?_
  refine kN ?_
  refine kReg tok ?_
  refine tAdd tok rfl rfl rfl (by decide) ?_
  refine tE ?_
  refine kLP ?_
  refine kR tok ?_
  refine tE ?_
  refine kSeq ?_
  refine kIfT rfl ?_
  refine kSkip ?_
  refine kN ?_
  refine kSeq ?_
  refine kBlock ?_
  refine kR tok ?_
  refine tIdx tok rfl rfl rfl rfl (by decide) ?_
  refine tLd tok 2 rfl rfl rfl rfl rfl ?_
  refine tE ?_
  refine kReg tok ?_
  refine tIdxP tok ar_53 rfl rfl rfl (by decide) ?_
  refine tSt tok 0 rfl rfl rfl rfl rfl rfl rfl (fun _ _ => owed0) ?_
  refine tN ?_
  refine kBN ?_
  refine kN ?_
  refine kReg tok ?_
  refine tAdd tok rfl rfl rfl (by decide) ?_
  refine tE ?_
  refine kLP ?_
  refine kR tok ?_
  refine tE ?_
  refine kSeq ?_
  refine kIfT rfl ?_
  refine kSkip ?_
  refine kN ?_
  refine kSeq ?_
  refine kBlock ?_
  refine kR tok ?_
  refine tIdx tok rfl rfl rfl rfl (by decide) ?_
  refine tLd tok 2 rfl rfl rfl rfl rfl ?_
  refine tE ?_
  refine kReg tok ?_
  refine tIdxP tok ar_53 rfl rfl rfl (by decide) ?_
  refine tSt tok 0 rfl rfl rfl rfl rfl rfl rfl (fun _ _ => owed0) ?_
  refine tN ?_
  refine kBN ?_
  refine kN ?_
  refine kReg tok ?_
  refine tAdd tok rfl rfl rfl (by decide) ?_
  refine tE ?_
  refine kLP ?_
  refine kR tok ?_
  refine tE ?_
  refine kSeq ?_
  refine kIfF rfl ?_
  refine kExit ?_
  refine kE ?_
  refine kE ?_
  refine kBE ?_
  refine kN ?_
  refine kR tok ?_
  refine tLdA tok 0 _ rfl rfl rfl rfl rfl rfl ?_
  refine tStA tok 1 rfl rfl rfl rfl rfl rfl rfl rfl (fun _ _ => owed0) ?_
  refine tE ?_
  refine kRet ?_
  refine kEndC [3] _ (.inr rfl) (rC tok 1 _ rfl rfl rfl rfl rfl rN) rfl rfl rfl ⟨rfl, rfl⟩
theorem every : Con Tryz.prog 72 [].toArray [] (fun v H => v = laneV true true true ∧ H = []) := by
  refine Con.intro Tryz.func72 (by kernel_rfl) rfl Tryz.ntmps72 rfl ?_; intro R w0
  refine kR tok ?_
  refine tAl tok rfl rfl (fun _ _ _ => owed0) (fun b1 => ?_)
  refine tE ?_
  refine kR tok ?_
  refine tBS tok rfl rfl (fun _ _ _ => owed0) (fun b2 => ?_)
  refine tCl tok (of_012 _) [0] rfl rfl rfl rfl rfl (fun _ _ => owed0) ?_
  refine tStA tok 0 rfl rfl rfl rfl rfl rfl rfl rfl (fun _ _ => owed0) ?_
  refine tE ?_
  refine kRet ?_
  refine kEndC [1] _ (.inr rfl) (rC tok 0 _ rfl rfl rfl rfl rfl rN) rfl rfl rfl ⟨rfl, rfl⟩
/-- Does a kind need the lock of jobs, of nodes, of the profile? -/
def nJ (k : Int) : Bool := decide (k = 1 ∨ k = 2 ∨ k = 3 ∨ k = 4 ∨ k = 5 ∨ k = 6 ∨ k = 7 ∨ k = 8 ∨ k = 9 ∨ k = 11)
def nN (k : Int) : Bool := decide (k = 2 ∨ k = 5 ∨ k = 7 ∨ k = 8 ∨ k = 9 ∨ k = 10)
def nP (k : Int) : Bool := decide (k = 1 ∨ k = 2 ∨ k = 3 ∨ k = 4 ∨ k = 5 ∨ k = 7 ∨ k = 8 ∨ k = 9 ∨ k = 12)
theorem needs (k : Int) : Con Tryz.prog 23 [vi k].toArray [] (fun v H => v = laneV (nJ k) (nN k) (nP k) ∧ H = []) := by
  refine Con.intro Tryz.func23 (by kernel_rfl) rfl Tryz.ntmps23 rfl ?_; intro R w0
  refine kR tok ?_
  refine tAl tok rfl rfl (fun _ _ _ => owed0) (fun b1 => ?_)
  refine tE ?_
  refine kSeq ?_
  refine kR tok ?_
  refine tE ?_
  refine kBlock ?_
  refine kSeq ?_
  refine kR tok ?_
  refine tE ?_
  refine kIfD rfl (fun h => ?_) (fun h => ?_)
  · refine kSkip ?_
    refine kN ?_
    refine kIfD rfl (fun h => ?_) (fun h => absurd (by assumption) h)
    refine kR tok ?_
    refine tBS tok rfl rfl (fun _ _ _ => owed0) (fun b2 => ?_)
    refine tCl tok (of_02 _) [0] rfl rfl rfl rfl rfl (fun _ _ => owed0) ?_
    refine tStA tok 0 rfl rfl rfl rfl rfl rfl rfl rfl (fun _ _ => owed0) ?_
    refine tE ?_
    refine kRet ?_
    refine kBT ?_
    refine kT ?_
    refine kEndC [1] _ (.inr rfl) (rC tok 0 _ rfl rfl rfl rfl rfl rN) rfl rfl rfl ⟨by (simp [laneV, nJ, nN, nP, *] <;> rfl; done), rfl⟩
  · refine kR tok ?_
    refine tE ?_
    refine kIfD rfl (fun h => ?_) (fun h => ?_)
    · refine kSkip ?_
      refine kN ?_
      refine kIfD rfl (fun h => ?_) (fun h => absurd (by assumption) h)
      refine kR tok ?_
      refine tBS tok rfl rfl (fun _ _ _ => owed0) (fun b2 => ?_)
      refine tCl tok (of_02 _) [0] rfl rfl rfl rfl rfl (fun _ _ => owed0) ?_
      refine tStA tok 0 rfl rfl rfl rfl rfl rfl rfl rfl (fun _ _ => owed0) ?_
      refine tE ?_
      refine kRet ?_
      refine kBT ?_
      refine kT ?_
      refine kEndC [1] _ (.inr rfl) (rC tok 0 _ rfl rfl rfl rfl rfl rN) rfl rfl rfl ⟨by (simp [laneV, nJ, nN, nP, *] <;> rfl; done), rfl⟩
    · refine kReg tok ?_
      refine tE ?_
      refine kIfD rfl (fun h => ?_) (fun h => ?_)
      · refine kR tok ?_
        refine tBS tok rfl rfl (fun _ _ _ => owed0) (fun b2 => ?_)
        refine tCl tok (of_02 _) [0] rfl rfl rfl rfl rfl (fun _ _ => owed0) ?_
        refine tStA tok 0 rfl rfl rfl rfl rfl rfl rfl rfl (fun _ _ => owed0) ?_
        refine tE ?_
        refine kRet ?_
        refine kBT ?_
        refine kT ?_
        refine kEndC [1] _ (.inr rfl) (rC tok 0 _ rfl rfl rfl rfl rfl rN) rfl rfl rfl ⟨by (simp [laneV, nJ, nN, nP, *] <;> rfl; done), rfl⟩
      · refine kSeq ?_
        refine kR tok ?_
        refine tE ?_
        refine kIfD rfl (fun h => ?_) (fun h => ?_)
        · refine kSkip ?_
          refine kN ?_
          refine kIfD rfl (fun h => ?_) (fun h => absurd (by assumption) h)
          refine kR tok ?_
          refine tCl tok (every) [] rfl rfl rfl rfl rfl (fun _ _ => owed0) ?_
          refine tStA tok 0 rfl rfl rfl rfl rfl rfl rfl rfl (fun _ _ => owed0) ?_
          refine tE ?_
          refine kRet ?_
          refine kBT ?_
          refine kT ?_
          refine kEndC [1] _ (.inr rfl) (rC tok 0 _ rfl rfl rfl rfl rfl rN) rfl rfl rfl ⟨by (simp [laneV, nJ, nN, nP, *] <;> rfl; done), rfl⟩
        · refine kR tok ?_
          refine tE ?_
          refine kIfD rfl (fun h => ?_) (fun h => ?_)
          · refine kSkip ?_
            refine kN ?_
            refine kIfD rfl (fun h => ?_) (fun h => absurd (by assumption) h)
            refine kR tok ?_
            refine tCl tok (every) [] rfl rfl rfl rfl rfl (fun _ _ => owed0) ?_
            refine tStA tok 0 rfl rfl rfl rfl rfl rfl rfl rfl (fun _ _ => owed0) ?_
            refine tE ?_
            refine kRet ?_
            refine kBT ?_
            refine kT ?_
            refine kEndC [1] _ (.inr rfl) (rC tok 0 _ rfl rfl rfl rfl rfl rN) rfl rfl rfl ⟨by (simp [laneV, nJ, nN, nP, *] <;> rfl; done), rfl⟩
          · refine kR tok ?_
            refine tE ?_
            refine kIfD rfl (fun h => ?_) (fun h => ?_)
            · refine kSkip ?_
              refine kN ?_
              refine kIfD rfl (fun h => ?_) (fun h => absurd (by assumption) h)
              refine kR tok ?_
              refine tCl tok (every) [] rfl rfl rfl rfl rfl (fun _ _ => owed0) ?_
              refine tStA tok 0 rfl rfl rfl rfl rfl rfl rfl rfl (fun _ _ => owed0) ?_
              refine tE ?_
              refine kRet ?_
              refine kBT ?_
              refine kT ?_
              refine kEndC [1] _ (.inr rfl) (rC tok 0 _ rfl rfl rfl rfl rfl rN) rfl rfl rfl ⟨by (simp [laneV, nJ, nN, nP, *] <;> rfl; done), rfl⟩
            · refine kR tok ?_
              refine tE ?_
              refine kIfD rfl (fun h => ?_) (fun h => ?_)
              · refine kSkip ?_
                refine kN ?_
                refine kIfD rfl (fun h => ?_) (fun h => absurd (by assumption) h)
                refine kR tok ?_
                refine tCl tok (every) [] rfl rfl rfl rfl rfl (fun _ _ => owed0) ?_
                refine tStA tok 0 rfl rfl rfl rfl rfl rfl rfl rfl (fun _ _ => owed0) ?_
                refine tE ?_
                refine kRet ?_
                refine kBT ?_
                refine kT ?_
                refine kEndC [1] _ (.inr rfl) (rC tok 0 _ rfl rfl rfl rfl rfl rN) rfl rfl rfl ⟨by (simp [laneV, nJ, nN, nP, *] <;> rfl; done), rfl⟩
              · refine kReg tok ?_
                refine tE ?_
                refine kIfD rfl (fun h => ?_) (fun h => ?_)
                · refine kR tok ?_
                  refine tCl tok (every) [] rfl rfl rfl rfl rfl (fun _ _ => owed0) ?_
                  refine tStA tok 0 rfl rfl rfl rfl rfl rfl rfl rfl (fun _ _ => owed0) ?_
                  refine tE ?_
                  refine kRet ?_
                  refine kBT ?_
                  refine kT ?_
                  refine kEndC [1] _ (.inr rfl) (rC tok 0 _ rfl rfl rfl rfl rfl rN) rfl rfl rfl ⟨by (simp [laneV, nJ, nN, nP, *] <;> rfl; done), rfl⟩
                · refine kSeq ?_
                  refine kR tok ?_
                  refine tE ?_
                  refine kIfD rfl (fun h => ?_) (fun h => ?_)
                  · refine kSkip ?_
                    refine kN ?_
                    refine kIfD rfl (fun h => ?_) (fun h => absurd (by assumption) h)
                    refine kR tok ?_
                    refine tBS tok rfl rfl (fun _ _ _ => owed0) (fun b2 => ?_)
                    refine tCl tok (of_0 _) [0] rfl rfl rfl rfl rfl (fun _ _ => owed0) ?_
                    refine tStA tok 0 rfl rfl rfl rfl rfl rfl rfl rfl (fun _ _ => owed0) ?_
                    refine tE ?_
                    refine kRet ?_
                    refine kBT ?_
                    refine kT ?_
                    refine kEndC [1] _ (.inr rfl) (rC tok 0 _ rfl rfl rfl rfl rfl rN) rfl rfl rfl ⟨by (simp [laneV, nJ, nN, nP, *] <;> rfl; done), rfl⟩
                  · refine kReg tok ?_
                    refine tE ?_
                    refine kIfD rfl (fun h => ?_) (fun h => ?_)
                    · refine kR tok ?_
                      refine tBS tok rfl rfl (fun _ _ _ => owed0) (fun b2 => ?_)
                      refine tCl tok (of_0 _) [0] rfl rfl rfl rfl rfl (fun _ _ => owed0) ?_
                      refine tStA tok 0 rfl rfl rfl rfl rfl rfl rfl rfl (fun _ _ => owed0) ?_
                      refine tE ?_
                      refine kRet ?_
                      refine kBT ?_
                      refine kT ?_
                      refine kEndC [1] _ (.inr rfl) (rC tok 0 _ rfl rfl rfl rfl rfl rN) rfl rfl rfl ⟨by (simp [laneV, nJ, nN, nP, *] <;> rfl; done), rfl⟩
                    · refine kR tok ?_
                      refine tE ?_
                      refine kIfD rfl (fun h => ?_) (fun h => ?_)
                      · refine kR tok ?_
                        refine tBS tok rfl rfl (fun _ _ _ => owed0) (fun b2 => ?_)
                        refine tCl tok (of_1 _) [0] rfl rfl rfl rfl rfl (fun _ _ => owed0) ?_
                        refine tStA tok 0 rfl rfl rfl rfl rfl rfl rfl rfl (fun _ _ => owed0) ?_
                        refine tE ?_
                        refine kRet ?_
                        refine kBT ?_
                        refine kT ?_
                        refine kEndC [1] _ (.inr rfl) (rC tok 0 _ rfl rfl rfl rfl rfl rN) rfl rfl rfl ⟨by (simp [laneV, nJ, nN, nP, *] <;> rfl; done), rfl⟩
                      · refine kR tok ?_
                        refine tE ?_
                        refine kIfD rfl (fun h => ?_) (fun h => ?_)
                        · refine kR tok ?_
                          refine tBS tok rfl rfl (fun _ _ _ => owed0) (fun b2 => ?_)
                          refine tCl tok (of_2 _) [0] rfl rfl rfl rfl rfl (fun _ _ => owed0) ?_
                          refine tStA tok 0 rfl rfl rfl rfl rfl rfl rfl rfl (fun _ _ => owed0) ?_
                          refine tE ?_
                          refine kRet ?_
                          refine kBT ?_
                          refine kT ?_
                          refine kEndC [1] _ (.inr rfl) (rC tok 0 _ rfl rfl rfl rfl rfl rN) rfl rfl rfl ⟨by (simp [laneV, nJ, nN, nP, *] <;> rfl; done), rfl⟩
                        · refine kSkip ?_
                          refine kBN ?_
                          refine kN ?_
                          refine kR tok ?_
                          refine tBdA tok ar_53 rfl rfl ?_
                          refine tStA tok 0 rfl rfl rfl rfl rfl rfl rfl rfl (fun _ _ => owed0) ?_
                          refine tE ?_
                          refine kRet ?_
                          refine kEndC [1] _ (.inr rfl) (rC tok 0 _ rfl rfl rfl rfl rfl rN) rfl rfl rfl ⟨by (simp [laneV, nJ, nN, nP, *] <;> rfl; done), rfl⟩
def cnt (a b c : Bool) : Int := (if a then 1 else 0) + (if b then 1 else 0) + (if c then 1 else 0)
theorem cnt_le (a b c : Bool) : 0 ≤ cnt a b c ∧ cnt a b c ≤ 3 := by cases a <;> cases b <;> cases c <;> decide
theorem lane_len (a b c : Bool) : Con Tryz.prog 24 [laneV a b c].toArray [] (fun v H => v = vi (cnt a b c) ∧ H = []) := by
  refine Con.intro Tryz.func24 (by kernel_rfl) rfl Tryz.ntmps24 rfl ?_; intro R w0
  refine kR tok ?_
  refine tBox tok rfl rfl rfl (fun _ _ _ => owed0) (fun b1 => ?_)
  refine tE ?_
  refine kR tok ?_
  refine tE ?_
  refine kSeq ?_
  refine kR tok ?_
  refine tLdA tok 0 _ rfl rfl rfl rfl rfl rfl ?_
  refine tE ?_
  refine kBlock ?_
  refine kUn ?_
  refine kR tok ?_
  refine tE ?_
  refine kSeq ?_
  refine kIfT rfl ?_
  refine kSkip ?_
  refine kN ?_
  refine kSeq ?_
  refine kBlock ?_
  refine kR tok ?_
  refine tIdxV tok ar_53 rfl rfl rfl rfl (by decide) rfl ?_
  refine tE ?_
  refine kR tok ?_
  refine tE ?_
  refine kIf rfl (fun h => ?_) (fun h => ?_)
  · refine kReg tok ?_
    refine tAdd tok rfl rfl rfl (by decide) ?_
    refine tN ?_
    refine kBN ?_
    refine kN ?_
    refine kReg tok ?_
    refine tAdd tok rfl rfl rfl (by decide) ?_
    refine tE ?_
    refine kLP ?_
    refine kR tok ?_
    refine tE ?_
    refine kSeq ?_
    refine kIfT rfl ?_
    refine kSkip ?_
    refine kN ?_
    refine kSeq ?_
    refine kBlock ?_
    refine kR tok ?_
    refine tIdxV tok ar_53 rfl rfl rfl rfl (by decide) rfl ?_
    refine tE ?_
    refine kR tok ?_
    refine tE ?_
    refine kIf rfl (fun h => ?_) (fun h => ?_)
    · refine kReg tok ?_
      refine tAdd tok rfl rfl rfl (by decide) ?_
      refine tN ?_
      refine kBN ?_
      refine kN ?_
      refine kReg tok ?_
      refine tAdd tok rfl rfl rfl (by decide) ?_
      refine tE ?_
      refine kLP ?_
      refine kR tok ?_
      refine tE ?_
      refine kSeq ?_
      refine kIfT rfl ?_
      refine kSkip ?_
      refine kN ?_
      refine kSeq ?_
      refine kBlock ?_
      refine kR tok ?_
      refine tIdxV tok ar_53 rfl rfl rfl rfl (by decide) rfl ?_
      refine tE ?_
      refine kR tok ?_
      refine tE ?_
      refine kIf rfl (fun h => ?_) (fun h => ?_)
      · refine kReg tok ?_
        refine tAdd tok rfl rfl rfl (by decide) ?_
        refine tN ?_
        refine kBN ?_
        refine kN ?_
        refine kReg tok ?_
        refine tAdd tok rfl rfl rfl (by decide) ?_
        refine tE ?_
        refine kLP ?_
        refine kR tok ?_
        refine tE ?_
        refine kSeq ?_
        refine kIfF rfl ?_
        refine kExit ?_
        refine kE ?_
        refine kE ?_
        refine kBE ?_
        refine kN ?_
        refine kR tok ?_
        refine tE ?_
        refine kRet ?_
        refine kEnd [1] _ (.inr rfl) rfl rfl rfl ⟨by (subst_vars; rfl; done), rfl⟩
      · refine kSkip ?_
        refine kBN ?_
        refine kN ?_
        refine kReg tok ?_
        refine tAdd tok rfl rfl rfl (by decide) ?_
        refine tE ?_
        refine kLP ?_
        refine kR tok ?_
        refine tE ?_
        refine kSeq ?_
        refine kIfF rfl ?_
        refine kExit ?_
        refine kE ?_
        refine kE ?_
        refine kBE ?_
        refine kN ?_
        refine kR tok ?_
        refine tE ?_
        refine kRet ?_
        refine kEnd [1] _ (.inr rfl) rfl rfl rfl ⟨by (subst_vars; rfl; done), rfl⟩
    · refine kSkip ?_
      refine kBN ?_
      refine kN ?_
      refine kReg tok ?_
      refine tAdd tok rfl rfl rfl (by decide) ?_
      refine tE ?_
      refine kLP ?_
      refine kR tok ?_
      refine tE ?_
      refine kSeq ?_
      refine kIfT rfl ?_
      refine kSkip ?_
      refine kN ?_
      refine kSeq ?_
      refine kBlock ?_
      refine kR tok ?_
      refine tIdxV tok ar_53 rfl rfl rfl rfl (by decide) rfl ?_
      refine tE ?_
      refine kR tok ?_
      refine tE ?_
      refine kIf rfl (fun h => ?_) (fun h => ?_)
      · refine kReg tok ?_
        refine tAdd tok rfl rfl rfl (by decide) ?_
        refine tN ?_
        refine kBN ?_
        refine kN ?_
        refine kReg tok ?_
        refine tAdd tok rfl rfl rfl (by decide) ?_
        refine tE ?_
        refine kLP ?_
        refine kR tok ?_
        refine tE ?_
        refine kSeq ?_
        refine kIfF rfl ?_
        refine kExit ?_
        refine kE ?_
        refine kE ?_
        refine kBE ?_
        refine kN ?_
        refine kR tok ?_
        refine tE ?_
        refine kRet ?_
        refine kEnd [1] _ (.inr rfl) rfl rfl rfl ⟨by (subst_vars; rfl; done), rfl⟩
      · refine kSkip ?_
        refine kBN ?_
        refine kN ?_
        refine kReg tok ?_
        refine tAdd tok rfl rfl rfl (by decide) ?_
        refine tE ?_
        refine kLP ?_
        refine kR tok ?_
        refine tE ?_
        refine kSeq ?_
        refine kIfF rfl ?_
        refine kExit ?_
        refine kE ?_
        refine kE ?_
        refine kBE ?_
        refine kN ?_
        refine kR tok ?_
        refine tE ?_
        refine kRet ?_
        refine kEnd [1] _ (.inr rfl) rfl rfl rfl ⟨by (subst_vars; rfl; done), rfl⟩
  · refine kSkip ?_
    refine kBN ?_
    refine kN ?_
    refine kReg tok ?_
    refine tAdd tok rfl rfl rfl (by decide) ?_
    refine tE ?_
    refine kLP ?_
    refine kR tok ?_
    refine tE ?_
    refine kSeq ?_
    refine kIfT rfl ?_
    refine kSkip ?_
    refine kN ?_
    refine kSeq ?_
    refine kBlock ?_
    refine kR tok ?_
    refine tIdxV tok ar_53 rfl rfl rfl rfl (by decide) rfl ?_
    refine tE ?_
    refine kR tok ?_
    refine tE ?_
    refine kIf rfl (fun h => ?_) (fun h => ?_)
    · refine kReg tok ?_
      refine tAdd tok rfl rfl rfl (by decide) ?_
      refine tN ?_
      refine kBN ?_
      refine kN ?_
      refine kReg tok ?_
      refine tAdd tok rfl rfl rfl (by decide) ?_
      refine tE ?_
      refine kLP ?_
      refine kR tok ?_
      refine tE ?_
      refine kSeq ?_
      refine kIfT rfl ?_
      refine kSkip ?_
      refine kN ?_
      refine kSeq ?_
      refine kBlock ?_
      refine kR tok ?_
      refine tIdxV tok ar_53 rfl rfl rfl rfl (by decide) rfl ?_
      refine tE ?_
      refine kR tok ?_
      refine tE ?_
      refine kIf rfl (fun h => ?_) (fun h => ?_)
      · refine kReg tok ?_
        refine tAdd tok rfl rfl rfl (by decide) ?_
        refine tN ?_
        refine kBN ?_
        refine kN ?_
        refine kReg tok ?_
        refine tAdd tok rfl rfl rfl (by decide) ?_
        refine tE ?_
        refine kLP ?_
        refine kR tok ?_
        refine tE ?_
        refine kSeq ?_
        refine kIfF rfl ?_
        refine kExit ?_
        refine kE ?_
        refine kE ?_
        refine kBE ?_
        refine kN ?_
        refine kR tok ?_
        refine tE ?_
        refine kRet ?_
        refine kEnd [1] _ (.inr rfl) rfl rfl rfl ⟨by (subst_vars; rfl; done), rfl⟩
      · refine kSkip ?_
        refine kBN ?_
        refine kN ?_
        refine kReg tok ?_
        refine tAdd tok rfl rfl rfl (by decide) ?_
        refine tE ?_
        refine kLP ?_
        refine kR tok ?_
        refine tE ?_
        refine kSeq ?_
        refine kIfF rfl ?_
        refine kExit ?_
        refine kE ?_
        refine kE ?_
        refine kBE ?_
        refine kN ?_
        refine kR tok ?_
        refine tE ?_
        refine kRet ?_
        refine kEnd [1] _ (.inr rfl) rfl rfl rfl ⟨by (subst_vars; rfl; done), rfl⟩
    · refine kSkip ?_
      refine kBN ?_
      refine kN ?_
      refine kReg tok ?_
      refine tAdd tok rfl rfl rfl (by decide) ?_
      refine tE ?_
      refine kLP ?_
      refine kR tok ?_
      refine tE ?_
      refine kSeq ?_
      refine kIfT rfl ?_
      refine kSkip ?_
      refine kN ?_
      refine kSeq ?_
      refine kBlock ?_
      refine kR tok ?_
      refine tIdxV tok ar_53 rfl rfl rfl rfl (by decide) rfl ?_
      refine tE ?_
      refine kR tok ?_
      refine tE ?_
      refine kIf rfl (fun h => ?_) (fun h => ?_)
      · refine kReg tok ?_
        refine tAdd tok rfl rfl rfl (by decide) ?_
        refine tN ?_
        refine kBN ?_
        refine kN ?_
        refine kReg tok ?_
        refine tAdd tok rfl rfl rfl (by decide) ?_
        refine tE ?_
        refine kLP ?_
        refine kR tok ?_
        refine tE ?_
        refine kSeq ?_
        refine kIfF rfl ?_
        refine kExit ?_
        refine kE ?_
        refine kE ?_
        refine kBE ?_
        refine kN ?_
        refine kR tok ?_
        refine tE ?_
        refine kRet ?_
        refine kEnd [1] _ (.inr rfl) rfl rfl rfl ⟨by (subst_vars; rfl; done), rfl⟩
      · refine kSkip ?_
        refine kBN ?_
        refine kN ?_
        refine kReg tok ?_
        refine tAdd tok rfl rfl rfl (by decide) ?_
        refine tE ?_
        refine kLP ?_
        refine kR tok ?_
        refine tE ?_
        refine kSeq ?_
        refine kIfF rfl ?_
        refine kExit ?_
        refine kE ?_
        refine kE ?_
        refine kBE ?_
        refine kN ?_
        refine kR tok ?_
        refine tE ?_
        refine kRet ?_
        refine kEnd [1] _ (.inr rfl) rfl rfl rfl ⟨by (subst_vars; rfl; done), rfl⟩
end Go.Proofs
