/- How many steps are said: 'berthagelaw23.FairCounts'. -/
import Derived.Test.YtndgmmcpjmgfgaaGreatDoorXRu
set_option linter.unusedSimpArgs false
set_option linter.unusedVariables false
namespace Go.Proofs
open Bg
set_option maxRecDepth 10000
set_option maxHeartbeats 4000000
theorem tdiv_le (a b : Int) (ha : 0 ≤ a) : -a ≤ a.tdiv b ∧ a.tdiv b ≤ a := by
  have h := Int.natAbs_tdiv_le_natAbs a b
  omega
def eachV (k live : Int) : Int := 2 * cnt (nJ k) (nN k) (nP k) + (if k = 1 ∨ k = 4 ∨ k = 7 then live + 3 else if k = 2 ∨ k = 3 ∨ k = 5 then 3 else if k = 9 then 2 * live + 2 else 1) + 1
theorem each (k live : Int) (hl : 0 ≤ live ∧ live ≤ 1024) : Con Tryz.prog 26 [vi k, vi live].toArray [] (fun v H => v = vi (eachV k live) ∧ H = []) := by
  have hc := cnt_le (nJ k) (nN k) (nP k)
  refine Con.intro Tryz.func26 (by kernel_rfl) rfl Tryz.ntmps26 rfl ?_; intro R w0
  refine kR tok ?_
  refine tE ?_
  refine kR tok ?_
  refine tE ?_
  refine kSeq ?_
  refine kR tok ?_
  refine tE ?_
  refine kBlock ?_
  refine kSeq ?_
  refine kR tok ?_
  refine tE ?_
  refine kIfD rfl (fun h => ?_) (fun h => ?_)
  · refine kSkip ?_
    refine kN ?_
    refine kIfD rfl (fun h => ?_) (fun h => absurd (by assumption) h)
    refine kReg tok ?_
    refine tAdd tok rfl rfl rfl (by omega) ?_
    refine tN ?_
    refine kBN ?_
    refine kN ?_
    refine kR tok ?_
    refine tCl tok (needs _) [] rfl rfl rfl rfl rfl (fun _ _ => owed0) ?_
    refine tCl tok (lane_len _ _ _) [] rfl rfl rfl rfl rfl (fun _ _ => owed0) ?_
    refine tMul tok rfl rfl rfl (by omega) ?_
    refine tAdd tok rfl rfl rfl (by omega) ?_
    refine tAdd tok rfl rfl rfl (by omega) ?_
    refine tE ?_
    refine kRet ?_
    refine kEnd [0] _ (.inr rfl) rfl rfl rfl ⟨by (simp [eachV, *]; done), rfl⟩
  · refine kR tok ?_
    refine tE ?_
    refine kIfD rfl (fun h => ?_) (fun h => ?_)
    · refine kSkip ?_
      refine kN ?_
      refine kIfD rfl (fun h => ?_) (fun h => absurd (by assumption) h)
      refine kReg tok ?_
      refine tAdd tok rfl rfl rfl (by omega) ?_
      refine tN ?_
      refine kBN ?_
      refine kN ?_
      refine kR tok ?_
      refine tCl tok (needs _) [] rfl rfl rfl rfl rfl (fun _ _ => owed0) ?_
      refine tCl tok (lane_len _ _ _) [] rfl rfl rfl rfl rfl (fun _ _ => owed0) ?_
      refine tMul tok rfl rfl rfl (by omega) ?_
      refine tAdd tok rfl rfl rfl (by omega) ?_
      refine tAdd tok rfl rfl rfl (by omega) ?_
      refine tE ?_
      refine kRet ?_
      refine kEnd [0] _ (.inr rfl) rfl rfl rfl ⟨by (simp [eachV, *]; done), rfl⟩
    · refine kReg tok ?_
      refine tE ?_
      refine kIfD rfl (fun h => ?_) (fun h => ?_)
      · refine kReg tok ?_
        refine tAdd tok rfl rfl rfl (by omega) ?_
        refine tN ?_
        refine kBN ?_
        refine kN ?_
        refine kR tok ?_
        refine tCl tok (needs _) [] rfl rfl rfl rfl rfl (fun _ _ => owed0) ?_
        refine tCl tok (lane_len _ _ _) [] rfl rfl rfl rfl rfl (fun _ _ => owed0) ?_
        refine tMul tok rfl rfl rfl (by omega) ?_
        refine tAdd tok rfl rfl rfl (by omega) ?_
        refine tAdd tok rfl rfl rfl (by omega) ?_
        refine tE ?_
        refine kRet ?_
        refine kEnd [0] _ (.inr rfl) rfl rfl rfl ⟨by (simp [eachV, *]; done), rfl⟩
      · refine kSeq ?_
        refine kR tok ?_
        refine tE ?_
        refine kIfD rfl (fun h => ?_) (fun h => ?_)
        · refine kSkip ?_
          refine kN ?_
          refine kIfD rfl (fun h => ?_) (fun h => absurd (by assumption) h)
          refine kReg tok ?_
          refine tN ?_
          refine kBN ?_
          refine kN ?_
          refine kR tok ?_
          refine tCl tok (needs _) [] rfl rfl rfl rfl rfl (fun _ _ => owed0) ?_
          refine tCl tok (lane_len _ _ _) [] rfl rfl rfl rfl rfl (fun _ _ => owed0) ?_
          refine tMul tok rfl rfl rfl (by omega) ?_
          refine tAdd tok rfl rfl rfl (by omega) ?_
          refine tAdd tok rfl rfl rfl (by omega) ?_
          refine tE ?_
          refine kRet ?_
          refine kEnd [0] _ (.inr rfl) rfl rfl rfl ⟨by (simp [eachV, *]; done), rfl⟩
        · refine kR tok ?_
          refine tE ?_
          refine kIfD rfl (fun h => ?_) (fun h => ?_)
          · refine kSkip ?_
            refine kN ?_
            refine kIfD rfl (fun h => ?_) (fun h => absurd (by assumption) h)
            refine kReg tok ?_
            refine tN ?_
            refine kBN ?_
            refine kN ?_
            refine kR tok ?_
            refine tCl tok (needs _) [] rfl rfl rfl rfl rfl (fun _ _ => owed0) ?_
            refine tCl tok (lane_len _ _ _) [] rfl rfl rfl rfl rfl (fun _ _ => owed0) ?_
            refine tMul tok rfl rfl rfl (by omega) ?_
            refine tAdd tok rfl rfl rfl (by omega) ?_
            refine tAdd tok rfl rfl rfl (by omega) ?_
            refine tE ?_
            refine kRet ?_
            refine kEnd [0] _ (.inr rfl) rfl rfl rfl ⟨by (simp [eachV, *]; done), rfl⟩
          · refine kReg tok ?_
            refine tE ?_
            refine kIfD rfl (fun h => ?_) (fun h => ?_)
            · refine kReg tok ?_
              refine tN ?_
              refine kBN ?_
              refine kN ?_
              refine kR tok ?_
              refine tCl tok (needs _) [] rfl rfl rfl rfl rfl (fun _ _ => owed0) ?_
              refine tCl tok (lane_len _ _ _) [] rfl rfl rfl rfl rfl (fun _ _ => owed0) ?_
              refine tMul tok rfl rfl rfl (by omega) ?_
              refine tAdd tok rfl rfl rfl (by omega) ?_
              refine tAdd tok rfl rfl rfl (by omega) ?_
              refine tE ?_
              refine kRet ?_
              refine kEnd [0] _ (.inr rfl) rfl rfl rfl ⟨by (simp [eachV, *]; done), rfl⟩
            · refine kR tok ?_
              refine tE ?_
              refine kIfD rfl (fun h => ?_) (fun h => ?_)
              · refine kReg tok ?_
                refine tMul tok rfl rfl rfl (by omega) ?_
                refine tAdd tok rfl rfl rfl (by omega) ?_
                refine tN ?_
                refine kBN ?_
                refine kN ?_
                refine kR tok ?_
                refine tCl tok (needs _) [] rfl rfl rfl rfl rfl (fun _ _ => owed0) ?_
                refine tCl tok (lane_len _ _ _) [] rfl rfl rfl rfl rfl (fun _ _ => owed0) ?_
                refine tMul tok rfl rfl rfl (by omega) ?_
                refine tAdd tok rfl rfl rfl (by omega) ?_
                refine tAdd tok rfl rfl rfl (by omega) ?_
                refine tE ?_
                refine kRet ?_
                refine kEnd [0] _ (.inr rfl) rfl rfl rfl ⟨by (simp [eachV, *]; done), rfl⟩
              · refine kSkip ?_
                refine kBN ?_
                refine kN ?_
                refine kR tok ?_
                refine tCl tok (needs _) [] rfl rfl rfl rfl rfl (fun _ _ => owed0) ?_
                refine tCl tok (lane_len _ _ _) [] rfl rfl rfl rfl rfl (fun _ _ => owed0) ?_
                refine tMul tok rfl rfl rfl (by omega) ?_
                refine tAdd tok rfl rfl rfl (by omega) ?_
                refine tAdd tok rfl rfl rfl (by omega) ?_
                refine tE ?_
                refine kRet ?_
                refine kEnd [0] _ (.inr rfl) rfl rfl rfl ⟨by (simp [eachV, *]; done), rfl⟩
def passV (sm live : Int) : Int := if sm < 1 then 0 else 6 + live.tdiv sm + 1 + live * 10
theorem pass_ (sm live : Int) (hl : 0 ≤ live ∧ live ≤ 1024) : Con Tryz.prog 27 [vi sm, vi live].toArray [] (fun v H => v = vi (passV sm live) ∧ H = []) := by
  have hb := tdiv_le live sm hl.1
  refine Con.intro Tryz.func27 (by kernel_rfl) rfl Tryz.ntmps27 rfl ?_; intro R w0
  refine kR tok ?_
  refine tE ?_
  refine kSeq ?_
  refine kR tok ?_
  refine tE ?_
  refine kIfD rfl (fun h => ?_) (fun h => ?_)
  · refine kR tok ?_
    refine tE ?_
    refine kRet ?_
    refine kT ?_
    refine kEnd [0] _ (.inr rfl) rfl rfl rfl ⟨by (simp [passV, *]; done), rfl⟩
  · refine kSkip ?_
    refine kN ?_
    refine kR tok ?_
    refine tQuo tok rfl rfl rfl (by omega) (by omega) ?_
    refine tAdd tok rfl rfl rfl (by omega) ?_
    refine tAdd tok rfl rfl rfl (by omega) ?_
    refine tMul tok rfl rfl rfl (by omega) ?_
    refine tAdd tok rfl rfl rfl (by omega) ?_
    refine tE ?_
    refine kRet ?_
    refine kEnd [0] _ (.inr rfl) rfl rfl rfl ⟨by (simp [passV, *]; done), rfl⟩
theorem awake23 : Con Tryz.prog 22 [].toArray [] (fun v H => v = .bool true ∧ H = []) := by
  refine Con.intro Tryz.func22 (by kernel_rfl) rfl Tryz.ntmps22 rfl ?_; intro R w0
  refine kR tok ?_
  refine tE ?_
  refine kR tok ?_
  refine tCl tok (each 12 9 (by decide)) [] rfl rfl rfl rfl rfl (fun _ _ => owed0) ?_
  refine tG1 tok rfl ?_
  refine tCl tok (pass_ 0 3 (by decide)) [] rfl rfl rfl rfl rfl (fun _ _ => owed0) ?_
  refine tE ?_
  refine kRet ?_
  refine kEnd [0] _ (.inr rfl) rfl rfl rfl ⟨rfl, rfl⟩
theorem ctrl_none_nil : Con Tryz.prog 75 [.pointer none].toArray [] (fun v H => v = .bool true ∧ H = []) := by
  refine Con.intro Tryz.func75 (by kernel_rfl) rfl Tryz.ntmps75 rfl ?_; intro R w0
  refine kR tok ?_
  refine tE ?_
  refine kR tok ?_
  refine tNil tok false rfl rfl rfl rfl ?_
  refine tG1 tok rfl ?_
  refine tE ?_
  refine kRet ?_
  refine kEnd [0] _ (.inr rfl) rfl rfl rfl ⟨rfl, rfl⟩
theorem ctrl_locks_nil : Con Tryz.prog 35 [.pointer none].toArray [] (fun v H => v = .pointer none ∧ H = []) := by
  refine Con.intro Tryz.func35 (by kernel_rfl) rfl Tryz.ntmps35 rfl ?_; intro R w0
  refine kR tok ?_
  refine tE ?_
  refine kSeq ?_
  refine kR tok ?_
  refine tCl tok (ctrl_none_nil) [] rfl rfl rfl rfl rfl (fun _ _ => owed0) ?_
  refine tE ?_
  refine kIfT rfl ?_
  refine kR tok ?_
  refine tE ?_
  refine kRet ?_
  refine kT ?_
  refine kEnd [0] _ (.inr rfl) rfl rfl rfl ⟨rfl, rfl⟩
theorem drive_nil (a b : Int) : Con Tryz.prog 25 [.pointer none, vi a, vi b, .slice none 0 0].toArray [] (fun v H => v = .tuple [.agg [vi 0, .bool false, vi 0].toArray, vi 1].toArray ∧ H = []) := by
  refine Con.intro Tryz.func25 (by kernel_rfl) rfl Tryz.ntmps25 rfl ?_; intro R w0
  refine kR tok ?_
  refine tAl tok rfl rfl (fun _ _ _ => owed0) (fun b1 => ?_)
  refine tE ?_
  refine kSeq ?_
  refine kR tok ?_
  refine tCl tok (ctrl_locks_nil) [] rfl rfl rfl rfl rfl (fun _ _ => owed0) ?_
  refine tNil tok false rfl rfl rfl rfl ?_
  refine tG1 tok rfl ?_
  refine tE ?_
  refine kIfT rfl ?_
  refine kR tok ?_
  refine tBd tok rfl rfl ?_
  refine tStA tok 0 rfl rfl rfl rfl rfl rfl rfl rfl (fun _ _ => owed0) ?_
  refine tE ?_
  refine kRet ?_
  refine kT ?_
  refine kEndC [1] _ (.inr rfl) (rC tok 0 _ rfl rfl rfl rfl rfl (rT rfl rN)) rfl rfl rfl ⟨rfl, rfl⟩
theorem fair_counts (k live sm : Int) : Con Tryz.prog 4 [vi k, vi live, vi sm].toArray [] (fun v H => v = .bool true ∧ H = []) := by
  by_cases hl : 0 ≤ live ∧ live ≤ 1024
  · have hc := cnt_le (nJ k) (nN k) (nP k)
    have hb := tdiv_le live sm hl.1
    refine Con.intro Tryz.func4 (by kernel_rfl) rfl Tryz.ntmps4 rfl ?_; intro R w0
    refine kR tok ?_
    refine tE ?_
    refine kSeq ?_
    refine kR tok ?_
    refine tGD tok (fun h => absurd h (by omega)) (fun h => ?_)
    refine tE ?_
    refine kIfD rfl (fun h => absurd h (by omega)) (fun h => ?_)
    refine kSkip ?_
    refine kN ?_
    refine kR tok ?_
    refine tCl tok (needs _) [] rfl rfl rfl rfl rfl (fun _ _ => owed0) ?_
    refine tCl tok (lane_len _ _ _) [] rfl rfl rfl rfl rfl (fun _ _ => owed0) ?_
    refine tMul tok rfl rfl rfl (by omega) ?_
    refine tAdd tok rfl rfl rfl (by omega) ?_
    refine tE ?_
    refine kCut (fun z : Int => z = eachV k live) (fun z => [(0, vi k), (1, vi live), (2, vi sm), (7, vi z)]) (fun _ => [R]) ?_ ?_
    · refine kR tok ?_
      refine tE ?_
      refine kBlock ?_
      refine kSeq ?_
      refine kR tok ?_
      refine tE ?_
      refine kIfD rfl (fun h => ?_) (fun h => ?_)
      · refine kSkip ?_
        refine kN ?_
        refine kIfD rfl (fun h => ?_) (fun h => absurd (by assumption) h)
        refine kReg tok ?_
        refine tAdd tok rfl rfl rfl (by omega) ?_
        refine tAdd tok rfl rfl rfl (by omega) ?_
        refine tN ?_
        refine kBN ?_
        refine kN ?_
        refine kMeet _ (by simp only [eachV]; (repeat' split) <;> omega) [0] (sub_cons rfl (sub_cons rfl (sub_cons rfl (sub_cons rfl (sub_nil _))))) rfl rfl
      · refine kR tok ?_
        refine tE ?_
        refine kIfD rfl (fun h => ?_) (fun h => ?_)
        · refine kSkip ?_
          refine kN ?_
          refine kIfD rfl (fun h => ?_) (fun h => absurd (by assumption) h)
          refine kReg tok ?_
          refine tAdd tok rfl rfl rfl (by omega) ?_
          refine tAdd tok rfl rfl rfl (by omega) ?_
          refine tN ?_
          refine kBN ?_
          refine kN ?_
          refine kMeet _ (by simp only [eachV]; (repeat' split) <;> omega) [0] (sub_cons rfl (sub_cons rfl (sub_cons rfl (sub_cons rfl (sub_nil _))))) rfl rfl
        · refine kReg tok ?_
          refine tE ?_
          refine kIfD rfl (fun h => ?_) (fun h => ?_)
          · refine kReg tok ?_
            refine tAdd tok rfl rfl rfl (by omega) ?_
            refine tAdd tok rfl rfl rfl (by omega) ?_
            refine tN ?_
            refine kBN ?_
            refine kN ?_
            refine kMeet _ (by simp only [eachV]; (repeat' split) <;> omega) [0] (sub_cons rfl (sub_cons rfl (sub_cons rfl (sub_cons rfl (sub_nil _))))) rfl rfl
          · refine kSeq ?_
            refine kR tok ?_
            refine tE ?_
            refine kIfD rfl (fun h => ?_) (fun h => ?_)
            · refine kSkip ?_
              refine kN ?_
              refine kIfD rfl (fun h => ?_) (fun h => absurd (by assumption) h)
              refine kReg tok ?_
              refine tAdd tok rfl rfl rfl (by omega) ?_
              refine tN ?_
              refine kBN ?_
              refine kN ?_
              refine kMeet _ (by simp only [eachV]; (repeat' split) <;> omega) [0] (sub_cons rfl (sub_cons rfl (sub_cons rfl (sub_cons rfl (sub_nil _))))) rfl rfl
            · refine kR tok ?_
              refine tE ?_
              refine kIfD rfl (fun h => ?_) (fun h => ?_)
              · refine kSkip ?_
                refine kN ?_
                refine kIfD rfl (fun h => ?_) (fun h => absurd (by assumption) h)
                refine kReg tok ?_
                refine tAdd tok rfl rfl rfl (by omega) ?_
                refine tN ?_
                refine kBN ?_
                refine kN ?_
                refine kMeet _ (by simp only [eachV]; (repeat' split) <;> omega) [0] (sub_cons rfl (sub_cons rfl (sub_cons rfl (sub_cons rfl (sub_nil _))))) rfl rfl
              · refine kReg tok ?_
                refine tE ?_
                refine kIfD rfl (fun h => ?_) (fun h => ?_)
                · refine kReg tok ?_
                  refine tAdd tok rfl rfl rfl (by omega) ?_
                  refine tN ?_
                  refine kBN ?_
                  refine kN ?_
                  refine kMeet _ (by simp only [eachV]; (repeat' split) <;> omega) [0] (sub_cons rfl (sub_cons rfl (sub_cons rfl (sub_cons rfl (sub_nil _))))) rfl rfl
                · refine kR tok ?_
                  refine tE ?_
                  refine kIfD rfl (fun h => ?_) (fun h => ?_)
                  · refine kReg tok ?_
                    refine tMul tok rfl rfl rfl (by omega) ?_
                    refine tAdd tok rfl rfl rfl (by omega) ?_
                    refine tAdd tok rfl rfl rfl (by omega) ?_
                    refine tN ?_
                    refine kBN ?_
                    refine kN ?_
                    refine kMeet _ (by simp only [eachV]; (repeat' split) <;> omega) [0] (sub_cons rfl (sub_cons rfl (sub_cons rfl (sub_cons rfl (sub_nil _))))) rfl rfl
                  · refine kSkip ?_
                    refine kBN ?_
                    refine kN ?_
                    refine kMeet _ (by simp only [eachV]; (repeat' split) <;> omega) [0] (sub_cons rfl (sub_cons rfl (sub_cons rfl (sub_cons rfl (sub_nil _))))) rfl rfl
    rintro z hz
    refine kR tok ?_
    refine tE ?_
    refine kCut (fun y : Int => y = passV sm live) (fun y => [(0, vi k), (1, vi live), (2, vi sm), (7, vi z), (8, vi y)]) (fun _ => [R]) ?_ ?_
    · refine kR tok ?_
      refine tE ?_
      refine kIfD rfl (fun h => ?_) (fun h => ?_)
      · refine kReg tok ?_
        refine tQuo tok rfl rfl rfl (by omega) (by omega) ?_
        refine tAdd tok rfl rfl rfl (by omega) ?_
        refine tMul tok rfl rfl rfl (by omega) ?_
        refine tAdd tok rfl rfl rfl (by omega) ?_
        refine tE ?_
        refine kMeet _ (by simp only [passV]; (repeat' split) <;> omega) [0] (sub_cons rfl (sub_cons rfl (sub_cons rfl (sub_cons rfl (sub_cons rfl (sub_nil _)))))) rfl rfl
      · refine kSkip ?_
        refine kN ?_
        refine kMeet _ (by simp only [passV]; (repeat' split) <;> omega) [0] (sub_cons rfl (sub_cons rfl (sub_cons rfl (sub_cons rfl (sub_cons rfl (sub_nil _)))))) rfl rfl
    rintro y hy
    refine kR tok ?_
    refine tCl tok (drive_nil _ _) [] rfl rfl rfl rfl rfl (fun _ _ => owed0) ?_
    refine tAl tok rfl rfl (fun _ _ _ => owed0) (fun b1 => ?_)
    refine tStA tok 0 rfl rfl rfl rfl rfl rfl rfl rfl (fun _ _ => owed0) ?_
    refine tE ?_
    refine kR tok ?_
    refine tCl tok (each _ _ hl) [] rfl rfl rfl rfl rfl (fun _ _ => owed0) ?_
    refine tGD tok (fun h => ?_) (fun h => absurd (by omega) h)
    refine tCl tok (pass_ _ _ hl) [] rfl rfl rfl rfl rfl (fun _ _ => owed0) ?_
    refine tGD tok (fun h => ?_) (fun h => absurd (by omega) h)
    refine tG1 tok rfl ?_
    refine tCl tok (awake23) [] rfl rfl rfl rfl rfl (fun _ _ => owed0) ?_
    refine tE ?_
    refine kRet ?_
    refine kEnd [1] _ (.inr rfl) rfl rfl rfl ⟨rfl, rfl⟩
  · skip
    refine Con.intro Tryz.func4 (by kernel_rfl) rfl Tryz.ntmps4 rfl ?_; intro R w0
    refine kR tok ?_
    refine tE ?_
    refine kSeq ?_
    refine kR tok ?_
    refine tGD tok (fun h => ?_) (fun h => ?_)
    · refine tE ?_
      refine kIfT rfl ?_
      refine kR tok ?_
      refine tCl tok (awake23) [] rfl rfl rfl rfl rfl (fun _ _ => owed0) ?_
      refine tE ?_
      refine kRet ?_
      refine kT ?_
      refine kEnd [0] _ (.inr rfl) rfl rfl rfl ⟨rfl, rfl⟩
    · refine tE ?_
      refine kIfD rfl (fun h => ?_) (fun h => absurd (by omega) h)
      refine kR tok ?_
      refine tCl tok (awake23) [] rfl rfl rfl rfl rfl (fun _ _ => owed0) ?_
      refine tE ?_
      refine kRet ?_
      refine kT ?_
      refine kEnd [0] _ (.inr rfl) rfl rfl rfl ⟨rfl, rfl⟩
end Go.Proofs
