/- Controllers without tasks: 'berthagelaw25.RunNobody'. -/
import Derived.Test.YtndgmmcpjmgfgaaGreatDoorXFa
set_option linter.unusedSimpArgs false
set_option linter.unusedVariables false
namespace Go.Proofs
open Bg
set_option maxRecDepth 10000
set_option maxHeartbeats 2000000
abbrev u0 : Value := .int .u64 0
theorem wrap_all (n : Nat) (h : 1 ≤ n ∧ n < 64) : IntKind.u64.wrap (1 * 2 ^ (min (n : Int).toNat (IntKind.bits .u64))) = 2 ^ n := by
  have hm : min (n : Int).toNat (IntKind.bits .u64) = n := by simp [IntKind.bits]; omega
  rw [hm, Int.one_mul]
  have h2 : 2 ^ n ≤ 2 ^ 63 := Nat.pow_le_pow_right (by omega) (by omega)
  refine IntWalk.u64_in _ ⟨by exact_mod_cast Nat.zero_le _, ?_⟩
  have : ((2 ^ n : Nat) : Int) ≤ ((2 ^ 63 : Nat) : Int) := by exact_mod_cast h2
  have e : ((2 ^ n : Nat) : Int) = (2 : Int) ^ n := by norm_cast
  omega
theorem wrap_all2 (n : Nat) (h : 1 ≤ n ∧ n < 64) : IntKind.u64.wrap ((2 : Int) ^ n - 1) = 2 ^ n - 1 := by
  have h2 : 2 ^ n ≤ 2 ^ 63 := Nat.pow_le_pow_right (by omega) (by omega)
  have h1 : 1 ≤ 2 ^ n := Nat.one_le_two_pow
  have e : ((2 ^ n : Nat) : Int) = (2 : Int) ^ n := by norm_cast
  refine IntWalk.u64_in _ ?_
  rw [← e]
  omega
theorem set_all (n : Nat) (h : 1 ≤ n ∧ n ≤ 64) : Con Tryz.prog 175 [vi n].toArray [] (fun v H => v = .int .u64 (2 ^ n - 1) ∧ H = []) := by
  by_cases hn : n = 64
  · subst hn
    refine Con.intro Tryz.func175 (by kernel_rfl) rfl Tryz.ntmps175 rfl ?_; intro R w0
    refine kR tok ?_
    refine tE ?_
    refine kSeq ?_
    refine kBlock ?_
    refine kR tok ?_
    refine tE ?_
    refine kIfF rfl ?_
    refine kR tok ?_
    refine tE ?_
    refine kIfT rfl ?_
    refine kR tok ?_
    refine tE ?_
    refine kRet ?_
    refine kBT ?_
    refine kT ?_
    refine kEnd [0] _ (.inr rfl) rfl rfl rfl ⟨rfl, rfl⟩
  have h' : 1 ≤ n ∧ n < 64 := by omega
  refine Con.intro Tryz.func175 (by kernel_rfl) rfl Tryz.ntmps175 rfl ?_; intro R w0
  refine kR tok ?_
  refine tE ?_
  refine kSeq ?_
  refine kBlock ?_
  refine kR tok ?_
  refine tE ?_
  refine kIfD rfl (fun h => absurd h (by omega)) (fun h => ?_)
  refine kR tok ?_
  refine tE ?_
  refine kIfD rfl (fun h => absurd h (by omega)) (fun h => ?_)
  refine kSkip ?_
  refine kBN ?_
  refine kN ?_
  refine kR tok ?_
  refine tShl tok rfl rfl rfl (by omega) (wrap_all n h') ?_
  refine tAr tok (.inr (.inl rfl)) rfl rfl rfl (wrap_all2 n h') ?_
  refine tE ?_
  refine kRet ?_
  refine kEnd [0] _ (.inr rfl) rfl rfl rfl ⟨rfl, rfl⟩
theorem node_new (n : Nat) (hn : 1 ≤ n ∧ n ≤ 64) : Con Tryz.prog 118 [vi n].toArray [] (fun v H => ∃ p, v = .tuple [ptr p, vi 0].toArray ∧ H = [pt p [.int .u64 (2 ^ n - 1), u0, u0] 162]) := by
  refine Con.intro Tryz.func118 (by kernel_rfl) rfl Tryz.ntmps118 rfl ?_; intro R w0
  refine kR tok ?_
  refine tE ?_
  refine kSeq ?_
  refine kR tok ?_
  refine tGD tok (fun h => absurd h (by omega)) (fun h => ?_)
  refine tE ?_
  refine kIfD rfl (fun h => absurd h (by omega)) (fun h => ?_)
  refine kSkip ?_
  refine kN ?_
  refine kR tok ?_
  refine tCl tok (set_all n hn) [] rfl rfl rfl rfl rfl (fun _ _ => owed0) ?_
  refine tBd tok rfl rfl ?_
  refine tBox tok rfl rfl rfl (fun _ _ _ => owed0) (fun b1 => ?_)
  refine tE ?_
  refine kRet ?_
  refine kEnd [0, 1] _ (.inr rfl) rfl rfl rfl ⟨_, rfl, rfl⟩
theorem prof_new (n : Nat) (hn : n ≤ 64) : Con Tryz.prog 119 [vi n].toArray [] (fun v H => ∃ p b, v = .tuple [ptr p, vi 0].toArray ∧ H = [pt p [.slice (some ⟨b, 0, none⟩) 1 1, vi 0] 164, pt b [vi 0, vi n] 123]) := by
  refine Con.intro Tryz.func119 (by kernel_rfl) rfl Tryz.ntmps119 rfl ?_; intro R w0
  refine kR tok ?_
  refine tE ?_
  refine kSeq ?_
  refine kR tok ?_
  refine tG0 tok rfl ?_
  refine tE ?_
  refine kIfD rfl (fun h => absurd h (by omega)) (fun h => ?_)
  refine kSkip ?_
  refine kN ?_
  refine kR tok ?_
  refine tBd tok rfl rfl ?_
  refine tBS tok rfl rfl (fun _ _ _ => owed0) (fun b1 => ?_)
  refine tBd tok rfl rfl ?_
  refine tBox tok rfl rfl rfl (fun _ _ _ => owed0) (fun b2 => ?_)
  refine tE ?_
  refine kRet ?_
  refine kEnd [0, 1, 2] _ (.inr rfl) rfl rfl rfl ⟨_, _, rfl, rfl⟩
theorem job_new : Con Tryz.prog 120 [].toArray [] (fun v H => ∃ p, v = ptr p ∧ H = [pt p [.slice none 0 0, vi 0, .bool true] 160]) := by
  refine Con.intro Tryz.func120 (by kernel_rfl) rfl Tryz.ntmps120 rfl ?_; intro R w0
  refine kR tok ?_
  refine tE ?_
  refine kR tok ?_
  refine tBd tok rfl rfl ?_
  refine tBox tok rfl rfl rfl (fun _ _ _ => owed0) (fun b1 => ?_)
  refine tE ?_
  refine kRet ?_
  refine kEnd [0, 1] _ (.inr rfl) rfl rfl rfl ⟨_, rfl, rfl⟩
theorem core_new (n : Nat) (hn : 1 ≤ n ∧ n ≤ 64) : Con Tryz.prog 68 [vi n].toArray [] (fun v H => ∃ c j t p b, v = .tuple [ptr c, vi 0].toArray ∧ H = [pt c [ptr j, ptr t, ptr p, .bool false] 31, pt j [.slice none 0 0, vi 0, .bool true] 160, pt t [.int .u64 (2 ^ n - 1), u0, u0] 162, pt p [.slice (some ⟨b, 0, none⟩) 1 1, vi 0] 164, pt b [vi 0, vi n] 123]) := by
  refine Con.intro Tryz.func68 (by kernel_rfl) rfl Tryz.ntmps68 rfl ?_; intro R w0
  refine kR tok ?_
  refine tE ?_
  refine kR tok ?_
  refine tCall tok (node_new n hn) [] rfl rfl rfl rfl rfl (fun _ _ _ _ _ => owed0) ?_
  rintro _ _ ⟨t, rfl, rfl⟩
  refine tE ?_
  refine kSeq ?_
  refine kR tok ?_
  refine tE ?_
  refine kIfF rfl ?_
  refine kSkip ?_
  refine kN ?_
  refine kR tok ?_
  refine tCall tok (prof_new n hn.2) [] rfl rfl rfl rfl rfl (fun _ _ _ _ _ => owed0) ?_
  rintro _ _ ⟨p, b, rfl, rfl⟩
  refine tE ?_
  refine kSeq ?_
  refine kR tok ?_
  refine tE ?_
  refine kIfF rfl ?_
  refine kSkip ?_
  refine kN ?_
  refine kR tok ?_
  refine tCall tok (job_new) [] rfl rfl rfl rfl rfl (fun _ _ _ _ _ => owed0) ?_
  rintro _ _ ⟨j, rfl, rfl⟩
  refine tBd tok rfl rfl ?_
  refine tBox tok rfl rfl rfl (fun _ _ _ => owed0) (fun b5 => ?_)
  refine tE ?_
  refine kRet ?_
  refine kEnd [0, 1, 4, 2, 3, 5] _ (.inr rfl) rfl rfl rfl ⟨_, _, _, _, _, rfl, rfl⟩
theorem ctrl_new (n : Nat) (hn : 1 ≤ n ∧ n ≤ 64) : Con Tryz.prog 87 [vi n].toArray [] (fun v H => ∃ q c j t p b lg lk, v = .tuple [ptr q, vi 0].toArray ∧ H = [pt q [ptr c, ptr lg, ptr lk, .slice none 0 0] 75, pt c [ptr j, ptr t, ptr p, .bool false] 31, pt j [.slice none 0 0, vi 0, .bool true] 160, pt t [.int .u64 (2 ^ n - 1), u0, u0] 162, pt p [.slice (some ⟨b, 0, none⟩) 1 1, vi 0] 164, pt b [vi 0, vi n] 123, pt lg [.slice none 0 0, vi 0] 187, pt lk [vi 0, vi 0, vi 0, vi 0] 203]) := by
  refine Con.intro Tryz.func87 (by kernel_rfl) rfl Tryz.ntmps87 rfl ?_; intro R w0
  refine kR tok ?_
  refine tE ?_
  refine kR tok ?_
  refine tCall tok (core_new n hn) [] rfl rfl rfl rfl rfl (fun _ _ _ _ _ => owed0) ?_
  rintro _ _ ⟨c, j, t, p, b, rfl, rfl⟩
  refine tE ?_
  refine kSeq ?_
  refine kR tok ?_
  refine tE ?_
  refine kIfF rfl ?_
  refine kSkip ?_
  refine kN ?_
  refine kR tok ?_
  refine tBd tok rfl rfl ?_
  refine tBox tok rfl rfl rfl (fun _ _ _ => owed0) (fun b6 => ?_)
  refine tBd tok rfl rfl ?_
  refine tBox tok rfl rfl rfl (fun _ _ _ => owed0) (fun b7 => ?_)
  refine tBd tok rfl rfl ?_
  refine tBox tok rfl rfl rfl (fun _ _ _ => owed0) (fun b8 => ?_)
  refine tE ?_
  refine kRet ?_
  refine kEnd [0, 3, 4, 5, 6, 7, 2, 1, 8] _ (.inr rfl) rfl rfl rfl ⟨_, _, _, _, _, _, _, _, rfl, rfl⟩
/-- A controller, alone. -/
abbrev ctA (q : Nat) (k : Value) (lg lk : Nat) (ts : Value) : Asn := pt q [k, ptr lg, ptr lk, ts] 75
theorem ctrl_none (q : Nat) (k : Value) (lg lk : Nat) (ts : Value) : Con Tryz.prog 75 [ptr q].toArray [ctA q k lg lk ts] (fun v H => v = .bool false ∧ H = [ctA q k lg lk ts]) := by
  refine Con.intro Tryz.func75 (by kernel_rfl) rfl Tryz.ntmps75 rfl ?_; intro R w0
  refine kR tok ?_
  refine tE ?_
  refine kR tok ?_
  refine tNil tok false rfl rfl rfl rfl ?_
  refine tG0 tok rfl ?_
  refine tLd tok 0 rfl rfl rfl rfl rfl ?_
  refine tNil tok false rfl rfl rfl rfl ?_
  refine tE ?_
  refine kRet ?_
  refine kEnd [0, 1] _ (.inr rfl) rfl rfl rfl ⟨rfl, rfl⟩
theorem ctrl_tasks0 (q : Nat) (k : Value) (lg lk : Nat) : Con Tryz.prog 36 [ptr q].toArray [ctA q k lg lk (.slice none 0 0)] (fun v H => v = vi 0 ∧ H = [ctA q k lg lk (.slice none 0 0)]) := by
  refine Con.intro Tryz.func36 (by kernel_rfl) rfl Tryz.ntmps36 rfl ?_; intro R w0
  refine kR tok ?_
  refine tE ?_
  refine kSeq ?_
  refine kR tok ?_
  refine tCl tok (ctrl_none _ _ _ _ _) [0] rfl rfl rfl rfl rfl (fun _ _ => owed0) ?_
  refine tE ?_
  refine kIfF rfl ?_
  refine kSkip ?_
  refine kN ?_
  refine kR tok ?_
  refine tLd tok 0 rfl rfl rfl rfl rfl ?_
  refine tE ?_
  refine kRet ?_
  refine kEnd [0, 1] _ (.inr rfl) rfl rfl rfl ⟨rfl, rfl⟩
theorem ctrl_busy0 (q : Nat) (k : Value) (lg lk : Nat) : Con Tryz.prog 37 [ptr q].toArray [ctA q k lg lk (.slice none 0 0)] (fun v H => v = vi 0 ∧ H = [ctA q k lg lk (.slice none 0 0)]) := by
  refine Con.intro Tryz.func37 (by kernel_rfl) rfl Tryz.ntmps37 rfl ?_; intro R w0
  refine kR tok ?_
  refine tE ?_
  refine kSeq ?_
  refine kR tok ?_
  refine tCl tok (ctrl_none _ _ _ _ _) [0] rfl rfl rfl rfl rfl (fun _ _ => owed0) ?_
  refine tE ?_
  refine kIfF rfl ?_
  refine kSkip ?_
  refine kN ?_
  refine kR tok ?_
  refine tE ?_
  refine kSeq ?_
  refine kR tok ?_
  refine tLd tok 0 rfl rfl rfl rfl rfl ?_
  refine tE ?_
  refine kBlock ?_
  refine kUn ?_
  refine kR tok ?_
  refine tE ?_
  refine kSeq ?_
  refine kIfF rfl ?_
  refine kExit ?_
  refine kE ?_
  refine kE ?_
  refine kBE ?_
  refine kN ?_
  refine kR tok ?_
  refine tE ?_
  refine kRet ?_
  refine kEnd [0, 1] _ (.inr rfl) rfl rfl rfl ⟨rfl, rfl⟩
theorem ctrl_ready0 (q : Nat) (k : Value) (lg lk : Nat) : Con Tryz.prog 39 [ptr q].toArray [ctA q k lg lk (.slice none 0 0)] (fun v H => v = .slice none 0 0 ∧ H = [ctA q k lg lk (.slice none 0 0)]) := by
  refine Con.intro Tryz.func39 (by kernel_rfl) rfl Tryz.ntmps39 rfl ?_; intro R w0
  refine kR tok ?_
  refine tE ?_
  refine kSeq ?_
  refine kR tok ?_
  refine tCl tok (ctrl_none _ _ _ _ _) [0] rfl rfl rfl rfl rfl (fun _ _ => owed0) ?_
  refine tE ?_
  refine kIfF rfl ?_
  refine kSkip ?_
  refine kN ?_
  refine kR tok ?_
  refine tE ?_
  refine kSeq ?_
  refine kR tok ?_
  refine tLd tok 0 rfl rfl rfl rfl rfl ?_
  refine tE ?_
  refine kBlock ?_
  refine kUn ?_
  refine kR tok ?_
  refine tE ?_
  refine kSeq ?_
  refine kIfF rfl ?_
  refine kExit ?_
  refine kE ?_
  refine kE ?_
  refine kBE ?_
  refine kN ?_
  refine kR tok ?_
  refine tE ?_
  refine kRet ?_
  refine kEnd [0, 1] _ (.inr rfl) rfl rfl rfl ⟨rfl, rfl⟩
theorem ctrl_pick0 (q : Nat) (k : Value) (lg lk : Nat) (n : Int) : Con Tryz.prog 38 [ptr q, vi n].toArray [ctA q k lg lk (.slice none 0 0)] (fun v H => v = vi 0 ∧ H = [ctA q k lg lk (.slice none 0 0)]) := by
  refine Con.intro Tryz.func38 (by kernel_rfl) rfl Tryz.ntmps38 rfl ?_; intro R w0
  refine kR tok ?_
  refine tE ?_
  refine kR tok ?_
  refine tCl tok (ctrl_ready0 _ _ _ _) [0] rfl rfl rfl rfl rfl (fun _ _ => owed0) ?_
  refine tE ?_
  refine kSeq ?_
  refine kR tok ?_
  refine tE ?_
  refine kIfT rfl ?_
  refine kR tok ?_
  refine tE ?_
  refine kRet ?_
  refine kT ?_
  refine kEnd [0, 1] _ (.inr rfl) rfl rfl rfl ⟨rfl, rfl⟩
theorem run_steps0 (q : Nat) (k : Value) (lg lk : Nat) : Con Tryz.prog 30 [ptr q, vi 20000].toArray [ctA q k lg lk (.slice none 0 0)] (fun v H => v = vi 0 ∧ H = [ctA q k lg lk (.slice none 0 0)]) := by
  refine Con.intro Tryz.func30 (by kernel_rfl) rfl Tryz.ntmps30 rfl ?_; intro R w0
  refine kR tok ?_
  refine tE ?_
  refine kR tok ?_
  refine tE ?_
  refine kSeq ?_
  refine kBlock ?_
  refine kUn ?_
  refine kSeq ?_
  refine kR tok ?_
  refine tG1 tok rfl ?_
  refine tCl tok (ctrl_pick0 _ _ _ _ _) [0] rfl rfl rfl rfl rfl (fun _ _ => owed0) ?_
  refine tE ?_
  refine kIfF rfl ?_
  refine kExit ?_
  refine kE ?_
  refine kE ?_
  refine kBE ?_
  refine kN ?_
  refine kR tok ?_
  refine tE ?_
  refine kRet ?_
  refine kEnd [0, 1] _ (.inr rfl) rfl rfl rfl ⟨rfl, rfl⟩
theorem run_all0 (c : Value) : Con Tryz.prog 29 [c, .slice none 0 0].toArray [] (fun v H => v = .tuple [].toArray ∧ H = []) := by
  refine Con.intro Tryz.func29 (by kernel_rfl) rfl Tryz.ntmps29 rfl ?_; intro R w0
  refine kR tok ?_
  refine tE ?_
  refine kBlock ?_
  refine kUn ?_
  refine kR tok ?_
  refine tE ?_
  refine kSeq ?_
  refine kIfF rfl ?_
  refine kExit ?_
  refine kE ?_
  refine kE ?_
  refine kBE ?_
  refine kEnd [0] _ (.inl rfl) rfl rfl rfl ⟨rfl, rfl⟩
theorem run_run2 : Con Tryz.prog 74 [vi 2, .slice none 0 0].toArray [] (fun v H => ∃ q k lg lk, v = .tuple [ptr q, .bool true, vi 0].toArray ∧ H = [ctA q k lg lk (.slice none 0 0)]) := by
  refine Con.intro Tryz.func74 (by kernel_rfl) rfl Tryz.ntmps74 rfl ?_; intro R w0
  refine kR tok ?_
  refine tE ?_
  refine kR tok ?_
  refine tCall tok (ctrl_new 2 (by decide)) [] rfl rfl rfl rfl rfl (fun _ _ _ _ _ => owed0) ?_
  rintro _ _ ⟨q, c, j, t, p, b, lg, lk, rfl, rfl⟩
  refine tE ?_
  refine kSeq ?_
  refine kR tok ?_
  refine tE ?_
  refine kIfF rfl ?_
  refine kSkip ?_
  refine kN ?_
  refine kR tok ?_
  refine tCl tok (run_all0 _) [] rfl rfl rfl rfl rfl (fun _ _ => owed0) ?_
  refine tE ?_
  refine kR tok ?_
  refine tCl tok (run_steps0 _ _ _ _) [0] rfl rfl rfl rfl rfl (fun _ _ => owed0) ?_
  refine tE ?_
  refine kR tok ?_
  refine tCl tok (ctrl_busy0 _ _ _ _) [0] rfl rfl rfl rfl rfl (fun _ _ => owed0) ?_
  refine tE ?_
  refine kRet ?_
  refine kEnd [0, 8] _ (.inr rfl) rfl rfl rfl ⟨_, _, _, _, rfl, rfl⟩
theorem awake25 : Con Tryz.prog 31 [].toArray [] (fun v H => v = .bool true ∧ H = []) := by
  refine Con.intro Tryz.func31 (by kernel_rfl) rfl Tryz.ntmps31 rfl ?_; intro R w0
  refine kR tok ?_
  refine tE ?_
  refine kR tok ?_
  refine tCall tok (run_run2) [] rfl rfl rfl rfl rfl (fun _ _ _ _ _ => owed0) ?_
  rintro _ _ ⟨q, k, lg, lk, rfl, rfl⟩
  refine tE ?_
  refine kR tok ?_
  refine tNil tok true rfl rfl rfl rfl ?_
  refine tG1 tok rfl ?_
  refine tG1 tok rfl ?_
  refine tG1 tok rfl ?_
  refine tCl tok (ctrl_tasks0 _ _ _ _) [0] rfl rfl rfl rfl rfl (fun _ _ => owed0) ?_
  refine tE ?_
  refine kRet ?_
  refine kEnd [1] _ (.inr rfl) rfl rfl rfl ⟨rfl, rfl⟩
theorem ctrl_ready_nil : Con Tryz.prog 39 [.pointer none].toArray [] (fun v H => v = .slice none 0 0 ∧ H = []) := by
  refine Con.intro Tryz.func39 (by kernel_rfl) rfl Tryz.ntmps39 rfl ?_; intro R w0
  refine kR tok ?_
  refine tE ?_
  refine kSeq ?_
  refine kR tok ?_
  refine tCl tok (ctrl_none_nil) [] rfl rfl rfl rfl rfl (fun _ _ => owed0) ?_
  refine tE ?_
  refine kIfT rfl ?_
  refine kR tok ?_
  refine tE ?_
  refine kRet ?_
  refine kT ?_
  refine kEnd [0] _ (.inr rfl) rfl rfl rfl ⟨rfl, rfl⟩
theorem ctrl_pick_nil (n : Int) : Con Tryz.prog 38 [.pointer none, vi n].toArray [] (fun v H => v = vi 0 ∧ H = []) := by
  refine Con.intro Tryz.func38 (by kernel_rfl) rfl Tryz.ntmps38 rfl ?_; intro R w0
  refine kR tok ?_
  refine tE ?_
  refine kR tok ?_
  refine tCl tok (ctrl_ready_nil) [] rfl rfl rfl rfl rfl (fun _ _ => owed0) ?_
  refine tE ?_
  refine kSeq ?_
  refine kR tok ?_
  refine tE ?_
  refine kIfT rfl ?_
  refine kR tok ?_
  refine tE ?_
  refine kRet ?_
  refine kT ?_
  refine kEnd [0] _ (.inr rfl) rfl rfl rfl ⟨rfl, rfl⟩
theorem run_steps_nil : Con Tryz.prog 30 [.pointer none, vi 5].toArray [] (fun v H => v = vi 0 ∧ H = []) := by
  refine Con.intro Tryz.func30 (by kernel_rfl) rfl Tryz.ntmps30 rfl ?_; intro R w0
  refine kR tok ?_
  refine tE ?_
  refine kR tok ?_
  refine tE ?_
  refine kSeq ?_
  refine kBlock ?_
  refine kUn ?_
  refine kSeq ?_
  refine kR tok ?_
  refine tG1 tok rfl ?_
  refine tCl tok (ctrl_pick_nil _) [] rfl rfl rfl rfl rfl (fun _ _ => owed0) ?_
  refine tE ?_
  refine kIfF rfl ?_
  refine kExit ?_
  refine kE ?_
  refine kE ?_
  refine kBE ?_
  refine kN ?_
  refine kR tok ?_
  refine tE ?_
  refine kRet ?_
  refine kEnd [0] _ (.inr rfl) rfl rfl rfl ⟨rfl, rfl⟩
theorem run_do_nil (k m : Int) (a : Option Addr) (l c : Nat) : Con Tryz.prog 28 [.pointer none, .agg [vi k, .slice a l c, vi m].toArray].toArray [] (fun v H => v = .tuple [vi 0, vi 8].toArray ∧ H = []) := by
  refine Con.intro Tryz.func28 (by kernel_rfl) rfl Tryz.ntmps28 rfl ?_; intro R w0
  refine kR tok ?_
  refine tBox tok rfl rfl rfl (fun _ _ _ => owed0) (fun b1 => ?_)
  refine tE ?_
  refine kSeq ?_
  refine kR tok ?_
  refine tCl tok (ctrl_locks_nil) [] rfl rfl rfl rfl rfl (fun _ _ => owed0) ?_
  refine tNil tok false rfl rfl rfl rfl ?_
  refine tE ?_
  refine kIfT rfl ?_
  refine kR tok ?_
  refine tE ?_
  refine kRet ?_
  refine kT ?_
  refine kEnd [1] _ (.inr rfl) rfl rfl rfl ⟨rfl, rfl⟩
theorem run_all_nil (k m : Int) (a : Option Addr) (l c : Nat) (b : Nat) : Con Tryz.prog 29 [.pointer none, .slice (some ⟨b, 0, none⟩) 1 1].toArray [pt b [vi k, .slice a l c, vi m] 64] (fun v H => v = .tuple [].toArray ∧ H = []) := by
  refine Con.intro Tryz.func29 (by kernel_rfl) rfl Tryz.ntmps29 rfl ?_; intro R w0
  refine kR tok ?_
  refine tE ?_
  refine kBlock ?_
  refine kUn ?_
  refine kR tok ?_
  refine tE ?_
  refine kSeq ?_
  refine kIfT rfl ?_
  refine kSkip ?_
  refine kN ?_
  refine kSeq ?_
  refine kBlock ?_
  refine kR tok ?_
  refine tIdx tok rfl rfl rfl rfl (by decide) ?_
  refine tLdA tok 0 _ rfl rfl rfl rfl rfl rfl ?_
  refine tAl tok rfl rfl (fun _ _ _ => owed0) (fun b2 => ?_)
  refine tStA tok 0 rfl rfl rfl rfl rfl rfl rfl rfl (fun _ _ => owed0) ?_
  refine tE ?_
  refine kReg tok ?_
  refine tLdA tok 0 _ rfl rfl rfl rfl rfl rfl ?_
  refine tCl tok (run_do_nil _ _ _ _ _) [] rfl rfl rfl rfl rfl (fun _ _ => owed0) ?_
  refine tN ?_
  refine kBN ?_
  refine kN ?_
  refine kReg tok ?_
  refine tAdd tok rfl rfl rfl (by decide) ?_
  refine tE ?_
  refine kLP ?_
  refine kR tok ?_
  refine tE ?_
  refine kSeq ?_
  refine kIfF rfl ?_
  refine kExit ?_
  refine kE ?_
  refine kE ?_
  refine kBE ?_
  refine kEnd [2] _ (.inl rfl) rfl rfl rfl ⟨rfl, rfl⟩
theorem run_nobody (k m : Int) (a : Option Addr) (l c : Nat) : Con Tryz.prog 5 [.agg [vi k, .slice a l c, vi m].toArray].toArray [] (fun v H => v = .bool true ∧ H = []) := by
  refine Con.intro Tryz.func5 (by kernel_rfl) rfl Tryz.ntmps5 rfl ?_; intro R w0
  refine kR tok ?_
  refine tBox tok rfl rfl rfl (fun _ _ _ => owed0) (fun b1 => ?_)
  refine tE ?_
  refine kR tok ?_
  refine tLdA tok 0 _ rfl rfl rfl rfl rfl rfl ?_
  refine tCl tok (run_do_nil _ _ _ _ _) [] rfl rfl rfl rfl rfl (fun _ _ => owed0) ?_
  refine tE ?_
  refine kR tok ?_
  refine tLdA tok 0 _ rfl rfl rfl rfl rfl rfl ?_
  refine tBS tok rfl rfl (fun _ _ _ => owed0) (fun b2 => ?_)
  refine tCl tok (run_all_nil _ _ _ _ _ _) [0] rfl rfl rfl rfl rfl (fun _ _ => owed0) ?_
  refine tE ?_
  refine kR tok ?_
  refine tG1 tok rfl ?_
  refine tG1 tok rfl ?_
  refine tCl tok (run_steps_nil) [] rfl rfl rfl rfl rfl (fun _ _ => owed0) ?_
  refine tG1 tok rfl ?_
  refine tCl tok (awake25) [] rfl rfl rfl rfl rfl (fun _ _ => owed0) ?_
  refine tE ?_
  refine kRet ?_
  refine kEnd [1] _ (.inr rfl) rfl rfl rfl ⟨rfl, rfl⟩
end Go.Proofs
