/- The reference's Leaf, Node, Chain, Left. -/
import Derived.Test.YtljgphmdiflphaaDoorRsD
import Derived.Test.YtljgphmdiflphaaDoorLawL
namespace Go.Proofs.YtljgphmdiflphaaDoor
open Go.RowKit
set_option linter.unusedVariables false

set_option maxHeartbeats 1000000 in
theorem RLeaf_any (s : ByteArray) (hs : s.size ≤ 900000) (w : World) :
    Calls Tryd.prog 33 #[.string s] w fun e w' => e = .returned (.string (leafB s)) ∧ Below w.heap.size w w' := by
  have ex : ((⟨#[0]⟩ : ByteArray) ++ s) = pre1 0 s := rfl
  have zz : (pre1 0 s).size ≤ 1000000 := by unfold pre1; rw [ByteArray.size_append, show (⟨#[0]⟩ : ByteArray).size = 1 from rfl]; omega
  have SU := Lib.hid (RSum_any (pre1 0 s) zz w)
  have e2 : sumB (pre1 0 s) = leafB s := by rw [leafB, catB_one]
  rw [e2] at SU
  have hsb : ¬ 9223372036854775807 < 1 + s.size := by omega
  clear e2 zz
  go_enter Tryd.func33, Tryd.ntmps33
  go_wp2_with fail
  refine SU.out.mono ?_
  rintro e W1 ⟨rfl, hb⟩
  have B := Lib.hid hb
  clear hb
  go_wp2
  go_ret
  exact ⟨rfl, B.out⟩
set_option maxHeartbeats 1000000 in
theorem RNode_any (a b : ByteArray) (hs : a.size + b.size ≤ 900000) (w : World) :
    Calls Tryd.prog 34 #[.string a, .string b] w fun e w' => e = .returned (.string (nodeB a b)) ∧ Below w.heap.size w w' := by
  have ex : ((⟨#[1]⟩ : ByteArray) ++ a ++ b) = pre2 1 a b := rfl
  have zz : (pre2 1 a b).size ≤ 1000000 := by unfold pre2; rw [ByteArray.size_append, ByteArray.size_append, show (⟨#[1]⟩ : ByteArray).size = 1 from rfl]; omega
  have SU := Lib.hid (RSum_any (pre2 1 a b) zz w)
  have e2 : sumB (pre2 1 a b) = nodeB a b := by rw [nodeB, catB_two]
  rw [e2] at SU
  have hsb1 : ¬ 9223372036854775807 < 1 + a.size := by omega
  have hsb2 : ¬ 9223372036854775807 < 1 + a.size + b.size := by omega
  clear e2 zz
  go_enter Tryd.func34, Tryd.ntmps34
  go_wp2_with fail
  refine SU.out.mono ?_
  rintro e W1 ⟨rfl, hb⟩
  have B := Lib.hid hb
  clear hb
  go_wp2
  go_ret
  exact ⟨rfl, B.out⟩
set_option maxHeartbeats 1000000 in
theorem RChain_any (a b : ByteArray) (hs : a.size + b.size ≤ 900000) (w : World) :
    Calls Tryd.prog 36 #[.string a, .string b] w fun e w' => e = .returned (.string (chainB a b)) ∧ Below w.heap.size w w' := by
  have ex : ((⟨#[2]⟩ : ByteArray) ++ a ++ b) = pre2 2 a b := rfl
  have zz : (pre2 2 a b).size ≤ 1000000 := by unfold pre2; rw [ByteArray.size_append, ByteArray.size_append, show (⟨#[2]⟩ : ByteArray).size = 1 from rfl]; omega
  have SU := Lib.hid (RSum_any (pre2 2 a b) zz w)
  have e2 : sumB (pre2 2 a b) = chainB a b := by rw [chainB, catB_two]
  rw [e2] at SU
  have hsb1 : ¬ 9223372036854775807 < 1 + a.size := by omega
  have hsb2 : ¬ 9223372036854775807 < 1 + a.size + b.size := by omega
  clear e2 zz
  go_enter Tryd.func36, Tryd.ntmps36
  go_wp2_with fail
  refine SU.out.mono ?_
  rintro e W1 ⟨rfl, hb⟩
  have B := Lib.hid hb
  clear hb
  go_wp2
  go_ret
  exact ⟨rfl, B.out⟩
set_option maxHeartbeats 1000000 in
theorem RLeft_any (n : Nat) (h2 : 2 ≤ n) (hn : n ≤ 9223372036854775807) (w : World) :
    Calls Tryd.prog 55 #[.int .i64 (n : Int)] w fun e w' => e = .returned (.int .i64 (Dig.lft n : Nat)) ∧ w = w' := by
  go_enter Tryd.func55, Tryd.ntmps55
  go_wp2
  go_loop [3] (fun kv => ∃ k : Nat, kv = .int .i64 k ∧ k < n ∧ 0 < k ∧ ∃ j, k = 2 ^ j) (fun kv => n - (intOf kv).toNat)
  case atStart => exact ⟨1, rfl, by omega, by omega, 0, rfl⟩
  case round =>
    obtain ⟨k, rfl, hk, hk0, hj⟩ := hrel
    have HJ := Lib.hid hj
    clear hj
    by_cases h1 : (k : Int) < (n : Int) - (k : Int)
    · go_wp2
      go_round
      case rel => exact ⟨2 * k, by go_num, by omega, by omega, by obtain ⟨j, e⟩ := HJ.out; exact ⟨j + 1, by rw [e, Nat.pow_succ]; omega⟩⟩
      case measure => simp [intOf]; omega
    · have e : Hid (Dig.lft n = k) := Lib.hid (by obtain ⟨j, e⟩ := HJ.out; subst e; exact Dig.lft_unique hk (by omega))
      go_wp2
      go_ret
      exact ⟨ret_int (by rw [e.out]), rfl⟩
end Go.Proofs.YtljgphmdiflphaaDoor
