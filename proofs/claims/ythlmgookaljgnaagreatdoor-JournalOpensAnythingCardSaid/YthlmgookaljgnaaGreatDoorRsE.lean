/- The reference's Leaf, Node, Chain, Left. -/
import Derived.Test.YthlmgookaljgnaaGreatDoorMd
namespace Go.Proofs.YthlmgookaljgnaaGreatDoor
open Go.RowKit
set_option linter.unusedVariables false

set_option maxHeartbeats 1000000 in
theorem RChain_any (a b : ByteArray) (hs : a.size + b.size ≤ 900000) (w : World) :
    Calls Tryz.prog 58 #[.string a, .string b] w fun e w' => e = .returned (.string (chainB a b)) ∧ Below w.heap.size w w' := by
  have ex : ((⟨#[2]⟩ : ByteArray) ++ a ++ b) = pre2 2 a b := rfl
  have zz : (pre2 2 a b).size ≤ 1000000 := by unfold pre2; rw [ByteArray.size_append, ByteArray.size_append, show (⟨#[2]⟩ : ByteArray).size = 1 from rfl]; omega
  have SU := Lib.hid (RSum_any (pre2 2 a b) zz w)
  have e2 : sumB (pre2 2 a b) = chainB a b := by rw [chainB, catB_two]
  rw [e2] at SU
  have hsb1 : ¬ 9223372036854775807 < 1 + a.size := by omega
  have hsb2 : ¬ 9223372036854775807 < 1 + a.size + b.size := by omega
  clear e2 zz
  go_enter Tryz.func58, Tryz.ntmps58
  go_wp2_with fail
  refine SU.out.mono ?_
  rintro e W1 ⟨rfl, hb⟩
  have B := Lib.hid hb
  clear hb
  go_wp2
  go_ret
  exact ⟨rfl, B.out⟩
end Go.Proofs.YthlmgookaljgnaaGreatDoor
