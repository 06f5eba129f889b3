/- DigestSumMatchesReference: the walk. -/
import Derived.Test.YtljgphmdiflphaaDoorRsE
import Derived.Test.YtljgphmdiflphaaDoorSane
namespace Go.Proofs.YtljgphmdiflphaaDoor
open Go.RowKit
set_option linter.unusedVariables false

set_option maxRecDepth 100000 in
set_option maxHeartbeats 8000000 in
theorem LawM_any (w : World) (s0 t0 : ByteArray) (hs0 : s0.size ≤ 9223372036854775807) (ht0 : t0.size ≤ 9223372036854775807) (hR : RoundLaid w) :
    Calls Tryd.prog 9 #[.string s0, .string t0] w fun e w' => e = .returned (.bool true) ∧ Below w.heap.size w w' := by
  have SA := Lib.hid (sane_any w hR)
  have HR := Lib.hid hR
  obtain ⟨ms, hms⟩ : ∃ ms, min s0.size 500 = ms := ⟨_, rfl⟩
  have hm : min (s0.size : Int) 500 = (ms : Int) := by omega
  have hm1 : (ms : Int) ≤ (s0.size : Int) := by omega
  have zs : (s0.extract 0 ms).size ≤ 500 := by simp only [ByteArray.size_extract]; omega
  obtain ⟨mt, hmt⟩ : ∃ mt, min t0.size 500 = mt := ⟨_, rfl⟩
  have hm2 : min (t0.size : Int) 500 = (mt : Int) := by omega
  have hm3 : (mt : Int) ≤ (t0.size : Int) := by omega
  have zt : (t0.extract 0 mt).size ≤ 500 := by simp only [ByteArray.size_extract]; omega
  clear hR hms hmt
  go_enter Tryd.func9, Tryd.ntmps9
  go_wp2_with fail
  refine SA.out.mono ?_
  rintro e W ⟨rfl, hb⟩
  have B := Lib.hid hb
  have R := Lib.hid (HR.out.below hb)
  clear SA hb HR
  go_wp2_with fail
  generalize s0.extract 0 ms = s at *
  generalize t0.extract 0 mt = t at *
  clear hm hm1 hm2 hm3
  have eS : Hid (∀ W, RoundLaid W → Calls Tryd.prog 29 #[.string s] W fun e w' => e = .returned (.string (sumB s)) ∧ Below W.heap.size W w') := Lib.hid (fun W r => Sum_any s (by omega) W r)
  have eL := Lib.hid (fun W (r : RoundLaid W) => Leaf_any t (by omega) W r)
  have eN := Lib.hid (fun W (r : RoundLaid W) => Node_any s t (by omega) W r)
  have eC := Lib.hid (fun W (r : RoundLaid W) => Chain_any t s (by omega) W r)
  have rS := Lib.hid (fun W => RSum_any s (by omega) W)
  have rL := Lib.hid (fun W => RLeaf_any t (by omega) W)
  have rN := Lib.hid (fun W => RNode_any s t (by omega) W)
  have rC := Lib.hid (fun W => RChain_any t s (by omega) W)
  generalize sumB s = d1 at *
  generalize leafB t = d2 at *
  generalize nodeB s t = d3 at *
  generalize chainB t s = d4 at *
  refine (eS.out _ R.out).mono ?_
  rintro e W1 ⟨rfl, hb⟩
  replace B := Lib.hid (B.out.trans (hb.mono B.out.size))
  replace R := Lib.hid (R.out.below hb)
  clear hb
  go_wp2_with fail
  refine (rS.out _).mono ?_
  rintro e W2 ⟨rfl, hb⟩
  replace B := Lib.hid (B.out.trans (hb.mono B.out.size))
  replace R := Lib.hid (R.out.below hb)
  clear hb
  go_wp2_with fail
  refine (eL.out _ R.out).mono ?_
  rintro e W3 ⟨rfl, hb⟩
  replace B := Lib.hid (B.out.trans (hb.mono B.out.size))
  replace R := Lib.hid (R.out.below hb)
  clear hb
  go_wp2_with fail
  refine (rL.out _).mono ?_
  rintro e W4 ⟨rfl, hb⟩
  replace B := Lib.hid (B.out.trans (hb.mono B.out.size))
  replace R := Lib.hid (R.out.below hb)
  clear hb
  go_wp2_with fail
  refine (eN.out _ R.out).mono ?_
  rintro e W5 ⟨rfl, hb⟩
  replace B := Lib.hid (B.out.trans (hb.mono B.out.size))
  replace R := Lib.hid (R.out.below hb)
  clear hb
  go_wp2_with fail
  refine (rN.out _).mono ?_
  rintro e W6 ⟨rfl, hb⟩
  replace B := Lib.hid (B.out.trans (hb.mono B.out.size))
  replace R := Lib.hid (R.out.below hb)
  clear hb
  go_wp2_with fail
  refine (eC.out _ R.out).mono ?_
  rintro e W7 ⟨rfl, hb⟩
  replace B := Lib.hid (B.out.trans (hb.mono B.out.size))
  replace R := Lib.hid (R.out.below hb)
  clear hb
  go_wp2_with fail
  refine (rC.out _).mono ?_
  rintro e W8 ⟨rfl, hb⟩
  replace B := Lib.hid (B.out.trans (hb.mono B.out.size))
  clear hb R
  go_wp2
  go_ret
  exact ⟨rfl, B.out⟩
end Go.Proofs.YtljgphmdiflphaaDoor
