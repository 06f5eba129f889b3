/- DigestTreeMatchesReference: the walk. -/
import Derived.Test.YtljgphmdiflphaaDoorRsG
import Derived.Test.YtljgphmdiflphaaDoorSame
import Derived.Test.YtljgphmdiflphaaDoorSane
namespace Go.Proofs.YtljgphmdiflphaaDoor
open Go.RowKit
set_option linter.unusedVariables false

set_option maxRecDepth 100000 in
set_option maxHeartbeats 8000000 in
theorem LawT_any (w : World) (sv : Value) (l : List ByteArray) (hsl : SL w sv l) (hlen : l.length ≤ 9223372036854775807) (hs : ∀ s ∈ l, s.size ≤ 9223372036854775807) (i m : Int) (hR : RoundLaid w) :
    Calls Tryd.prog 3 #[sv, .int .i64 i, .int .i64 m] w fun e w' => e = .returned (.bool true) ∧ Below w.heap.size w w' := by
  have SA := Lib.hid (sane_any w hR)
  have HR := Lib.hid hR
  have HSL := Lib.hid hsl
  have HS := Lib.hid hs
  clear hR hsl hs
  go_enter Tryd.func3, Tryd.ntmps3
  go_wp2_with fail
  refine SA.out.mono ?_
  rintro e W1 ⟨rfl, hb1⟩
  have FE := Lib.hid (few_any W1 sv l (HSL.out.below hb1) hlen HS.out 40 (by decide))
  have B1 := Lib.hid hb1
  clear SA HSL HS hb1
  go_wp2_with fail
  refine FE.out.mono ?_
  rintro e W2 ⟨v, rfl, hown, hb2⟩
  obtain ⟨L, hL⟩ : ∃ L, fewB l 40 = L := ⟨_, rfl⟩
  have hLs := fewB_small l 40
  have hLn : (fewB l 40).length ≤ 40 := by rw [fewB_length]; omega
  rw [hL] at hown hLs hLn
  have B := Lib.hid (B1.out.trans (hb2.mono B1.out.size))
  have R := Lib.hid (HR.out.below B.out)
  have SLL := Lib.hid (SL_own hown)
  have HLS : Hid (∀ s ∈ L, s.size ≤ 800000) := Lib.hid (fun s hs => Nat.le_trans (hLs s hs) (by decide))
  have HLN := Lib.hid hLn
  have zr := rootB_size L
  have cP := Lib.hid (fun W (h : SL W v L) (r : RoundLaid W) => ProofU W v L h (by have := HLN.out; omega) HLS.out r i)
  have cQ := Lib.hid (fun W (h : SL W v L) => RProofU W v L h (by have := HLN.out; omega) HLS.out i)
  have cX := Lib.hid (fun W (h : SL W v L) (r : RoundLaid W) => ExtU W v L h (by have := HLN.out; omega) HLS.out r m)
  have cY := Lib.hid (fun W (h : SL W v L) => RExtU W v L h (by have := HLN.out; omega) HLS.out m)
  have cR := Lib.hid (fun W (h : SL W v L) (r : RoundLaid W) => Root_any W v L h (by have := HLN.out; omega) HLS.out r)
  have cS := Lib.hid (fun W (h : SL W v L) => RRoot_any L.length W v L rfl h (by have := HLN.out; omega) HLS.out)
  have pl : (prL L i).length ≤ 1000 := by
    unfold prL
    split
    · rw [List.length_reverse]; have := prfB_length _ L i.toNat rfl; omega
    · simp
  have xl : (exL L m).length ≤ 1000 := by
    unfold exL
    split
    · have h1 := exB_le L m.toNat (by omega)
      have h2 := binN_le L.length
      omega
    · simp
  have sP : Hid (sameL (prL L i) (prL L i) = true) := Lib.hid (decide_eq_true rfl)
  have sX : Hid (sameL (exL L m) (exL L m) = true) := Lib.hid (decide_eq_true rfl)
  generalize prE L i = e1 at *
  generalize prL L i = P at *
  generalize exE L m = e2 at *
  generalize exL L m = X at *
  generalize rootB L = rt at *
  clear FE hown hb2 hL hLs hLn B1 HR
  go_wp2_with fail
  refine (cP.out _ SLL.out R.out).mono ?_
  rintro e W3 ⟨p, rfl, hp, hb⟩
  have SP := Lib.hid hp
  replace B := Lib.hid (B.out.trans (hb.mono B.out.size))
  replace R := Lib.hid (R.out.below hb)
  replace SLL := Lib.hid (SLL.out.below hb)
  clear hp hb cP
  go_wp2_with fail
  refine (cQ.out _ SLL.out).mono ?_
  rintro e W4 ⟨q, rfl, hp, hb⟩
  have SQ := Lib.hid hp
  replace B := Lib.hid (B.out.trans (hb.mono B.out.size))
  replace R := Lib.hid (R.out.below hb)
  replace SLL := Lib.hid (SLL.out.below hb)
  replace SP := Lib.hid (SP.out.below hb)
  clear hp hb cQ
  go_wp2_with fail
  refine (cX.out _ SLL.out R.out).mono ?_
  rintro e W5 ⟨x, rfl, hp, hb⟩
  have SX := Lib.hid hp
  replace B := Lib.hid (B.out.trans (hb.mono B.out.size))
  replace R := Lib.hid (R.out.below hb)
  replace SLL := Lib.hid (SLL.out.below hb)
  replace SP := Lib.hid (SP.out.below hb)
  replace SQ := Lib.hid (SQ.out.below hb)
  clear hp hb cX
  go_wp2_with fail
  refine (cY.out _ SLL.out).mono ?_
  rintro e W6 ⟨y, rfl, hp, hb⟩
  have SY := Lib.hid hp
  replace B := Lib.hid (B.out.trans (hb.mono B.out.size))
  replace R := Lib.hid (R.out.below hb)
  replace SLL := Lib.hid (SLL.out.below hb)
  replace SP := Lib.hid (SP.out.below hb)
  replace SQ := Lib.hid (SQ.out.below hb)
  replace SX := Lib.hid (SX.out.below hb)
  clear hp hb cY
  have M1 := Lib.hid (Same_any W6 p q P P SP.out SQ.out (by omega) (by omega))
  rw [sP.out] at M1
  go_wp2_with fail
  refine M1.out.mono ?_
  rintro e W7 ⟨rfl, hb⟩
  replace B := Lib.hid (B.out.trans (hb.mono B.out.size))
  replace R := Lib.hid (R.out.below hb)
  replace SLL := Lib.hid (SLL.out.below hb)
  replace SX := Lib.hid (SX.out.below hb)
  replace SY := Lib.hid (SY.out.below hb)
  clear hb M1 SP SQ sP
  have M2 := Lib.hid (Same_any W7 x y X X SX.out SY.out (by omega) (by omega))
  rw [sX.out] at M2
  go_wp2_with fail
  refine M2.out.mono ?_
  rintro e W8 ⟨rfl, hb⟩
  replace B := Lib.hid (B.out.trans (hb.mono B.out.size))
  replace R := Lib.hid (R.out.below hb)
  replace SLL := Lib.hid (SLL.out.below hb)
  clear hb M2 SX SY sX
  go_wp2_with fail
  refine (cR.out _ SLL.out R.out).mono ?_
  rintro e W9 ⟨rfl, hb⟩
  replace B := Lib.hid (B.out.trans (hb.mono B.out.size))
  replace SLL := Lib.hid (SLL.out.below hb)
  clear hb R
  go_wp2_with fail
  refine (cS.out _ SLL.out).mono ?_
  rintro e W10 ⟨rfl, hb⟩
  replace B := Lib.hid (B.out.trans (hb.mono B.out.size))
  clear hb
  go_wp2
  go_ret
  exact ⟨rfl, B.out⟩
end Go.Proofs.YtljgphmdiflphaaDoor
