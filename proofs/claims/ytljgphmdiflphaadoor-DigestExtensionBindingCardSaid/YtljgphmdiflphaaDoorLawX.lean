/- DigestExtensionBinding: the walk. -/
import Derived.Test.YtljgphmdiflphaaDoorSideW
import Derived.Test.YtljgphmdiflphaaDoorColl
import Derived.Test.YtljgphmdiflphaaDoorSane
namespace Go.Proofs.YtljgphmdiflphaaDoor
open Go.RowKit
set_option linter.unusedVariables false

set_option maxRecDepth 100000 in
set_option maxHeartbeats 8000000 in
theorem LawX_any (w : World) (a : ByteArray) (pv : Value) (p : List ByteArray) (b : ByteArray) (qv : Value) (q : List ByteArray) (m : Int) (root : ByteArray) (n : Int) (ha : a.size ≤ 9223372036854775807) (hb0 : b.size ≤ 9223372036854775807) (hr : root.size ≤ 9223372036854775807) (hn : n ≤ 9223372036854775807)
    (hp : SL w pv p) (hpl : p.length ≤ 9223372036854775807) (hps : ∀ s ∈ p, s.size ≤ 9223372036854775807) (hq : SL w qv q) (hql : q.length ≤ 9223372036854775807) (hqs : ∀ s ∈ q, s.size ≤ 9223372036854775807) (hR : RoundLaid w) :
    Calls Tryd.prog 7 #[.string a, pv, .string b, qv, .int .i64 m, .string root, .int .i64 n] w fun e w' => e = .returned (.bool true) ∧ Below w.heap.size w w' := by
  have SA := Lib.hid (sane_any w hR)
  have HR := Lib.hid hR
  have HP := Lib.hid hp
  have HQ := Lib.hid hq
  have HPS := Lib.hid hps
  have HQS := Lib.hid hqs
  clear hR hp hq hps hqs
  go_enter Tryd.func7, Tryd.ntmps7
  go_wp2_with fail
  refine SA.out.mono ?_
  rintro e W1 ⟨rfl, hb1⟩
  have B1 := Lib.hid hb1
  have FP := Lib.hid (few_any W1 pv p (HP.out.below hb1) hpl HPS.out 70 (by decide))
  clear SA HP HPS hb1
  go_wp2_with fail
  refine FP.out.mono ?_
  rintro e W2 ⟨v, rfl, hown, hb2⟩
  have SP := Lib.hid (SL_own hown)
  have hPs := fewB_small p 70
  have hPn : (fewB p 70).length ≤ 70 := by rw [fewB_length]; omega
  generalize fewB p 70 = P at *
  have PS := Lib.hid hPs
  have PN := Lib.hid hPn
  have B2 := Lib.hid (B1.out.trans (hb2.mono B1.out.size))
  have FQ := Lib.hid (few_any W2 qv q (HQ.out.below B2.out) hql HQS.out 70 (by decide))
  clear FP HQ HQS hown hb2 hPs hPn B1
  go_wp2_with fail
  refine FQ.out.mono ?_
  rintro e W3 ⟨v2, rfl, hown, hb3⟩
  have SQ := Lib.hid (SL_own hown)
  replace SP := Lib.hid (SP.out.below hb3)
  have hQs := fewB_small q 70
  have hQn : (fewB q 70).length ≤ 70 := by rw [fewB_length]; omega
  generalize fewB q 70 = Q at *
  have QS := Lib.hid hQs
  have QN := Lib.hid hQn
  have B3 := Lib.hid (B2.out.trans (hb3.mono B2.out.size))
  have R3 := Lib.hid (HR.out.below B3.out)
  have V1 := Lib.hid (VE_any W3 a root m n v P SP.out (by have := PN.out; omega) (fun s h => by have := PS.out s h; omega) ha hr hn R3.out)
  clear FQ hown hb3 hQs hQn B2 HR
  go_wp2_with fail
  refine V1.out.mono ?_
  rintro e W4 ⟨rfl, hb4⟩
  have B4 := Lib.hid (B3.out.trans (hb4.mono B3.out.size))
  have R4 := Lib.hid (R3.out.below hb4)
  replace SP := Lib.hid (SP.out.below hb4)
  replace SQ := Lib.hid (SQ.out.below hb4)
  have V2 := Lib.hid (VE_any W4 b root m n v2 Q SQ.out (by have := QN.out; omega) (fun s h => by have := QS.out s h; omega) hb0 hr hn R4.out)
  clear hb4 V1 B3 R3
  go_wp2_with fail
  refine V2.out.mono ?_
  rintro e W5 ⟨rfl, hb5⟩
  have B5 := Lib.hid (B4.out.trans (hb5.mono B4.out.size))
  have R5 := Lib.hid (R4.out.below hb5)
  replace SP := Lib.hid (SP.out.below hb5)
  replace SQ := Lib.hid (SQ.out.below hb5)
  have VC := Lib.hid (fun (h1 : verEB a m root n P = true) (h2 : verEB b m root n Q = true) (h : a ≠ b) => verEB_coll h1 h2 h)
  clear hb5 V2 B4 R4
  generalize verEB a m root n P = b1 at *
  generalize verEB b m root n Q = b2 at *
  cases b1 with
  | false =>
    go_wp2
    go_ret
    exact ⟨rfl, B5.out⟩
  | true =>
    cases b2 with
    | false =>
      go_wp2
      go_ret
      exact ⟨rfl, B5.out⟩
    | true =>
      cases e : (a.toList == b.toList) with
      | true =>
        go_wp2
        go_ret
        exact ⟨rfl, B5.out⟩
      | false =>
        have hst : a ≠ b := fun h => by rw [h] at e; simp at e
        obtain ⟨⟨hm0, hmn, za, zb⟩, hcol⟩ := VC.out rfl rfl hst
        have COL := Lib.hid hcol
        have ZA := Lib.hid (show a.size ≤ 60 by omega)
        have ZB := Lib.hid (show b.size ≤ 60 by omega)
        clear VC hst hcol za zb
        obtain ⟨M, rfl⟩ := Int.eq_ofNat_of_zero_le (show 0 ≤ m by omega)
        obtain ⟨N, rfl⟩ := Int.eq_ofNat_of_zero_le (show 0 ≤ n by omega)
        rw [Int.toNat_natCast, Int.toNat_natCast] at COL
        have hM1 : 1 ≤ M := by omega
        have hMB : M ≤ 9223372036854775807 := by omega
        have hNB : N ≤ 9223372036854775807 := by omega
        have WA := Lib.hid (sides_any P.length W5 a M N v P true rfl SP.out PS.out ZA.out hM1 hMB hNB R5.out PN.out)
        have HM1 := Lib.hid hM1
        have HMB := Lib.hid hMB
        have HNB := Lib.hid hNB
        clear hm0 hmn hM1 hMB hNB
        go_wp2_with fail
        refine WA.out.mono ?_
        rintro e W6 ⟨x1, rfl, ho6, hb6⟩
        have B6 := Lib.hid (B5.out.trans (hb6.mono B5.out.size))
        have R6 := Lib.hid (R5.out.below hb6)
        replace SQ := Lib.hid (SQ.out.below hb6)
        have S1 := Lib.hid (SL_own ho6)
        have WB := Lib.hid (sides_any Q.length W6 b M N v2 Q true rfl SQ.out QS.out ZB.out HM1.out HMB.out HNB.out R6.out QN.out)
        clear WA ho6 hb6
        go_wp2_with fail
        refine WB.out.mono ?_
        rintro e W7 ⟨x2, rfl, ho7, hb7⟩
        have B7 := Lib.hid (B6.out.trans (hb7.mono B6.out.size))
        have R7 := Lib.hid (R6.out.below hb7)
        replace S1 := Lib.hid (S1.out.below hb7)
        have S2 := Lib.hid (SL_own ho7)
        have CA := Lib.hid (collide_any W7 x1 x2 _ _ S1.out S2.out (by have := sidesP_length a P.reverse M N true; have := PN.out; simp at *; omega) (by have := sidesP_length b Q.reverse M N true; have := QN.out; simp at *; omega)
          (sidesP_small _ ZA.out _ _ _ _ (fun z hz => PS.out z (List.mem_reverse.1 hz))) (sidesP_small _ ZB.out _ _ _ _ (fun z hz => QS.out z (List.mem_reverse.1 hz))) R7.out)
        rw [COL.out] at CA
        clear WB ho7 hb7
        go_wp2_with fail
        refine CA.out.mono ?_
        rintro e W8 ⟨rfl, hb8⟩
        have B8 := Lib.hid (B7.out.trans (hb8.mono B7.out.size))
        clear hb8
        go_wp2
        go_ret
        exact ⟨rfl, B8.out⟩
end Go.Proofs.YtljgphmdiflphaaDoor
