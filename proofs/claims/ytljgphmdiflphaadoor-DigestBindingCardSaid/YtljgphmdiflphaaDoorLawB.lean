/- DigestBinding: the walk. -/
import Derived.Test.YtljgphmdiflphaaDoorBindW
import Derived.Test.YtljgphmdiflphaaDoorColl
import Derived.Test.YtljgphmdiflphaaDoorSane
import Derived.Test.YtljgphmdiflphaaDoorAccP
namespace Go.Proofs.YtljgphmdiflphaaDoor
open Go.RowKit
set_option linter.unusedVariables false

theorem wayP_small : ∀ (t : List ByteArray) (n i : Nat) (s : ByteArray), (∀ x ∈ t, x.size ≤ 60) → s.size ≤ 60 → ∀ y ∈ (wayP n i s t).1, y.size ≤ 100000 := by
  intro t
  induction t with
  | nil =>
    intro n i s _ hs y hy
    rw [wayP] at hy
    obtain rfl := List.mem_singleton.1 hy
    unfold pre1
    rw [ByteArray.size_append, show (⟨#[0]⟩ : ByteArray).size = 1 from rfl]; omega
  | cons x t ih =>
    intro n i s hx hs y hy
    have hx60 := hx x (by simp)
    rw [wayP] at hy
    split at hy
    · obtain rfl := List.mem_singleton.1 hy
      unfold pre1
      rw [ByteArray.size_append, show (⟨#[0]⟩ : ByteArray).size = 1 from rfl]; omega
    · split at hy
      · rcases List.mem_cons.1 hy with rfl | hy
        · unfold pre2
          rw [ByteArray.size_append, ByteArray.size_append, wayP_size, show (⟨#[1]⟩ : ByteArray).size = 1 from rfl]; omega
        · exact ih _ _ s (fun z hz => hx z (by simp [hz])) hs y hy
      · rcases List.mem_cons.1 hy with rfl | hy
        · unfold pre2
          rw [ByteArray.size_append, ByteArray.size_append, wayP_size, show (⟨#[1]⟩ : ByteArray).size = 1 from rfl]; omega
        · exact ih _ _ s (fun z hz => hx z (by simp [hz])) hs y hy
theorem verB_in {root s : ByteArray} {n i : Int} {P : List ByteArray} (h : verB root n i s P = true) : 0 ≤ i ∧ i < n := by
  by_cases h' : 0 ≤ i ∧ i < n
  · exact h'
  · rw [verB_range h'] at h; cases h

set_option maxRecDepth 100000 in
set_option maxHeartbeats 8000000 in
theorem LawB_any (w : World) (root : ByteArray) (n i : Int) (s0 : ByteArray) (pv : Value) (p : List ByteArray) (t0 : ByteArray) (qv : Value) (q : List ByteArray) (hr : root.size ≤ 9223372036854775807) (hn : n ≤ 9223372036854775807) (hs0 : s0.size ≤ 9223372036854775807) (ht0 : t0.size ≤ 9223372036854775807)
    (hp : SL w pv p) (hpl : p.length ≤ 9223372036854775807) (hps : ∀ s ∈ p, s.size ≤ 9223372036854775807) (hq : SL w qv q) (hql : q.length ≤ 9223372036854775807) (hqs : ∀ s ∈ q, s.size ≤ 9223372036854775807) (hR : RoundLaid w) :
    Calls Tryd.prog 6 #[.string root, .int .i64 n, .int .i64 i, .string s0, pv, .string t0, qv] w fun e w' => e = .returned (.bool true) ∧ Below w.heap.size w w' := by
  have SA := Lib.hid (sane_any w hR)
  have HR := Lib.hid hR
  have HP := Lib.hid hp
  have HQ := Lib.hid hq
  have HPS := Lib.hid hps
  have HQS := Lib.hid hqs
  obtain ⟨ms, hms⟩ : ∃ ms, min s0.size 60 = ms := ⟨_, rfl⟩
  have hm : min (s0.size : Int) 60 = (ms : Int) := by omega
  have hm1 : (ms : Int) ≤ (s0.size : Int) := by omega
  have CS : Hid (s0.extract 0 ms = cut60 s0) := Lib.hid (by rw [← hms]; rfl)
  obtain ⟨mt, hmt⟩ : ∃ mt, min t0.size 60 = mt := ⟨_, rfl⟩
  have hm2 : min (t0.size : Int) 60 = (mt : Int) := by omega
  have hm3 : (mt : Int) ≤ (t0.size : Int) := by omega
  have CT : Hid (t0.extract 0 mt = cut60 t0) := Lib.hid (by rw [← hmt]; rfl)
  have zs := cut60_size s0
  have zt := cut60_size t0
  clear hR hp hq hps hqs hms hmt
  go_enter Tryd.func6, Tryd.ntmps6
  go_wp2_with fail
  refine SA.out.mono ?_
  rintro e W1 ⟨rfl, hb1⟩
  have B1 := Lib.hid hb1
  have FP := Lib.hid (few_any W1 pv p (HP.out.below hb1) hpl HPS.out 70 (by decide))
  clear SA HP HPS hb1
  go_wp2_with fail
  refine FP.out.mono ?_
  rintro e W2 ⟨v, rfl, hown, hb2⟩
  have SP := Lib.hid (SL_own hown)
  have hPs := fewB_small p 70
  have hPn : (fewB p 70).length ≤ 70 := by rw [fewB_length]; omega
  generalize fewB p 70 = P at *
  have PS := Lib.hid hPs
  have PN := Lib.hid hPn
  have B2 := Lib.hid (B1.out.trans (hb2.mono B1.out.size))
  have FQ := Lib.hid (few_any W2 qv q (HQ.out.below B2.out) hql HQS.out 70 (by decide))
  clear FP HQ HQS hown hb2 hPs hPn B1
  go_wp2_with fail
  refine FQ.out.mono ?_
  rintro e W3 ⟨v2, rfl, hown, hb3⟩
  have SQ := Lib.hid (SL_own hown)
  replace SP := Lib.hid (SP.out.below hb3)
  have hQs := fewB_small q 70
  have hQn : (fewB q 70).length ≤ 70 := by rw [fewB_length]; omega
  generalize fewB q 70 = Q at *
  have QS := Lib.hid hQs
  have QN := Lib.hid hQn
  have B3 := Lib.hid (B2.out.trans (hb3.mono B2.out.size))
  have R3 := Lib.hid (HR.out.below B3.out)
  have V1 := Lib.hid (Ver_any W3 root (cut60 s0) n i v P SP.out (by have := PN.out; omega) (fun s h => by have := PS.out s h; omega) (by omega) hn R3.out hr)
  clear FQ hown hb3 hQs hQn B2 HR
  go_wp2_with fail
  rw [CS.out, CT.out]
  clear hm hm1 hm2 hm3 CS CT
  refine V1.out.mono ?_
  rintro e W4 ⟨rfl, hb4⟩
  have B4 := Lib.hid (B3.out.trans (hb4.mono B3.out.size))
  have R4 := Lib.hid (R3.out.below hb4)
  replace SP := Lib.hid (SP.out.below hb4)
  replace SQ := Lib.hid (SQ.out.below hb4)
  have V2 := Lib.hid (Ver_any W4 root (cut60 t0) n i v2 Q SQ.out (by have := QN.out; omega) (fun s h => by have := QS.out s h; omega) (by omega) hn R4.out hr)
  clear hb4 V1 B3 R3
  go_wp2_with fail
  refine V2.out.mono ?_
  rintro e W5 ⟨rfl, hb5⟩
  have B5 := Lib.hid (B4.out.trans (hb5.mono B4.out.size))
  have R5 := Lib.hid (R4.out.below hb5)
  replace SP := Lib.hid (SP.out.below hb5)
  replace SQ := Lib.hid (SQ.out.below hb5)
  have VI := Lib.hid (fun h : verB root n i (cut60 s0) P = true => verB_in h)
  have VC := Lib.hid (fun (h1 : verB root n i (cut60 s0) P = true) (h2 : verB root n i (cut60 t0) Q = true) (h : cut60 s0 ≠ cut60 t0) => verB_coll h1 h2 h)
  clear hb5 V2 B4 R4
  generalize verB root n i (cut60 s0) P = b1 at *
  generalize verB root n i (cut60 t0) Q = b2 at *
  generalize cut60 s0 = s at *
  generalize cut60 t0 = t at *
  cases b1 with
  | false =>
    go_wp2
    go_ret
    exact ⟨rfl, B5.out⟩
  | true =>
    cases b2 with
    | false =>
      go_wp2
      go_ret
      exact ⟨rfl, B5.out⟩
    | true =>
      cases e : (s.toList == t.toList) with
      | true =>
        go_wp2
        go_ret
        exact ⟨rfl, B5.out⟩
      | false =>
        have hst : s ≠ t := fun h => by rw [h] at e; simp at e
        have COL := Lib.hid (VC.out rfl rfl hst)
        obtain ⟨hi0, hin⟩ := VI.out rfl
        clear VC VI hst
        obtain ⟨I, rfl⟩ := Int.eq_ofNat_of_zero_le hi0
        obtain ⟨N, rfl⟩ := Int.eq_ofNat_of_zero_le (show 0 ≤ n by omega)
        rw [Int.toNat_natCast, Int.toNat_natCast] at COL
        have hIN : I < N := Int.ofNat_lt.1 hin
        have hNB : N ≤ 9223372036854775807 := by omega
        have WA := Lib.hid (way_any P.length W5 N I s v P rfl SP.out PS.out zs hNB hIN R5.out PN.out)
        have HIN := Lib.hid hIN
        have HNB := Lib.hid hNB
        clear hi0 hin hIN hNB
        go_wp2_with fail
        refine WA.out.mono ?_
        rintro e W6 ⟨x1, rfl, ho6, hb6⟩
        have B6 := Lib.hid (B5.out.trans (hb6.mono B5.out.size))
        have R6 := Lib.hid (R5.out.below hb6)
        replace SQ := Lib.hid (SQ.out.below hb6)
        have S1 := Lib.hid (SL_own ho6)
        have WB := Lib.hid (way_any Q.length W6 N I t v2 Q rfl SQ.out QS.out zt HNB.out HIN.out R6.out QN.out)
        clear WA ho6 hb6
        go_wp2_with fail
        refine WB.out.mono ?_
        rintro e W7 ⟨x2, rfl, ho7, hb7⟩
        have B7 := Lib.hid (B6.out.trans (hb7.mono B6.out.size))
        have R7 := Lib.hid (R6.out.below hb7)
        replace S1 := Lib.hid (S1.out.below hb7)
        have S2 := Lib.hid (SL_own ho7)
        have CA := Lib.hid (collide_any W7 x1 x2 _ _ S1.out S2.out (by have := wayP_length P.reverse N I s; have := PN.out; simp at *; omega) (by have := wayP_length Q.reverse N I t; have := QN.out; simp at *; omega)
          (wayP_small _ _ _ _ (fun z hz => PS.out z (List.mem_reverse.1 hz)) zs) (wayP_small _ _ _ _ (fun z hz => QS.out z (List.mem_reverse.1 hz)) zt) R7.out)
        rw [COL.out] at CA
        clear WB ho7 hb7
        go_wp2_with fail
        refine CA.out.mono ?_
        rintro e W8 ⟨rfl, hb8⟩
        have B8 := Lib.hid (B7.out.trans (hb8.mono B7.out.size))
        clear hb8
        go_wp2
        go_ret
        exact ⟨rfl, B8.out⟩
end Go.Proofs.YtljgphmdiflphaaDoor
