/- Extension. -/
import Derived.Test.YtljgphmdiflphaaDoorProof
namespace Go.Proofs.YtljgphmdiflphaaDoor
open Go.RowKit
set_option linter.unusedVariables false

def extB (l : List ByteArray) (m : Nat) (w : Bool) : List ByteArray := Dig.ext leafB nodeB empB l m w
theorem extB_length : ∀ (n : Nat) (l : List ByteArray) (m : Nat) (w : Bool), 1 ≤ m → l.length = n → (extB l m w).length ≤ l.length + 1 := by
  intro n
  induction n using Nat.strongRecOn with
  | ind n ih =>
    intro l m w hm hn
    unfold extB
    by_cases h : l.length ≤ m
    · rw [Dig.ext_end _ _ _ _ _ _ h]; split <;> simp
    · have h3 := Dig.lft_lt (n := l.length) (by omega)
      have h4 := Dig.lft_pos l.length
      rw [Dig.ext_step _ _ _ _ _ _ hm (by omega)]
      split
      · have := ih (l.take (Dig.lft l.length)).length (by rw [List.length_take]; omega) (l.take (Dig.lft l.length)) m w hm rfl
        rw [List.length_take] at this
        simp only [List.length_cons]; unfold extB at this; omega
      · have := ih (l.drop (Dig.lft l.length)).length (by rw [List.length_drop]; omega) (l.drop (Dig.lft l.length)) (m - Dig.lft l.length) false (by omega) rfl
        rw [List.length_drop] at this
        simp only [List.length_cons]; unfold extB at this; omega

set_option maxHeartbeats 1000000 in
theorem Ext_bad (w : World) (sv : Value) (l : List ByteArray) (hsl : SL w sv l) (m : Int) (h : ¬ (0 ≤ m ∧ m ≤ l.length)) :
    Calls Tryd.prog 17 #[sv, .int .i64 m] w fun e w' => e = .returned (.tuple #[.slice none 0 0, .int .i64 2]) ∧ w = w' := by
  obtain ⟨a, cap, rfl, hcp, hne⟩ := hsl.form
  clear hne hsl
  by_cases h0 : m < 0
  · have h1 : decide (m < 0) = true := by simpa using h0
    clear h
    go_enter Tryd.func17, Tryd.ntmps17
    go_wp2
    go_ret2
    exact ⟨rfl, rfl⟩
  · have h1 : decide (m < 0) = false := by simpa using h0
    have h2 : (l.length : Int) < m := by omega
    clear h
    go_enter Tryd.func17, Tryd.ntmps17
    go_wp2
    go_ret2
    exact ⟨rfl, rfl⟩

set_option maxHeartbeats 1000000 in
theorem Ext_zero (w : World) (sv : Value) (l : List ByteArray) (hsl : SL w sv l) :
    Calls Tryd.prog 17 #[sv, .int .i64 0] w fun e w' => e = .returned (.tuple #[.slice none 0 0, .int .i64 0]) ∧ w = w' := by
  obtain ⟨a, cap, rfl, hcp, hne⟩ := hsl.form
  clear hne hsl
  go_enter Tryd.func17, Tryd.ntmps17
  go_wp2
  go_ret2
  exact ⟨rfl, rfl⟩

/-- On the way down. -/
def ExtS (w : World) (l : List ByteArray) (m : Nat) (lv : Value) (j : Int) (ov : Value) (b : Bool) (wr : World) : Prop :=
  ∃ (cur : List ByteArray) (q : Nat) (acc : List ByteArray), SL w lv cur ∧ j = (q : Int) ∧ 1 ≤ q ∧ q ≤ cur.length ∧ wr.ownsRow w.heap.size 9 1 ov acc.length (strV acc) ∧ Below w.heap.size w wr ∧ acc ++ extB cur q b = extB l m true ∧ (∀ x ∈ cur, x ∈ l) ∧ cur.length ≤ l.length

set_option maxRecDepth 100000 in
set_option maxHeartbeats 4000000 in
theorem Ext_ok (w : World) (sv : Value) (l : List ByteArray) (hsl : SL w sv l) (hlen : l.length ≤ 1000000) (hs : ∀ s ∈ l, s.size ≤ 800000) (hR : RoundLaid w) (m : Nat) (hm1 : 1 ≤ m) (hm : m ≤ l.length) :
    Calls Tryd.prog 17 #[sv, .int .i64 (m : Int)] w fun e w' => ∃ v, e = .returned (.tuple #[v, .int .i64 0]) ∧ SL w' v (extB l m true).reverse ∧ Below w.heap.size w w' := by
  obtain ⟨i9, hi9, hz9, hy9, hb9⟩ := info_parts Tryd.infoStr
  obtain ⟨b, off, cap, rfl, hcp, hbl, hcs⟩ := hsl.out (by omega)
  obtain ⟨n, hn⟩ : ∃ n, l.length = n := ⟨_, rfl⟩
  have HS := Lib.hid hs
  have HR := Lib.hid hR
  have HSL := Lib.hid hsl
  rw [hn] at hlen hm hcp HSL ⊢
  have HN := Lib.hid hn
  clear hn hsl hs hR hcs
  have h0 : ¬ (m : Int) < 0 := by omega
  have h0b : decide ((m : Int) < 0) = false := decide_eq_false h0
  have h1b : decide (n < m) = false := decide_eq_false (by omega)
  have h2b : ((m : Int) == 0) = false := beq_false_of_ne (by omega)
  go_enter Tryd.func17, Tryd.ntmps17
  go_wp2
  have P0 : Hid (ExtS w l m (.slice (some ⟨b, off, none⟩) n cap) (m : Int) (.slice none 0 0) true w) :=
    Lib.hid ⟨l, m, [], HSL.out, rfl, hm1, by rw [HN.out]; exact hm, World.ownsRow_nil _ _ _ _, Below.refl _ _, rfl, fun x h => h, by rw [HN.out]; omega⟩
  go_loopw [0, 1, 6, 7, 8, 9, 10] (fun lv iv ov bv _ _ _ wr => ∃ (j : Int) (c : Bool), iv = .int .i64 j ∧ bv = .bool c ∧ ExtS w l m lv j ov c wr) (fun lv _ _ _ _ _ _ _ => vlen lv)
  case atStart => exact ⟨m, true, rfl, rfl, P0.out⟩
  case round =>
    clear P0
    obtain ⟨j, c, rfl, rfl, hP⟩ := hrel
    obtain ⟨cur, q, acc, hcur, rfl, hq1, hq, hown, hbel, hacc, hsub, hln⟩ := hP
    obtain ⟨b2, off2, cap2, rfl, hcp2, hbl2, hcs2⟩ := hcur.out (by omega)
    obtain ⟨r, hr⟩ : ∃ r, cur.length = r := ⟨_, rfl⟩
    have HCUR := Lib.hid hcur
    rw [hr] at hcp2 hq HCUR ⊢
    have hrb : r ≤ 1000000 := by rw [← hr]; rw [HN.out] at hln; omega
    have HM := Lib.hid hr
    have HOWN := Lib.hid hown
    have HBEL := Lib.hid hbel
    have HACC := Lib.hid hacc
    have HSUB := Lib.hid hsub
    have HCS2 := Lib.hid hcs2
    have HLN := Lib.hid hln
    have ACL : acc.length ≤ 1000001 := by
      have h1 := congrArg List.length hacc
      rw [List.length_append] at h1
      have h2 := extB_length _ l m true hm1 rfl
      have := HN.out; omega
    clear hr hcur hown hbel hacc hsub hcs2 hln
    by_cases h1' : q < r
    · obtain ⟨k, hk⟩ : ∃ k, Dig.lft r = k := ⟨_, rfl⟩
      have hk1 := Dig.lft_lt (n := r) (by omega)
      have hk0 := Dig.lft_pos r
      rw [hk] at hk1 hk0
      have LE := Lib.hid (left_any r (by omega) (by omega))
      rw [hk] at LE
      have HK := Lib.hid hk
      clear hk
      have b0 : (k : Int) ≤ (r : Int) := by omega
      have b1 : (r : Int) ≤ (cap2 : Int) := by omega
      have b3 : (k : Int) ≤ (cap2 : Int) := by omega
      go_wp2_with fail
      refine (LE.out _).mono ?_
      rintro e w' ⟨rfl, rfl⟩
      go_wp2
      go_quiet (fail)
      have BW : Hid (Below w.heap.size w (wr.drewN nq)) := Lib.hid ⟨HBEL.out.os, HBEL.out.tape, HBEL.out.output, HBEL.out.size, HBEL.out.block⟩
      have OW : Hid ((wr.drewN nq).ownsRow w.heap.size 9 1 u6 acc.length (strV acc)) := HOWN
      clear HBEL HOWN
      generalize wr.drewN nq = W2 at *
      have EQ := Lib.hid (Dig.ext_step leafB nodeB empB cur q c hq1 (by have := HM.out; omega))
      by_cases hqk : q ≤ k
      · have HRT := Lib.hid (Root_any W2 (.slice (some ⟨b2, off2 + k, none⟩) (r - k) (cap2 - k)) (cur.drop k) ((SL.dropK k HM.out (by omega) hcp2 hbl2 HCS2.out).below BW.out) (by rw [List.length_drop]; have := HM.out; omega) (fun x hx => HS.out x (HSUB.out x (List.mem_of_mem_drop hx))) (HR.out.below BW.out))
        have hqk' : ¬ (k : Int) < (q : Int) := by omega
        go_wp2_with fail
        refine HRT.out.mono ?_
        rintro e W3 ⟨rfl, hB3⟩
        have OW3 := Lib.hid (own_below OW.out hB3)
        have BW3 := Lib.hid (BW.out.trans (hB3.mono BW.out.size))
        clear hB3 OW BW
        have hz3 := BW3.out.size
        go_wp2_with (at_builtin; refine wpList_append_own _ rfl (.tmp 44) (.tmp 47) 22 rfl w.heap.size 9 i9 _ 1 16 Tryd.underlying22 hi9 hz9 hy9 hb9 rfl (by decide) _ _ _ rfl (OW3.out.alloc _) ⟨W3.heap.size, 0, none⟩ 1 1 [.string (rootB (cur.drop k))] rfl rfl (cell_one_new _ _ _) (by simp [Value.oneCell']) (by simp only [maxLen]; omega) (by omega) (by simp; omega) ?_; intro v3 W4 hown hgr _; have O4 := Lib.hid hown; have G4 := Lib.hid hgr; clear hown hgr)
        go_roundw
        case rel =>
          have R : ExtS w l m (.slice (some ⟨b2, off2, none⟩) k cap2) (q : Int) v3 c W4 := ⟨cur.take k, q, acc ++ [rootB (cur.drop k)], SL.takeK k HM.out (by omega) hcp2 hbl2 HCS2.out, rfl, hq1, by rw [List.length_take, HM.out]; omega, by rw [List.length_append]; simpa [strV] using O4.out, (BW3.out.alloc BW3.out.size _).grown G4.out (by simp; omega) (fun k e => (OW3.out.lt k e).1), by
            have h := EQ.out
            rw [HM.out, HK.out, if_pos hqk] at h
            rw [← HACC.out, List.append_assoc]; congr 1; exact h.symm, fun x hx => HSUB.out x (List.mem_of_mem_take hx), by have := HLN.out; rw [List.length_take]; omega⟩
          first | exact ⟨_, _, rfl, rfl, R⟩ | ((repeat apply Exists.intro); exact ⟨⟨_, _, rfl, rfl, R⟩, rfl⟩)
        case measure => simp [vlen]; omega
      · have HRT := Lib.hid (Root_any W2 (.slice (some ⟨b2, off2, none⟩) k cap2) (cur.take k) ((SL.takeK k HM.out (by omega) hcp2 hbl2 HCS2.out).below BW.out) (by rw [List.length_take]; have := HM.out; omega) (fun x hx => HS.out x (HSUB.out x (List.mem_of_mem_take hx))) (HR.out.below BW.out))
        have hqk' : (k : Int) < (q : Int) := by omega
        go_wp2_with fail
        refine HRT.out.mono ?_
        rintro e W3 ⟨rfl, hB3⟩
        have OW3 := Lib.hid (own_below OW.out hB3)
        have BW3 := Lib.hid (BW.out.trans (hB3.mono BW.out.size))
        clear hB3 OW BW
        have hz3 := BW3.out.size
        go_wp2_with (at_builtin; refine wpList_append_own _ rfl (.tmp 44) (.tmp 47) 22 rfl w.heap.size 9 i9 _ 1 16 Tryd.underlying22 hi9 hz9 hy9 hb9 rfl (by decide) _ _ _ rfl (OW3.out.alloc _) ⟨W3.heap.size, 0, none⟩ 1 1 [.string (rootB (cur.take k))] rfl rfl (cell_one_new _ _ _) (by simp [Value.oneCell']) (by simp only [maxLen]; omega) (by omega) (by simp; omega) ?_; intro v3 W4 hown hgr _; have O4 := Lib.hid hown; have G4 := Lib.hid hgr; clear hown hgr)
        go_roundw
        case rel =>
          have R : ExtS w l m (.slice (some ⟨b2, off2 + k, none⟩) (r - k) (cap2 - k)) ((q : Int) - (k : Int)) v3 false W4 := ⟨cur.drop k, q - k, acc ++ [rootB (cur.take k)], SL.dropK k HM.out (by omega) hcp2 hbl2 HCS2.out, by omega, by omega, by rw [List.length_drop, HM.out]; omega, by rw [List.length_append]; simpa [strV] using O4.out, (BW3.out.alloc BW3.out.size _).grown G4.out (by simp; omega) (fun k e => (OW3.out.lt k e).1), by
            have h := EQ.out
            rw [HM.out, HK.out, if_neg hqk] at h
            rw [← HACC.out, List.append_assoc]; congr 1; exact h.symm, fun x hx => HSUB.out x (List.mem_of_mem_drop hx), by have := HLN.out; rw [List.length_drop]; omega⟩
          first | exact ⟨_, _, rfl, rfl, R⟩ | ((repeat apply Exists.intro); exact ⟨⟨_, _, rfl, rfl, R⟩, rfl⟩)
        case measure => simp [vlen]; omega
    · have EQ := Lib.hid (Dig.ext_end leafB nodeB empB cur q c (by have := HM.out; omega))
      cases c with
      | true =>
        have EA : Hid (acc = extB l m true) := Lib.hid (by have h := HACC.out; rw [extB, EQ.out] at h; simpa using h)
        have RV := Lib.hid (Rev_any wr w.heap.size acc.length u6 acc HOWN.out (by omega))
        go_wp2_with fail
        refine RV.out.mono ?_
        rintro e W3 ⟨rfl, hsl, hu⟩
        have H3 := Lib.hid hsl
        have B3 := Lib.hid (HBEL.out.trans (hu.below' HBEL.out.size (by intro i hi h; have := (HOWN.out.lt _ h).1; omega)))
        clear hsl hu
        go_wp2
        go_ret2
        exact ⟨u6, rfl, by rw [← EA.out]; exact H3.out, B3.out⟩
      | false =>
        have EA : Hid (acc ++ [rootB cur] = extB l m true) := Lib.hid (by have h := HACC.out; rw [extB, EQ.out] at h; exact h)
        have HRT := Lib.hid (Root_any wr _ cur (HCUR.out.below HBEL.out) (by have := HM.out; omega) (fun x hx => HS.out x (HSUB.out x hx)) (HR.out.below HBEL.out))
        go_wp2_with fail
        refine HRT.out.mono ?_
        rintro e W3 ⟨rfl, hB3⟩
        have OW3 := Lib.hid (own_below HOWN.out hB3)
        have BW3 := Lib.hid (HBEL.out.trans (hB3.mono HBEL.out.size))
        clear hB3 HOWN HBEL
        have hz3 := BW3.out.size
        go_wp2_with (first
          | (at_builtin; refine wpList_append_own _ rfl (.tmp 52) (.tmp 55) 22 rfl w.heap.size 9 i9 _ 1 16 Tryd.underlying22 hi9 hz9 hy9 hb9 rfl (by decide) _ _ _ rfl (OW3.out.alloc _) ⟨W3.heap.size, 0, none⟩ 1 1 [.string (rootB cur)] rfl rfl (cell_one_new _ _ _) (by simp [Value.oneCell']) (by simp only [maxLen]; omega) (by omega) (by simp; omega) ?_
             intro v3 W4 hown hgr _
             have B4 := Lib.hid ((BW3.out.alloc BW3.out.size _).grown hgr (by simp; omega) (fun k e => (OW3.out.lt k e).1))
             have O4 : Hid (W4.ownsRow w.heap.size 9 1 v3 (acc.length + 1) (strV (acc ++ [rootB cur]))) := Lib.hid (by simpa [strV] using hown)
             have RV := Lib.hid (Rev_any W4 w.heap.size (acc.length + 1) v3 (acc ++ [rootB cur]) O4.out (by omega))
             clear hown hgr)
          | (go_at_call 54
             refine RV.out.mono ?_
             rintro e W5 ⟨rfl, hsl, hu⟩
             have H3 := Lib.hid hsl
             have B5 := Lib.hid (B4.out.trans (hu.below' B4.out.size (by intro i hi h; have := (O4.out.lt _ h).1; omega)))
             clear hsl hu))
        go_ret2
        exact ⟨v3, rfl, by rw [← EA.out]; exact H3.out, B5.out⟩
end Go.Proofs.YtljgphmdiflphaaDoor
