/- The reference's decoding of integers and strings. -/
import Derived.Test.YthlmgookaljgnaaGreatDoorRfI
import Derived.Test.YthlmgookaljgnaaGreatDoorRfP
namespace Go.Proofs.YthlmgookaljgnaaGreatDoor
open Go.RowKit Go.Shelf
set_option linter.unusedVariables false
set_option linter.unusedSimpArgs false

theorem zigzag_num (z : Nat) (hz : z < 9223372036854775807) (w : World) : Calls Tryz.prog 102 #[.int .i64 (numZ z)] w fun e w' => e = .returned (.int .u64 (z : Int)) ∧ w = w' := by
  by_cases h : z % 2 = 0
  · have e : numZ z = ((z / 2 : Nat) : Int) := by unfold numZ; rw [if_pos h]
    obtain ⟨y, hy⟩ : ∃ y, z / 2 = y := ⟨_, rfl⟩
    have HE : Hid ((y : Int) * 2 = (z : Int)) := Lib.hid (by omega)
    have hyb : y ≤ 4611686018427387903 := by omega
    rw [e, hy]
    clear e hy h
    have q1 : ¬ (y : Int) < 0 := by omega
    go_enter Tryz.func102, Tryz.ntmps102
    go_wp2
    go_ret
    rw [HE.out]
    exact ⟨rfl, rfl⟩
  · have e : numZ z = -((z / 2 : Nat) : Int) - 1 := by unfold numZ; rw [if_neg h]
    obtain ⟨y, hy⟩ : ∃ y : Nat, numZ z = -(y : Int) := ⟨z / 2 + 1, by rw [e]; omega⟩
    have HE : Hid ((y : Int) * 2 - 1 = (z : Int)) := Lib.hid (by omega)
    have hyb : y ≤ 4611686018427387904 := by omega
    have hy1 : 1 ≤ y := by omega
    rw [hy]
    clear e hy h
    have q1 : -(y : Int) < 0 := by omega
    go_enter Tryz.func102, Tryz.ntmps102
    go_wp2
    go_ret
    rw [← HE.out]
    exact ⟨rfl, rfl⟩

set_option maxHeartbeats 1000000 in
theorem PutIntR_bad (n : Int) (h0 : -9223372036854775808 ≤ n) (h : n < -4611686018427387903) (w : World) :
    Calls Tryz.prog 82 #[.int .i64 n] w fun e w' => e = .returned (.tuple #[.string ⟨#[]⟩, .int .i64 10]) ∧ w = w' := by
  go_enter Tryz.func82, Tryz.ntmps82
  go_wp2
  go_ret2
  exact ⟨rfl, rfl⟩

set_option maxRecDepth 100000 in
set_option maxHeartbeats 2000000 in
theorem PutIntR_num (Z : Nat) (hZ : Z < 9223372036854775807) (w : World) :
    Calls Tryz.prog 82 #[.int .i64 (numZ Z)] w fun e w' => e = .returned (.tuple #[.string (encB Z), .int .i64 0]) ∧ Below w.heap.size w w' := by
  obtain ⟨i0, hi, hz0, hz1, hz2⟩ := info_parts Tryz.infoByte'
  have ZZ := Lib.hid (zigzag_num Z hZ w)
  have hb := numZ_bounds Z (by omega)
  have q1 : ¬ numZ Z < -4611686018427387903 := by unfold numZ; split <;> omega
  have q2 : ¬ numZ Z > 4611686018427387903 := by omega
  generalize numZ Z = n at *
  go_enter Tryz.func82, Tryz.ntmps82
  go_wp2_with (go_at_call 102; refine ZZ.out.mono ?_; rintro e w' ⟨rfl, rfl⟩)
  clear ZZ
  go_loopw [4, 5] (fun zv ov wr => ∃ (z : Nat) (pre : List Nat), zv = .int .u64 (z : Int) ∧ z ≤ Z ∧ encZ Z = pre ++ encZ z ∧ pre.length ≤ 10 ∧ Sha.bytes pre ∧ OB w pre pre.length ov wr) (fun zv _ _ => (intOf zv).toNat)
  case atStart => exact ⟨Z, [], rfl, Nat.le_refl _, rfl, by simp, fun x hx => (by cases hx), World.ownsRow_nil _ _ _ _, Below.refl _ _⟩
  case round =>
    obtain ⟨z, pre, rfl, hz, he, hl, hb, hO⟩ := hrel
    have HO := Lib.hid hO
    have HE := Lib.hid he
    have HB := Lib.hid hb
    clear hO he hb
    by_cases h1 : z < 128
    · have hlt : ¬ (z : Int) ≥ 128 := by omega
      have hcv : IntKind.u8.wrap (z : Int) = (z : Int) := by rw [IntKind.wrap_u8]; omega
      go_wp2_with (first
        | (at_builtin
           refine wpList_append_own _ rfl (.tmp 25) (.tmp 28) 39 rfl w.heap.size 5 i0 _ 1 1 Tryz.underlying39 hi hz0 hz1 hz2 rfl (by decide) u5 pre.length _ rfl (HO.out.row.alloc _) ⟨wr.heap.size, 0, none⟩ 1 1 [.int .u8 ((z : Nat) : Int)] rfl rfl (news_one (by first | rfl | simp | (simp; omega))) (by simp [Value.oneCell']) (by simp only [maxLen]; omega) (by omega) (by have := HO.out.below.size; simp; omega) ?_
           intro v2 W2 hown hgr _
           have O2 := Lib.hid hown
           have G2 := Lib.hid hgr
           clear hown hgr
           have P : OB w (pre ++ [z]) (pre.length + 1) v2 W2 := HO.out.push _ [z] O2.out rfl G2.out
           have hcv := P.conv (by simp) (by omega) (fun y hy => by
             rcases List.mem_append.1 hy with h | h
             · exact HB.out y h
             · simp at h; omega)
           have e : (⟨((pre ++ [z]).map UInt8.ofNat).toArray⟩ : ByteArray) = encB Z := by rw [encB, HE.out, encZ_lt z h1]
           rw [e] at hcv
           have PB := Lib.hid P.below
           clear P e O2 G2)
        | fail)
      go_ret2
      exact ⟨rfl, PB.out⟩
    · have hge : (z : Int) ≥ 128 := by omega
      go_wp2_with (at_builtin; refine wpList_append_own _ rfl (.tmp 16) (.tmp 21) 39 rfl w.heap.size 5 i0 _ 1 1 Tryz.underlying39 hi hz0 hz1 hz2 rfl (by decide) u5 pre.length _ rfl (HO.out.row.alloc _) ⟨wr.heap.size, 0, none⟩ 1 1 [.int .u8 ((z % 128 + 128 : Nat) : Int)] rfl rfl (news_one (by first | rfl | simp | (simp; omega))) (by simp [Value.oneCell']) (by simp only [maxLen]; omega) (by omega) (by have := HO.out.below.size; simp; omega) ?_; intro v2 W2 hown hgr _; have O2 := Lib.hid hown; have G2 := Lib.hid hgr; clear hown hgr)
      have P : OB w (pre ++ [z % 128 + 128]) (pre.length + 1) v2 W2 := HO.out.push _ [z % 128 + 128] O2.out rfl G2.out
      have hz9 : z < 128 ^ 9 := Nat.lt_of_le_of_lt hz (Nat.lt_of_lt_of_le hZ (by decide))
      have HE2 : encZ Z = (pre ++ [z % 128 + 128]) ++ encZ (z / 128) := by rw [HE.out, encZ_ge z h1 hz9]; simp
      have h5 : pre.length + 1 ≤ 10 := by
        have h6 := congrArg List.length HE2
        have h7 := encZ_len Z
        have h8 : 1 ≤ (encZ (z / 128)).length := by
          by_cases h : z / 128 < 128
          · rw [encZ_lt _ h]; simp
          · rw [encZ_ge _ h (by omega)]; simp
        simp only [List.length_append, List.length_singleton] at h6
        omega
      refine ⟨⟨z / 128, pre ++ [z % 128 + 128], by go_num, by omega, HE2, by simpa using h5, fun y hy => ?_, by simpa using P⟩, by simp [intOf]; omega⟩
      rcases List.mem_append.1 hy with h | h
      · exact HB.out y h
      · simp at h; omega

set_option maxRecDepth 100000 in
set_option maxHeartbeats 4000000 in
theorem RInt_any (s : ByteArray) (p : Nat) (hp : p ≤ s.size) (hs : s.size ≤ 100000000) (w : World) :
    Calls Tryz.prog 83 #[.string s, .int .i64 (p : Int)] w fun e w' => e = .returned (outI (decI s p)) ∧ Below w.heap.size w w' := by
  go_enter Tryz.func83, Tryz.ntmps83
  have q1 : ¬ (p : Int) < 0 := by omega
  have q2 : ¬ (p : Int) > (s.size : Int) := by omega
  go_wp2
  go_loopw [7, 8] (fun zv iv wr => ∃ i z : Nat, zv = .int .u64 (z : Int) ∧ iv = .int .i64 (i : Int) ∧ Enc s p i z ∧ decI s p = decGo s p (9 - i) i z ∧ Below w.heap.size w wr) (fun _ iv _ => 9 - (intOf iv).toNat)
  case atStart => exact ⟨0, 0, rfl, rfl, Enc.zero s p, rfl, Below.refl _ _⟩
  case round =>
    obtain ⟨i, z, rfl, rfl, hE, hd, hb⟩ := hrel
    have HB := Lib.hid hb
    have HD := Lib.hid hd
    have HE := Lib.hid hE
    have hi := hE.le
    have hzb : z < 128 ^ 9 := Nat.lt_of_lt_of_le hE.lt (Nat.pow_le_pow_right (by decide) hE.le)
    clear hb hd hE
    by_cases h9 : i < 9
    · by_cases hpi : p + i < s.size
      · have r1 : (i : Int) < 9 := by omega
        have r2 : (p : Int) + (i : Int) < (s.size : Int) := by omega
        have hx : s[p + i].toNat < 256 := s[p + i].toNat_lt
        obtain ⟨c, hc⟩ : ∃ c, s[p + i].toNat % 128 = c := ⟨_, rfl⟩
        have hcb : c < 128 := by omega
        obtain ⟨y, hy⟩ : ∃ y, z + c * 128 ^ i = y := ⟨_, rfl⟩
        have hw := or_wrap z c i (by omega) HE.out.lt hcb
        rw [hy] at hw
        have hyb := hw.2
        have hy9 : y < 128 ^ 9 := Nat.lt_of_lt_of_le hyb (Nat.pow_le_pow_right (by decide) (by omega))
        have e1 : (s[p + i].toNat : Int) % 128 = (c : Int) := by omega
        have h3 : c * 128 ^ i < 128 ^ 9 := by omega
        have e2 : IntKind.u64.wrap ((c : Int) * 2 ^ (7 * i)) = (c : Int) * 128 ^ i := by
          have h3' : (c : Int) * 2 ^ (7 * i) = ((c * 128 ^ i : Nat) : Int) := by
            rw [show (128 : Nat) = 2 ^ 7 from rfl, ← Nat.pow_mul]; push_cast; rfl
          have h4' : ((c * 128 ^ i : Nat) : Int) = (c : Int) * 128 ^ i := by push_cast; rfl
          rw [h3', ← h4', IntKind.wrap_u64]; omega
        have e3 : IntKind.u64.wrap ((z : Int) + (c : Int) * 128 ^ i) = (y : Int) := by
          have h4' : ((c * 128 ^ i : Nat) : Int) = (c : Int) * 128 ^ i := by push_cast; rfl
          rw [← h4', IntKind.wrap_u64]; omega
        have hyb2 : y < 9223372036854775808 := Nat.lt_of_lt_of_le hy9 (by decide)
        have HST := Lib.hid (show decI s p = if 128 ≤ s[p + i].toNat then decGo s p (8 - i) (i + 1) y else if (s[p + i].toNat = 0 ∧ 0 < i) ∨ numZ y < -4611686018427387903 then none else some (numZ y, p + i + 1) by
          rw [HD.out, show 9 - i = (8 - i) + 1 by omega, decGo, dif_pos hpi, hc, hy])
        have HNX := Lib.hid (fun h : 128 ≤ s[p + i].toNat => show Enc s p (i + 1) y by have := HE.out.succ h9 hpi h; rwa [hc, hy] at this)
        have HLS := Lib.hid (fun h : s[p + i].toNat < 128 => show encB y = s.extract p (p + (i + 1)) ↔ ¬ (s[p + i].toNat = 0 ∧ 0 < i) by
          rw [encB_eq (by omega)]
          have := HE.out.last h9 hpi h; rwa [hc, hy] at this)
        clear hw hyb h3 hc hy HE HD hy9 hzb
        by_cases hge : 128 ≤ s[p + i].toNat
        · have t1 : (s[p + i].toNat : Int) ≥ 128 := by omega
          have R := Lib.hid (And.intro (HNX.out hge) (show decI s p = decGo s p (9 - (i + 1)) (i + 1) y by rw [HST.out, if_pos hge, show 9 - (i + 1) = 8 - i by omega]))
          clear HST HNX HLS
          go_wp2
          exact ⟨⟨i + 1, y, rfl, by go_num, R.out.1, R.out.2, HB.out⟩, by simp [intOf]; omega⟩
        · have t1 : ¬ (s[p + i].toNat : Int) ≥ 128 := by omega
          have D2 := HST.out
          rw [if_neg hge] at D2
          have HD2 := Lib.hid D2
          have HCM := Lib.hid (HLS.out (by omega))
          clear D2 HST HNX HLS
          have hpm : ((p : Int) + (i : Int) + 1) ≤ (s.size : Int) := by omega
          have hpm2 : (p : Int) ≤ (p : Int) + (i : Int) + 1 := by omega
          by_cases hbad : y = 9223372036854775807
          · have hb1 : numZ y = -4611686018427387904 := by rw [hbad]; decide
            have HR := Lib.hid (show decI s p = none by rw [HD2.out, if_pos (.inr (by rw [hb1]; decide))])
            subst hbad
            have PB := Lib.hid (PutIntR_bad (-4611686018427387904) (by decide) (by decide) wr)
            clear hb1 HD2 HCM
            go_wp2_with (go_at_call 82; refine PB.out.mono ?_; rintro e w2 ⟨rfl, rfl⟩)
            refine bodyPost_ret (results_tmp3 rfl _ _ _) rfl ?_
            exact ⟨by rw [HR.out]; rfl, HB.out⟩
          · have hy63 : y < 9223372036854775807 := by omega
            have hnb : ¬ numZ y < -4611686018427387903 := by unfold numZ; split <;> omega
            have PI := Lib.hid (PutIntR_num y hy63 wr)
            have hpar : (((y : Int) % 2 == 1) = false ∧ numZ y = (y : Int) / 2) ∨ (((y : Int) % 2 == 1) = true ∧ numZ y = -((y : Int) / 2) - 1) := by
              by_cases h2 : y % 2 = 0
              · left
                refine ⟨by simp; omega, ?_⟩
                unfold numZ; rw [if_pos h2]; omega
              · right
                refine ⟨by simp; omega, ?_⟩
                unfold numZ; rw [if_neg h2]; omega
            have HNZ := Lib.hid hnb
            obtain ⟨t2, ht2⟩ : ∃ t2, s.extract p (p + (i + 1)) = t2 := ⟨_, rfl⟩
            have ht2' : s.extract p (p + i + 1) = t2 := by rw [← ht2, Nat.add_assoc]
            rw [ht2] at HCM
            clear ht2 hnb
            generalize encB y = tt at *
            by_cases hlast : s[p + i].toNat = 0 ∧ 0 < i
            · have HR := Lib.hid (show decI s p = none by rw [HD2.out, if_pos (.inl hlast)])
              have hne : tt ≠ t2 := fun e => (HCM.out.1 e) hlast
              have hneq : (tt.toList == t2.toList) = false := by
                apply Bool.eq_false_iff.2; intro e; exact hne (str_ext (by simpa using e))
              clear hlast HD2 HCM hne
              rcases hpar with ⟨h1, h2⟩ | ⟨h1, h2⟩
              all_goals
                rw [h2] at PI
                clear h2
                go_wp2_with (go_at_call 82; refine PI.out.mono ?_; rintro e w2 ⟨rfl, hB2⟩; have HB2 := Lib.hid (HB.out.trans (hB2.mono HB.out.size)); clear hB2)
                refine bodyPost_ret (results_tmp3 rfl _ _ _) rfl ?_
                exact ⟨by rw [HR.out]; rfl, HB2.out⟩
            · have HR := Lib.hid (show decI s p = some (numZ y, p + i + 1) by rw [HD2.out, if_neg (by rintro (h | h); exact hlast h; exact HNZ.out h)])
              have heq : tt = t2 := HCM.out.2 hlast
              subst heq
              clear hlast HD2 HCM
              rcases hpar with ⟨h1, h2⟩ | ⟨h1, h2⟩
              all_goals
                rw [h2] at PI HR
                clear h2
                go_wp2_with (go_at_call 82; refine PI.out.mono ?_; rintro e w2 ⟨rfl, hB2⟩; have HB2 := Lib.hid (HB.out.trans (hB2.mono HB.out.size)); clear hB2)
                refine bodyPost_ret (results_tmp3 rfl _ _ _) rfl ?_
                exact ⟨by rw [HR.out]; simp [outI], HB2.out⟩
      · have r1 : (i : Int) < 9 := by omega
        have r2 : ¬ (p : Int) + (i : Int) < (s.size : Int) := by omega
        have HD3 : Hid (decI s p = none) := Lib.hid (by rw [HD.out, show 9 - i = (8 - i) + 1 by omega, decGo, dif_neg hpi])
        go_wp2
        refine bodyPost_ret (results_tmp3 rfl _ _ _) rfl ?_
        exact ⟨by rw [HD3.out]; rfl, HB.out⟩
    · obtain rfl : i = 9 := by omega
      have HD3 : Hid (decI s p = none) := Lib.hid (by rw [HD.out]; rfl)
      go_wp2
      refine bodyPost_ret (results_tmp3 rfl _ _ _) rfl ?_
      exact ⟨by rw [HD3.out]; rfl, HB.out⟩
end Go.Proofs.YthlmgookaljgnaaGreatDoor
