/- The reference's decoding of strings; a decoded string is the encoding that was read. -/
import Derived.Test.YthlmgookaljgnaaGreatDoorRfS
namespace Go.Proofs.YthlmgookaljgnaaGreatDoor
open Go.RowKit Go.Shelf
set_option linter.unusedVariables false
set_option linter.unusedSimpArgs false

set_option maxHeartbeats 1000000 in
theorem RString_any (s : ByteArray) (p : Nat) (hp : p ≤ s.size) (hs : s.size ≤ 100000000) (w : World) :
    Calls Tryz.prog 61 #[.string s, .int .i64 (p : Int)] w fun e w' => e = .returned (outS (decS s p)) ∧ Below w.heap.size w w' := by
  have PI := Lib.hid (RInt_any s p hp hs w)
  rcases hI : decI s p with _ | ⟨n, q⟩
  · have HD : Hid (decS s p = none) := Lib.hid (by rw [decS, hI])
    rw [hI] at PI
    clear hI
    go_enter Tryz.func61, Tryz.ntmps61
    go_wp2_with (go_at_call 83; refine PI.out.mono ?_; unfold outI; rintro e w' ⟨rfl, hB⟩; have HB := Lib.hid hB; clear hB)
    refine bodyPost_ret (results_tmp3 rfl _ _ _) rfl ?_
    exact ⟨by rw [HD.out]; rfl, HB.out⟩
  · obtain ⟨b1, b2, b3, b4⟩ := decGo_bounds s p 9 0 0 _ (by omega) (by decide) hI
    dsimp only at b1 b2 b3 b4
    rw [hI] at PI
    by_cases hbad : n < 0 ∨ 65536 < n ∨ (s.size : Int) - (q : Int) < n
    · have HD : Hid (decS s p = none) := Lib.hid (by rw [decS, hI]; exact if_pos hbad)
      clear hI
      have h1 : ((q : Int)) ≤ (s.size : Int) := by omega
      rcases Classical.em (n < 0) with g1 | g1
      · go_enter Tryz.func61, Tryz.ntmps61
        go_wp2_with (go_at_call 83; refine PI.out.mono ?_; unfold outI; rintro e w' ⟨rfl, hB⟩; have HB := Lib.hid hB; clear hB)
        refine bodyPost_ret (results_tmp3 rfl _ _ _) rfl ?_
        exact ⟨by rw [HD.out]; rfl, HB.out⟩
      · rcases Classical.em (65536 < n) with g2 | g2
        · go_enter Tryz.func61, Tryz.ntmps61
          go_wp2_with (go_at_call 83; refine PI.out.mono ?_; unfold outI; rintro e w' ⟨rfl, hB⟩; have HB := Lib.hid hB; clear hB)
          refine bodyPost_ret (results_tmp3 rfl _ _ _) rfl ?_
          exact ⟨by rw [HD.out]; rfl, HB.out⟩
        · have g3 : (s.size : Int) - (q : Int) < n := (hbad.resolve_left g1).resolve_left g2
          go_enter Tryz.func61, Tryz.ntmps61
          go_wp2_with (go_at_call 83; refine PI.out.mono ?_; unfold outI; rintro e w' ⟨rfl, hB⟩; have HB := Lib.hid hB; clear hB)
          refine bodyPost_ret (results_tmp3 rfl _ _ _) rfl ?_
          exact ⟨by rw [HD.out]; rfl, HB.out⟩
    · have HD : Hid (decS s p = some (s.extract q (q + n.toNat), q + n.toNat)) := Lib.hid (by rw [decS, hI]; exact if_neg hbad)
      clear hI
      obtain ⟨m, hm⟩ := Int.eq_ofNat_of_zero_le (show 0 ≤ n by omega)
      subst hm
      have c1 : (m : Int) ≤ 65536 := by omega
      have c2 : (m : Int) ≤ (s.size : Int) - (q : Int) := by omega
      have c3 : (q : Int) + (m : Int) ≤ (s.size : Int) := by omega
      clear hbad b1 b2
      go_enter Tryz.func61, Tryz.ntmps61
      go_wp2_with (go_at_call 83; refine PI.out.mono ?_; unfold outI; rintro e w' ⟨rfl, hB⟩; have HB := Lib.hid hB; clear hB)
      refine bodyPost_ret (results_tmp3 rfl _ _ _) rfl ?_
      exact ⟨by rw [HD.out]; simp [outS], HB.out⟩

theorem decGo_canon (s : ByteArray) (p : Nat) : ∀ (f i z : Nat) (v : Int × Nat), i + f = 9 → Enc s p i z → decGo s p f i z = some v → ∃ y, v.1 = numZ y ∧ y < 128 ^ 9 ∧ p ≤ v.2 ∧ v.2 ≤ s.size ∧ encB y = s.extract p v.2
  | 0, _, _, _, _, _, h => by cases h
  | f + 1, i, z, v, hi, hE, h => by
    rw [decGo] at h
    split at h
    · rename_i hp
      split at h
      · rename_i hge
        exact decGo_canon s p f (i + 1) _ v (by omega) (hE.succ (by omega) hp hge) h
      · rename_i hlt
        split at h
        · cases h
        · rename_i hn
          cases h
          have hc := (hE.last (by omega) hp (by omega)).2 (fun h => hn (.inl h))
          have hlt2 : z + s[p + i].toNat % 128 * 128 ^ i < 128 ^ 9 := by
            have h1 : s[p + i].toNat % 128 * 128 ^ i ≤ 127 * 128 ^ i := Nat.mul_le_mul_right _ (by omega)
            have h2 := hE.lt
            have h3 : 128 ^ (i + 1) ≤ 128 ^ 9 := Nat.pow_le_pow_right (by decide) (by omega)
            rw [Nat.pow_succ] at h3
            omega
          refine ⟨_, rfl, hlt2, by omega, by omega, ?_⟩
          have := (encB_eq (s := s) (p := p) (m := i + 1) (z := z + s[p + i].toNat % 128 * 128 ^ i) (by omega)).2 hc
          rw [this]; rfl
    · cases h
theorem numZ_nat {y n : Nat} (h : numZ y = (n : Int)) : y = 2 * n := by
  unfold numZ at h
  split at h <;> omega
theorem decI_canon {s : ByteArray} {p n q : Nat} (h : decI s p = some ((n : Int), q)) : p ≤ q ∧ q ≤ s.size ∧ intS n = s.extract p q := by
  obtain ⟨y, h1, h2, h3, h4, h5⟩ := decGo_canon s p 9 0 0 _ rfl (Enc.zero s p) h
  have hy := numZ_nat h1.symm
  subst hy
  exact ⟨h3, h4, h5⟩
theorem decS_canon {s : ByteArray} {p q : Nat} {r : ByteArray} (h : decS s p = some (r, q)) : p ≤ q ∧ q ≤ s.size ∧ putS r = s.extract p q := by
  unfold decS at h
  split at h
  · rename_i n q' hI
    split at h
    · cases h
    · rename_i hn
      cases h
      obtain ⟨m, rfl⟩ := Int.eq_ofNat_of_zero_le (show 0 ≤ n by omega)
      obtain ⟨h1, h2, h3⟩ := decI_canon hI
      rw [Int.toNat_natCast]
      have hsz : (s.extract q' (q' + m)).size = m := by rw [ByteArray.size_extract]; omega
      refine ⟨by omega, by omega, ?_⟩
      rw [putS, hsz, h3]
      apply ba_ext
      rw [app_list, extract_list, extract_list, extract_list]
      have e : q' + m - p = (q' - p) + m := by omega
      rw [e, List.take_add, List.drop_drop, show p + (q' - p) = q' by omega, Nat.add_sub_cancel_left]
  · cases h
/-- the record that was read is as it is stored exactly if its head is -/
theorem recE_iff {s : ByteArray} {a q : Nat} {h r : ByteArray} (ha : a < s.size) (h1 : s[a] = 1) (hd : decS s (a + 1) = some (r, q)) (hq : q + 32 ≤ s.size) : recE h r = s.extract a (q + 32) ↔ s.extract q (q + 32) = chainB h r := by
  obtain ⟨c1, c2, c3⟩ := decS_canon hd
  have e : s.extract a (q + 32) = ⟨#[1]⟩ ++ putS r ++ s.extract q (q + 32) := by
    apply ba_ext
    rw [app_list, app_list, c3, extract_list, extract_list, extract_list]
    have hd0 : s.data.toList.drop a = 1 :: s.data.toList.drop (a + 1) := by
      rw [List.drop_eq_getElem_cons (by rw [ba_len]; exact ha)]
      congr 1
    rw [hd0, show q + 32 - a = ((q - (a + 1)) + 32) + 1 by omega, List.take_succ_cons, List.take_add, List.drop_drop, show a + 1 + (q - (a + 1)) = q by omega, Nat.add_sub_cancel_left]
    rfl
  rw [e, recE]
  constructor
  · intro h2
    have h3 := congrArg (fun b : ByteArray => b.data.toList) h2
    have h4 : ((⟨#[1]⟩ : ByteArray) ++ putS r).data.toList ++ (chainB h r).data.toList = ((⟨#[1]⟩ : ByteArray) ++ putS r).data.toList ++ (s.extract q (q + 32)).data.toList := by rw [← app_list, ← app_list]; exact h3
    exact (ba_ext (List.append_cancel_left h4)).symm
  · intro h2; rw [h2]
end Go.Proofs.YthlmgookaljgnaaGreatDoor
