/- The reference's encoding of lengths and strings. -/
import Derived.Test.YthlmgookaljgnaaGreatDoorMb
import Derived.Test.YthlmgookaljgnaaGreatDoorMd
namespace Go.Proofs.YthlmgookaljgnaaGreatDoor
open Go.RowKit Go.Shelf
set_option linter.unusedVariables false

theorem zigzag_any (k : Nat) (hk : k ≤ 1000000000) (w : World) : Calls Tryz.prog 102 #[.int .i64 (k : Int)] w fun e w' => e = .returned (.int .u64 ((2 * k : Nat) : Int)) ∧ w = w' := by
  have q1 : ¬ (k : Int) < 0 := by omega
  have HE : Hid ((k : Int) * 2 = ((2 * k : Nat) : Int)) := Lib.hid (by omega)
  go_enter Tryz.func102, Tryz.ntmps102
  go_wp2
  go_ret
  rw [HE.out]
  exact ⟨rfl, rfl⟩

set_option maxRecDepth 100000 in
set_option maxHeartbeats 2000000 in
theorem PutIntR_any (k : Nat) (hk : k ≤ 100000000) (w : World) :
    Calls Tryz.prog 82 #[.int .i64 (k : Int)] w fun e w' => e = .returned (.tuple #[.string (intS k), .int .i64 0]) ∧ Below w.heap.size w w' := by
  obtain ⟨i0, hi, hz0, hz1, hz2⟩ := info_parts Tryz.infoByte'
  have ZZ := Lib.hid (zigzag_any k (by omega) w)
  obtain ⟨Z, hZ⟩ : ∃ Z, 2 * k = Z := ⟨_, rfl⟩
  have HZ := Lib.hid hZ
  rw [hZ] at ZZ
  have hZb : Z ≤ 200000000 := by omega
  clear hZ
  have q1 : ¬ (k : Int) < -4611686018427387903 := by omega
  have q2 : ¬ (k : Int) > 4611686018427387903 := by omega
  go_enter Tryz.func82, Tryz.ntmps82
  go_wp2_with (go_at_call 102; refine ZZ.out.mono ?_; rintro e w' ⟨rfl, rfl⟩)
  clear ZZ
  go_loopw [4, 5] (fun zv ov wr => ∃ (z : Nat) (pre : List Nat), zv = .int .u64 (z : Int) ∧ z ≤ Z ∧ encZ Z = pre ++ encZ z ∧ pre.length ≤ 10 ∧ Sha.bytes pre ∧ OB w pre pre.length ov wr) (fun zv _ _ => (intOf zv).toNat)
  case atStart => exact ⟨Z, [], rfl, Nat.le_refl _, rfl, by simp, fun x hx => (by cases hx), World.ownsRow_nil _ _ _ _, Below.refl _ _⟩
  case round =>
    obtain ⟨z, pre, rfl, hz, he, hl, hb, hO⟩ := hrel
    have HO := Lib.hid hO
    have HE := Lib.hid he
    have HB := Lib.hid hb
    clear hO he hb
    by_cases h1 : z < 128
    · have hlt : ¬ (z : Int) ≥ 128 := by omega
      have hcv : IntKind.u8.wrap (z : Int) = (z : Int) := by rw [IntKind.wrap_u8]; omega
      go_wp2_with (first
        | (at_builtin
           refine wpList_append_own _ rfl (.tmp 25) (.tmp 28) 39 rfl w.heap.size 5 i0 _ 1 1 Tryz.underlying39 hi hz0 hz1 hz2 rfl (by decide) u5 pre.length _ rfl (HO.out.row.alloc _) ⟨wr.heap.size, 0, none⟩ 1 1 [.int .u8 ((z : Nat) : Int)] rfl rfl (news_one (by first | rfl | simp | (simp; omega))) (by simp [Value.oneCell']) (by simp only [maxLen]; omega) (by omega) (by have := HO.out.below.size; simp; omega) ?_
           intro v2 W2 hown hgr _
           have O2 := Lib.hid hown
           have G2 := Lib.hid hgr
           clear hown hgr
           have P : OB w (pre ++ [z]) (pre.length + 1) v2 W2 := HO.out.push _ [z] O2.out rfl G2.out
           have hcv := P.conv (by simp) (by omega) (fun y hy => by
             rcases List.mem_append.1 hy with h | h
             · exact HB.out y h
             · simp at h; omega)
           have e : (⟨((pre ++ [z]).map UInt8.ofNat).toArray⟩ : ByteArray) = intS k := by rw [intS, HZ.out, HE.out, encZ_lt z h1]
           rw [e] at hcv
           have PB := Lib.hid P.below
           clear P e O2 G2)
        | fail)
      go_ret2
      exact ⟨rfl, PB.out⟩
    · have hge : (z : Int) ≥ 128 := by omega
      go_wp2_with (at_builtin; refine wpList_append_own _ rfl (.tmp 16) (.tmp 21) 39 rfl w.heap.size 5 i0 _ 1 1 Tryz.underlying39 hi hz0 hz1 hz2 rfl (by decide) u5 pre.length _ rfl (HO.out.row.alloc _) ⟨wr.heap.size, 0, none⟩ 1 1 [.int .u8 ((z % 128 + 128 : Nat) : Int)] rfl rfl (news_one (by first | rfl | simp | (simp; omega))) (by simp [Value.oneCell']) (by simp only [maxLen]; omega) (by omega) (by have := HO.out.below.size; simp; omega) ?_; intro v2 W2 hown hgr _; have O2 := Lib.hid hown; have G2 := Lib.hid hgr; clear hown hgr)
      have P : OB w (pre ++ [z % 128 + 128]) (pre.length + 1) v2 W2 := HO.out.push _ [z % 128 + 128] O2.out rfl G2.out
      have hz9 : z < 128 ^ 9 := Nat.lt_of_le_of_lt (show z ≤ 200000000 by omega) (by decide)
      have HE2 : encZ Z = (pre ++ [z % 128 + 128]) ++ encZ (z / 128) := by rw [HE.out, encZ_ge z h1 hz9]; simp
      have h5 : pre.length + 1 ≤ 10 := by
        have h6 := congrArg List.length HE2
        have h7 := encZ_len Z
        have h8 : 1 ≤ (encZ (z / 128)).length := by
          by_cases h : z / 128 < 128
          · rw [encZ_lt _ h]; simp
          · rw [encZ_ge _ h (by omega)]; simp
        simp only [List.length_append, List.length_singleton] at h6
        omega
      refine ⟨⟨z / 128, pre ++ [z % 128 + 128], by go_num, by omega, HE2, by simpa using h5, fun y hy => ?_, by simpa using P⟩, by simp [intOf]; omega⟩
      rcases List.mem_append.1 hy with h | h
      · exact HB.out y h
      · simp at h; omega

set_option maxHeartbeats 1000000 in
theorem PutStringR_any (s : ByteArray) (hs : s.size ≤ 65536) (w : World) :
    Calls Tryz.prog 59 #[.string s] w fun e w' => e = .returned (.tuple #[.string (putS s), .int .i64 0]) ∧ Below w.heap.size w w' := by
  have PI := Lib.hid (PutIntR_any s.size (by omega) w)
  have hb := intS_size s.size
  go_enter Tryz.func59, Tryz.ntmps59
  go_wp2_with (go_at_call 82; refine PI.out.mono ?_; rintro e w' ⟨rfl, hB⟩; have HB := Lib.hid hB; clear hB)
  go_ret2
  exact ⟨rfl, HB.out⟩
end Go.Proofs.YthlmgookaljgnaaGreatDoor
