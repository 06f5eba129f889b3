/- The walks of DiskNewMatches and DiskNil. -/
import Derived.Test.YtljgphmdiflphaaDiskS
namespace Go.Proofs.Ytljgphmdiflphaa
open Go.RowKit
set_option linter.unusedVariables false

theorem newZero (n i : Nat) (h : i < n) : (⟨(((newD n).vi.drop i).take 1).toArray⟩ : ByteArray) = ⟨#[0]⟩ := by
  have : ((newD n).vi.drop i).take 1 = [0] := by
    show ((List.replicate n (0 : UInt8)).drop i).take 1 = [0]
    rw [List.drop_replicate, List.take_replicate, show min 1 (n - i) = 1 by omega]; rfl
  rw [this]

set_option maxRecDepth 100000 in
set_option maxHeartbeats 1600000 in
theorem newMatches_walk (size at_ : Int) (w : World) (hs0 : -9223372036854775808 ≤ size) (hs1 : size ≤ 9223372036854775807) (ha0 : -9223372036854775808 ≤ at_) (ha1 : at_ ≤ 9223372036854775807) :
    Calls Try.prog 3 #[.int .i64 size, .int .i64 at_] w fun e w' => e = .returned (.bool true) ∧ Below w.heap.size w w' := by
  by_cases h : 1 ≤ size ∧ size ≤ 4194304
  · obtain ⟨n, rfl⟩ : ∃ n : Nat, size = n := Int.eq_ofNat_of_zero_le (by omega)
    have h1 : 1 ≤ n := by omega
    have h2 : (n : Int) ≤ 4194304 := h.2
    have q0 : ¬ (n : Int) < 1 := by omega
    have q1 : ¬ (4194304 : Int) < n := by omega
    have hp0 := pickZ_lo at_ n (by omega)
    have hp1 := pickZ_hi at_ n (by omega)
    obtain ⟨p, hp⟩ : ∃ p : Nat, pickZ at_ n = p := Int.eq_ofNat_of_zero_le hp0
    have hpn : p < n := by omega
    have HP := Lib.hid hp
    clear hp0 hp1 hp h
    go_enter Try.func3, Try.ntmps3
    go_wp2_with fail
    refine (sane_any w).mono ?_
    rintro e w1 ⟨rfl, b1⟩
    have B1 := Lib.hid b1
    clear b1
    go_wp2_with fail
    refine (newB w1 n h1 h2).mono ?_
    rintro e w2 ⟨bd, rfl, g2, b2⟩
    have G2 := Lib.hid g2
    have B2 := Lib.hid b2
    clear g2 b2
    go_wp2_with fail
    refine (pick_any at_ n w2 (by omega) (by omega) ha0 ha1).mono ?_
    rintro e w' ⟨rfl, rfl⟩
    rw [HP.out]
    go_wp2_with fail
    refine (DiskB.read G2.out rfl p 1 (by omega)).mono ?_
    rintro e w' ⟨rfl, rfl⟩
    rw [newZero n p hpn]
    go_wp2_with fail
    refine (DiskB.size G2.out).mono ?_
    rintro e w' ⟨rfl, rfl⟩
    go_wp2_with fail
    refine (DiskB.pending G2.out).mono ?_
    rintro e w' ⟨rfl, rfl⟩
    rw [show (((newD n).pe.length : Nat) : Int) = 0 from rfl]
    go_wp2_with fail
    go_ret
    exact ⟨rfl, B1.out.trans (B2.out.mono B1.out.size)⟩
  · have H := Lib.hid h
    have q : size < 1 ∨ 4194304 < size := by omega
    have hn0 : (size < 1 → True) := fun _ => trivial
    clear h hn0
    rcases q with q | q
    · have q' : decide (size < 1) = true := by simpa using q
      go_enter Try.func3, Try.ntmps3
      go_wp2_with fail
      refine (sane_any w).mono ?_
      rintro e w1 ⟨rfl, b1⟩
      have B1 := Lib.hid b1
      clear b1
      go_wp2_with fail
      refine (New_bad w1 size H.out).mono ?_
      rintro e w' ⟨rfl, rfl⟩
      go_wp2_with fail
      go_ret
      exact ⟨rfl, B1.out⟩
    · have q' : decide (size < 1) = false := by simp; omega
      have q2 : decide ((4194304 : Int) < size) = true := by simpa using q
      go_enter Try.func3, Try.ntmps3
      go_wp2_with fail
      refine (sane_any w).mono ?_
      rintro e w1 ⟨rfl, b1⟩
      have B1 := Lib.hid b1
      clear b1
      go_wp2_with fail
      refine (New_bad w1 size H.out).mono ?_
      rintro e w' ⟨rfl, rfl⟩
      go_wp2_with fail
      go_ret
      exact ⟨rfl, B1.out⟩

set_option maxRecDepth 100000 in
set_option maxHeartbeats 1600000 in
theorem nil_walk (off n : Int) (s : ByteArray) (ka : Option Addr) (kl kc : Nat) (w : World) (ho0 : -9223372036854775808 ≤ off) (ho1 : off ≤ 9223372036854775807) (hn0 : -9223372036854775808 ≤ n) (hn1 : n ≤ 9223372036854775807)
    (hs : s.size ≤ 9223372036854775807) (hk : kl ≤ kc) (hkc : kc ≤ 9223372036854775807) :
    Calls Try.prog 5 #[.int .i64 off, .int .i64 n, .string s, .slice ka kl kc] w fun e w' => e = .returned (.bool true) ∧ Below w.heap.size w w' := by
  go_enter Try.func5, Try.ntmps5
  go_wp2_with fail
  refine (sane_any w).mono ?_
  rintro e w1 ⟨rfl, b1⟩
  have B1 := Lib.hid b1
  clear b1
  go_wp2_with fail
  refine (Read_nil w1 off n).mono ?_
  rintro e w' ⟨rfl, rfl⟩
  go_wp2_with fail
  refine (cut_any s 100 w1 hs (by decide)).mono ?_
  rintro e w' ⟨rfl, rfl⟩
  go_wp2_with fail
  refine (Write_nil w1 off _).mono ?_
  rintro e w' ⟨rfl, rfl⟩
  go_wp2_with fail
  refine (Sync_nil w1).mono ?_
  rintro e w' ⟨rfl, rfl⟩
  go_wp2_with fail
  refine (Cut_nil w1 n).mono ?_
  rintro e w' ⟨rfl, rfl⟩
  go_wp2_with fail
  refine (Crash_nil w1 _ n).mono ?_
  rintro e w2 ⟨rfl, u2⟩
  have U2 := Lib.hid u2
  clear u2
  go_wp2_with fail
  refine (Pending_nil w2).mono ?_
  rintro e w' ⟨rfl, rfl⟩
  go_wp2_with fail
  refine (Size_nil w2).mono ?_
  rintro e w' ⟨rfl, rfl⟩
  go_wp2_with fail
  go_ret
  exact ⟨rfl, B1.out.trans ((U2.out.below fun _ _ f => f).mono B1.out.size)⟩
end Go.Proofs.Ytljgphmdiflphaa
