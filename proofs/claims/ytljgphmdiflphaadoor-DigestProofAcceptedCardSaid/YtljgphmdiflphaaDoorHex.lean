/- The small functions of the laws. -/
import Derived.Test.YtljgphmdiflphaaDoorVextB
namespace Go.Proofs.YtljgphmdiflphaaDoor
open Go.RowKit
set_option linter.unusedVariables false

def hexC : ByteArray := ⟨#[48, 49, 50, 51, 52, 53, 54, 55, 56, 57, 97, 98, 99, 100, 101, 102]⟩
def hexS (o : ByteArray) (c : UInt8) : ByteArray := o ++ hexC.extract (c.toNat / 16) (c.toNat / 16 + 1) ++ hexC.extract (c.toNat % 16) (c.toNat % 16 + 1)
def hexB (l : List UInt8) : ByteArray := l.foldl hexS ⟨#[]⟩
theorem hexB_snoc (l : List UInt8) (c : UInt8) : hexB (l ++ [c]) = hexS (hexB l) c := by simp [hexB]
theorem hexS_size (o : ByteArray) (c : UInt8) : (hexS o c).size ≤ o.size + 2 := by
  have h : hexC.size = 16 := rfl
  unfold hexS
  simp only [ByteArray.size_append, ByteArray.size_extract]
  omega
theorem hexB_size : ∀ l : List UInt8, (hexB l).size ≤ 2 * l.length := by
  intro l
  rcases snoc_cases l with rfl | ⟨p, x, rfl⟩
  · exact Nat.le_refl _
  · have h1 := hexB_size p
    have h2 := hexS_size (hexB p) x
    rw [hexB_snoc]; simp; omega
termination_by l => l.length
decreasing_by simp_all
theorem below_drewN {b : Nat} {w w' : World} (h : Below b w w') (n : Nat) : Below b w (w'.drewN n) := ⟨h.os, h.tape, h.output, h.size, h.block⟩
theorem take_snocB (s : ByteArray) (k : Nat) (h : k < s.size) : s.data.toList.take (k + 1) = s.data.toList.take k ++ [s[k]] := by
  rw [List.take_succ_eq_append_getElem (by simpa using h)]; rfl

set_option maxHeartbeats 1000000 in
theorem hex_any (s : ByteArray) (hs : s.size ≤ 1000000) (w : World) :
    Calls Tryd.prog 52 #[.string s] w fun e w' => e = .returned (.string (hexB s.data.toList)) ∧ Below w.heap.size w w' := by
  go_enter Tryd.func52, Tryd.ntmps52
  go_wp2
  go_loopw [3, 4] (fun ov iv wr => ∃ (k : Nat), iv = .int .i64 k ∧ k ≤ s.size ∧ ov = .string (hexB (s.data.toList.take k)) ∧ Below w.heap.size w wr) (fun _ iv _ => s.size - (intOf iv).toNat)
  case atStart => exact ⟨0, rfl, Nat.zero_le _, rfl, Below.refl _ _⟩
  case round =>
    obtain ⟨k, rfl, hk, rfl, hb⟩ := hrel
    have HB := Lib.hid hb
    clear hb
    by_cases h1 : k < s.size
    · have hsz := hexB_size (s.data.toList.take k)
      have hln : (s.data.toList.take k).length ≤ k := List.length_take_le _ _
      have HS := Lib.hid ((congrArg hexB (take_snocB s k h1)).trans (hexB_snoc _ _))
      generalize hexB (s.data.toList.take k) = o at *
      have hsz' : o.size ≤ 2000000 := by omega
      clear hsz hln
      have hlt : (k : Int) < (s.size : Int) := by omega
      obtain ⟨p, hp⟩ : ∃ p, s[k].toNat / 16 = p := ⟨_, rfl⟩
      obtain ⟨q, hq⟩ : ∃ q, s[k].toNat % 16 = q := ⟨_, rfl⟩
      have hy : s[k].toNat < 256 := s[k].toNat_lt
      have p1 : (s[k].toNat : Int) / 16 % 256 = (p : Int) := by omega
      have p2 : ((p : Int) + 1) % 256 = (p : Int) + 1 := by omega
      have p3 : (p : Int) ≤ 15 := by omega
      have q1 : (s[k].toNat : Int) % 16 % 256 = (q : Int) := by omega
      have q2 : ((q : Int) + 1) % 256 = (q : Int) + 1 := by omega
      have q3 : (q : Int) ≤ 15 := by omega
      have q4 : (s[k].toNat : Int) % 16 = (q : Int) := by omega
      have HSS : Hid (hexS o s[k] = o ++ hexC.extract p (p + 1) ++ hexC.extract q (q + 1)) := Lib.hid (by unfold hexS; rw [hp, hq])
      go_wp2
      go_quiet (fail)
      go_wp2
      go_roundw
      case rel => 
        first | refine ⟨k + 1, by go_num, by omega, ?_, below_drewN HB.out _⟩ | ((repeat apply Exists.intro); refine ⟨⟨k + 1, by go_num, by omega, ?_, below_drewN HB.out _⟩, rfl⟩)
        rw [HS.out, HSS.out]; rfl
      case measure => simp [intOf]; omega
    · have hge : s.data.toList.take k = s.data.toList := List.take_of_length_le (by simp; show s.size ≤ k; omega)
      have HGE := Lib.hid hge
      clear hge
      go_wp2
      go_ret
      exact ⟨by rw [HGE.out]; rfl, HB.out⟩

def binN (n : Nat) : Nat := if n = 0 then 0 else binN (n / 2) + 1
theorem binN_pos (n : Nat) (h : 0 < n) : binN n = binN (n / 2) + 1 := by rw [binN, if_neg (by omega)]
theorem binN_le (n : Nat) : binN n ≤ n := by
  induction n using Nat.strongRecOn with
  | ind n ih =>
    rw [binN]; split
    · omega
    · have := ih (n / 2) (by omega); omega

set_option maxHeartbeats 1000000 in
theorem binary_any (n : Nat) (h63 : n ≤ 1000000) (w : World) :
    Calls Tryd.prog 22 #[.int .i64 (n : Int)] w fun e w' => e = .returned (.int .i64 (binN n : Nat)) ∧ w = w' := by
  go_enter Tryd.func22, Tryd.ntmps22
  go_wp2
  go_loop [0, 3] (fun nv kv => ∃ (m k : Nat), nv = .int .i64 m ∧ kv = .int .i64 k ∧ m ≤ n ∧ k + binN m = binN n) (fun nv _ => (intOf nv).toNat)
  case atStart => exact ⟨n, 0, rfl, rfl, Nat.le_refl _, by omega⟩
  case round =>
    obtain ⟨m, k, rfl, rfl, hm, hk⟩ := hrel
    have hbl := binN_le n
    have hkn : k ≤ n := by omega
    have HK := Lib.hid hk
    clear hk hbl
    by_cases h0 : 0 < m
    · have hs := Lib.hid (binN_pos m h0)
      obtain ⟨m2, hm2⟩ : ∃ m2, m / 2 = m2 := ⟨_, rfl⟩
      rw [hm2] at hs
      have ht : (m : Int) / 2 = (m2 : Int) := by omega
      go_wp2
      go_round
      case rel => exact ⟨m2, k + 1, by first | rfl | (rw [ht]; done) | go_num, by go_num, by omega, by have := hs.out; have := HK.out; omega⟩
      case measure => simp [intOf]; omega
    · have h1 : m = 0 := by omega
      subst h1
      have h2 : Hid (k = binN n) := Lib.hid (by rw [← HK.out, binN]; simp)
      go_wp2
      go_ret
      exact ⟨ret_int (by rw [h2.out]), rfl⟩
end Go.Proofs.YtljgphmdiflphaaDoor
