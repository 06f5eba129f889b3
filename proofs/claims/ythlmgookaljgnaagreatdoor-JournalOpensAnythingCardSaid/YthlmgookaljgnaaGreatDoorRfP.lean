/- Which encodings of integers are the shortest ones: plain. -/
import Derived.Test.YthlmgookaljgnaaGreatDoorMg
namespace Go.Proofs.YthlmgookaljgnaaGreatDoor
open Go.RowKit
set_option linter.unusedVariables false

/-- the bytes of a string as numbers -/
def natsAt (s : ByteArray) (p i : Nat) : List Nat := ((s.data.toList.drop p).take i).map UInt8.toNat
/-- the first i bytes behind p, all with the mark that more come, and the number they hold -/
structure Enc (s : ByteArray) (p i z : Nat) : Prop where
  lt : z < 128 ^ i
  le : i ≤ 9
  step : ∀ c, 1 ≤ c → c < 128 ^ (9 - i) → encZ (z + c * 128 ^ i) = natsAt s p i ++ encZ c
theorem Enc.zero (s : ByteArray) (p : Nat) : Enc s p 0 0 := ⟨by decide, by decide, fun c h1 h2 => by simp [natsAt]⟩
theorem natsAt_succ (s : ByteArray) (p i : Nat) (h : p + i < s.size) : natsAt s p (i + 1) = natsAt s p i ++ [s[p + i].toNat] := by
  unfold natsAt
  have hl : i < (s.data.toList.drop p).length := by rw [size_drop]; omega
  rw [List.take_succ_eq_append_getElem hl, List.map_append]
  congr 1
  rw [List.getElem_drop]; rfl
theorem Enc.succ {s : ByteArray} {p i z : Nat} (h : Enc s p i z) (hi : i < 9) (hp : p + i < s.size) (hb : 128 ≤ s[p + i].toNat) : Enc s p (i + 1) (z + s[p + i].toNat % 128 * 128 ^ i) := by
  have hx := s[p + i].toNat_lt
  generalize hbb : s[p + i].toNat = b at *
  have hpw : 128 ^ (i + 1) = 128 * 128 ^ i := by rw [Nat.pow_succ, Nat.mul_comm]
  have hpos : 0 < 128 ^ i := Nat.pow_pos (by decide)
  refine ⟨?_, by omega, fun c h1 h2 => ?_⟩
  · have : b % 128 * 128 ^ i ≤ 127 * 128 ^ i := Nat.mul_le_mul_right _ (by omega)
    have := h.lt
    rw [hpw]; omega
  · have e : z + b % 128 * 128 ^ i + c * 128 ^ (i + 1) = z + (b % 128 + c * 128) * 128 ^ i := by
      rw [hpw, Nat.add_assoc, Nat.add_mul, Nat.mul_assoc]
    have h9 : 128 ^ (9 - i) = 128 * 128 ^ (9 - (i + 1)) := by
      rw [show 9 - i = 9 - (i + 1) + 1 by omega, Nat.pow_succ, Nat.mul_comm]
    have hc' : b % 128 + c * 128 < 128 ^ (9 - i) := by rw [h9]; omega
    have hc9 : b % 128 + c * 128 < 128 ^ 9 := Nat.lt_of_lt_of_le hc' (Nat.pow_le_pow_right (by decide) (by omega))
    rw [e, h.step _ (by omega) hc', encZ_ge _ (by omega) hc9, natsAt_succ s p i hp, hbb, List.append_assoc]
    congr 1
    rw [show (b % 128 + c * 128) % 128 + 128 = b by omega, show (b % 128 + c * 128) / 128 = c by omega]
    rfl
theorem encZ_len_lt : ∀ (i z : Nat), i ≤ 8 → z < 128 ^ (i + 1) → (encZ z).length ≤ i + 1
  | 0, z, _, h => by rw [encZ_lt z (by simpa using h)]; simp
  | i + 1, z, hi, h => by
    by_cases hz : z < 128
    · rw [encZ_lt z hz]; simp
    · rw [encZ_ge z hz (Nat.lt_of_lt_of_le h (Nat.pow_le_pow_right (by decide) (by omega))), List.length_cons]
      have := encZ_len_lt i (z / 128) (by omega) (by rw [Nat.pow_succ] at h; omega)
      omega
/-- a last byte: the encoding is the shortest one unless it is a 0 behind others -/
theorem Enc.last {s : ByteArray} {p i z : Nat} (h : Enc s p i z) (hi : i < 9) (hp : p + i < s.size) (hb : s[p + i].toNat < 128) :
    (encZ (z + s[p + i].toNat % 128 * 128 ^ i) = natsAt s p (i + 1)) ↔ ¬ (s[p + i].toNat = 0 ∧ 0 < i) := by
  rw [natsAt_succ s p i hp]
  generalize s[p + i].toNat = b at *
  rw [Nat.mod_eq_of_lt hb]
  by_cases h0 : b = 0
  · subst h0
    rw [Nat.zero_mul, Nat.add_zero]
    by_cases hi0 : 0 < i
    · refine ⟨fun e => ?_, fun e => absurd ⟨rfl, hi0⟩ e⟩
      obtain ⟨j, rfl⟩ : ∃ j, i = j + 1 := ⟨i - 1, by omega⟩
      have h1 := encZ_len_lt j z (by omega) h.lt
      rw [e, List.length_append, List.length_singleton] at h1
      have h2 : (natsAt s p (j + 1)).length = j + 1 := by
        unfold natsAt; rw [List.length_map, List.length_take, size_drop]; omega
      omega
    · obtain rfl : i = 0 := by omega
      have hz : z = 0 := by have := h.lt; simpa using this
      subst hz
      exact ⟨fun _ h => hi0 h.2, fun _ => by rw [encZ_lt 0 (by decide)]; simp [natsAt]⟩
  · refine ⟨fun _ h => h0 h.1, fun _ => ?_⟩
    have hc : b < 128 ^ (9 - i) := Nat.lt_of_lt_of_le hb (by
      calc 128 = 128 ^ 1 := by decide
        _ ≤ 128 ^ (9 - i) := Nat.pow_le_pow_right (by decide) (by omega))
    rw [h.step b (by omega) hc, encZ_lt b hb]
/-- .. as strings -/
def encB (z : Nat) : ByteArray := ⟨((encZ z).map UInt8.ofNat).toArray⟩
theorem encB_eq {s : ByteArray} {p m z : Nat} (hm : p + m ≤ s.size) : encB z = s.extract p (p + m) ↔ encZ z = natsAt s p m := by
  constructor
  · intro e
    have h1 := congrArg (fun b : ByteArray => b.data.toList.map UInt8.toNat) e
    have h2 : ((encZ z).map UInt8.ofNat).map UInt8.toNat = natsAt s p m := by
      have e2 : (s.extract p (p + m)).data.toList = (s.data.toList.drop p).take m := by rw [extract_list, Nat.add_sub_cancel_left]
      unfold natsAt
      rw [← e2]; exact h1
    rw [← h2, List.map_map]
    symm
    conv => rhs; rw [← List.map_id (encZ z)]
    exact List.map_congr_left (fun x hx => u8_ofNat_toNat x (encZ_bytes z x hx))
  · intro e
    apply ba_ext
    rw [extract_list, Nat.add_sub_cancel_left]
    show (encZ z).map UInt8.ofNat = _
    rw [e]
    unfold natsAt
    rw [List.map_map]
    conv => rhs; rw [← List.map_id ((s.data.toList.drop p).take m)]
    exact List.map_congr_left (fun x _ => by simp)
end Go.Proofs.YthlmgookaljgnaaGreatDoor
