/- The small functions of trees. -/
import Derived.Test.YtljgphmdiflphaaDoorMark
namespace Go.Proofs.YtljgphmdiflphaaDoor
open Go.RowKit
set_option linter.unusedVariables false

theorem bitLenAux_log2 : ∀ (f x : Nat), 0 < x → x < 2 ^ f → Lib.bitLenAux f x = Nat.log2 x + 1
  | 0, x, h1, h2 => by omega
  | f + 1, x, h1, h2 => by
    rw [Lib.bitLenAux, if_neg (by omega)]
    by_cases h : x < 2
    · have : x = 1 := by omega
      subst this
      rw [show 1 / 2 = 0 from rfl]
      cases f <;> simp [Lib.bitLenAux, Nat.log2_def]
    · rw [bitLenAux_log2 f (x / 2) (by omega) (by rw [Nat.pow_succ] at h2; omega)]
      rw [Nat.log2_def x, if_pos (by omega)]
      omega
theorem bitLen_log2 (x : Nat) (h1 : 0 < x) (h2 : x < 2 ^ 64) : Lib.bitLen x = Nat.log2 x + 1 := bitLenAux_log2 64 x h1 h2

set_option maxHeartbeats 1000000 in
theorem left_any (n : Nat) (h2 : 2 ≤ n) (h63 : n ≤ 9223372036854775807) (w : World) :
    Calls Tryd.prog 53 #[.int .i64 (n : Int)] w fun e w' => e = .returned (.int .i64 (Dig.lft n : Nat)) ∧ w = w' := by
  obtain ⟨k, hk⟩ : ∃ k, Nat.log2 (n - 1) = k := ⟨_, rfl⟩
  have hk62 : k ≤ 62 := by
    have h := Nat.log2_self_le (n := n - 1) (by omega)
    rw [hk] at h
    rcases Nat.lt_or_ge 62 k with h' | h'
    · have : 2 ^ 63 ≤ 2 ^ k := Nat.pow_le_pow_right (by decide) h'
      omega
    · exact h'
  have BL : Hid (Calls Tryd.prog 85 #[.int .u64 ((n : Int) - 1)] w fun e w' => e = .returned (.int .i64 ((k : Int) + 1)) ∧ w = w') := Lib.hid
    ((Tryd.bits_Len ((n : Int) - 1) w (by omega) (by omega)).mono fun e w' ⟨h1, h2⟩ => ⟨by rw [h1, show ((n : Int) - 1).toNat = n - 1 by omega, bitLen_log2 _ (by omega) (by omega), hk]; rfl, h2.symm⟩)
  have E : Hid (Dig.lft n = 2 ^ k) := Lib.hid (by rw [Dig.lft, hk])
  have hp : 2 ^ k ≤ 2 ^ 62 := Nat.pow_le_pow_right (by decide) hk62
  have P : Hid (wrap64 (2 ^ k) = ((2 ^ k : Nat) : Int)) := Lib.hid (by
    rw [show ((2 : Int) ^ k) = ((2 ^ k : Nat) : Int) by simp]
    generalize 2 ^ k = y at hp
    unfold wrap64; omega)
  clear hk hp
  go_enter Tryd.func53, Tryd.ntmps53
  go_wp2_with (go_at_call 85; refine BL.out.mono ?_; rintro e w' ⟨rfl, rfl⟩)
  go_ret
  exact ⟨ret_int (by rw [P.out, E.out]), rfl⟩

theorem ret_bool {a b : Bool} (h : a = b) : Ending.returned (.bool a) = .returned (.bool b) := by rw [h]

/-- A slice that reads as a list of strings. -/
structure SL (w : World) (sv : Value) (l : List ByteArray) : Prop where
  form : ∃ a cap, sv = .slice a l.length cap ∧ l.length ≤ cap ∧ (0 < l.length → ∃ b off, a = some ⟨b, off, none⟩ ∧ b < w.heap.size ∧ ∀ j x, l[j]? = some x → w.cell? ⟨b, off + j, none⟩ = some (.string x))
theorem SL.below {w w' : World} {sv : Value} {l : List ByteArray} (h : SL w sv l) (hb : Below w.heap.size w w') : SL w' sv l := by
  obtain ⟨a, cap, e, h1, h2⟩ := h.form
  refine ⟨a, cap, e, h1, fun h0 => ?_⟩
  obtain ⟨b, off, ea, hlt, hc⟩ := h2 h0
  exact ⟨b, off, ea, Nat.lt_of_lt_of_le hlt hb.size, fun j x hj => (hb.cell (p := ⟨b, off + j, none⟩) hlt).trans (hc j x hj)⟩
theorem SL.nil (w : World) : SL w (.slice none 0 0) [] := ⟨none, 0, rfl, Nat.le_refl _, fun h => absurd h (by simp)⟩

set_option maxHeartbeats 1000000 in
theorem isDigest_any (s : ByteArray) (hs : s.size ≤ 9223372036854775807) (w : World) :
    Calls Tryd.prog 62 #[.string s] w fun e w' => e = .returned (.bool (s.size == 32)) ∧ w = w' := by
  go_enter Tryd.func62, Tryd.ntmps62
  go_wp2
  go_ret
  exact ⟨ret_bool (by rw [Bool.eq_iff_iff]; simp; omega), rfl⟩

set_option maxHeartbeats 1000000 in
theorem join_any (r p : ByteArray) (first : Bool) (hs : r.size + p.size ≤ 900000) (w : World) (hR : RoundLaid w) :
    Calls Tryd.prog 61 #[.agg #[.string r, .bool first], .string p] w fun e w' => e = .returned (.string (if first then nodeB r p else nodeB p r)) ∧ Below w.heap.size w w' := by
  have hb : Below w.heap.size w (w.alloc (.cells #[.string r, .bool first] 75)) := (Below.refl _ w).alloc (Nat.le_refl _) _
  have HB := Lib.hid hb
  cases first with
  | true =>
    have N := Lib.hid (fun W (h : RoundLaid W) => Node_any r p hs W h)
    have HR := Lib.hid (hR.below hb)
    clear hb hR
    go_enter Tryd.func61, Tryd.ntmps61
    go_wp2_with (go_at_call 31; refine (N.out _ HR.out).mono ?_; rintro e w' ⟨rfl, h2⟩; have H2 := Lib.hid h2; clear h2)
    go_ret
    exact ⟨rfl, HB.out.trans (H2.out.mono (by simp))⟩
  | false =>
    have N := Lib.hid (fun W (h : RoundLaid W) => Node_any p r (by omega) W h)
    have HR := Lib.hid (hR.below hb)
    clear hb hR
    go_enter Tryd.func61, Tryd.ntmps61
    go_wp2_with (go_at_call 31; refine (N.out _ HR.out).mono ?_; rintro e w' ⟨rfl, h2⟩; have H2 := Lib.hid h2; clear h2)
    go_ret
    exact ⟨rfl, HB.out.trans (H2.out.mono (by simp))⟩

set_option maxHeartbeats 1000000 in
theorem take_none (a : Option Addr) (c : Nat) (w : World) :
    Calls Tryd.prog 59 #[.slice a 0 c] w fun e w' => e = .returned (.tuple #[.string ⟨#[]⟩, .slice none 0 0, .bool false]) ∧ w = w' := by
  go_enter Tryd.func59, Tryd.ntmps59
  go_wp2
  go_ret3
  exact ⟨rfl, rfl⟩

set_option maxHeartbeats 1000000 in
theorem take_some (b off n c : Nat) (x : ByteArray) (w : World) (hn : (n : Int) + 1 ≤ 9223372036854775807) (hc : n + 1 ≤ c) (hx : w.cell? ⟨b, off + n, none⟩ = some (.string x)) :
    Calls Tryd.prog 59 #[.slice (some ⟨b, off, none⟩) (n + 1) c] w fun e w' => e = .returned (.tuple #[.string x, .slice (some ⟨b, off, none⟩) n c, .bool true]) ∧ ∃ k, w' = w.drewN k := by
  have q0 : ((n : Int) + 1 == 0) = false := beq_false_of_ne (by omega)
  have q1 : (n : Int) < (n : Int) + 1 := by omega
  have q2 : (n : Int) ≤ (c : Int) := by omega
  go_enter Tryd.func59, Tryd.ntmps59
  go_wp2
  go_quiet (fail)
  go_wp2
  go_ret3
  exact ⟨rfl, _, rfl⟩
end Go.Proofs.YtljgphmdiflphaaDoor
