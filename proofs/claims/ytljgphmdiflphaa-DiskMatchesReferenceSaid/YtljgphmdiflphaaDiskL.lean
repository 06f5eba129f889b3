/- The disk laws' own small functions: pick, cut, fits, put. -/
import Derived.Test.YtljgphmdiflphaaDiskN
import Derived.Test.YtljgphmdiflphaaPlainD
namespace Go.Proofs.Ytljgphmdiflphaa
open Go.RowKit
set_option linter.unusedVariables false

def pickZ (c n : Int) : Int := (if c < 0 then -(c + 1) else c) % n
theorem pickZ_lo (c n : Int) (h : 0 < n) : 0 ≤ pickZ c n := Int.emod_nonneg _ (by omega)
theorem pickZ_hi (c n : Int) (h : 0 < n) : pickZ c n < n := Int.emod_lt_of_pos _ h

set_option maxHeartbeats 400000 in
theorem pick_any (c n : Int) (w : World) (h0 : 0 < n) (h1 : n ≤ 100000000) (hc : -9223372036854775808 ≤ c) (hc' : c ≤ 9223372036854775807) :
    Calls Try.prog 15 #[.int .i64 c, .int .i64 n] w fun e w' => e = .returned (.int .i64 (pickZ c n)) ∧ w = w' := by
  by_cases h : c < 0
  · go_enter Try.func15, Try.ntmps15
    go_wp2
    go_ret
    refine ⟨?_, rfl⟩
    simp only [pickZ, if_pos h]
    show Ending.returned (.int .i64 (-(c + 1).tmod n)) = _
    rw [← Int.neg_tmod, Int.tmod_eq_emod_of_nonneg (by omega)]
  · go_enter Try.func15, Try.ntmps15
    go_wp2
    go_ret
    refine ⟨?_, rfl⟩
    simp only [pickZ, if_neg (show ¬ c < 0 by omega)]
    rfl

theorem takeB_all (s : ByteArray) (m : Nat) (h : s.size ≤ m) : takeB s m = s := by
  unfold takeB
  rw [List.take_of_length_le (by rw [← Lib.size_eq]; exact h)]
theorem takeB_extract (s : ByteArray) (m : Nat) : s.extract 0 m = takeB s m := by
  unfold takeB
  apply ByteArray.ext
  apply Array.toList_inj.1
  simp [ByteArray.data_extract, Array.toList_extract]
theorem takeB_size (s : ByteArray) (m : Nat) : (takeB s m).size = min m s.size := by
  rw [Lib.size_eq, Lib.size_eq s]
  exact List.length_take
theorem takeB_list (s : ByteArray) (m : Nat) : (takeB s m).data.toList = s.data.toList.take m := rfl

set_option maxHeartbeats 400000 in
theorem cut_any (s : ByteArray) (m : Nat) (w : World) (hs : s.size ≤ 9223372036854775807) (hm : (m : Int) ≤ 9223372036854775807) :
    Calls Try.prog 22 #[.string s, .int .i64 (m : Int)] w fun e w' => e = .returned (.string (takeB s m)) ∧ w = w' := by
  by_cases h : s.size ≤ m
  · rw [takeB_all s m h]
    go_enter Try.func22, Try.ntmps22
    go_wp2
    go_ret
    exact ⟨rfl, rfl⟩
  · rw [← takeB_extract]
    go_enter Try.func22, Try.ntmps22
    go_wp2
    go_ret
    exact ⟨rfl, rfl⟩

set_option maxHeartbeats 800000 in
theorem fits_any (x : Int) (s : ByteArray) (b : Bool) (n : Nat) (w : World) (hx : -9223372036854775808 ≤ x) (hx' : x ≤ 9223372036854775807) (hs : s.size ≤ 9223372036854775807) (hn : n ≤ 10000000) :
    Calls Try.prog 26 #[.agg #[.int .i64 x, .string s, .bool b], .int .i64 (n : Int)] w fun e w' => ∃ p : Nat,
      e = .returned (.agg #[.int .i64 (p : Int), .string (takeB s (n - p)), .bool b]) ∧ p = (pickZ x (n + 1)).toNat ∧ p ≤ n ∧ Below w.heap.size w w' := by
  have hp0 := pickZ_lo x (n + 1) (by omega)
  have hp1 := pickZ_hi x (n + 1) (by omega)
  obtain ⟨p, hp⟩ : ∃ p : Nat, pickZ x (n + 1) = p := Int.eq_ofNat_of_zero_le hp0
  have hpn : p ≤ n := by omega
  have HP := Lib.hid hp
  clear hp0 hp1 hp
  go_enter Try.func26, Try.ntmps26
  go_wp2_with fail
  refine (pick_any _ _ _ (by omega) (by omega) hx hx').mono ?_
  rintro e w' ⟨rfl, rfl⟩
  rw [HP.out]
  go_wp2_with fail
  rw [show ((n : Int) - (p : Int)) = ((n - p : Nat) : Int) from by omega]
  refine (cut_any _ _ _ hs (by omega)).mono ?_
  rintro e w' ⟨rfl, rfl⟩
  go_wp2_with fail
  refine bodyPost_ret (v := .agg #[.int .i64 (p : Int), .string (takeB s (n - p)), .bool b]) (by simp [results, Try.results26, go_sem]) rfl ?_
  exact ⟨p, rfl, by rw [HP.out]; rfl, hpn, ((Below.refl _ w).alloc (Nat.le_refl _) _).alloc (by simp) _⟩

set_option maxHeartbeats 800000 in
theorem put_any (g p n : Nat) (s : ByteArray) (l : List UInt8) (w : World) (hr : w.heap[g]? = some (.cells (bytesV l).toArray 5 (0, 0))) (hn : l.length = n) (hs : p + s.size ≤ n) (hl : n ≤ 10000000) :
    Calls Try.prog 27 #[.slice (some ⟨g, 0, none⟩) n n, .int .i64 (p : Int), .string s] w fun e w' =>
      e = .returned (.tuple #[]) ∧ w'.heap[g]? = some (.cells (bytesV (splice l p s.data.toList)).toArray 5 (0, 0)) ∧ Upd (· = g) w w' := by
  have HR := Lib.hid hr
  have HN := Lib.hid hn
  clear hr hn
  go_enter Try.func27, Try.ntmps27
  go_wp2
  go_loopw [6] (fun i wr => ∃ k : Nat, k ≤ s.size ∧ i = .int .i64 k ∧ Hid (wr.heap[g]? = some (.cells (bytesV (splice l p (s.data.toList.take k))).toArray 5 (0, 0))) ∧ Hid (Upd (· = g) w wr)) (fun i _ => s.size - (intOf i).toNat)
  case atStart => exact ⟨0, Nat.zero_le _, rfl, by have h := HR.out; simpa [Hid, splice] using h, Upd.refl _ _⟩
  case round =>
    obtain ⟨k, hk, rfl, hb, hU⟩ := hrel
    by_cases hlt : k < s.size
    · have hsl : s.size = s.data.toList.length := Lib.size_eq s
      have hlen : (splice l p (s.data.toList.take k)).length = n := by rw [length_splice]; exact HN.out; rw [HN.out, List.length_take]; omega
      obtain ⟨x0, c⟩ : ∃ x0 : Int, wr.cell? ⟨g, p + k, none⟩ = some (.int .u8 x0) :=
        ⟨((splice l p (s.data.toList.take k))[p + k]'(by omega)).toNat, by rw [cellOf hb.out]; simp [bytesV, show p + k < (splice l p (s.data.toList.take k)).length by omega]⟩
      have f : wr.frozen? ⟨g, p + k, none⟩ = false := frozenOf hb.out _
      have HL := Lib.hid hlen
      clear hlen
      have HS := Lib.hid hsl
      clear hsl
      go_wp2
      go_roundw
      case rel =>
        refine ⟨k + 1, by omega, by simp, ?_, ?_⟩
        · show _ = _
          rw [setOf_ hb.out]
          rw [bytesV_set, show s[k] = s.data.toList[k]'(by rw [← HS.out]; exact hlt) from rfl, splice_take_succ l p k s.data.toList (by rw [← HS.out]; exact hlt) (by rw [← HS.out, HN.out]; exact hs)]
        · exact hU.out.setCell _ _ (.inl rfl)
      case measure => simp [intOf]; omega
    · obtain rfl : k = s.size := by omega
      go_wp2
      go_end0
      refine ⟨rfl, ?_, hU.out⟩
      have h := hb.out
      rwa [List.take_of_length_le (by rw [← Lib.size_eq]; exact Nat.le_refl _)] at h

end Go.Proofs.Ytljgphmdiflphaa
