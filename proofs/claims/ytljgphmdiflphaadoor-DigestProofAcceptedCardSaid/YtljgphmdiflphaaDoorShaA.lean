/- SHA-256: the small functions. -/
import Derived.Test.YtljgphmdiflphaaDoorBase
import Derived.Test.YtljgphmdiflphaaDoorSha
import Derived.Test.YtljgphmdiflphaaDoorProg
import Derived.Laws.BitsAllLaws
namespace Go.Proofs.YtljgphmdiflphaaDoor
open Go.RowKit
set_option linter.unusedVariables false

theorem ret_int {k : IntKind} {a b : Int} (h : a = b) : Ending.returned (.int k a) = .returned (.int k b) := by rw [h]

theorem rot_and (n : Nat) (h1 : 1 ≤ n) (h2 : n ≤ 31) : bits .and .u64 (IntKind.u64.wrap (-(n : Int))) 31 = ((32 - n : Nat) : Int) := by
  have e : IntKind.u64.wrap (-(n : Int)) = ((18446744073709551616 - n : Nat) : Int) := by rw [IntKind.wrap_u64]; omega
  rw [e]
  have := u64_and_nat (18446744073709551616 - n) 31 (by omega) (by omega)
  rw [show ((31 : Nat) : Int) = 31 from rfl] at this
  rw [this, nat_mask5]
  omega
theorem rot_sub (n : Nat) (h1 : 1 ≤ n) (h2 : n ≤ 31) : IntKind.u64.wrap (32 - ((32 - n : Nat) : Int)) = (n : Int) := by
  rw [IntKind.wrap_u64]; omega
theorem rot_end (x n : Nat) (hx : x < 4294967296) (h1 : 1 ≤ n) (h2 : n ≤ 31) :
    bits .or .u32 ((x : Int) * 2 ^ min (32 - n) 32 % 4294967296) ((x : Int) / 2 ^ n) = ((Sha.rotr x n : Nat) : Int) := by
  rw [Nat.min_eq_left (by omega)]
  have e1 : (x : Int) * 2 ^ (32 - n) % 4294967296 = ((x * 2 ^ (32 - n) % 4294967296 : Nat) : Int) := by simp
  have e2 : (x : Int) / 2 ^ n = ((x / 2 ^ n : Nat) : Int) := by simp
  rw [e1, e2, u32_or_nat _ _ (Nat.mod_lt _ (by decide)) (Nat.lt_of_le_of_lt (Nat.div_le_self _ _) hx), Sha.rotr, Nat.or_comm]

set_option maxHeartbeats 400000 in
theorem rotl_any (x n : Nat) (w : World) (hx : x < 4294967296) (h1 : 1 ≤ n) (h2 : n ≤ 31) :
    Calls Tryd.prog 118 #[.int .u32 (x : Int), .int .i64 (-(n : Int))] w fun e w' => e = .returned (.int .u32 (Sha.rotr x n : Nat)) ∧ w = w' := by
  have E := Lib.hid (rot_end x n hx h1 h2)
  have a1 := rot_and n h1 h2
  have a2 := rot_sub n h1 h2
  generalize 32 - n = m at a1 a2 E
  go_enter Tryd.func118, Tryd.ntmps118
  go_wp2
  go_ret
  exact ⟨ret_int E.out, rfl⟩

/-- the numbers of a slice of ints -/
def intsV (zs : List Int) : List Value := zs.map (Value.int .i64)

set_option maxHeartbeats 400000 in
theorem mixed_any (x : Nat) (ns : List Nat) (g c : Nat) (w : World) (hx : x < 4294967296) (hn : ∀ n ∈ ns, 1 ≤ n ∧ n ≤ 31) (hl : ns.length ≤ 100)
    (hc : ∀ i, i < ns.length → w.cell? ⟨g, i, none⟩ = some (.int .i64 (ns.getD i 0 : Nat))) :
    Calls Tryd.prog 93 #[.int .u32 (x : Int), .slice (some ⟨g, 0, none⟩) ns.length c] w fun e w' => e = .returned (.int .u32 (Sha.mix x ns : Nat)) ∧ w = w' := by
  have hb : ∀ l : List Nat, Sha.mix x l < 4294967296 := Sha.mix_lt x hx
  have HC := Lib.hid hc
  clear hc
  go_enter Tryd.func93, Tryd.ntmps93
  go_wp2
  go_loop [5, 10] (fun o i => ∃ k : Nat, k ≤ ns.length ∧ i = .int .i64 k ∧ o = .int .u32 (Sha.mix x (ns.take k) : Nat)) (fun _ i => ns.length - (intOf i).toNat)
  case atStart => exact ⟨0, Nat.zero_le _, rfl, rfl⟩
  case round =>
    obtain ⟨k, hk, rfl, rfl⟩ := hrel
    by_cases hlt : k < ns.length
    · have hcell := HC.out k hlt
      obtain ⟨h1, h2⟩ := hn (ns.getD k 0) (by rw [List.getD_eq_getElem?_getD, List.getElem?_eq_getElem hlt]; exact List.getElem_mem hlt)
      have X := Lib.hid (u32_xor_nat (Sha.mix x (ns.take k)) (Sha.rotr x (ns.getD k 0)) (hb _) (Sha.rotr_lt _ _ hx))
      have S : Hid (Sha.mix x (ns.take (k + 1)) = Sha.mix x (ns.take k) ^^^ Sha.rotr x (ns.getD k 0)) := by
        rw [List.take_succ_eq_append_getElem hlt, Sha.mix_snoc, List.getD_eq_getElem?_getD, List.getElem?_eq_getElem hlt]; rfl
      generalize ns.getD k 0 = n at *
      go_wp2_with (go_at_call 118; refine (rotl_any x n _ hx h1 h2).mono ?_; rintro e w' ⟨rfl, rfl⟩)
      go_round
      case rel => exact ⟨k + 1, by omega, by go_num, by rw [S.out, X.out]⟩
      case measure => simp [intOf]; omega
    · obtain rfl : k = ns.length := by omega
      go_wp2
      go_ret
      exact ⟨rfl, rfl⟩
end Go.Proofs.YtljgphmdiflphaaDoor
