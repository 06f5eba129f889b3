/- The reference's SHA-256: words for its rows of numbers; rotated, constants, extended. -/
import Derived.Test.YtljgphmdiflphaaDoorSum
import Derived.Deep.AppendLies
namespace Go.Proofs.YtljgphmdiflphaaDoor
open Go.RowKit
set_option linter.unusedVariables false

theorem Tryd.infoW : (Tryd.prog.info? 82).map (fun i => (i.zero, i.size, i.bytes)) = some (some (.int .u32 0), 1, 4) := by kernel_rfl

/-- A slice that reads as a list of words. -/
structure NL (w : World) (sv : Value) (l : List Nat) : Prop where
  form : ∃ b off cap, sv = .slice (some ⟨b, off, none⟩) l.length cap ∧ l.length ≤ cap ∧ b < w.heap.size ∧ ∀ (j : Nat) (x : Nat), l[j]? = some x → w.cell? ⟨b, off + j, none⟩ = some (.int .u32 (x : Int))
theorem NL.below {w w' : World} {sv : Value} {l : List Nat} (h : NL w sv l) (hb : Below w.heap.size w w') : NL w' sv l := by
  obtain ⟨b, off, cap, e, h1, hlt, hc⟩ := h.form
  exact ⟨b, off, cap, e, h1, Nat.lt_of_lt_of_le hlt hb.size, fun j x hj => (hb.cell (p := ⟨b, off + j, none⟩) hlt).trans (hc j x hj)⟩
theorem NL.lit (w : World) (l : List Nat) (t : TypeId) : NL (w.alloc (.cells (wv l).toArray t)) (.slice (some ⟨w.heap.size, 0, none⟩) l.length l.length) l :=
  ⟨_, 0, _, rfl, Nat.le_refl _, by simp, fun j x hj => by rw [Nat.zero_add, cellOf (allocAt _ rfl)]; simp [wv, hj]⟩
theorem NL.own {w : World} {base n : Nat} {v : Value} {l : List Nat} (h : w.ownsRow base 82 1 v n (wv l)) (hl : l.length = n) (hn : 0 < n) : NL w v l := by
  rcases h.2 with ⟨rfl, _⟩ | ⟨g, c, cur, rfl, hb, hg, h1, h2, _⟩
  · omega
  · refine ⟨g, 0, c, by rw [hl], by omega, ltOf hg, fun j x hj => ?_⟩
    have := h.cells (g := g) rfl j (.int .u32 (x : Int)) (by simp [wv, hj])
    have ha : (⟨g, 0, none⟩ : Addr).add j = ⟨g, 0 + j, none⟩ := by unfold Addr.add; split <;> simp_all
    rwa [ha] at this

theorem rot_end2 (x n : Nat) (hx : x < 4294967296) (h1 : 1 ≤ n) (h2 : n ≤ 31) :
    bits .or .u32 ((x : Int) / 2 ^ n) ((x : Int) * 2 ^ (32 - n) % 4294967296) = ((Sha.rotr x n : Nat) : Int) := by
  have e1 : (x : Int) * 2 ^ (32 - n) % 4294967296 = ((x * 2 ^ (32 - n) % 4294967296 : Nat) : Int) := by simp
  have e2 : (x : Int) / 2 ^ n = ((x / 2 ^ n : Nat) : Int) := by simp
  rw [e1, e2, u32_or_nat _ _ (Nat.lt_of_le_of_lt (Nat.div_le_self _ _) hx) (Nat.mod_lt _ (by decide)), Sha.rotr]
set_option maxHeartbeats 1000000 in
theorem rotated_any (x n : Nat) (z : Int) (hz : z = (n : Int)) (w : World) (hx : x < 4294967296) (h1 : 1 ≤ n) (h2 : n ≤ 31) :
    Calls Tryd.prog 94 #[.int .u32 (x : Int), .int .i64 z] w fun e w' => e = .returned (.int .u32 (Sha.rotr x n : Nat)) ∧ ∃ k, w' = w.drewN k := by
  subst hz
  have E := Lib.hid (rot_end2 x n hx h1 h2)
  have q0 : 0 ≤ 32 - (n : Int) := by omega
  have q1 : (32 - (n : Int)).toNat = 32 - n := by omega
  have q2 : IntKind.i64.wrap (32 - (n : Int)) = 32 - (n : Int) := IntWalk.i64_in _ (by omega)
  go_enter Tryd.func94, Tryd.ntmps94
  go_wp2
  go_quiet (fail)
  clear q2
  go_wp2
  go_ret
  exact ⟨ret_int E.out, _, rfl⟩

set_option maxRecDepth 100000 in
set_option maxHeartbeats 1000000 in
theorem constants_any (w : World) :
    Calls Tryd.prog 95 #[] w fun e w' => e = .returned (.slice (some ⟨w.heap.size, 0, none⟩) 64 64) ∧ w.alloc (.cells (wv Sha.K).toArray 82) = w' := by
  go_enter Tryd.func95, Tryd.ntmps95
  go_wp2
  go_ret
  exact ⟨rfl, rfl⟩
end Go.Proofs.YtljgphmdiflphaaDoor
