/- The disk: what a world holds of one; contracts of its small functions. -/
import Derived.Test.YtljgphmdiflphaaBase
import Derived.Test.YtljgphmdiflphaaProg
namespace Go.Proofs.Ytljgphmdiflphaa
open Go.RowKit

/-- A disk: has it lost its power, the scheduled cut, the durable and the visible content, the pending writes. -/
structure DV where
  off : Bool
  left : Int
  du : List UInt8
  vi : List UInt8
  pe : List (Nat × ByteArray)

def pendV (l : List (Nat × ByteArray)) : List Value := l.flatMap fun p => [.int .i64 (p.1 : Int), .string p.2]
theorem pendV_length (l : List (Nat × ByteArray)) : (pendV l).length = l.length * 2 := by
  induction l with
  | nil => rfl
  | cons x l ih => simp only [pendV, List.flatMap_cons, List.length_append, List.length_cons, List.length_nil] at *; omega
theorem pendV_append (l m : List (Nat × ByteArray)) : pendV (l ++ m) = pendV l ++ pendV m := by simp [pendV]

structure DiskAt (w : World) (bd bu bv : Nat) (pv : Value) (n : Nat) (d : DV) : Prop where
  hd : w.heap[bd]? = some (.cells #[.bool d.off, .int .i64 d.left, .slice (some ⟨bu, 0, none⟩) n n, .slice (some ⟨bv, 0, none⟩) n n, pv] 65 (0, 0))
  hu : w.heap[bu]? = some (.cells (bytesV d.du).toArray 5 (0, 0))
  hv : w.heap[bv]? = some (.cells (bytesV d.vi).toArray 5 (0, 0))
  hp : w.ownsRow 0 69 2 pv d.pe.length (pendV d.pe)
  ne : bu ≠ bv
  lu : d.du.length = n
  lv : d.vi.length = n
  lo : 1 ≤ n
  hi : n ≤ 4194304
  l0 : 0 ≤ d.left
  l1 : d.left ≤ 9223372036854775807
  fit : ∀ p ∈ d.pe, p.1 + p.2.size ≤ n

/-- The blocks of a disk. -/
def Foot (bd bu bv : Nat) (pv : Value) (k : Nat) : Prop := k = bd ∨ k = bu ∨ k = bv ∨ pv.ownBlock = some k

/-- A disk stands where its blocks stand. -/
theorem DiskAt.kept {w w' : World} {bd bu bv : Nat} {pv : Value} {n : Nat} {d : DV} (h : DiskAt w bd bu bv pv n d) (hk : ∀ k, k < w.heap.size → Foot bd bu bv pv k → w'.heap[k]? = w.heap[k]?) : DiskAt w' bd bu bv pv n d := by
  refine ⟨?_, ?_, ?_, ?_, h.ne, h.lu, h.lv, h.lo, h.hi, h.l0, h.l1, h.fit⟩
  · rw [hk _ (ltOf h.hd) (.inl rfl)]; exact h.hd
  · rw [hk _ (ltOf h.hu) (.inr (.inl rfl))]; exact h.hu
  · rw [hk _ (ltOf h.hv) (.inr (.inr (.inl rfl)))]; exact h.hv
  · refine ⟨h.hp.1, ?_⟩
    rcases h.hp.2 with e | ⟨g, cap, cur, e, hb, hg, r⟩
    · exact .inl e
    · refine .inr ⟨g, cap, cur, e, hb, ?_, r⟩
      rw [hk g (ltOf hg) (.inr (.inr (.inr (by rw [e]; rfl))))]; exact hg

theorem DiskAt.upd {S : Nat → Prop} {w w' : World} {bd bu bv : Nat} {pv : Value} {n : Nat} {d : DV} (h : DiskAt w bd bu bv pv n d) (hU : Upd S w w') (hS : ∀ k, Foot bd bu bv pv k → ¬ S k) : DiskAt w' bd bu bv pv n d :=
  h.kept fun k hk hf => hU.block k hk (hS k hf)

/-! ### Small functions -/
section
variable {w : World} {bd bu bv : Nat} {pv : Value} {n : Nat} {d : DV}

set_option maxHeartbeats 400000 in
theorem check_ok (h : DiskAt w bd bu bv pv n d) (ho : d.off = false) :
    Calls Try.prog 28 #[.pointer (some ⟨bd, 0, none⟩)] w fun e w' => e = .returned (.int .i64 0) ∧ w = w' := by
  have c0 : w.cell? ⟨bd, 0, none⟩ = some (.bool false) := by rw [cellOf h.hd, ho]; rfl
  clear h ho
  go_enter Try.func28, Try.ntmps28
  go_wp2
  go_ret
  exact ⟨rfl, rfl⟩

set_option maxHeartbeats 400000 in
theorem check_off (h : DiskAt w bd bu bv pv n d) (ho : d.off = true) :
    Calls Try.prog 28 #[.pointer (some ⟨bd, 0, none⟩)] w fun e w' => e = .returned (.int .i64 251) ∧ w = w' := by
  have c0 : w.cell? ⟨bd, 0, none⟩ = some (.bool true) := by rw [cellOf h.hd, ho]; rfl
  clear h ho
  go_enter Try.func28, Try.ntmps28
  go_wp2
  go_ret
  exact ⟨rfl, rfl⟩

set_option maxHeartbeats 400000 in
theorem check_nil (w : World) :
    Calls Try.prog 28 #[.pointer none] w fun e w' => e = .returned (.int .i64 1) ∧ w = w' := by
  go_enter Try.func28, Try.ntmps28
  go_wp2
  go_ret
  exact ⟨rfl, rfl⟩

set_option maxHeartbeats 400000 in
theorem inside_yes (h : DiskAt w bd bu bv pv n d) (x m : Int) (h0 : 0 ≤ x) (h1 : 0 ≤ m) (h2 : x ≤ n) (h3 : m ≤ n - x) :
    Calls Try.prog 29 #[.pointer (some ⟨bd, 0, none⟩), .int .i64 x, .int .i64 m] w fun e w' => e = .returned (.bool true) ∧ w = w' := by
  have c2 : w.cell? ⟨bd, 2, none⟩ = some (.slice (some ⟨bu, 0, none⟩) n n) := by rw [cellOf h.hd]; rfl
  have hn : (n : Int) ≤ 9223372036854775807 := by have := h.hi; omega
  clear h
  go_enter Try.func29, Try.ntmps29
  go_wp2
  go_ret
  refine ⟨?_, rfl⟩
  simp

set_option maxHeartbeats 400000 in
theorem inside_no (h : DiskAt w bd bu bv pv n d) (x m : Int) (hx : -9223372036854775808 ≤ x) (hm : -9223372036854775808 ≤ m) (h0 : ¬ (0 ≤ x ∧ 0 ≤ m ∧ x ≤ n ∧ m ≤ n - x)) :
    Calls Try.prog 29 #[.pointer (some ⟨bd, 0, none⟩), .int .i64 x, .int .i64 m] w fun e w' => e = .returned (.bool false) ∧ w = w' := by
  have c2 : w.cell? ⟨bd, 2, none⟩ = some (.slice (some ⟨bu, 0, none⟩) n n) := by rw [cellOf h.hd]; rfl
  have hn : (n : Int) ≤ 9223372036854775807 := by have := h.hi; omega
  clear h
  by_cases a0 : 0 ≤ x
  · by_cases a1 : 0 ≤ m
    · by_cases a2 : x ≤ n
      · have a3 : ¬ m ≤ n - x := by omega
        clear h0
        go_enter Try.func29, Try.ntmps29
        go_wp2
        go_ret
        refine ⟨?_, rfl⟩
        simp
      · have b2 : decide (x ≤ (n : Int)) = false := by simp; omega
        clear h0
        go_enter Try.func29, Try.ntmps29
        go_wp2
        go_ret
        exact ⟨rfl, rfl⟩
    · have b1 : decide (0 ≤ m) = false := by simp; omega
      clear h0
      go_enter Try.func29, Try.ntmps29
      go_wp2
      go_ret
      exact ⟨rfl, rfl⟩
  · have b0 : decide (0 ≤ x) = false := by simp; omega
    clear h0
    go_enter Try.func29, Try.ntmps29
    go_wp2
    go_ret
    exact ⟨rfl, rfl⟩

set_option maxHeartbeats 400000 in
theorem Pending_any (h : DiskAt w bd bu bv pv n d) :
    Calls Try.prog 17 #[.pointer (some ⟨bd, 0, none⟩)] w fun e w' => e = .returned (.int .i64 d.pe.length) ∧ w = w' := by
  obtain ⟨A, c, hv⟩ : ∃ A c, pv = .slice A d.pe.length c := by
    rcases h.hp.2 with ⟨e, e0⟩ | ⟨g, cap, cur, e, _⟩
    · exact ⟨none, 0, by rw [e, e0]⟩
    · exact ⟨_, cap, e⟩
  have c4 : w.cell? ⟨bd, 4, none⟩ = some (.slice A d.pe.length c) := by rw [cellOf h.hd, ← hv]; rfl
  clear h hv
  go_enter Try.func17, Try.ntmps17
  go_wp2
  go_ret
  exact ⟨rfl, rfl⟩

set_option maxHeartbeats 400000 in
theorem Pending_nil (w : World) :
    Calls Try.prog 17 #[.pointer none] w fun e w' => e = .returned (.int .i64 0) ∧ w = w' := by
  go_enter Try.func17, Try.ntmps17
  go_wp2
  go_ret
  exact ⟨rfl, rfl⟩

set_option maxHeartbeats 400000 in
theorem Size_any (h : DiskAt w bd bu bv pv n d) :
    Calls Try.prog 16 #[.pointer (some ⟨bd, 0, none⟩)] w fun e w' => e = .returned (.int .i64 n) ∧ w = w' := by
  have c2 : w.cell? ⟨bd, 2, none⟩ = some (.slice (some ⟨bu, 0, none⟩) n n) := by rw [cellOf h.hd]; rfl
  clear h
  go_enter Try.func16, Try.ntmps16
  go_wp2
  go_ret
  exact ⟨rfl, rfl⟩

set_option maxHeartbeats 400000 in
theorem Size_nil (w : World) :
    Calls Try.prog 16 #[.pointer none] w fun e w' => e = .returned (.int .i64 0) ∧ w = w' := by
  go_enter Try.func16, Try.ntmps16
  go_wp2
  go_ret
  exact ⟨rfl, rfl⟩
end
end Go.Proofs.Ytljgphmdiflphaa
