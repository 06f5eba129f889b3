/- The disk: New. -/
import Derived.Test.YtljgphmdiflphaaDiskC
namespace Go.Proofs.Ytljgphmdiflphaa
open Go.RowKit
set_option linter.unusedVariables false

theorem Try.infoByte : (Try.prog.info? 5).map (fun i => (i.zero, i.size, i.bytes)) = some (some (.int .u8 0), 1, 1) := by kernel_rfl

theorem madeBytes (n : Nat) : madeCells #[.int .u8 0] n = (bytesV (List.replicate n 0)).toArray := by
  apply Array.ext
  · simp [madeCells, bytesV]
  · intro i h1 h2
    simp [madeCells, bytesV, Nat.mod_one]

theorem new_end (w : World) (n : Nat) (h1 : 1 ≤ n) (h2 : (n : Int) ≤ 4194304) (bu bv : Nat) (hb : (bu = w.heap.size ∧ bv = w.heap.size + 1) ∨ (bu = w.heap.size + 1 ∧ bv = w.heap.size)) :
    DiskAt (((w.alloc (.cells (madeCells #[.int .u8 0] n) 5)).alloc (.cells (madeCells #[.int .u8 0] n) 5)).alloc
        (.cells #[.bool false, .int .i64 0, .slice (some ⟨bu, 0, none⟩) n n, .slice (some ⟨bv, 0, none⟩) n n, .slice none 0 0] 65)).drew
      (w.heap.size + 2) bu bv (.slice none 0 0) n ⟨false, 0, List.replicate n 0, List.replicate n 0, []⟩ ∧
    Below w.heap.size w (((w.alloc (.cells (madeCells #[.int .u8 0] n) 5)).alloc (.cells (madeCells #[.int .u8 0] n) 5)).alloc
        (.cells #[.bool false, .int .i64 0, .slice (some ⟨bu, 0, none⟩) n n, .slice (some ⟨bv, 0, none⟩) n n, .slice none 0 0] 65)).drew ∧
    w.heap.size ≤ w.heap.size + 2 ∧ w.heap.size ≤ bu ∧ w.heap.size ≤ bv := by
  rw [madeBytes]
  have e0 : ∀ o p q : Obj, (((w.alloc o).alloc p).alloc q).drew.heap[w.heap.size]? = some o := fun o p q => by
    rw [drewHeap, allocOld (by simp; omega), allocOld (by simp), allocAt _ rfl]
  have e1 : ∀ o p q : Obj, (((w.alloc o).alloc p).alloc q).drew.heap[w.heap.size + 1]? = some p := fun o p q => by
    rw [drewHeap, allocOld (by simp), allocAt _ (by simp)]
  have e2 : ∀ o p q : Obj, (((w.alloc o).alloc p).alloc q).drew.heap[w.heap.size + 2]? = some q := fun o p q => by
    rw [drewHeap, allocAt _ (by simp)]
  refine ⟨⟨e2 _ _ _, ?_, ?_, World.ownsRow_nil _ _ _ _, by omega, by simp, by simp, h1, by omega, by simp, by simp, by simp⟩, (((Below.refl _ w).alloc (Nat.le_refl _) _).alloc (by simp) _ |>.alloc (by simp; omega) _).drew, by omega, by omega, by omega⟩
  · rcases hb with ⟨rfl, rfl⟩ | ⟨rfl, rfl⟩
    · exact e0 _ _ _
    · exact e1 _ _ _
  · rcases hb with ⟨rfl, rfl⟩ | ⟨rfl, rfl⟩
    · exact e1 _ _ _
    · exact e0 _ _ _

set_option maxHeartbeats 800000 in
theorem New_ok (w : World) (n : Nat) (h1 : 1 ≤ n) (h2 : (n : Int) ≤ 4194304) :
    Calls Try.prog 13 #[.int .i64 (n : Int)] w fun e w' => ∃ bd bu bv,
      e = .returned (.tuple #[.pointer (some ⟨bd, 0, none⟩), .int .i64 0]) ∧ DiskAt w' bd bu bv (.slice none 0 0) n ⟨false, 0, List.replicate n 0, List.replicate n 0, []⟩ ∧
      Below w.heap.size w w' ∧ w.heap.size ≤ bd ∧ w.heap.size ≤ bu ∧ w.heap.size ≤ bv := by
  have hmk : ∀ W : World, (Instr.makeSlice 40 (.int .i64 (n : Int)) (.int .i64 (n : Int))).run Try.prog W = .ok (.slice (some ⟨W.heap.size, 0, none⟩) n n) (W.alloc (.cells (madeCells #[.int .u8 0] n) 5)) := by
    intro W
    exact run_make_row' 40 5 (.int .u8 0) 1 Try.underlying40 Try.infoByte rfl .i64 .i64 n (by omega) (by omega) W
  have hn0 : ¬ (n : Int) < 1 := by omega
  have hn1 : ¬ (4194304 : Int) < n := by omega
  go_enter Try.func13, Try.ntmps13
  go_wp2
  go_region
  all_goals (go_wp2; go_ret2)
  · exact ⟨w.heap.size + 2, w.heap.size, w.heap.size + 1, rfl, new_end w n h1 h2 _ _ (.inl ⟨rfl, rfl⟩)⟩
  · exact ⟨w.heap.size + 2, w.heap.size + 1, w.heap.size, rfl, new_end w n h1 h2 _ _ (.inr ⟨rfl, rfl⟩)⟩

theorem New_bad (w : World) (x : Int) (h : ¬ (1 ≤ x ∧ x ≤ 4194304)) :
    Calls Try.prog 13 #[.int .i64 x] w fun e w' => e = .returned (.tuple #[.pointer none, .int .i64 2]) ∧ w = w' := by
  by_cases h1 : x < 1
  · have h1' : decide (x < 1) = true := by simpa using h1
    go_enter Try.func13, Try.ntmps13
    go_wp2
    go_ret2
    exact ⟨rfl, rfl⟩
  · have h2 : (4194304 : Int) < x := by omega
    have h1' : decide (x < 1) = false := by simpa using h1
    go_enter Try.func13, Try.ntmps13
    go_wp2
    go_ret2
    exact ⟨rfl, rfl⟩

end Go.Proofs.Ytljgphmdiflphaa
