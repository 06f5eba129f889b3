/- What the reference disk's texts want of the disk's law texts (a seat that has no law of the disk). -/
import Derived.Test.YthlmgookaljgnaaGreatDoorMi
namespace Go.Proofs.YthlmgookaljgnaaGreatDoor
open Go.RowKit
set_option linter.unusedVariables false


theorem mkBytes (n : Nat) (hn : n ≤ 4194304) (W : World) : (Instr.makeSlice 39 (.int .i64 (n : Int)) (.int .i64 (n : Int))).run Tryz.prog W = .ok (.slice (some ⟨W.heap.size, 0, none⟩) n n) (W.alloc (.cells (bytesV (List.replicate n 0)).toArray 5)) := by
  rw [← madeBytes]
  exact run_make_row' 39 5 (.int .u8 0) 1 Tryz.underlying39 Tryz.infoByte rfl .i64 .i64 n (by omega) (by omega) W

end Go.Proofs.YthlmgookaljgnaaGreatDoor
