/- The journal's laws: heads, sized. -/
import Derived.Test.YthlmgookaljgnaaGreatDoorSvL
import Derived.Test.YthlmgookaljgnaaGreatDoorRsE
import Derived.Test.YthlmgookaljgnaaGreatDoorRfI
import Derived.Test.YthlmgookaljgnaaGreatDoorDamP
namespace Go.Proofs.YthlmgookaljgnaaGreatDoor
open Go.RowKit Go.Shelf
set_option linter.unusedVariables false
set_option linter.unusedSimpArgs false

/-- the strings of which the heads are computed -/
def headsT (t : TV) : List ByteArray → List ByteArray
  | [] => []
  | r :: l => pre2 2 t.head r :: headsT (growT t r) l
theorem headsT_snoc (p : List ByteArray) : ∀ (t : TV) (r : ByteArray), headsT t (p ++ [r]) = headsT t p ++ [pre2 2 (growAll t p).head r] := by
  induction p with
  | nil => intro t r; rfl
  | cons x p ih => intro t r; rw [List.cons_append, headsT, headsT, ih]; rfl
theorem headsT_length (l : List ByteArray) : ∀ t, (headsT t l).length = l.length := by
  induction l with
  | nil => intro t; rfl
  | cons x l ih => intro t; rw [headsT, List.length_cons, ih, List.length_cons]
theorem headsT_app (p : List ByteArray) : ∀ (t : TV) (q : List ByteArray), headsT t (p ++ q) = headsT t p ++ headsT (growAll t p) q := by
  induction p with
  | nil => intro t q; rfl
  | cons x p ih => intro t q; rw [List.cons_append, headsT, headsT, ih]; rfl
theorem growAll_head (l : List ByteArray) : ∀ t : TV, t.head.size = 32 → (growAll t l).head.size = 32 := by
  induction l with
  | nil => intro t h; exact h
  | cons x l ih => intro t h; exact ih (growT t x) (by show (chainB t.head x).size = 32; rw [chainB]; exact sumB_size _)

set_option maxHeartbeats 1000000 in
theorem RHead_nil (w : World) : Calls Tryz.prog 35 #[.slice none 0 0] w fun e w' => e = .returned (.string z32) ∧ Below w.heap.size w w' := by
  have hmk := jmake32
  have hcv := jconv32 (W := w.alloc (.cells (bytesV z32.data.toList).toArray 5)) (g := w.heap.size) (allocAt _ rfl)
  go_enter Tryz.func35, Tryz.ntmps35
  go_wp2
  go_loopw [3, 4] (fun hv iv wr => hv = .string z32 ∧ iv = .int .i64 0 ∧ Below w.heap.size w wr) (fun _ _ _ => 0)
  case atStart => exact ⟨rfl, rfl, (Below.refl _ w).alloc (Nat.le_refl _) _⟩
  case round =>
    obtain ⟨rfl, rfl, hb⟩ := hrel
    have HB := Lib.hid hb
    clear hb hmk hcv
    go_wp2
    go_ret
    exact ⟨rfl, HB.out⟩

end Go.Proofs.YthlmgookaljgnaaGreatDoor
