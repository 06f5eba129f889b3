/- law26: both journals are there and alike: what the laws look at. -/
import Derived.Test.YthlmgookaljgnaaGreatDoorDoesP
namespace Go.Proofs.YthlmgookaljgnaaGreatDoor
open Go.RowKit Go.Shelf
set_option linter.unusedVariables false
set_option linter.unusedSimpArgs false

structure Seen (w W : World) (wb bd bx jb kb n : Nat) (br : Bool) (t : TV) (d : DV) (F G : Nat → Prop) (A : Option Addr) (m c : Nat) : Prop where
  j : WJ w W wb bd bx jb kb n br t d br t d F G
  x : W.cell? ⟨kb, 1, none⟩ = some (.slice A m c)
  s : SL W (.slice A m c) t.recs
section
variable {w W W' : World} {wb bd bx jb kb n m c : Nat} {br : Bool} {t : TV} {d : DV} {F G : Nat → Prop} {A : Option Addr}
theorem WJ.seen (h : WJ w W wb bd bx jb kb n br t d br t d F G) : ∃ A m c, Seen w W wb bd bx jb kb n br t d F G A m c := by
  obtain ⟨lv, h1, h2⟩ := h.rL
  obtain ⟨A, c, rfl, _⟩ := h2.form
  exact ⟨A, _, c, h, h1, h2⟩
theorem Seen.keep (h : Seen w W wb bd bx jb kb n br t d F G A m c) (hB : Below W.heap.size W W') : Seen w W' wb bd bx jb kb n br t d F G A m c :=
  ⟨h.j.keep hB, (hB.cell (p := ⟨kb, 1, none⟩) (World.block_lt_of_cell? _ _ h.x)).trans h.x, h.s.below hB⟩
theorem Seen.drew (h : Seen w W wb bd bx jb kb n br t d F G A m c) : Seen w W.drew wb bd bx jb kb n br t d F G A m c := h.keep (Below.refl _ _).drew
def SeenS (W : World) (wb bd bx jb kb : Nat) (A : Option Addr) (m c : Nat) : Prop :=
  W.cell? ⟨wb, 0, none⟩ = some (.pointer (some ⟨bd, 0, none⟩)) ∧ W.cell? ⟨wb, 1, none⟩ = some (.pointer (some ⟨jb, 0, none⟩)) ∧ W.cell? ⟨wb, 2, none⟩ = some (.pointer (some ⟨bx, 0, none⟩)) ∧ W.cell? ⟨wb, 3, none⟩ = some (.pointer (some ⟨kb, 0, none⟩)) ∧ W.cell? ⟨kb, 1, none⟩ = some (.slice A m c)
theorem Seen.S (h : Seen w W wb bd bx jb kb n br t d F G A m c) : W.cell? ⟨wb, 0, none⟩ = some (.pointer (some ⟨bd, 0, none⟩)) ∧ W.cell? ⟨wb, 1, none⟩ = some (.pointer (some ⟨jb, 0, none⟩)) ∧ W.cell? ⟨wb, 2, none⟩ = some (.pointer (some ⟨bx, 0, none⟩)) ∧ W.cell? ⟨wb, 3, none⟩ = some (.pointer (some ⟨kb, 0, none⟩)) ∧ W.cell? ⟨kb, 1, none⟩ = some (.slice A m c) :=
  ⟨h.j.toWX.c0, h.j.toWX.c1, h.j.toWX.c2, h.j.toWX.c3, h.x⟩
theorem Seen.records (h : Seen w W wb bd bx jb kb n br t d F G A m c) :
    Calls Tryz.prog 16 #[.pointer (some ⟨jb, 0, none⟩)] W fun r w' => ∃ v, r = .returned v ∧ SL w' v t.recs ∧ Seen w w' wb bd bx jb kb n br t d F G A m c := by
  refine (RecordsG h.j.kj).mono ?_
  rintro r w' ⟨v, rfl, hO, hB⟩
  exact ⟨v, rfl, SL_own hO, h.keep hB⟩
theorem Seen.same (h : Seen w W wb bd bx jb kb n br t d F G A m c) (hl : t.recs.length ≤ 1000000) (v : Value) (hv : SL W v t.recs) :
    Calls Tryz.prog 15 #[v, .slice A m c] W fun r w' => r = .returned (.bool true) ∧ Seen w w' wb bd bx jb kb n br t d F G A m c := by
  refine (sameJ_rfl W _ _ _ hv h.s hl).mono ?_
  rintro r w' ⟨rfl, hB⟩
  exact ⟨rfl, h.keep hB⟩
theorem Seen.jRoom (h : Seen w W wb bd bx jb kb n br t d F G A m c) :
    Calls Tryz.prog 17 #[.pointer (some ⟨jb, 0, none⟩)] W fun r w' => r = .returned (.int .i64 ((n - t.size : Nat) : Int)) ∧ Seen w w' wb bd bx jb kb n br t d F G A m c := by
  refine (RoomG h.j.kj).mono ?_
  rintro r w' ⟨rfl, hB⟩
  exact ⟨rfl, h.keep hB⟩
theorem Seen.rRoom (h : Seen w W wb bd bx jb kb n br t d F G A m c) (hz : t.size ≤ n) :
    Calls Tryz.prog 18 #[.pointer (some ⟨kb, 0, none⟩)] W fun r w' => r = .returned (.int .i64 ((n - t.size : Nat) : Int)) ∧ Seen w w' wb bd bx jb kb n br t d F G A m c := by
  obtain ⟨lv, gs, cs, lv0, hj, hr, a, b, e⟩ := h.j.kr
  refine (RRoom_any hj hr hz).mono ?_
  rintro r w' ⟨rfl, hB⟩
  exact ⟨by rw [Int.ofNat_sub hz], h.keep hB⟩
theorem Seen.content (h : Seen w W wb bd bx jb kb n br t d F G A m c) (ho : d.off = false) :
    Calls Tryz.prog 19 #[.pointer (some ⟨bd, 0, none⟩)] W fun r w' => r = .returned (.string (diskB d)) ∧ Seen w w' wb bd bx jb kb n br t d F G A m c := by
  refine (h.j.toWX.jContent ho).mono ?_
  rintro r w' ⟨rfl, rfl⟩
  exact ⟨rfl, h⟩
theorem Seen.visible (h : Seen w W wb bd bx jb kb n br t d F G A m c) :
    Calls Tryz.prog 20 #[.pointer (some ⟨bx, 0, none⟩)] W fun r w' => ∃ g cap, r = .returned (.slice (some ⟨g, 0, none⟩) n cap) ∧ (convert 39 9 (.slice (some ⟨g, 0, none⟩) n cap)).run Tryz.prog w' = .ok (.string (diskB d)) w' ∧ Seen w w' wb bd bx jb kb n br t d F G A m c := by
  refine h.j.toWX.rVisible.mono ?_
  rintro r w' ⟨g, cap, rfl, hb, hB⟩
  refine ⟨g, cap, rfl, ?_, h.keep hB⟩
  rw [hb.conv (c := cap) 0 n (by omega), List.drop_zero, List.take_of_length_le (Nat.le_of_eq h.j.toWX.facts.1)]
  rfl
end
/-- a post that knows the state behind: by it the ways through a region are joined -/
def CutQ (A : Act) (R : World → Prop) : Exit → Act → World → Prop
  | .normal, a, w => a = A ∧ R w
  | _, _, _ => False
/-- a row of one byte, as a string -/
theorem convC (c : UInt8) (W : World) : (convert 39 9 (.slice (some ⟨W.heap.size, 0, none⟩) 1 1)).run Tryz.prog (W.alloc (.cells #[.int .u8 (c.toNat : Int)] 5)) = .ok (.string ⟨#[c]⟩) (W.alloc (.cells #[.int .u8 (c.toNat : Int)] 5)) := by
  have h' : (W.alloc (.cells #[.int .u8 (c.toNat : Int)] 5)).heap[W.heap.size]? = some (.cells (bytesV [c]).toArray 5 (0, 0)) := allocAt _ rfl
  rw [run_conv_row 39 9 5 Tryz.underlying39 Tryz.underlying5 Tryz.underlying9 W.heap.size 0 1 1 _ _ h' (by simp)]
  rfl
theorem convCB (c : UInt8) (W : World) : (convert 39 9 (.slice (some ⟨W.heap.size, 0, none⟩) 1 1)).run Tryz.prog (W.drew.alloc (.cells #[.int .u8 (c.toNat : Int)] 5)) = .ok (.string ⟨#[c]⟩) (W.drew.alloc (.cells #[.int .u8 (c.toNat : Int)] 5)) := convC c W.drew
theorem convCD (c : UInt8) (W : World) : (convert 39 9 (.slice (some ⟨W.heap.size, 0, none⟩) 1 1)).run Tryz.prog (W.alloc (.cells #[.int .u8 (c.toNat : Int)] 5)).drew = .ok (.string ⟨#[c]⟩) (W.alloc (.cells #[.int .u8 (c.toNat : Int)] 5)).drew := convC c W.drew
end Go.Proofs.YthlmgookaljgnaaGreatDoor
