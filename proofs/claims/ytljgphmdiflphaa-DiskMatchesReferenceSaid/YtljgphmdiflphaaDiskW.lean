/- Arguments of the disk laws, and what their loops keep. -/
import Derived.Test.YtljgphmdiflphaaDiskS
namespace Go.Proofs.Ytljgphmdiflphaa
open Go.RowKit
set_option linter.unusedVariables false

/-- The writes that a law is given. -/
structure WRow (w : World) (N : Nat) (a : Option Addr) (zs : List (Int × ByteArray × Bool)) : Prop where
  cell : ∀ i (h : i < zs.length), ∃ g off, a = some ⟨g, off, none⟩ ∧ g < N ∧ w.cell? ⟨g, off + i * 3, none⟩ = some (.int .i64 zs[i].1) ∧ w.cell? ⟨g, off + i * 3 + 1, none⟩ = some (.string zs[i].2.1) ∧ w.cell? ⟨g, off + i * 3 + 2, none⟩ = some (.bool zs[i].2.2)
  fit : ∀ i (h : i < zs.length), -9223372036854775808 ≤ zs[i].1 ∧ zs[i].1 ≤ 9223372036854775807 ∧ zs[i].2.1.size ≤ 9223372036854775807

theorem WRow.below {w w' : World} {N : Nat} {a : Option Addr} {zs : List (Int × ByteArray × Bool)} (h : WRow w N a zs) (hB : Below N w w') : WRow w' N a zs := by
  refine ⟨fun i hi => ?_, h.fit⟩
  obtain ⟨g, off, ha, hg, c0, c1, c2⟩ := h.cell i hi
  exact ⟨g, off, ha, hg, (hB.cell (p := ⟨g, off + i * 3, none⟩) hg).trans c0, (hB.cell (p := ⟨g, off + i * 3 + 1, none⟩) hg).trans c1, (hB.cell (p := ⟨g, off + i * 3 + 2, none⟩) hg).trans c2⟩

/-- A disk of size n with power, and a row of bytes beside it. -/
structure RB (w wr : World) (bd n g k : Nat) (d : DV) (b : List UInt8) (F : Nat → Prop) : Prop where
  dk : DiskF wr bd n d F
  off : d.off = false
  left : d.left = 0
  pe : d.pe.length ≤ k
  row : wr.heap[g]? = some (.cells (bytesV b).toArray 5 (0, 0))
  len : b.length = n
  ng : ¬ F g
  base : ∀ i, F i → w.heap.size ≤ i
  gN : w.heap.size ≤ g
  below : Below w.heap.size w wr

theorem mkBytes (n : Nat) (hn : n ≤ 4194304) (W : World) : (Instr.makeSlice 40 (.int .i64 (n : Int)) (.int .i64 (n : Int))).run Try.prog W = .ok (.slice (some ⟨W.heap.size, 0, none⟩) n n) (W.alloc (.cells (bytesV (List.replicate n 0)).toArray 5)) := by
  rw [← madeBytes]
  exact run_make_row' 40 5 (.int .u8 0) 1 Try.underlying40 Try.infoByte rfl .i64 .i64 n (by omega) (by omega) W

/-- a fresh row beside a disk -/
theorem RB.start {w w1 w2 : World} {bd n : Nat} {F : Nat → Prop} (h : DiskF w2 bd n (newD n) F) (hF : ∀ k, F k → w1.heap.size ≤ k) (h1 : Below w.heap.size w w1) (h2 : Below w1.heap.size w1 w2) :
    RB w (w2.alloc (.cells (bytesV (List.replicate n 0)).toArray 5)) bd n w2.heap.size 0 (newD n) (List.replicate n 0) F := by
  refine ⟨h.upd (((Upd.refl (fun _ => False) w2)).alloc _) (fun _ _ f => f), rfl, rfl, Nat.le_refl _, allocAt _ rfl, by simp, fun f => absurd (h.lt f) (by omega), fun k f => Nat.le_trans h1.size (hF k f), Nat.le_trans h1.size h2.size, ?_⟩
  exact (h1.trans (h2.mono h1.size)).trans (((Below.refl _ w2).alloc (Nat.le_refl _) _).mono (Nat.le_trans h1.size h2.size))

section
variable {w wr wr' : World} {bd n g k : Nat} {d : DV} {b : List UInt8} {F : Nat → Prop}

theorem RB.keep (h : RB w wr bd n g k d b F) (hB : Below wr.heap.size wr wr') : RB w wr' bd n g k d b F :=
  ⟨h.dk.upd (Upd.of_below (S := fun _ => False) hB) (fun _ _ f => f), h.off, h.left, h.pe, by rw [hB.block _ (ltOf h.row)]; exact h.row, h.len, h.ng, h.base, h.gN,
    h.below.trans (hB.mono h.below.size)⟩
theorem RB.put (h : RB w wr bd n g k d b F) {b' : List UInt8} (hr : wr'.heap[g]? = some (.cells (bytesV b').toArray 5 (0, 0))) (hb : b'.length = n) (hU : Upd (· = g) wr wr') : RB w wr' bd n g k d b' F :=
  ⟨h.dk.upd hU (fun i hi e => h.ng (e ▸ hi)), h.off, h.left, h.pe, hr, hb, h.ng, h.base, h.gN,
    h.below.trans ⟨hU.os, hU.tape, hU.output, hU.size, fun i hi => hU.block i (Nat.lt_of_lt_of_le hi h.below.size) (fun e => by have := h.gN; omega)⟩⟩
theorem RB.move (h : RB w wr bd n g k d b F) {d' : DV} {F' : Nat → Prop} {k' : Nat} (hk : DiskF wr' bd n d' F') (hM : Moves F F' wr wr') (ho : d'.off = false) (hl : d'.left = 0) (hp : d'.pe.length ≤ k') : RB w wr' bd n g k' d' b F' := by
  have hlt := ltOf h.row
  obtain ⟨h1, h2⟩ := hM.base h.base h.below.size
  refine ⟨hk, ho, hl, hp, hM.1.at h.row h.ng, h.len, fun e => ?_, h1, h.gN, h.below.trans h2⟩
  rcases hM.2 g e with e | e
  · exact h.ng e
  · omega
theorem RB.alloc (h : RB w wr bd n g k d b F) (o : Obj) : RB w (wr.alloc o) bd n g k d b F := h.keep ((Below.refl _ wr).alloc (Nat.le_refl _) o)
theorem RB.conv (h : RB w wr bd n g k d b F) (hn : n ≤ 4194304) : (convert 40 9 (.slice (some ⟨g, 0, none⟩) n n)).run Try.prog wr = .ok (.string ⟨b.toArray⟩) wr := by
  rw [run_conv_row 40 9 5 Try.underlying40 Try.underlying5 Try.underlying9 g 0 n n b _ h.row (by rw [h.len]; omega), List.drop_zero, List.take_of_length_le (by rw [h.len]; exact Nat.le_refl _)]
theorem takeB_fit (s : ByteArray) (m : Nat) : (takeB s m).size ≤ m := by rw [takeB_size]; omega
end
end Go.Proofs.Ytljgphmdiflphaa
