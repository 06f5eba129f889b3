/- The disk laws' fixed calls. -/
import Derived.Test.YtljgphmdiflphaaDiskF
namespace Go.Proofs.Ytljgphmdiflphaa
open Go.RowKit
set_option linter.unusedVariables false

theorem DiskB.read {N : Nat} {w : World} {bd n : Nat} {d : DV} (h : DiskB N w bd n d) (ho : d.off = false) (x m : Nat) (hx : x + m ≤ n) :
    Calls Try.prog 14 #[.pointer (some ⟨bd, 0, none⟩), .int .i64 (x : Int), .int .i64 (m : Int)] w fun e w' =>
      e = .returned (.tuple #[.string ⟨((d.vi.drop x).take m).toArray⟩, .int .i64 0]) ∧ w = w' := by
  obtain ⟨F, a, b, c⟩ := h
  exact readF a ho x m hx
theorem DiskB.pending {N : Nat} {w : World} {bd n : Nat} {d : DV} (h : DiskB N w bd n d) :
    Calls Try.prog 17 #[.pointer (some ⟨bd, 0, none⟩)] w fun e w' => e = .returned (.int .i64 d.pe.length) ∧ w = w' := by
  obtain ⟨F, a, b, c⟩ := h
  exact pendingF a
theorem DiskB.size {N : Nat} {w : World} {bd n : Nat} {d : DV} (h : DiskB N w bd n d) :
    Calls Try.prog 16 #[.pointer (some ⟨bd, 0, none⟩)] w fun e w' => e = .returned (.int .i64 n) ∧ w = w' := by
  obtain ⟨F, a, b, c⟩ := h
  exact sizeF a
theorem DiskB.writeOut {N : Nat} {w : World} {bd n : Nat} {d : DV} (h : DiskB N w bd n d) (ho : d.off = false) (x : Int) (s : ByteArray) (hs : s.size ≤ 9223372036854775807) (hx : -9223372036854775808 ≤ x) (h0 : ¬ (0 ≤ x ∧ x + s.size ≤ n)) :
    Calls Try.prog 21 #[.pointer (some ⟨bd, 0, none⟩), .int .i64 x, .string s] w fun e w' => e = .returned (.int .i64 250) ∧ w = w' := by
  obtain ⟨F, a, b, c⟩ := h
  exact writeF_out a ho x s hs hx h0
theorem DiskB.syncOff {N : Nat} {w : World} {bd n : Nat} {d : DV} (h : DiskB N w bd n d) (ho : d.off = true) :
    Calls Try.prog 23 #[.pointer (some ⟨bd, 0, none⟩)] w fun e w' => e = .returned (.int .i64 251) ∧ w = w' := by
  obtain ⟨F, a, b, c⟩ := h
  exact syncF_off a ho

/-- "ab", "xy", "zz", "q" -/
def sab : ByteArray := ⟨#[97, 98]⟩
def sxy : ByteArray := ⟨#[120, 121]⟩
def szz : ByteArray := ⟨#[122, 122]⟩
def sq : ByteArray := ⟨#[113]⟩
def sd2 : DV := writeD (writeD (newD 4) 0 sab) 1 sxy
def sd3 : DV := crashed sd2 [1, 0] 1
def sd4 : DV := writeD (cutD sd3 1) 3 sq

set_option maxRecDepth 100000 in
set_option maxHeartbeats 1600000 in
theorem sane_any (w : World) :
    Calls Try.prog 12 #[] w fun e w' => e = .returned (.bool true) ∧ Below w.heap.size w w' := by
  go_enter Try.func12, Try.ntmps12
  go_wp2_with fail
  refine (newB w 4 (by omega) (by omega)).mono ?_
  rintro e w1 ⟨bd, rfl, h1, b1⟩
  have H1 := Lib.hid h1
  have B1 := Lib.hid b1
  clear h1 b1
  go_wp2_with fail
  refine (New_bad w1 0 (by omega)).mono ?_
  rintro e w' ⟨rfl, rfl⟩
  go_wp2_with fail
  refine (writeB H1.out rfl 0 sab (by decide) (by decide)).mono ?_
  rintro e w2 ⟨rfl, h2, b2⟩
  have H2 := Lib.hid h2
  have B2 := Lib.hid b2
  clear h2 b2
  go_wp2_with fail
  refine (writeB H2.out rfl 1 sxy (by decide) (by decide)).mono ?_
  rintro e w3 ⟨rfl, h3, b3⟩
  have H3 := Lib.hid h3
  have B3 := Lib.hid b3
  clear h3 b3
  go_wp2_with fail
  refine (DiskB.writeOut (d := sd2) H3.out rfl 3 szz (by decide) (by omega) (by decide)).mono ?_
  rintro e w' ⟨rfl, rfl⟩
  go_wp2_with fail
  refine (DiskB.read (d := sd2) H3.out rfl 0 4 (by decide)).mono ?_
  rintro e w' ⟨rfl, rfl⟩
  rw [show (⟨((sd2.vi.drop 0).take 4).toArray⟩ : ByteArray) = ⟨#[97, 120, 121, 0]⟩ from by decide]
  go_wp2_with fail
  refine (DiskB.pending (d := sd2) H3.out).mono ?_
  rintro e w' ⟨rfl, rfl⟩
  rw [show ((sd2.pe.length : Nat) : Int) = 2 from rfl]
  go_wp2_with fail
  have hA : Below w3.heap.size w3 (w3.alloc (.cells #[.int .i64 1, .int .i64 0] 3)) := (Below.refl _ w3).alloc (Nat.le_refl _) _
  have hI : IntsAt (w3.alloc (.cells #[.int .i64 1, .int .i64 0] 3)).heap.size (w3.alloc (.cells #[.int .i64 1, .int .i64 0] 3)) (.slice (some ⟨w3.heap.size, 0, none⟩) 2 2) [1, 0] := by
    refine .inr ⟨_, _, _, rfl, by simp, fun j hj => ?_⟩
    have hb : (w3.alloc (.cells #[.int .i64 1, .int .i64 0] 3)).heap[w3.heap.size]? = some (.cells #[.int .i64 1, .int .i64 0] 3 (0, 0)) := allocAt _ rfl
    rw [cellOf hb]
    have : j < 2 := hj
    match j, this with
    | 0, _ => rfl
    | 1, _ => rfl
  refine (crashB (H3.out.below hA) [1, 0] _ 2 2 hI (by decide) (by decide) 1 (by decide) (by decide)).mono ?_
  rintro e w4 ⟨rfl, h4, b4⟩
  have H4 := Lib.hid h4
  have B4 := Lib.hid b4
  have HA := Lib.hid hA
  clear h4 b4 hI hA
  go_wp2_with fail
  refine (DiskB.read (d := sd3) H4.out rfl 0 4 (by decide)).mono ?_
  rintro e w' ⟨rfl, rfl⟩
  rw [show (⟨((sd3.vi.drop 0).take 4).toArray⟩ : ByteArray) = ⟨#[97, 120, 0, 0]⟩ from by decide]
  go_wp2_with fail
  refine (cutB (d := sd3) H4.out rfl 1 (by decide) (by decide)).mono ?_
  rintro e w5 ⟨rfl, h5, b5⟩
  have H5 := Lib.hid h5
  have B5 := Lib.hid b5
  clear h5 b5
  go_wp2_with fail
  refine (writeB H5.out rfl 3 sq (by decide) (by decide)).mono ?_
  rintro e w6 ⟨rfl, h6, b6⟩
  have H6 := Lib.hid h6
  have B6 := Lib.hid b6
  clear h6 b6
  go_wp2_with fail
  refine (DiskB.syncOff (d := sd4) H6.out (by decide)).mono ?_
  rintro e w' ⟨rfl, rfl⟩
  go_wp2_with fail
  refine (DiskB.size (d := sd4) H6.out).mono ?_
  rintro e w' ⟨rfl, rfl⟩
  go_wp2_with fail
  go_ret
  refine ⟨rfl, ?_⟩
  have hN : w.heap.size ≤ w3.heap.size := by have := B1.out.size; have := B2.out.size; have := B3.out.size; omega
  exact B1.out.trans (B2.out.trans (B3.out.trans ((HA.out.mono hN).trans (B4.out.trans (B5.out.trans B6.out)))))
end Go.Proofs.Ytljgphmdiflphaa
