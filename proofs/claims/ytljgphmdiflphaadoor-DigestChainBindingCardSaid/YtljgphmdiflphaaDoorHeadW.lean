/- heads: the strings of which the head of a list of records is computed. -/
import Derived.Test.YtljgphmdiflphaaDoorApp
import Derived.Test.YtljgphmdiflphaaDoorHeadP
namespace Go.Proofs.YtljgphmdiflphaaDoor
open Go.RowKit
set_option linter.unusedVariables false

theorem take_rev (l : List ByteArray) (k : Nat) (h : k < l.length) : (l.take (k + 1)).reverse = l[k] :: (l.take k).reverse := by
  rw [List.take_succ_eq_append_getElem h]; simp

set_option maxRecDepth 100000 in
set_option maxHeartbeats 4000000 in
theorem heads_any (w : World) (sv : Value) (l : List ByteArray) (hsl : SL w sv l) (hlen : l.length ≤ 1000) (hs : ∀ s ∈ l, s.size ≤ 100000) (hR : RoundLaid w) :
    Calls Tryd.prog 37 #[sv] w fun e w' => ∃ v, e = .returned (.tuple #[v, .string (hdR l.reverse)]) ∧ w'.ownsRow w.heap.size 9 1 v l.length (strV (stR l.reverse)) ∧ Below w.heap.size w w' := by
  obtain ⟨a, cap, rfl, hcp, hne⟩ := hsl.form
  have HNE := Lib.hid hne
  have HS := Lib.hid hs
  have HR := Lib.hid hR
  clear hne hs hsl hR
  have hmk : ∀ w, (Instr.makeSlice 45 (.int .i64 32) (.int .i64 32)).run Tryd.prog w = .ok (.slice (some ⟨w.heap.size, 0, none⟩) 32 32) (w.alloc (.cells (bytesV z32.data.toList).toArray 5)) := fun _ => by kernel_rfl
  have hcv : (convert 45 9 (.slice (some ⟨w.heap.size, 0, none⟩) 32 32)).run Tryd.prog (w.alloc (.cells (bytesV z32.data.toList).toArray 5)) = .ok (.string z32) (w.alloc (.cells (bytesV z32.data.toList).toArray 5)) := by
    rw [run_conv_row 45 9 5 Tryd.underlying45 Tryd.underlying5 Tryd.underlying9 w.heap.size 0 32 32 _ _ (allocAt _ rfl) (by decide)]
    rfl
  obtain ⟨W0, hW0⟩ : ∃ W0, w.alloc (.cells (bytesV z32.data.toList).toArray 5) = W0 := ⟨_, rfl⟩
  have B0 : Below w.heap.size w W0 := by rw [← hW0]; exact (Below.refl _ w).alloc (Nat.le_refl _) _
  have BH := Lib.hid B0
  rw [hW0] at hcv
  have hmk0 := hmk w
  rw [hW0] at hmk0
  clear hmk hW0 B0
  go_enter Tryd.func37, Tryd.ntmps37
  go_wp2
  go_loopw [4, 5, 6] (fun hv ov iv wr => ∃ k : Nat, iv = .int .i64 k ∧ k ≤ l.length ∧ hv = .string (hdR (l.take k).reverse) ∧ wr.ownsRow w.heap.size 9 1 ov k (strV (stR (l.take k).reverse)) ∧ Below w.heap.size w wr) (fun _ _ iv _ => l.length - (intOf iv).toNat)
  case atStart => exact ⟨0, rfl, Nat.zero_le _, rfl, World.ownsRow_nil _ _ _ _, BH.out⟩
  case round =>
    obtain ⟨k, rfl, hk, rfl, hown, hb⟩ := hrel
    have HB := Lib.hid hb
    have HO := Lib.hid hown
    clear hb hown hcv hmk0
    by_cases h1 : k < l.length
    · obtain ⟨b, off, rfl, hbl, hcs⟩ := HNE.out (by omega)
      have hcx : wr.cell? ⟨b, off + k, none⟩ = some (.string l[k]) := (HB.out.cell (p := ⟨b, off + k, none⟩) hbl).trans (hcs k l[k] (by simp))
      have hsz := HS.out l[k] (List.getElem_mem h1)
      have TR := Lib.hid (take_rev l k h1)
      have zh := hdR_size (l.take k).reverse
      have ln : (stR (l.take k).reverse).length = k := by rw [stR_length, List.length_reverse, List.length_take]; omega
      have LN := Lib.hid ln
      generalize (l.take k).reverse = T at *
      generalize hll : l[k] = x at *
      clear hll ln hcs HNE
      have HD : Hid (hdR (x :: T) = chainB (hdR T) x) := Lib.hid rfl
      have HT : Hid (stR (x :: T) = pre2 2 (hdR T) x :: stR T) := Lib.hid rfl
      generalize hdR T = h at *
      generalize stR T = ss at *
      have hsb1 : ¬ 9223372036854775807 < 1 + h.size := by omega
      have hsb2 : ¬ 9223372036854775807 < 1 + h.size + x.size := by omega
      have ex : ((⟨#[2]⟩ : ByteArray) ++ h ++ x) = pre2 2 h x := rfl
      have OL := Lib.hid (own_lit wr [pre2 2 h x] w.heap.size HB.out.size (by simp))
      have OI := Lib.hid (HO.out.alloc (.cells #[.string (pre2 2 h x)] 9))
      have BA := Lib.hid (HB.out.alloc HB.out.size (.cells #[.string (pre2 2 h x)] 9))
      have hk1000 : k ≤ 1000 := by omega
      have hbw := HB.out.size
      have CH := Lib.hid (fun W (r : RoundLaid W) => Chain_any h x (by omega) W r)
      have hcy : ∀ W, Below w.heap.size w W → W.cell? ⟨b, off + k, none⟩ = some (.string x) := fun W hW => by
        rw [hW.cell (p := ⟨b, off + k, none⟩) hbl, ← HB.out.cell (p := ⟨b, off + k, none⟩) hbl]; exact hcx
      have CY := Lib.hid hcy
      clear hcy
      go_wp2_with (at_builtin; refine wpList_append_strs rfl (.tmp 22) (.tmp 23) rfl w.heap.size _ 1 [pre2 2 h x] rfl OL.out w.heap.size u5 k ss rfl OI.out (by omega) (by simp; omega) ?_; intro v3 W4 hown hgr; have O4 := Lib.hid hown; have B4 := Lib.hid (BA.out.grown hgr (by simp; omega) (fun j e => (OL.out.lt j (by first | exact e | simpa using e)).1)); have HR4 := Lib.hid (HR.out.below B4.out); have hcz := CY.out W4 B4.out; clear hown hgr hcx)
      refine (CH.out _ HR4.out).mono ?_
      rintro e W5 ⟨rfl, hb5⟩
      have O5 := Lib.hid (own_below O4.out hb5)
      have B5 := Lib.hid (B4.out.trans (hb5.mono B4.out.size))
      clear hb5 hcz
      go_wp2
      go_roundw
      case rel =>
        have R : W5.ownsRow w.heap.size 9 1 v3 (k + 1) (strV (pre2 2 h x :: ss)) := by have := O5.out; rwa [show 1 + k = k + 1 by omega] at this
        first | exact ⟨k + 1, by go_num, by omega, by rw [TR.out, HD.out], by rw [TR.out, HT.out]; exact R, B5.out⟩ | ((repeat apply Exists.intro); exact ⟨⟨k + 1, by go_num, by omega, by rw [TR.out, HD.out], by rw [TR.out, HT.out]; exact R, B5.out⟩, rfl⟩)
      case measure => simp [intOf]; omega
    · obtain rfl : k = l.length := by omega
      rw [List.take_length] at HO ⊢
      go_wp2
      go_ret2
      exact ⟨_, rfl, HO.out, HB.out⟩
end Go.Proofs.YtljgphmdiflphaaDoor
