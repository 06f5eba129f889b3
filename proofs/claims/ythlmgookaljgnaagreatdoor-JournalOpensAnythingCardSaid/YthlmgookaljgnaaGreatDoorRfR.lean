/- The reference's journal: Room, Head, Stored. -/
import Derived.Test.YthlmgookaljgnaaGreatDoorRfO
namespace Go.Proofs.YthlmgookaljgnaaGreatDoor
open Go.RowKit Go.Shelf
set_option linter.unusedVariables false
set_option linter.unusedSimpArgs false

set_option maxHeartbeats 1000000 in
theorem RRoom_any {w : World} {jb bx n gs cs : Nat} {lv lv0 : Value} {br : Bool} {t : TV} {d : DV} (h : RJAt w jb bx lv br t) (h1 : RefAt w bx gs cs lv0 n d) (hz : t.size ≤ n) :
    Calls Tryz.prog 18 #[.pointer (some ⟨jb, 0, none⟩)] w fun e w' => e = .returned (.int .i64 ((n : Int) - (t.size : Int))) ∧ Below w.heap.size w w' := by
  have c0 : w.cell? ⟨jb, 0, none⟩ = some (.pointer (some ⟨bx, 0, none⟩)) := cellOf h.cells 0
  have c2 : w.cell? ⟨jb, 2, none⟩ = some (.int .i64 (t.size : Int)) := cellOf h.cells 2
  have c3 : w.cell? ⟨bx, 0, none⟩ = some (.slice (some ⟨gs, 0, none⟩) n cs) := cellOf h1.hd 0
  have hn := h1.hi
  have hw : IntKind.i64.wrap ((n : Int) - (t.size : Int)) = (n : Int) - (t.size : Int) := by rw [IntKind.wrap_i64]; omega
  clear h h1
  go_enter Tryz.func18, Tryz.ntmps18
  go_wp2
  go_region_held3 (fun w' => w'.cell? ⟨jb, 0, none⟩ = some (.pointer (some ⟨bx, 0, none⟩)) ∧ w'.cell? ⟨jb, 2, none⟩ = some (.int .i64 (t.size : Int)) ∧ w'.cell? ⟨bx, 0, none⟩ = some (.slice (some ⟨gs, 0, none⟩) n cs))
    (exact ⟨c0, c2, c3⟩)
    (fail)
  all_goals
    go_wp2
    go_ret
    exact ⟨rfl, (Below.refl _ _).drew⟩

set_option maxHeartbeats 1000000 in
theorem RStored_any (h r : ByteArray) (hh : h.size = 32) (hr : r.size ≤ 65536) (w : World) :
    Calls Tryz.prog 36 #[.string h, .string r] w fun e w' => e = .returned (.tuple #[.string (recE h r), .string (chainB h r)]) ∧ Below w.heap.size w w' := by
  have CH := Lib.hid (fun W => RChain_any h r (by omega) W)
  have PS := Lib.hid (fun W => PutStringR_any r hr W)
  have hps : (putS r).size ≤ 100000 := by have := intS_size r.size; rw [putS, ByteArray.size_append]; omega
  have hc : (chainB h r).size = 32 := sumB_size _
  have HE : Hid (recE h r = ⟨#[1]⟩ ++ putS r ++ chainB h r) := Lib.hid rfl
  have hsb1 : ¬ 9223372036854775807 < 1 + (putS r).size := by omega
  have hsb2 : ¬ 9223372036854775807 < 1 + (putS r).size + (chainB h r).size := by omega
  go_enter Tryz.func36, Tryz.ntmps36
  go_wp2_with (first
    | (go_at_call 58; refine (CH.out _).mono ?_; rintro e w4 ⟨rfl, hB4⟩; have HB4 := Lib.hid hB4; clear hB4)
    | (go_at_call 59; refine (PS.out _).mono ?_; rintro e w5 ⟨rfl, hB5⟩; have HB5 := Lib.hid hB5; clear hB5)
    | fail)
  refine bodyPost_ret (results_tmp2 rfl _ _ _) rfl ?_
  exact ⟨rfl, HB4.out.trans (HB5.out.mono HB4.out.size)⟩

set_option maxRecDepth 100000 in
set_option maxHeartbeats 1000000 in
theorem RHead_any (w : World) (sv : Value) (l : List ByteArray) (hsl : SL w sv l) (hlen : l.length ≤ 100000) (hs : ∀ s ∈ l, s.size ≤ 65536) :
    Calls Tryz.prog 35 #[sv] w fun e w' => e = .returned (.string (growAll tv0 l).head) ∧ Below w.heap.size w w' := by
  obtain ⟨a, cap, rfl, hcp, hne⟩ := hsl.form
  have HNE := Lib.hid hne
  have HS := Lib.hid hs
  have hmk := jmake32
  have hcv := jconv32 (W := w.alloc (.cells (bytesV z32.data.toList).toArray 5)) (g := w.heap.size) (allocAt _ rfl)
  clear hne hs hsl
  go_enter Tryz.func35, Tryz.ntmps35
  go_wp2
  go_loopw [3, 4] (fun hv iv wr => ∃ k : Nat, iv = .int .i64 k ∧ k ≤ l.length ∧ hv = .string (growAll tv0 (l.take k)).head ∧ Below w.heap.size w wr) (fun _ iv _ => l.length - (intOf iv).toNat)
  case atStart => exact ⟨0, rfl, Nat.zero_le _, rfl, (Below.refl _ w).alloc (Nat.le_refl _) _⟩
  case round =>
    obtain ⟨k, rfl, hk, rfl, hb⟩ := hrel
    have HB := Lib.hid hb
    clear hb hmk hcv
    by_cases h1 : k < l.length
    · obtain ⟨b, off, rfl, hbl, hcs⟩ := HNE.out (by omega)
      have hcx : wr.cell? ⟨b, off + k, none⟩ = some (.string l[k]) := (HB.out.cell (p := ⟨b, off + k, none⟩) hbl).trans (hcs k l[k] (by simp))
      have hsz := HS.out l[k] (List.getElem_mem h1)
      have e1 : l.take (k + 1) = l.take k ++ [l[k]] := by rw [List.take_succ_eq_append_getElem h1]
      have zh := growAll_head (l.take k) tv0 rfl
      have HD := Lib.hid (show (growAll tv0 (l.take (k + 1))).head = chainB (growAll tv0 (l.take k)).head l[k] by rw [e1, growAll_snoc]; rfl)
      clear hcs HNE e1
      generalize (growAll tv0 (l.take k)).head = h at *
      generalize l[k] = r at *
      have CH := Lib.hid (fun W => RChain_any h r (by omega) W)
      have h1i : (k : Int) < (l.length : Int) := by omega
      go_wp2_with (first
        | (go_at_call 58; refine (CH.out _).mono ?_; rintro e w4 ⟨rfl, hB4⟩; have HB4 := Lib.hid hB4; clear hB4)
        | fail)
      go_round
      case measure => simp only [intOf]; omega
      case rel => exact ⟨k + 1, by push_cast; rfl, by omega, by rw [HD.out], HB.out.trans (HB4.out.mono HB.out.size)⟩
    · have hkl : k = l.length := by omega
      subst hkl
      have e1 : l.take l.length = l := List.take_length
      have h1i : ¬ ((l.length : Nat) : Int) < (l.length : Int) := by omega
      rw [e1]
      go_wp2
      go_ret
      exact ⟨rfl, HB.out⟩
end Go.Proofs.YthlmgookaljgnaaGreatDoor
