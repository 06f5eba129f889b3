/- The journal's laws: heads, sized. -/
import Derived.Test.YtljgphmdiflphaaGreatDoorSvL
import Derived.Test.YtljgphmdiflphaaGreatDoorRsE
import Derived.Test.YtljgphmdiflphaaGreatDoorRfI
import Derived.Test.YtljgphmdiflphaaGreatDoorDamP
namespace Go.Proofs.YtljgphmdiflphaaGreatDoor
open Go.RowKit Go.Shelf
set_option linter.unusedVariables false
set_option linter.unusedSimpArgs false

/-- the strings of which the heads are computed -/
def headsT (t : TV) : List ByteArray → List ByteArray
  | [] => []
  | r :: l => pre2 2 t.head r :: headsT (growT t r) l
theorem headsT_snoc (p : List ByteArray) : ∀ (t : TV) (r : ByteArray), headsT t (p ++ [r]) = headsT t p ++ [pre2 2 (growAll t p).head r] := by
  induction p with
  | nil => intro t r; rfl
  | cons x p ih => intro t r; rw [List.cons_append, headsT, headsT, ih]; rfl
theorem headsT_length (l : List ByteArray) : ∀ t, (headsT t l).length = l.length := by
  induction l with
  | nil => intro t; rfl
  | cons x l ih => intro t; rw [headsT, List.length_cons, ih, List.length_cons]
theorem headsT_app (p : List ByteArray) : ∀ (t : TV) (q : List ByteArray), headsT t (p ++ q) = headsT t p ++ headsT (growAll t p) q := by
  induction p with
  | nil => intro t q; rfl
  | cons x p ih => intro t q; rw [List.cons_append, headsT, headsT, ih]; rfl
theorem growAll_head (l : List ByteArray) : ∀ t : TV, t.head.size = 32 → (growAll t l).head.size = 32 := by
  induction l with
  | nil => intro t h; exact h
  | cons x l ih => intro t h; exact ih (growT t x) (by show (chainB t.head x).size = 32; rw [chainB]; exact sumB_size _)

set_option maxHeartbeats 1000000 in
theorem RHead_nil (w : World) : Calls Tryz.prog 43 #[.slice none 0 0] w fun e w' => e = .returned (.string z32) ∧ Below w.heap.size w w' := by
  have hmk := jmake32
  have hcv := jconv32 (W := w.alloc (.cells (bytesV z32.data.toList).toArray 5)) (g := w.heap.size) (allocAt _ rfl)
  go_enter Tryz.func43, Tryz.ntmps43
  go_wp2
  go_loopw [3, 4] (fun hv iv wr => hv = .string z32 ∧ iv = .int .i64 0 ∧ Below w.heap.size w wr) (fun _ _ _ => 0)
  case atStart => exact ⟨rfl, rfl, (Below.refl _ w).alloc (Nat.le_refl _) _⟩
  case round =>
    obtain ⟨rfl, rfl, hb⟩ := hrel
    have HB := Lib.hid hb
    clear hb hmk hcv
    go_wp2
    go_ret
    exact ⟨rfl, HB.out⟩

set_option maxRecDepth 100000 in
set_option maxHeartbeats 4000000 in
theorem headsJ_any (w : World) (sv : Value) (l : List ByteArray) (hsl : SL w sv l) (hlen : l.length ≤ 10000) (hs : ∀ s ∈ l, s.size ≤ 100000) :
    Calls Tryz.prog 27 #[sv] w fun e w' => ∃ v, e = .returned v ∧ w'.ownsRow w.heap.size 9 1 v l.length (strV (headsT tv0 l)) ∧ Below w.heap.size w w' := by
  obtain ⟨a, cap, rfl, hcp, hne⟩ := hsl.form
  have HNE := Lib.hid hne
  have HS := Lib.hid hs
  clear hne hs hsl
  go_enter Tryz.func27, Tryz.ntmps27
  go_wp2_with (go_at_call 43; refine (RHead_nil _).mono ?_; rintro e w1 ⟨rfl, hB1⟩; have HB1 := Lib.hid hB1; clear hB1)
  go_loopw [3, 4, 5] (fun ov hv iv wr => ∃ k : Nat, iv = .int .i64 k ∧ k ≤ l.length ∧ hv = .string (growAll tv0 (l.take k)).head ∧ wr.ownsRow w.heap.size 9 1 ov k (strV (headsT tv0 (l.take k))) ∧ Below w.heap.size w wr) (fun _ _ iv _ => l.length - (intOf iv).toNat)
  case atStart => exact ⟨0, rfl, Nat.zero_le _, rfl, World.ownsRow_nil _ _ _ _, HB1.out⟩
  case round =>
    obtain ⟨k, rfl, hk, rfl, hown, hb⟩ := hrel
    have HB := Lib.hid hb
    have HO := Lib.hid hown
    clear hb hown HB1
    by_cases h1 : k < l.length
    · obtain ⟨b, off, rfl, hbl, hcs⟩ := HNE.out (by omega)
      have hcx : wr.cell? ⟨b, off + k, none⟩ = some (.string l[k]) := (HB.out.cell (p := ⟨b, off + k, none⟩) hbl).trans (hcs k l[k] (by simp))
      have hsz := HS.out l[k] (List.getElem_mem h1)
      have e1 : l.take (k + 1) = l.take k ++ [l[k]] := by rw [List.take_succ_eq_append_getElem h1]
      have zh := growAll_head (l.take k) tv0 rfl
      have ln : (headsT tv0 (l.take k)).length = k := by rw [headsT_length, List.length_take]; omega
      have HT := Lib.hid (show headsT tv0 (l.take (k + 1)) = headsT tv0 (l.take k) ++ [pre2 2 (growAll tv0 (l.take k)).head l[k]] by rw [e1, headsT_snoc])
      have HD := Lib.hid (show (growAll tv0 (l.take (k + 1))).head = chainB (growAll tv0 (l.take k)).head l[k] by rw [e1, growAll_snoc]; rfl)
      have LN := Lib.hid ln
      have hcy : ∀ W, Below w.heap.size w W → W.cell? ⟨b, off + k, none⟩ = some (.string l[k]) := fun W hW => by
        rw [hW.cell (p := ⟨b, off + k, none⟩) hbl, ← HB.out.cell (p := ⟨b, off + k, none⟩) hbl]; exact hcx
      have CY := Lib.hid hcy
      clear ln hcy hcs HNE e1
      generalize (growAll tv0 (l.take k)).head = h at *
      generalize headsT tv0 (l.take k) = ss at *
      generalize hll : l[k] = x at *
      clear hll
      have hsb1 : ¬ 9223372036854775807 < 1 + h.size := by omega
      have hsb2 : ¬ 9223372036854775807 < 1 + h.size + x.size := by omega
      have ex : ((⟨#[2]⟩ : ByteArray) ++ h ++ x) = pre2 2 h x := rfl
      have OL := Lib.hid (own_lit wr [pre2 2 h x] w.heap.size HB.out.size (by simp))
      have OI := Lib.hid (HO.out.alloc (.cells #[.string (pre2 2 h x)] 9))
      have BA := Lib.hid (HB.out.alloc HB.out.size (.cells #[.string (pre2 2 h x)] 9))
      have hbw := HB.out.size
      have CH := Lib.hid (fun W => RChain_any h x (by omega) W)
      go_wp2_with (first
        | (at_builtin; refine wpList_append_strs rfl (.tmp 13) (.tmp 21) rfl w.heap.size u3 k ss rfl OI.out w.heap.size _ 1 [pre2 2 h x] rfl OL.out (by omega) (by simp; omega) ?_
           intro v3 W4 hown hgr
           have O4 := Lib.hid hown
           have B4 := Lib.hid (BA.out.grown hgr (by simp; omega) (fun j e => (OI.out.lt j (by first | exact e | simpa using e)).1))
           have hcz := CY.out W4 B4.out
           clear hown hgr)
        | fail)
      refine (CH.out _).mono ?_
      rintro e W5 ⟨rfl, hb5⟩
      have O5 := Lib.hid (own_below O4.out hb5)
      have B5 := Lib.hid (B4.out.trans (hb5.mono B4.out.size))
      clear hb5 hcz
      go_wp2
      go_roundw
      case rel => exact ⟨k + 1, by go_num, by omega, by rw [HD.out], by rw [HT.out]; exact O5.out, B5.out⟩
      case measure => simp [intOf]; omega
    · obtain rfl : k = l.length := by omega
      rw [List.take_length] at HO
      go_wp2
      go_ret
      exact ⟨_, rfl, HO.out, HB.out⟩

set_option maxHeartbeats 2000000 in
theorem sized_any (w : World) (sv : Value) (l : List ByteArray) (hsl : SL w sv l) (hlen : l.length ≤ 10000) (hs : ∀ s ∈ l, s.size ≤ 65536) (x : Int) (h0 : 0 ≤ x) (h1 : x ≤ 10000) :
    Calls Tryz.prog 26 #[sv, .int .i64 x] w fun e w' => e = .returned (.bool (sizedP l x)) ∧ Below w.heap.size w w' := by
  obtain ⟨a, cap, rfl, hcp, hne⟩ := hsl.form
  have HNE := Lib.hid hne
  have HS := Lib.hid hs
  clear hne hs hsl
  go_enter Tryz.func26, Tryz.ntmps26
  go_wp2
  go_loopw [1, 5] (fun av iv wr => ∃ (k : Nat) (y : Int), av = .int .i64 y ∧ iv = .int .i64 k ∧ k ≤ l.length ∧ y ≤ 10000 ∧ -((k : Int) * 100000) ≤ y ∧ sizedP l x = sizedP (l.drop k) y ∧ Below w.heap.size w wr) (fun _ iv _ => l.length - (intOf iv).toNat)
  case atStart => exact ⟨0, x, rfl, rfl, Nat.zero_le _, h1, by omega, rfl, Below.refl _ _⟩
  case round =>
    obtain ⟨k, y, rfl, rfl, hk, hy1, hy0, hz, hb⟩ := hrel
    have HB := Lib.hid hb
    have HZ := Lib.hid hz
    clear hb hz
    by_cases hlt : k < l.length
    · obtain ⟨b, off, rfl, hbl, hcs⟩ := HNE.out (by omega)
      have hcx : wr.cell? ⟨b, off + k, none⟩ = some (.string l[k]) := (HB.out.cell (p := ⟨b, off + k, none⟩) hbl).trans (hcs k l[k] (by simp))
      have hsz := HS.out l[k] (List.getElem_mem hlt)
      have PI := Lib.hid (PutIntR_any l[k].size (by omega) wr)
      have HD := Lib.hid (show l.drop k = l[k] :: l.drop (k + 1) from List.drop_eq_getElem_cons hlt)
      have hin := intS_size l[k].size
      have hcy : ∀ W, Below w.heap.size w W → W.cell? ⟨b, off + k, none⟩ = some (.string l[k]) := fun W hW => by
        rw [hW.cell (p := ⟨b, off + k, none⟩) hbl, ← HB.out.cell (p := ⟨b, off + k, none⟩) hbl]; exact hcx
      have CY := Lib.hid hcy
      clear hcs hcy
      have HZ2 := Lib.hid (show sizedP l x = if 1 ≤ y ∧ y ≤ ((intS l[k].size).size : Int) then true else sizedP (l.drop (k + 1)) (y - (1 + ((intS l[k].size).size : Int) + (l[k].size : Int) + 32)) by rw [HZ.out, HD.out]; rfl)
      clear HZ HD
      generalize hll : l[k] = r at *
      clear hll
      generalize intS r.size = n at *
      by_cases hc : 1 ≤ y ∧ y ≤ (n.size : Int)
      · obtain ⟨c1, c2⟩ := hc
        have HR := Lib.hid (show sizedP l x = true by rw [HZ2.out, if_pos ⟨c1, c2⟩])
        go_wp2_with (go_at_call 56; refine PI.out.mono ?_; rintro e w2 ⟨rfl, hB2⟩; have B2 := Lib.hid (HB.out.trans (hB2.mono HB.out.size)); clear hB2)
        go_ret
        exact ⟨by rw [HR.out]; rfl, B2.out⟩
      · have HR := Lib.hid (show sizedP l x = sizedP (l.drop (k + 1)) (y - (1 + (n.size : Int) + (r.size : Int) + 32)) by rw [HZ2.out, if_neg hc])
        have hc2 : ¬ 1 ≤ y ∨ (1 ≤ y ∧ ¬ y ≤ (n.size : Int)) := by omega
        clear hc
        rcases hc2 with hc | ⟨hc0, hc⟩
        all_goals
          go_wp2_with (go_at_call 56; refine PI.out.mono ?_; rintro e w2 ⟨rfl, hB2⟩; have B2 := Lib.hid (HB.out.trans (hB2.mono HB.out.size)); have hcz := CY.out w2 B2.out; clear hB2)
          go_roundw
          case rel => exact ⟨k + 1, _, rfl, by go_num, by omega, by omega, by omega, HR.out, B2.out⟩
          case measure => simp [intOf]; omega
    · obtain rfl : k = l.length := by omega
      have HR := Lib.hid (show sizedP l x = false by rw [HZ.out, List.drop_length]; rfl)
      go_wp2
      go_ret
      exact ⟨by rw [HR.out]; rfl, HB.out⟩
end Go.Proofs.YtljgphmdiflphaaGreatDoor
