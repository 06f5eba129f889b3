/- The disk: Crash. -/
import Derived.Sort.OwnSorted
import Derived.Lib.SlKeysI
import Derived.Lib.RowBridge
import Derived.Shelf.Slices.In.SortNone
import Derived.Test.YtljgphmdiflphaaPlainD
import Derived.Test.YtljgphmdiflphaaFunc
import Derived.Test.YtljgphmdiflphaaDiskL
import Derived.Test.YtljgphmdiflphaaShelf
import Derived.Test.YtljgphmdiflphaaSeq
import Derived.Test.YtljgphmdiflphaaDiskN
namespace Go.Proofs.Ytljgphmdiflphaa
open Go.RowKit
set_option linter.unusedVariables false

/-- A slice of numbers that the call owns. -/
def RowV (w : World) (base : Nat) (v : Value) (zs : List Int) : Prop :=
  (v = .slice none 0 0 ∧ zs = []) ∨ ∃ g cap tl, v = .slice (some ⟨g, 0, none⟩) zs.length cap ∧ base ≤ g ∧ w.heap[g]? = some (.cells (intsV zs ++ tl).toArray 3 (0, 0)) ∧ tl.length = cap - zs.length ∧ zs.length ≤ cap ∧ cap ≤ 9223372036854775807
theorem RowV.of_own {w : World} {base n : Nat} {v : Value} {zs : List Int} (h : w.ownsRow base 3 1 v n (zs.map (Value.int .i64))) : RowV w base v zs := by
  have hl : zs.length = n := by have := h.1; simpa using this
  rcases h.2 with ⟨rfl, h0⟩ | ⟨g, cap, cur, rfl, hb, hg, hn, hc, hs, htk⟩
  · exact .inl ⟨rfl, List.eq_nil_of_length_eq_zero (by omega)⟩
  · refine .inr ⟨g, cap, cur.toList.drop n, by rw [hl], hb, ?_, ?_, by omega, hc⟩
    · rw [hg, intsV, ← htk, Nat.mul_one, List.take_append_drop]
    · rw [List.length_drop, Array.length_toList, hs, hl, Nat.mul_one]

theorem Sorted_any (Bs : Nat) (sv : Value) (zs : List Int) (hreach : zs.length ≤ 100000000) (w : World) (hBs : Bs < w.heap.size)
    (hc : w.cell? ⟨Bs, 0, none⟩ = some sv) (hI : IntsAt w.heap.size w sv zs) :
    Calls Try.prog 39 #[.func (.func 47) #[] #[.pointer (some ⟨Bs, 0, none⟩)]] w fun e W' => ∃ v, e = .returned v ∧
      RowV W' w.heap.size v (zs.mergeSort fun x y => decide (x ≤ y)) ∧ Below w.heap.size w W' := by
  have CO := Lib.hid (Collect_any Bs sv zs (by omega) w hBs hc hI)
  clear hI hc
  go_enter Try.func39, Try.ntmps39
  go_wp2_with fail
  refine CO.out.mono ?_
  rintro e W ⟨v, rfl, h1, h2⟩
  have H2 := Lib.hid h2
  clear h2
  rcases h1.2 with ⟨rfl, h0⟩ | ⟨g, cap, cur, rfl, hb, hg, hn, hc, hs, htk⟩
  · obtain rfl : zs = [] := List.eq_nil_of_length_eq_zero h0
    clear h1
    go_wp2_with fail
    refine (Any.slices_Sort_int_none Try.lays189 none 0 W).mono ?_
    rintro e w' ⟨rfl, rfl⟩
    go_wp2_with fail
    go_ret
    exact ⟨_, rfl, .inl ⟨rfl, by simp⟩, H2.out⟩
  · have hH : Go.Sort.Holds (Value.int .i64) W g 0 zs.toArray := Go.Proofs.holds_of_block_i hg (by simpa using htk)
    have SO := Lib.hid (Try.slices_Sort_int g 0 cap zs W hH (ltOf hg) (by omega))
    have H1 := Lib.hid h1
    have HG := Lib.hid hg
    have HS := Lib.hid hs
    have HC := Lib.hid hc
    clear h1 hg hH htk hs hc
    go_wp2_with fail
    refine SO.out.mono ?_
    rintro e w' ⟨rfl, nn, os, hw⟩
    have HW := Lib.hid hw
    clear hw
    go_wp2_with fail
    go_ret
    have hrow := Go.Proofs.ownsRow_sorted_i (os := os) (n := nn) (ss := zs) (ts := zs.mergeSort fun x y => decide (x ≤ y)) (by simp) hb HG.out hn HC.out HS.out
    have hgr := Go.Proofs.grownBy_sorted_i (w := W) (g := g) (n := nn) (os := os) (zs.mergeSort fun x y => decide (x ≤ y)).toArray
    rw [HW.out]
    exact ⟨_, rfl, RowV.of_own hrow, H2.out.grown hgr H2.out.size (fun k e => by injection e with e; omega)⟩

open Go.Sort Go.Maps in
theorem putRow_heap {w : World} {g n : Nat} {cur : Array Value} {e : TypeId} {fr : Nat × Nat} (d : Array Int) (hb : w.heap[g]? = some (.cells cur e fr)) :
    (putRow (Value.int .i64) (Sort.ahead w n) g 0 d).heap[g]? = some (.cells (putCells (Value.int .i64) 0 d cur) e fr) := by
  have hg : g < w.heap.size := (Array.getElem?_eq_some_iff.1 hb).1
  simp [putRow, mapBlock, Sort.ahead, Array.getElem?_modify, hb, onCells]
open Go.Sort Go.Maps in
theorem putRow_grown {w : World} {g n : Nat} (d : Array Int) : w.grownBy (putRow (Value.int .i64) (Sort.ahead w n) g 0 d) (some g) := by
  refine ⟨rfl, rfl, rfl, by simp, fun k hk hne => ?_⟩
  have : g ≠ k := fun e => hne (by rw [e])
  simp [putRow, mapBlock, Sort.ahead, Array.getElem?_modify, this]
open Go.Sort in
theorem putCells_ints (zs ys : List Int) (tl : List Value) (h : ys.length = zs.length) : putCells (Value.int .i64) 0 ys.toArray (intsV zs ++ tl).toArray = (intsV ys ++ tl).toArray := by
  apply Array.ext
  · simp [putCells, intsV, h]
  · intro i h1 h2
    by_cases hi : i < ys.length
    · have hi2 : i < zs.length := by omega
      simp only [putCells, intsV, List.size_toArray, h, Nat.zero_le, Nat.zero_add, hi2, and_self, if_true, List.getElem_toArray, Array.getElem_mapIdx, List.getElem_append, List.length_map, dif_pos, List.getElem_map, Nat.sub_zero]
      simp [hi]
    · have hi' : ¬ i < zs.length := by omega
      simp [putCells, intsV, hi', List.getElem_append, h]

theorem Compact_any {w : World} {base : Nat} {v : Value} {zs : List Int} (h : RowV w base v zs) :
    Calls Try.prog 38 #[v] w fun e w' => ∃ v', e = .returned v' ∧ RowV w' base v' (Lib.compact zs) ∧ Upd (fun k => v.ownBlock = some k) w w' := by
  rcases h with ⟨rfl, rfl⟩ | ⟨g, cap, tl, rfl, hb, hg, ht, hc, hc6⟩
  · refine (Try.slices_Compact_int_empty none 0 w).mono ?_
    rintro e w' ⟨rfl, rfl⟩
    exact ⟨_, rfl, .inl ⟨rfl, rfl⟩, Upd.refl _ _⟩
  · have hH : Go.Sort.Holds (Value.int .i64) w g 0 zs.toArray := Go.Proofs.holds_of_block_i hg (by simp [intsV])
    have hcl := Lib.compact_length_le zs
    refine (Try.slices_Compact_int g 0 cap zs w hH (by omega) hc).mono ?_
    rintro e w' ⟨rfl, q, rfl⟩
    refine ⟨_, rfl, .inr ⟨g, cap, (List.replicate (zs.length - (Lib.compact zs).length) (0 : Int)).map (Value.int .i64) ++ tl, rfl, hb, ?_, ?_, by omega, hc6⟩, (Upd.refl _ w).grown (putRow_grown _) fun k e => .inl (by injection e with e; subst e; rfl)⟩
    · rw [putRow_heap _ hg, putCells_ints _ _ _ (by rw [List.length_append, List.length_replicate]; omega)]
      simp [intsV, List.map_append, List.append_assoc]
    · rw [List.length_append, List.length_map, List.length_replicate, ht]; omega

section
variable {w : World} {bd bu bv : Nat} {pv : Value} {n : Nat} {d : DV}

set_option maxHeartbeats 400000 in
theorem crash1_any (h : DiskAt w bd bu bv pv n d) (B : Nat) (hB : w.cell? ⟨B, 0, none⟩ = some (.pointer (some ⟨bd, 0, none⟩))) (i : Int) :
    Calls Try.prog 42 #[.int .i64 i, .pointer (some ⟨B, 0, none⟩)] w fun e w' => e = .returned (.bool (outB d.pe.length i)) ∧ w = w' := by
  obtain ⟨A, c, hv⟩ : ∃ A c, pv = .slice A d.pe.length c := by
    rcases h.hp.2 with ⟨e, e0⟩ | ⟨g, cap, cur, e, _⟩
    · exact ⟨none, 0, by rw [e, e0]⟩
    · exact ⟨_, cap, e⟩
  have c4 : w.cell? ⟨bd, 4, none⟩ = some (.slice A d.pe.length c) := by rw [cellOf h.hd, ← hv]; rfl
  clear h hv
  by_cases a0 : i < 0
  · have b0 : decide (i < 0) = true := by simpa using a0
    have e : outB d.pe.length i = true := by simp [outB, a0]
    have E := Lib.hid e
    clear e
    go_enter Try.func42, Try.ntmps42
    go_wp2
    go_ret
    exact ⟨by rw [E.out]; rfl, rfl⟩
  · have b0 : decide (i < 0) = false := by simpa using a0
    have e : outB d.pe.length i = decide ((d.pe.length : Int) ≤ i) := by simp [outB, a0]
    have E := Lib.hid e
    clear e
    go_enter Try.func42, Try.ntmps42
    go_wp2
    go_ret
    exact ⟨by rw [E.out]; rfl, rfl⟩
end
end Go.Proofs.Ytljgphmdiflphaa
