/- Digests of marked strings; the small functions of trees. -/
import Derived.Test.YtljgphmdiflphaaDoorSum
import Derived.Test.YtljgphmdiflphaaDoorShelf
import Derived.Test.YtljgphmdiflphaaDoorDig
import Derived.Deep.RegionWith
namespace Go.Proofs.YtljgphmdiflphaaDoor
open Go.RowKit
set_option linter.unusedVariables false

/-- a byte, and strings one after the other -/
def catB (m : UInt8) (l : List ByteArray) : ByteArray := ⟨(m :: l.flatMap (·.data.toList)).toArray⟩
def leafB (s : ByteArray) : ByteArray := sumB (catB 0 [s])
def nodeB (a b : ByteArray) : ByteArray := sumB (catB 1 [a, b])
def chainB (h r : ByteArray) : ByteArray := sumB (catB 2 [h, r])
theorem catB_size (m : UInt8) (l : List ByteArray) : (catB m l).size = 1 + (l.map (·.size)).sum := by
  show (m :: l.flatMap (·.data.toList)).toArray.size = _
  rw [List.size_toArray, List.length_cons, List.length_flatMap, Nat.add_comm]
  rfl

theorem _root_.Go.RowKit.Below.of_drew {B : Nat} {w w' : World} (h : Below B w.drew w') : Below B w w' := ⟨h.os, h.tape, h.output, h.size, h.block⟩
theorem _root_.Go.RowKit.Below.of_drewN {B n : Nat} {w w' : World} (h : Below B (w.drewN n) w') : Below B w w' := ⟨h.os, h.tape, h.output, h.size, h.block⟩

theorem join_empty (l : List (List UInt8)) : Lib.join l [] = l.flatten := by
  induction l with
  | nil => rfl
  | cons x l ih =>
    cases l with
    | nil => simp [Lib.join]
    | cons y l => simp [Lib.join] at ih ⊢; exact ih

set_option maxRecDepth 100000 in
set_option maxHeartbeats 2000000 in
theorem marked1_any (m : UInt8) (bm : Nat) (bk c : Nat) (xs : List ByteArray) (w : World) (hm : w.cell? ⟨bm, 0, none⟩ = some (.string ⟨#[m]⟩)) (hbm : bm < w.heap.size) (hcells : ∀ (j : Nat) x, xs[j]? = some x → w.cell? ⟨bk, 0 + j, none⟩ = some (.string x)) (hbk : bk < w.heap.size)
    (hN : xs.length ≤ c) (hlen : (xs.map (·.size)).sum ≤ 900000) (hx : xs.length ≤ 100000) (hR : RoundLaid w) :
    Calls Tryd.prog 89 #[.slice (some ⟨bk, 0, none⟩) xs.length c, .pointer (some ⟨bm, 0, none⟩)] w fun e w' => e = .returned (.string (sumB (catB m xs))) ∧ Below w.heap.size w w' := by
  have hjl : Lib.join (xs.map (·.data.toList)) (⟨#[]⟩ : ByteArray).data.toList = xs.flatMap (·.data.toList) := by
    rw [show (⟨#[]⟩ : ByteArray).data.toList = [] from rfl, join_empty, List.flatMap_def]
  have hfl : (xs.flatMap (·.data.toList)).length = (xs.map (·.size)).sum := by rw [List.length_flatMap]; rfl
  have JN := Lib.hid (fun W (hc : ∀ (j : Nat) x, xs[j]? = some x → W.cell? ⟨bk, 0 + j, none⟩ = some (.string x)) (hb : bk < W.heap.size) => Tryd.strings_Join bk 0 c xs ⟨#[]⟩ W hc hb (by omega) hN (by rw [hjl, hfl]; omega))
  rw [hjl] at JN
  have hcat : (⟨#[m]⟩ : ByteArray) ++ ⟨(xs.flatMap (·.data.toList)).toArray⟩ = catB m xs := by
    unfold catB
    apply ByteArray.ext
    simp
  obtain ⟨jn, hjn⟩ : ∃ jn : ByteArray, (⟨(xs.flatMap (·.data.toList)).toArray⟩ : ByteArray) = jn := ⟨_, rfl⟩
  have hjs : jn.size ≤ 900000 := by rw [← hjn]; show (xs.flatMap (·.data.toList)).toArray.size ≤ _; rw [List.size_toArray, hfl]; exact hlen
  have hjb : ¬ 9223372036854775807 < 1 + jn.size := by omega
  rw [hjn] at JN hcat
  clear hjn
  have SU := Lib.hid (fun W => Sum_any (catB m xs) (by rw [catB_size]; omega) W)
  rw [← hcat] at SU
  have HC := Lib.hid hcat
  have HR := Lib.hid hR
  have HCE := Lib.hid hcells
  clear hcat hjl hfl hcells hR
  go_enter Tryd.func89, Tryd.ntmps89
  go_wp2
  go_region_held3 (fun w' => w'.cell? ⟨bm, 0, none⟩ = some (.string ⟨#[m]⟩))
    ((first | go_keep))
    (first
      | (go_at_call 90
         refine (JN.out _ (by exact fun j x hj => HCE.out j x hj) (by exact hbk)).mono ?_
         rintro e w2 ⟨rfl, h2⟩
         have H2 : Hid (Below w.heap.size w w2) := Lib.hid h2.of_drew
         have hm2 : w2.cell? ⟨bm, 0, none⟩ = some (.string ⟨#[m]⟩) := (H2.out.cell (p := ⟨bm, 0, none⟩) hbm).trans hm
         clear h2)
      | (go_at_call 29
         refine (SU.out _ (HR.out.below H2.out)).mono ?_
         rintro e w3 ⟨rfl, h3⟩
         have H3 : Hid (Below w.heap.size w w3) := Lib.hid (H2.out.trans (h3.mono H2.out.size))
         have hm3 : w3.cell? ⟨bm, 0, none⟩ = some (.string ⟨#[m]⟩) := (H3.out.cell (p := ⟨bm, 0, none⟩) hbm).trans hm
         clear h3))
  rw [HC.out]
  go_wp2
  go_ret
  exact ⟨rfl, H3.out⟩

set_option maxHeartbeats 1000000 in
theorem marked_any (m : ByteArray) (w : World) :
    Calls Tryd.prog 63 #[.string m] w fun e w' => e = .returned (.func (.func 89) #[] #[.pointer (some ⟨w.heap.size, 0, none⟩)]) ∧ w.alloc (.cells #[.string m] 9) = w' := by
  go_enter Tryd.func63, Tryd.ntmps63
  go_wp2
  go_ret
  exact ⟨rfl, rfl⟩

theorem two_cells {w : World} (o : Obj) (t : TypeId) (xs : List ByteArray) : ∀ (j : Nat) x, xs[j]? = some x → ((w.alloc o).alloc (.cells (xs.map Value.string).toArray t)).cell? ⟨w.heap.size + 1, 0 + j, none⟩ = some (.string x) := fun j x hj => by
  rw [Nat.zero_add, cellOf (allocAt _ (by simp)) j]
  simp [hj]

set_option maxRecDepth 100000 in
set_option maxHeartbeats 1000000 in
theorem Leaf_any (s : ByteArray) (hs : s.size ≤ 900000) (w : World) (hR : RoundLaid w) :
    Calls Tryd.prog 28 #[.string s] w fun e w' => e = .returned (.string (leafB s)) ∧ Below w.heap.size w w' := by
  have hb : Below w.heap.size w ((w.alloc (.cells #[.string ⟨#[0]⟩] 9)).alloc (.cells #[.string s] 9)) := ((Below.refl _ w).alloc (Nat.le_refl _) _).alloc (by simp) _
  have M := Lib.hid (marked1_any 0 w.heap.size (w.heap.size + 1) 1 [s] _ (by rw [cellOf (by rw [allocOld (by simp)]; exact allocAt _ rfl)]; rfl) (by simp; omega) (two_cells (w := w) (.cells #[.string ⟨#[0]⟩] 9) 9 [s]) (by simp) (by simp) (by simpa using hs) (by simp) (hR.below hb))
  have HB := Lib.hid hb
  clear hb hR
  go_enter Tryd.func28, Tryd.ntmps28
  go_wp2_with fail
  refine (marked_any _ _).mono ?_
  rintro e w' ⟨rfl, rfl⟩
  go_wp2_with fail
  refine M.out.mono ?_
  rintro e w' ⟨rfl, h2⟩
  have H2 := Lib.hid h2
  clear h2
  go_wp2_with fail
  go_ret
  exact ⟨rfl, HB.out.trans (H2.out.mono (by simp; omega))⟩

set_option maxRecDepth 100000 in
set_option maxHeartbeats 1000000 in
theorem Node_any (a b : ByteArray) (hs : a.size + b.size ≤ 900000) (w : World) (hR : RoundLaid w) :
    Calls Tryd.prog 31 #[.string a, .string b] w fun e w' => e = .returned (.string (nodeB a b)) ∧ Below w.heap.size w w' := by
  have hb : Below w.heap.size w ((w.alloc (.cells #[.string ⟨#[1]⟩] 9)).alloc (.cells #[.string a, .string b] 9)) := ((Below.refl _ w).alloc (Nat.le_refl _) _).alloc (by simp) _
  have M := Lib.hid (marked1_any 1 w.heap.size (w.heap.size + 1) 2 [a, b] _ (by rw [cellOf (by rw [allocOld (by simp)]; exact allocAt _ rfl)]; rfl) (by simp; omega) (two_cells (w := w) (.cells #[.string ⟨#[1]⟩] 9) 9 [a, b]) (by simp) (by simp) (by simpa using hs) (by simp) (hR.below hb))
  have HB := Lib.hid hb
  clear hb hR
  go_enter Tryd.func31, Tryd.ntmps31
  go_wp2_with fail
  refine (marked_any _ _).mono ?_
  rintro e w' ⟨rfl, rfl⟩
  go_wp2_with fail
  refine M.out.mono ?_
  rintro e w' ⟨rfl, h2⟩
  have H2 := Lib.hid h2
  clear h2
  go_wp2_with fail
  go_ret
  exact ⟨rfl, HB.out.trans (H2.out.mono (by simp; omega))⟩

set_option maxRecDepth 100000 in
set_option maxHeartbeats 1000000 in
theorem Chain_any (a b : ByteArray) (hs : a.size + b.size ≤ 900000) (w : World) (hR : RoundLaid w) :
    Calls Tryd.prog 35 #[.string a, .string b] w fun e w' => e = .returned (.string (chainB a b)) ∧ Below w.heap.size w w' := by
  have hb : Below w.heap.size w ((w.alloc (.cells #[.string ⟨#[2]⟩] 9)).alloc (.cells #[.string a, .string b] 9)) := ((Below.refl _ w).alloc (Nat.le_refl _) _).alloc (by simp) _
  have M := Lib.hid (marked1_any 2 w.heap.size (w.heap.size + 1) 2 [a, b] _ (by rw [cellOf (by rw [allocOld (by simp)]; exact allocAt _ rfl)]; rfl) (by simp; omega) (two_cells (w := w) (.cells #[.string ⟨#[2]⟩] 9) 9 [a, b]) (by simp) (by simp) (by simpa using hs) (by simp) (hR.below hb))
  have HB := Lib.hid hb
  clear hb hR
  go_enter Tryd.func35, Tryd.ntmps35
  go_wp2_with fail
  refine (marked_any _ _).mono ?_
  rintro e w' ⟨rfl, rfl⟩
  go_wp2_with fail
  refine M.out.mono ?_
  rintro e w' ⟨rfl, h2⟩
  have H2 := Lib.hid h2
  clear h2
  go_wp2_with fail
  go_ret
  exact ⟨rfl, HB.out.trans (H2.out.mono (by simp; omega))⟩
end Go.Proofs.YtljgphmdiflphaaDoor
