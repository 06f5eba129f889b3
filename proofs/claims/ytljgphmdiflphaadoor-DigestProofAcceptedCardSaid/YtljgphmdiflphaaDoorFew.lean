/- few. -/
import Derived.Test.YtljgphmdiflphaaDoorHex
namespace Go.Proofs.YtljgphmdiflphaaDoor
open Go.RowKit
set_option linter.unusedVariables false

def cut60 (s : ByteArray) : ByteArray := s.extract 0 (min s.size 60)
theorem cut60_size (s : ByteArray) : (cut60 s).size ≤ 60 := by unfold cut60; simp only [ByteArray.size_extract]; omega
def fewB (l : List ByteArray) (n : Nat) : List ByteArray := (l.take n).map cut60
theorem fewB_snoc (l : List ByteArray) (k : Nat) (h : k < l.length) : fewB l (k + 1) = fewB l k ++ [cut60 l[k]] := by
  unfold fewB; rw [List.take_succ_eq_append_getElem h, List.map_append]; rfl
theorem fewB_length (l : List ByteArray) (n : Nat) : (fewB l n).length = min n l.length := by simp [fewB]
theorem fewB_small (l : List ByteArray) (n : Nat) : ∀ s ∈ fewB l n, s.size ≤ 60 := by
  intro s hs
  obtain ⟨x, _, rfl⟩ := List.mem_map.1 hs
  exact cut60_size x

set_option maxHeartbeats 2000000 in
set_option maxRecDepth 100000 in
theorem few_any (w : World) (sv : Value) (l : List ByteArray) (hsl : SL w sv l) (hlen : l.length ≤ 9223372036854775807) (hs : ∀ s ∈ l, s.size ≤ 9223372036854775807) (n : Nat) (hn : n ≤ 1000) :
    Calls Tryd.prog 14 #[sv, .int .i64 (n : Int)] w fun e w' => ∃ v, e = .returned v ∧ w'.ownsRow w.heap.size 9 1 v (fewB l n).length (strV (fewB l n)) ∧ Below w.heap.size w w' := by
  obtain ⟨i9, hi9, hz9, hy9, hb9⟩ := info_parts Tryd.infoStr
  obtain ⟨a, cap, rfl, hcp, hne⟩ := hsl.form
  have HNE := Lib.hid hne
  have HS := Lib.hid hs
  clear hne hs hsl
  go_enter Tryd.func14, Tryd.ntmps14
  go_wp2
  go_loopw [5, 6] (fun ov iv wr => ∃ (k : Nat), iv = .int .i64 k ∧ k ≤ l.length ∧ k ≤ n ∧ wr.ownsRow w.heap.size 9 1 ov k (strV (fewB l k)) ∧ Below w.heap.size w wr) (fun _ iv _ => l.length - (intOf iv).toNat)
  case atStart => exact ⟨0, rfl, Nat.zero_le _, Nat.zero_le _, World.ownsRow_nil _ _ _ _, Below.refl _ _⟩
  case round =>
    obtain ⟨k, rfl, hk, hkn, hown, hb⟩ := hrel
    have HB := Lib.hid hb
    have HO := Lib.hid hown
    clear hb hown
    by_cases h1 : k < l.length
    · by_cases h2 : k < n
      · obtain ⟨b, off, rfl, hbl, hcs⟩ := HNE.out (by omega)
        have hcx : wr.cell? ⟨b, off + k, none⟩ = some (.string l[k]) := (HB.out.cell (p := ⟨b, off + k, none⟩) hbl).trans (hcs k l[k] (by simp))
        have hsz := HS.out l[k] (List.getElem_mem h1)
        have SN := Lib.hid (fewB_snoc l k h1)
        obtain ⟨mn, hmn⟩ : ∃ mn, min l[k].size 60 = mn := ⟨_, rfl⟩
        have hm : min (l[k].size : Int) 60 = (mn : Int) := by omega
        have hm1 : (mn : Int) ≤ (l[k].size : Int) := by omega
        have CU : Hid (cut60 l[k] = l[k].extract 0 mn) := Lib.hid (by rw [← hmn]; rfl)
        generalize hll : l[k] = x at *
        clear hcs HNE hll hmn
        go_wp2
        go_region_law (refine step_append_lies _ (by rfl) _ _ _ (by rfl) w.heap.size 9 i9 _ 1 16 Tryd.underlying22 hi9 hz9 hy9 hb9 rfl (by omega) u5 k _ (by rfl) (by first | exact (HO.out.alloc _).drew | exact HO.out.drew.alloc _ | exact HO.out.alloc _) ⟨wr.heap.size, 0, none⟩ 1 1 [.string (x.extract 0 mn)] (by rfl) (by rfl) (World.news_of_block (cs := #[.string (x.extract 0 mn)]) (t := 9) (fr := (0, 0)) (by first | exact heap_alloc_new _ _ | (rw [drewHeap]; exact heap_alloc_new _ _))) (by simp [Value.oneCell']) (by omega) (by simp only [maxLen]; omega) (by omega) (by have := HB.out.size; simp; omega) (wr.heap.size + 1) (by simp) ?_
                       intro gg c3 W6 hown hgr hat hlt6)
        all_goals
          have O6 := Lib.hid hown
          have B6 : Hid (Below w.heap.size w W6) := Lib.hid ((HB.out.drew.alloc HB.out.size _).grown hgr (by have := HB.out.size; simp; omega) (fun j e => (HO.out.lt j (by first | exact e | simpa using e)).1))
          clear hown hgr hat hlt6
          go_wp2
          refine ⟨⟨k + 1, by go_num, by omega, by omega, ?_, B6.out⟩, by simp [intOf]; omega⟩
          have := O6.out
          rw [SN.out, CU.out]
          simpa [strV] using this
      · have e : fewB l n = fewB l k := by rw [show n = k by omega]
        have hkl : (fewB l k).length = k := by rw [fewB_length]; omega
        have R : Hid (wr.ownsRow w.heap.size 9 1 u5 (fewB l n).length (strV (fewB l n))) := Lib.hid (by rw [e, hkl]; exact HO.out)
        clear e hkl HO HNE HS
        go_wp2
        go_ret
        exact ⟨_, rfl, R.out, HB.out⟩
    · have e : fewB l n = fewB l k := by unfold fewB; rw [List.take_of_length_le (by omega), List.take_of_length_le (by omega)]
      have hkl : (fewB l k).length = k := by rw [fewB_length]; omega
      have R : Hid (wr.ownsRow w.heap.size 9 1 u5 (fewB l n).length (strV (fewB l n))) := Lib.hid (by rw [e, hkl]; exact HO.out)
      clear e hkl HO HNE HS
      go_wp2
      go_ret
      exact ⟨_, rfl, R.out, HB.out⟩
/-- what few hands back reads as a list -/
theorem SL_own {w : World} {base : Nat} {v : Value} {l : List ByteArray} (h : w.ownsRow base 9 1 v l.length (strV l)) : SL w v l := by
  by_cases h0 : 0 < l.length
  · obtain ⟨g, cap, e, h1, h2, h3, h4, h5⟩ := own_form h h0
    refine ⟨_, cap, e, h3, fun _ => ⟨g, 0, rfl, h2, fun j x hj => ?_⟩⟩
    rw [Nat.zero_add]
    exact h5 j _ (by rw [strV, List.getElem?_map, hj]; rfl)
  · have e0 : l = [] := List.eq_nil_of_length_eq_zero (by omega)
    subst e0
    rcases h.2 with ⟨e, _⟩ | ⟨g, c, cur, e, _⟩
    · exact ⟨none, 0, e, Nat.le_refl _, fun h => absurd h (by simp)⟩
    · exact ⟨_, c, e, by simp, fun h => absurd h (by simp)⟩
end Go.Proofs.YtljgphmdiflphaaDoor
