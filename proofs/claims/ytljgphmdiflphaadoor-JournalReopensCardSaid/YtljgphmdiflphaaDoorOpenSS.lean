/- Opening an argument that is a list of lists of strings. -/
import Derived.Test.YtljgphmdiflphaaDoorMj
import Derived.Deep.Slices
namespace Go.Proofs.YtljgphmdiflphaaDoor
open Go.ChangeShapes Go.WideShapes Go.ChangeAt Go.RowKit Go.Deep
set_option linter.unusedVariables false

/-- a slice that reads as a list of lists of strings -/
def LL (w : World) (sv : Value) (gs : List (List ByteArray)) : Prop :=
  ∃ a cap, sv = .slice a gs.length cap ∧ gs.length ≤ cap ∧ (0 < gs.length → ∃ b off, a = some ⟨b, off, none⟩ ∧ b < w.heap.size ∧ ∀ j g, gs[j]? = some g → ∃ v, w.cell? ⟨b, off + j, none⟩ = some v ∧ SL w v g)

theorem choose_list2 {α : Type} [Inhabited α] {n : Nat} {p : Nat → α → Prop} (h : ∀ i, i < n → ∃ x, p i x) : ∃ l : List α, l.length = n ∧ ∀ i (hi : i < l.length), p i l[i] := by
  obtain ⟨f, hf⟩ := choose_lt h
  exact ⟨(List.range n).map f, by simp, fun i hi => by simpa using hf i (by simpa using hi)⟩

theorem open_strss {H : Type} {enc : TypeId × Value → H} {w : World} {held : Bool} {a : Option Addr} {len cap : Nat} {d : DataW H} {ps : List MemPlace}
    (h : DataW.Trod enc Tryd.prog w 0 (fun _ => true) held 61 (.slice a len cap) d ps) :
    len ≤ cap ∧ cap ≤ 9223372036854775807 ∧ ∃ zs : List (List ByteArray), zs.length = len ∧ LL w (.slice a len cap) zs ∧ ∀ g ∈ zs, g.length ≤ 9223372036854775807 ∧ ∀ s ∈ g, s.size ≤ 9223372036854775807 := by
  obtain ⟨fuel, hf⟩ := h
  rcases open_slice1 Tryd.underlying61 (by kernel_rfl) hf with ⟨hcs, _⟩ | ⟨x, l, c, m, n, V, D, Pl, hcs, _, hl, hm, hmm, _, hi⟩
  · simp [Value.cells] at hcs
    obtain ⟨rfl, rfl, rfl⟩ := hcs
    exact ⟨Nat.le_refl _, by omega, [], rfl, ⟨none, 0, rfl, Nat.le_refl _, fun h => absurd h (by simp)⟩, fun g h => by cases h⟩
  · simp [Value.cells] at hcs
    obtain ⟨rfl, rfl, rfl⟩ := hcs
    have hlm : len ≤ m := by rw [hmm]; split <;> omega
    obtain ⟨zs, hz, hp⟩ := choose_list2 (α := List ByteArray) (n := len) (p := fun i z => SL w (V i) z ∧ z.length ≤ 9223372036854775807 ∧ ∀ s ∈ z, s.size ≤ 9223372036854775807) (fun i him => by
      obtain ⟨_, ht⟩ := hi i (by omega)
      rcases open_strings Tryd.underlying22 Tryd.underlying9 (by kernel_rfl) ht with ⟨hcs, _⟩ | ⟨x', l', c', ss, hcs, _⟩
      · simp only [List.cons.injEq, and_true] at hcs
        exact ⟨[], by rw [hcs]; exact SL.nil w, by simp, fun s h => by cases h⟩
      · simp only [List.cons.injEq, and_true] at hcs
        have ht' : DataW.Trod enc Tryd.prog w 0 (fun _ => true) held 22 (.slice (some x') l' c') (D i) (Pl i) := ⟨n, by rw [hcs] at ht; exact ht⟩
        obtain ⟨h1, h2, z, h3, h4, h5⟩ := open_strs ht'
        exact ⟨z, by rw [hcs]; exact h4, by omega, h5⟩)
    refine ⟨hl, hm, zs, hz, ⟨some x, cap, by rw [hz], by omega, fun h0 => ?_⟩, fun g hg => ?_⟩
    · obtain ⟨c0, _⟩ := hi 0 (by omega)
      have hs : x.spot = none := by
        have := cell_spot c0
        simpa [Addr.add] using this
      have hbx : x.block < w.heap.size := by
        have := World.block_lt_of_cell? _ _ c0
        simpa [Addr.add] using this
      obtain ⟨b, o, sp⟩ := x
      simp only at hs hbx
      subst hs
      refine ⟨b, o, rfl, hbx, fun j y hj => ?_⟩
      have hjl : j < zs.length := (List.getElem?_eq_some_iff.1 hj).1
      obtain ⟨cj, _⟩ := hi j (by omega)
      have hadd : (⟨b, o, none⟩ : Addr).add j = ⟨b, o + j, none⟩ := by
        unfold Addr.add
        by_cases h : j = 0
        · subst h; simp
        · simp [h]
      rw [hadd] at cj
      refine ⟨V j, cj, ?_⟩
      have := (hp j hjl).1
      rw [List.getElem?_eq_getElem hjl] at hj
      injection hj with hj
      rwa [hj] at this
    · obtain ⟨j, hj, rfl⟩ := List.getElem_of_mem hg
      exact (hp j hj).2
end Go.Proofs.YtljgphmdiflphaaDoor
