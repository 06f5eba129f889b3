/- Opening the laws' arguments: slices of writes. -/
import Derived.Test.YtljgphmdiflphaaDiskW
import Derived.Deep.Slices
import Derived.Deep.Fields
import Derived.Deep.Grids
import Derived.ChangeSame
import Derived.OpenShut
import Derived.ChangeSlices
namespace Go.Proofs.Ytljgphmdiflphaa
open Go.RowKit Go.ChangeShapes Go.WideShapes Go.Deep
set_option linter.unusedVariables false

section
variable {H : Type} {enc : TypeId × Value → H} {P : Program} {w : World} {base : Nat} {spare : Nat → Bool} {held : Bool}
theorem open_slice_fields {t e : TypeId} {fs : Array Field} {fuel : Nat} {cs : List Value} {x : DataW H × List MemPlace} (ht : P.underlying t = some (.slice e)) (he : P.underlying e = some (.struct fs))
    (hone : oneCellFields P fs = true) (hC : P.cellsOf e = fs.size) (h : DataW.trod enc P w base spare held fuel t cs = some x) :
    (cs = [.slice none 0 0] ∧ x = (.nil, [])) ∨
    ∃ (a : Addr) (len cap m : Nat) (D : Nat → DataW H) (Pl : Nat → List MemPlace), cs = [.slice (some a) len cap] ∧ base ≤ a.block ∧ len ≤ cap ∧ cap ≤ maxLen ∧ m = (if spare a.block then cap else len) ∧
      x = (.slice ((List.range len).map D) ((List.range (m - len)).map fun j => D (len + j)), MemPlace.row a (m * fs.size) ++ (List.range m).flatMap Pl) ∧
      ∀ i, i < m → ∃ (ys : List (DataW H × List MemPlace)) (n : Nat), D i = .agg (ys.map (·.1)) ∧ Pl i = ys.flatMap (·.2) ∧ ys.length = fs.size ∧
        ∀ (j : Nat) (f : Field), fs[j]? = some f → ∃ (v : Value) (y : DataW H × List MemPlace), w.cell? (a.add (i * fs.size + j)) = some v ∧ ys[j]? = some y ∧ DataW.trod enc P w base spare held n f.type [v] = some y := by
  rcases open_slice ht h with h0 | ⟨a, len, cap, m, n, D, Pl, hcs, hb, hl, hm, hmm, hx, hi⟩
  · exact .inl h0
  · refine .inr ⟨a, len, cap, m, D, Pl, hcs, hb, hl, hm, hmm, by rw [hC] at hx; exact hx, fun i him => ?_⟩
    obtain ⟨cs', hc, ht'⟩ := hi i him
    rw [hC] at hc
    obtain ⟨ys, n', hn', hy, hlen, hyl, hf⟩ := DataW.trod_struct he ht'
    obtain ⟨_, hcl, hat⟩ := World.cells?_some hc
    simp only [Prod.mk.injEq] at hy
    refine ⟨ys, n', hy.1, hy.2, hyl, fun j f hj => ?_⟩
    obtain ⟨ho, hk⟩ := hone_of hone j f hj
    have hjl : j < fs.size := (Array.getElem?_eq_some_iff.1 hj).1
    have hcell := hat j hjl
    have hv : cs'[j]? = some (cs'[j]'(by omega)) := List.getElem?_eq_getElem (by omega)
    have h1 := hf j f hj
    rw [ho, hk] at h1
    have hone' : (cs'.drop j).take 1 = [cs'[j]'(by omega)] := by
      rw [List.drop_eq_getElem_cons (by omega)]
      rfl
    rw [hone'] at h1
    have hys : ys[j]? = some (ys[j]'(by omega)) := List.getElem?_eq_getElem (by omega)
    refine ⟨_, _, ?_, hys, h1.trans hys⟩
    rw [← Go.Deep.add_add, hcell, hv]
end

theorem choose_list {α : Type} [Inhabited α] {n : Nat} {p : Nat → α → Prop} (h : ∀ i, i < n → ∃ x, p i x) : ∃ l : List α, l.length = n ∧ ∀ i (hi : i < l.length), p i l[i] := by
  obtain ⟨f, hf⟩ := choose_lt h
  exact ⟨(List.range n).map f, by simp, fun i hi => by simpa using hf i (by simpa using hi)⟩

theorem cell_spot {w : World} {x : Addr} {v : Value} (h : w.cell? x = some v) : x.spot = none := by
  unfold World.cell? at h
  split at h
  · split at h
    · cases h
    · rename_i hn
      cases hs : x.spot with
      | none => rfl
      | some s => simp [hs] at hn
  · cases h
theorem add_plain (b o n : Nat) : (⟨b, o, none⟩ : Addr).add n = ⟨b, o + n, none⟩ := by
  unfold Addr.add
  by_cases h : n = 0
  · subst h; simp
  · simp [h]

/-- The writes. -/
theorem open_ws {H : Type} {enc : TypeId × Value → H} {w : World} {spare : Nat → Bool} {held : Bool} {a : Option Addr} {len cap : Nat} {d : DataW H} {ps : List MemPlace}
    (h : DataW.Trod enc Try.prog w 0 spare held 51 (.slice a len cap) d ps) :
    len ≤ cap ∧ cap ≤ 9223372036854775807 ∧ ∃ zs : List (Int × ByteArray × Bool), zs.length = len ∧ WRow w w.heap.size a zs := by
  obtain ⟨fuel, hf⟩ := h
  rcases open_slice_fields Try.underlying51 Try.underlying53 (by kernel_rfl) (by kernel_rfl) hf with ⟨hcs, _⟩ | ⟨x, l, c, m, D, Pl, hcs, _, hl, hm, hmm, _, hi⟩
  · simp [Value.cells] at hcs
    obtain ⟨rfl, rfl, rfl⟩ := hcs
    exact ⟨Nat.le_refl _, by omega, [], rfl, fun i h => absurd h (by simp), fun i h => absurd h (by simp)⟩
  · simp [Value.cells] at hcs
    obtain ⟨rfl, rfl, rfl⟩ := hcs
    have hlm : len ≤ m := by rw [hmm]; split <;> omega
    refine ⟨hl, hm, ?_⟩
    obtain ⟨zs, hz, hp⟩ := choose_list (α := Int × ByteArray × Bool) (n := len) (p := fun i z => x.spot = none ∧ x.block < w.heap.size ∧ (w.cell? (x.add (i * 3)) = some (.int .i64 z.1) ∧ w.cell? (x.add (i * 3 + 1)) = some (.string z.2.1) ∧ w.cell? (x.add (i * 3 + 2)) = some (.bool z.2.2)) ∧
        -9223372036854775808 ≤ z.1 ∧ z.1 ≤ 9223372036854775807 ∧ z.2.1.size ≤ 9223372036854775807) (fun i him => by
      obtain ⟨ys, n', _, _, _, hfld⟩ := hi i (by omega)
      obtain ⟨v0, y0, k0, _, t0⟩ := hfld 0 _ rfl
      obtain ⟨v1, y1, k1, _, t1⟩ := hfld 1 _ rfl
      obtain ⟨v2, y2, k2, _, t2⟩ := hfld 2 _ rfl
      obtain ⟨z0, e0, _, wf0⟩ := DataW.trod_int Try.underlying3 t0
      obtain ⟨s1, e1, _, sz1⟩ := DataW.trod_string Try.underlying9 t1
      obtain ⟨b2, e2, _⟩ := DataW.trod_bool Try.underlying4 t2
      simp only [List.cons.injEq, and_true] at e0 e1 e2
      subst e0 e1 e2
      obtain ⟨q0, q1⟩ := bounds_i64 wf0
      refine ⟨(z0, s1, b2), ?_, ?_, ⟨by simpa using k0, by simpa using k1, by simpa using k2⟩, q0, q1, sz1⟩
      · obtain ⟨zs0, n0, _, _, _, hfld0⟩ := hi 0 (by omega)
        obtain ⟨v, y, kf, _, _⟩ := hfld0 0 _ rfl
        have := cell_spot kf
        simpa [Addr.add] using this
      · have h1 := World.block_lt_of_cell? _ _ k0
        unfold Addr.add at h1
        split at h1 <;> exact h1)
    refine ⟨zs, hz, ⟨fun i hi' => ?_, fun i hi' => (hp i hi').2.2.2⟩⟩
    obtain ⟨hs, hbl, ⟨c0, c1, c2⟩, _⟩ := hp i hi'
    obtain ⟨b, o, sp⟩ := x
    simp only at hs hbl
    subst hs
    rw [add_plain] at c0 c1 c2
    exact ⟨b, o, rfl, hbl, c0, c1, c2⟩

/-- Numbers, bools: every element's cell. -/
structure IRow (w : World) (N : Nat) (a : Option Addr) (zs : List Int) : Prop where
  cell : ∀ i (h : i < zs.length), ∃ g off, a = some ⟨g, off, none⟩ ∧ g < N ∧ w.cell? ⟨g, off + i, none⟩ = some (.int .i64 zs[i])
  fit : ∀ i (h : i < zs.length), -9223372036854775808 ≤ zs[i] ∧ zs[i] ≤ 9223372036854775807

theorem open_is {H : Type} {enc : TypeId × Value → H} {w : World} {held : Bool} {a : Option Addr} {len cap : Nat} {d : DataW H} {ps : List MemPlace}
    (h : DataW.Trod enc Try.prog w 0 (fun _ => true) held 37 (.slice a len cap) d ps) :
    len ≤ cap ∧ cap ≤ 9223372036854775807 ∧ ∃ zs : List Int, zs.length = len ∧ IRow w w.heap.size a zs := by
  obtain ⟨fuel, hf⟩ := h
  rcases open_ints Try.underlying37 Try.underlying3 (by kernel_rfl) hf with ⟨hcs, _⟩ | ⟨x, l, c, zs, hcs, _, hl, hm, hz, _, hcell, hwz⟩
  · simp [Value.cells] at hcs
    obtain ⟨rfl, rfl, rfl⟩ := hcs
    exact ⟨Nat.le_refl _, by omega, [], rfl, fun i h => absurd h (by simp), fun i h => absurd h (by simp)⟩
  · simp [Value.cells] at hcs
    obtain ⟨rfl, rfl, rfl⟩ := hcs
    have hz' : zs.length = cap := by simpa using hz
    refine ⟨hl, hm, zs.take len, by rw [List.length_take]; omega, fun i hi => ?_, fun i hi => ?_⟩
    · have hi' : i < len := by rw [List.length_take] at hi; omega
      have c0 := hcell i (by omega)
      have c00 := hcell 0 (by omega)
      have hs : x.spot = none := by
        have := cell_spot c00
        simpa [Addr.add] using this
      have hb : x.block < w.heap.size := by
        have := World.block_lt_of_cell? _ _ c00
        simpa [Addr.add] using this
      obtain ⟨b, o, sp⟩ := x
      simp only at hs hb
      subst hs
      rw [add_plain] at c0
      refine ⟨b, o, rfl, hb, ?_⟩
      rw [c0, List.getElem_take]
      simp [List.getD, show i < zs.length by omega]
    · rw [List.getElem_take]
      exact bounds_i64 (hwz _ (List.getElem_mem _))

structure BRow (w : World) (N : Nat) (a : Option Addr) (zs : List Bool) : Prop where
  cell : ∀ i (h : i < zs.length), ∃ g off, a = some ⟨g, off, none⟩ ∧ g < N ∧ w.cell? ⟨g, off + i, none⟩ = some (.bool zs[i])

theorem open_bs {H : Type} {enc : TypeId × Value → H} {w : World} {held : Bool} {a : Option Addr} {len cap : Nat} {d : DataW H} {ps : List MemPlace}
    (h : DataW.Trod enc Try.prog w 0 (fun _ => true) held 58 (.slice a len cap) d ps) :
    len ≤ cap ∧ cap ≤ 9223372036854775807 ∧ ∃ zs : List Bool, zs.length = len ∧ BRow w w.heap.size a zs := by
  obtain ⟨fuel, hf⟩ := h
  rcases open_bools Try.underlying58 Try.underlying4 (by kernel_rfl) hf with ⟨hcs, _⟩ | ⟨x, l, c, B, hcs, _, hl, hm, _, hcell⟩
  · simp [Value.cells] at hcs
    obtain ⟨rfl, rfl, rfl⟩ := hcs
    exact ⟨Nat.le_refl _, by omega, [], rfl, ⟨fun i h => absurd h (by simp)⟩⟩
  · simp [Value.cells] at hcs
    obtain ⟨rfl, rfl, rfl⟩ := hcs
    refine ⟨hl, hm, (List.range len).map B, by simp, ⟨fun i hi => ?_⟩⟩
    have hi' : i < len := by simpa using hi
    have c0 := hcell i (by omega)
    have c00 := hcell 0 (by omega)
    have hs : x.spot = none := by
      have := cell_spot c00
      simpa [Addr.add] using this
    have hb : x.block < w.heap.size := by
      have := World.block_lt_of_cell? _ _ c00
      simpa [Addr.add] using this
    obtain ⟨b, o, sp⟩ := x
    simp only at hs hb
    subst hs
    rw [add_plain] at c0
    refine ⟨b, o, rfl, hb, ?_⟩
    rw [c0]; simp
end Go.Proofs.Ytljgphmdiflphaa
