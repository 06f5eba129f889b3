/- Opening the argument of DiskMatchesReference: a slice of calls. -/
import Derived.Test.YtljgphmdiflphaaRefL8
import Derived.Test.YtljgphmdiflphaaRowKit
namespace Go.Proofs.Ytljgphmdiflphaa
open Go.RowKit Go.ChangeShapes Go.WideShapes Go.Deep
set_option linter.unusedVariables false

instance : Inhabited StepV := ⟨⟨0, 0, 0, ByteArray.empty, none, 0, 0, []⟩⟩

theorem keep_of {H : Type} {enc : TypeId × Value → H} {w : World} {held : Bool} {fuel : Nat} {v : Value} {x : DataW H × List MemPlace} (h : DataW.trod enc Try.prog w 0 (fun _ => true) held fuel 37 [v] = some x) :
    ∃ ka kl kc keep, v = .slice ka kl kc ∧ IntsAt w.heap.size w (.slice ka kl kc) keep ∧ keep.length = kl ∧ kl ≤ kc ∧ kc ≤ 9223372036854775807 := by
  rcases open_ints Try.underlying37 Try.underlying3 (by kernel_rfl) h with ⟨hcs, _⟩ | ⟨x, l, c, zs, hcs, _, hl, hm, hz, _, hcell, hwz⟩
  · simp only [List.cons.injEq, and_true] at hcs
    subst hcs
    exact ⟨none, 0, 0, [], rfl, .inl ⟨rfl, rfl⟩, rfl, Nat.le_refl _, by decide⟩
  · simp only [List.cons.injEq, and_true] at hcs
    subst hcs
    have hz' : zs.length = c := by simpa using hz
    refine ⟨some x, l, c, zs.take l, rfl, ?_, by rw [List.length_take]; omega, hl, hm⟩
    by_cases h0 : l = 0
    · subst h0
      exact .inl ⟨rfl, by simp⟩
    · have c00 := hcell 0 (by omega)
      have hs : x.spot = none := by
        have := cell_spot c00
        simpa [Addr.add] using this
      have hb : x.block < w.heap.size := by
        have := World.block_lt_of_cell? _ _ c00
        simpa [Addr.add] using this
      obtain ⟨b, o, sp⟩ := x
      simp only at hs hb
      subst hs
      refine .inr ⟨b, o, c, by rw [List.length_take]; congr 1; omega, hb, fun j hj => ?_⟩
      rw [List.length_take] at hj
      have c0 := hcell j (by omega)
      rw [add_plain] at c0
      rw [c0, List.getElem?_take, if_pos (by omega)]
      simp [List.getD]

theorem open_ss {H : Type} {enc : TypeId × Value → H} {w : World} {held : Bool} {a : Option Addr} {len cap : Nat} {d : DataW H} {ps : List MemPlace}
    (h : DataW.Trod enc Try.prog w 0 (fun _ => true) held 32 (.slice a len cap) d ps) :
    len ≤ cap ∧ cap ≤ 9223372036854775807 ∧ ∃ zs : List StepV, zs.length = len ∧ SRow w a zs := by
  obtain ⟨fuel, hf⟩ := h
  rcases open_slice_fields Try.underlying32 Try.underlying39 (by kernel_rfl) (by kernel_rfl) hf with ⟨hcs, _⟩ | ⟨x, l, c, m, D, Pl, hcs, _, hl, hm, hmm, _, hi⟩
  · simp [Value.cells] at hcs
    obtain ⟨rfl, rfl, rfl⟩ := hcs
    exact ⟨Nat.le_refl _, by omega, [], rfl, fun i h => absurd h (by simp), fun i h => absurd h (by simp)⟩
  · simp [Value.cells] at hcs
    obtain ⟨rfl, rfl, rfl⟩ := hcs
    have hlm : len ≤ m := by rw [hmm]; split <;> omega
    refine ⟨hl, hm, ?_⟩
    obtain ⟨zs, hz, hp⟩ := choose_list (α := StepV) (n := len) (p := fun i z => x.spot = none ∧ x.block < w.heap.size ∧ (w.cell? (x.add (i * 5)) = some (.int .i64 z.call) ∧ w.cell? (x.add (i * 5 + 1)) = some (.int .i64 z.off) ∧ w.cell? (x.add (i * 5 + 2)) = some (.int .i64 z.n) ∧ w.cell? (x.add (i * 5 + 3)) = some (.string z.s) ∧ w.cell? (x.add (i * 5 + 4)) = some (.slice z.ka z.kl z.kc)) ∧
        (-9223372036854775808 ≤ z.call ∧ z.call ≤ 9223372036854775807) ∧ (-9223372036854775808 ≤ z.off ∧ z.off ≤ 9223372036854775807) ∧ (-9223372036854775808 ≤ z.n ∧ z.n ≤ 9223372036854775807) ∧
    z.s.size ≤ 9223372036854775807 ∧ IntsAt w.heap.size w (.slice z.ka z.kl z.kc) z.keep ∧ z.keep.length = z.kl ∧ z.kl ≤ z.kc ∧ z.kc ≤ 9223372036854775807) (fun i him => by
      obtain ⟨ys, n', _, _, _, hfld⟩ := hi i (by omega)
      obtain ⟨v0, y0, k0, _, t0⟩ := hfld 0 _ rfl
      obtain ⟨v1, y1, k1, _, t1⟩ := hfld 1 _ rfl
      obtain ⟨v2, y2, k2, _, t2⟩ := hfld 2 _ rfl
      obtain ⟨v3, y3, k3, _, t3⟩ := hfld 3 _ rfl
      obtain ⟨v4, y4, k4, _, t4⟩ := hfld 4 _ rfl
      obtain ⟨z0, e0, _, wf0⟩ := DataW.trod_int Try.underlying3 t0
      obtain ⟨z1, e1, _, wf1⟩ := DataW.trod_int Try.underlying3 t1
      obtain ⟨z2, e2, _, wf2⟩ := DataW.trod_int Try.underlying3 t2
      obtain ⟨s3, e3, _, sz3⟩ := DataW.trod_string Try.underlying9 t3
      obtain ⟨ka, kl, kc, keep, e4, hI, h4, h5, h6⟩ := keep_of t4
      simp only [List.cons.injEq, and_true] at e0 e1 e2 e3
      subst e0 e1 e2 e3 e4
      refine ⟨⟨z0, z1, z2, s3, ka, kl, kc, keep⟩, ?_, ?_, ⟨by simpa using k0, by simpa using k1, by simpa using k2, by simpa using k3, by simpa using k4⟩, bounds_i64 wf0, bounds_i64 wf1, bounds_i64 wf2, sz3, hI, h4, h5, h6⟩
      · obtain ⟨zs0, n0, _, _, _, hfld0⟩ := hi 0 (by omega)
        obtain ⟨v, y, kf, _, _⟩ := hfld0 0 _ rfl
        have := cell_spot kf
        simpa [Addr.add] using this
      · have h1 := World.block_lt_of_cell? _ _ k0
        unfold Addr.add at h1
        split at h1 <;> exact h1)
    refine ⟨zs, hz, fun i hi' => ?_, fun i hi' => (hp i hi').2.2.2⟩
    obtain ⟨hs, hbl, ⟨c0, c1, c2, c3, c4⟩, _⟩ := hp i hi'
    obtain ⟨b, o, sp⟩ := x
    simp only at hs hbl
    subst hs
    rw [add_plain] at c0 c1 c2 c3 c4
    exact ⟨b, o, rfl, hbl, c0, c1, c2, c3, c4⟩
end Go.Proofs.Ytljgphmdiflphaa
