/- Rows beside a journal, groups with power. -/
import Derived.Test.YthlmgookaljgnaaGreatDoorMh
import Derived.Test.YthlmgookaljgnaaGreatDoorMi
import Derived.Test.YthlmgookaljgnaaGreatDoorMf
namespace Go.Proofs.YthlmgookaljgnaaGreatDoor
open Go.RowKit Go.Shelf
set_option linter.unusedVariables false
set_option linter.unusedSimpArgs false

theorem appJ_good {n : Nat} {d : DV} {l g : List ByteArray} (h : Good n d l) (hc : Calm d) (hs : ∀ r ∈ g, r.size ≤ 65536) :
    (¬ needOf l + needOf g ≤ n ∧ appJ n false (growAll tv0 l) d g = (261, false, growAll tv0 l, d)) ∨
    (needOf l + needOf g ≤ n ∧ ∃ d', appJ n false (growAll tv0 l) d g = (0, false, growAll tv0 (l ++ g), d') ∧ Good n d' (l ++ g) ∧ Calm d') := by
  rcases appJ_power h hc.off (by rw [hc.left]; omega) hs with h1 | ⟨hf, d1, e1, g1, _⟩ | ⟨hf, d1, e1, _⟩
  · exact .inl h1
  · obtain ⟨d2, e2, i2, c2⟩ := appJ_fits h.inv hc hs hf
    rw [e1] at e2
    simp only [Prod.mk.injEq, true_and] at e2
    subst e2
    exact .inr ⟨hf, d1, e1, g1, c2⟩
  · obtain ⟨d2, e2, i2, c2⟩ := appJ_fits h.inv hc hs hf
    rw [e1] at e2
    simp at e2

/-- a row that is read, beside a journal -/
structure RowS (W : World) (v : Value) (l : List ByteArray) (G : Nat → Prop) : Prop where
  sl : SL W v l
  ap : 0 < l.length → ∀ k, v.ownBlock = some k → ¬ G k ∧ k < W.heap.size
theorem RowK.toS {W : World} {v : Value} {l : List ByteArray} {G : Nat → Prop} (h : RowK W v l G) : RowS W v l G := ⟨h.sl, fun _ k e => ⟨h.ap k e, (h.row.lt k e).2⟩⟩
theorem RowS.moves {W W' : World} {v : Value} {l : List ByteArray} {G G' : Nat → Prop} (h : RowS W v l G) (hm : Moves G G' W W') : RowS W' v l G' := by
  refine ⟨?_, fun h0 k e => ?_⟩
  · obtain ⟨a, cap, e, h1, h2⟩ := h.sl.form
    refine ⟨a, cap, e, h1, fun h0 => ?_⟩
    obtain ⟨b, off, ea, hlt, hc⟩ := h2 h0
    have hb := (h.ap h0 b (by rw [e, ea]; rfl)).1
    exact ⟨b, off, ea, Nat.lt_of_lt_of_le hlt hm.1.size, fun j x hj => (World.cell?_of_block (w := W) (hm.1.block b hlt hb)).trans (hc j x hj)⟩
  · have := h.ap h0 k e
    exact ⟨fun hk => (hm.2 k hk).elim this.1 (by omega), Nat.lt_of_lt_of_le this.2 hm.1.size⟩
theorem RowS.below {W W' : World} {v : Value} {l : List ByteArray} {G : Nat → Prop} (h : RowS W v l G) (hB : Below W.heap.size W W') : RowS W' v l G := ⟨h.sl.below hB, fun h0 k e => ⟨(h.ap h0 k e).1, Nat.lt_of_lt_of_le (h.ap h0 k e).2 hB.size⟩⟩
theorem RowS.mono {W : World} {v : Value} {l : List ByteArray} {G F : Nat → Prop} (h : RowS W v l G) (hF : ∀ k, F k → G k) : RowS W v l F := ⟨h.sl, fun h0 k e => ⟨fun hk => (h.ap h0 k e).1 (hF k hk), (h.ap h0 k e).2⟩⟩
theorem RowS.nil (W : World) (G : Nat → Prop) : RowS W (.slice none 0 0) [] G := ⟨SL.nil W, fun h => absurd h (by simp)⟩
theorem Grow.toS {B : Nat} {W : World} {v : Value} {l : List ByteArray} {G : Nat → Prop} (h : Grow B W v l) (hG : ∀ k, G k → k < B) : RowS W v l G := by
  refine ⟨h.sl, fun h0 k e => ?_⟩
  rcases h with ⟨rfl, _⟩ | h
  · simp at h0
  · have := h.lt k e
    exact ⟨fun hk => by have := hG k hk; omega, this.2⟩
theorem Grow.below {B : Nat} {w w' : World} {v : Value} {xs : List ByteArray} (h : Grow B w v xs) (hB : Below w.heap.size w w') : Grow B w' v xs :=
  h.imp id (fun k => SL_kept k (Upd.of_below (S := fun _ => False) hB) (fun _ _ f => f))
end Go.Proofs.YthlmgookaljgnaaGreatDoor
