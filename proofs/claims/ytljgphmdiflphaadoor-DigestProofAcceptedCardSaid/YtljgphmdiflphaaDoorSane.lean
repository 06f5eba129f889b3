/- sane. -/
import Derived.Test.YtljgphmdiflphaaDoorSaneP
namespace Go.Proofs.YtljgphmdiflphaaDoor
open Go.RowKit
set_option linter.unusedVariables false

theorem rootB_size (l : List ByteArray) : (rootB l).size = 32 := by
  unfold rootB
  match l with
  | [] => exact sumB_size _
  | [x] => exact sumB_size _
  | x :: y :: t => rw [Dig.root_two _ _ _ _ (by simp)]; exact sumB_size _

set_option maxRecDepth 100000 in
set_option maxHeartbeats 4000000 in
theorem sane_any (w : World) (hR : RoundLaid w) :
    Calls Tryd.prog 13 #[] w fun e w' => e = .returned (.bool true) ∧ Below w.heap.size w w' := by
  obtain ⟨W0, hW0⟩ : ∃ W0, w.alloc (.cells #[.string sA, .string sB, .string sC] 9) = W0 := ⟨_, rfl⟩
  have hblk : W0.heap[w.heap.size]? = some (.cells #[.string sA, .string sB, .string sC] 9 (0, 0)) := by rw [← hW0]; exact allocAt _ rfl
  have hB0 : Below w.heap.size w W0 := by rw [← hW0]; exact (Below.refl _ w).alloc (Nat.le_refl _) _
  have hlt := ltOf hblk
  have hcs : ∀ j x, sL[j]? = some x → W0.cell? ⟨w.heap.size, 0 + j, none⟩ = some (.string x) := fun j x hj => by
    rw [cellOf hblk]
    match j, hj with
    | 0, hj => cases hj; rfl
    | 1, hj => cases hj; rfl
    | 2, hj => cases hj; rfl
    | j + 3, hj => simp [sL] at hj
  have S0 : Hid (SL W0 (.slice (some ⟨w.heap.size, 0, none⟩) 3 3) sL) := Lib.hid (SL.mk' rfl (by omega) hlt hcs)
  have S1 : Hid (SL W0 (.slice (some ⟨w.heap.size, 0, none⟩) 1 3) [sA]) := Lib.hid (SL.takeK (n := 3) 1 (l := sL) rfl (by omega) (by omega) hlt hcs)
  have S2 : Hid (SL W0 (.slice (some ⟨w.heap.size, 0, none⟩) 2 3) [sA, sB]) := Lib.hid (SL.takeK (n := 3) 2 (l := sL) rfl (by omega) (by omega) hlt hcs)
  have R0 := Lib.hid (hR.below hB0)
  have B0 := Lib.hid hB0
  clear hblk hB0 hcs hR
  have small : ∀ s ∈ sL, s.size ≤ 800000 := by intro s hs; simp only [sL, List.mem_cons, List.not_mem_nil, or_false] at hs; rcases hs with rfl | rfl | rfl <;> decide
  have big1 : ∀ s ∈ (prfB sL 2).reverse, s.size ≤ 9223372036854775807 := fun s h => by have := (allD_iff _).1 sane_a1 s h; omega
  have big2 : ∀ s ∈ (extB sL 1 true).reverse, s.size ≤ 9223372036854775807 := fun s h => by have := (allD_iff _).1 sane_a2 s h; omega
  have small1 : ∀ s ∈ [sA], s.size ≤ 800000 := fun s h => small s (by simp only [sL, List.mem_cons, List.not_mem_nil, or_false] at h ⊢; exact .inl h)
  have small2 : ∀ s ∈ [sA, sB], s.size ≤ 800000 := fun s h => small s (by simp only [sL, List.mem_cons, List.not_mem_nil, or_false] at h ⊢; rcases h with h | h; exact .inl h; exact .inr (.inl h))
  have rz1 : (rootB sL).size ≤ 9223372036854775807 := by rw [rootB_size]; decide
  have rz2 : (rootB [sA]).size ≤ 9223372036854775807 := by rw [rootB_size]; decide
  have rz3 : (rootB [sA, sB]).size ≤ 9223372036854775807 := by rw [rootB_size]; decide
  go_enter Tryd.func13, Tryd.ntmps13
  go_wp2_with fail
  rw [show (⟨#[97]⟩ : ByteArray) = sA from rfl, show (⟨#[98]⟩ : ByteArray) = sB from rfl, show (⟨#[99]⟩ : ByteArray) = sC from rfl, hW0]
  refine (Proof_ok _ _ sL S0.out (by decide) small R0.out 2 (by decide)).mono ?_
  rintro e W ⟨v, rfl, hp, hb⟩
  replace S0 := Lib.hid (S0.out.below hb)
  replace S1 := Lib.hid (S1.out.below hb)
  replace S2 := Lib.hid (S2.out.below hb)
  replace R0 := Lib.hid (R0.out.below hb)
  replace B0 := Lib.hid (B0.out.trans (hb.mono B0.out.size))
  obtain ⟨a1, c1, rfl, _, _⟩ := hp.form
  rw [sane_l1] at hp ⊢
  have PP := Lib.hid hp
  clear hp
  clear hb
  go_wp2_with fail
  refine (Ext_ok _ _ sL S0.out (by decide) small R0.out 1 (by decide) (by decide)).mono ?_
  rintro e W ⟨v, rfl, hp, hb⟩
  replace S0 := Lib.hid (S0.out.below hb)
  replace S1 := Lib.hid (S1.out.below hb)
  replace S2 := Lib.hid (S2.out.below hb)
  replace PP := Lib.hid (PP.out.below hb)
  replace R0 := Lib.hid (R0.out.below hb)
  replace B0 := Lib.hid (B0.out.trans (hb.mono B0.out.size))
  obtain ⟨a2, c2, rfl, _, _⟩ := hp.form
  rw [sane_l2] at hp ⊢
  have QQ := Lib.hid hp
  clear hp
  clear hb
  go_wp2_with fail
  refine (Proof_bad _ _ sL S0.out 3 (by decide)).mono ?_
  rintro e W ⟨rfl, rfl⟩
  go_wp2_with fail
  refine (Root_any _ _ sL S0.out (by decide) small R0.out).mono ?_
  rintro e W ⟨rfl, hb⟩
  replace S0 := Lib.hid (S0.out.below hb)
  replace S1 := Lib.hid (S1.out.below hb)
  replace S2 := Lib.hid (S2.out.below hb)
  replace PP := Lib.hid (PP.out.below hb)
  replace QQ := Lib.hid (QQ.out.below hb)
  replace R0 := Lib.hid (R0.out.below hb)
  replace B0 := Lib.hid (B0.out.trans (hb.mono B0.out.size))
  clear hb
  go_wp2_with fail
  refine (Sum_any ⟨#[]⟩ (by decide) _ R0.out).mono ?_
  rintro e W ⟨rfl, hb⟩
  replace S0 := Lib.hid (S0.out.below hb)
  replace S1 := Lib.hid (S1.out.below hb)
  replace S2 := Lib.hid (S2.out.below hb)
  replace PP := Lib.hid (PP.out.below hb)
  replace QQ := Lib.hid (QQ.out.below hb)
  replace R0 := Lib.hid (R0.out.below hb)
  replace B0 := Lib.hid (B0.out.trans (hb.mono B0.out.size))
  clear hb
  go_wp2_with fail
  refine (hex_any _ (by rw [sumB_size]; decide) _).mono ?_
  rintro e W ⟨rfl, hb⟩
  replace S0 := Lib.hid (S0.out.below hb)
  replace S1 := Lib.hid (S1.out.below hb)
  replace S2 := Lib.hid (S2.out.below hb)
  replace PP := Lib.hid (PP.out.below hb)
  replace QQ := Lib.hid (QQ.out.below hb)
  replace R0 := Lib.hid (R0.out.below hb)
  replace B0 := Lib.hid (B0.out.trans (hb.mono B0.out.size))
  rw [sane_h0]
  unfold sHex0
  clear hb
  go_wp2_with fail
  rw [show (⟨#[97, 98, 99]⟩ : ByteArray) = sABC from rfl]
  refine (Sum_any sABC (by decide) _ R0.out).mono ?_
  rintro e W ⟨rfl, hb⟩
  replace S0 := Lib.hid (S0.out.below hb)
  replace S1 := Lib.hid (S1.out.below hb)
  replace S2 := Lib.hid (S2.out.below hb)
  replace PP := Lib.hid (PP.out.below hb)
  replace QQ := Lib.hid (QQ.out.below hb)
  replace R0 := Lib.hid (R0.out.below hb)
  replace B0 := Lib.hid (B0.out.trans (hb.mono B0.out.size))
  clear hb
  go_wp2_with fail
  refine (hex_any _ (by rw [sumB_size]; decide) _).mono ?_
  rintro e W ⟨rfl, hb⟩
  replace S0 := Lib.hid (S0.out.below hb)
  replace S1 := Lib.hid (S1.out.below hb)
  replace S2 := Lib.hid (S2.out.below hb)
  replace PP := Lib.hid (PP.out.below hb)
  replace QQ := Lib.hid (QQ.out.below hb)
  replace R0 := Lib.hid (R0.out.below hb)
  replace B0 := Lib.hid (B0.out.trans (hb.mono B0.out.size))
  rw [sane_h1]
  unfold sHex1
  clear hb
  go_wp2_with fail
  refine (Ver_any _ (rootB sL) sC 3 2 _ _ PP.out (by rw [sane_l1]; decide) big1 (by decide) (by decide) R0.out rz1).mono ?_
  rintro e W ⟨rfl, hb⟩
  replace S0 := Lib.hid (S0.out.below hb)
  replace S1 := Lib.hid (S1.out.below hb)
  replace S2 := Lib.hid (S2.out.below hb)
  replace PP := Lib.hid (PP.out.below hb)
  replace QQ := Lib.hid (QQ.out.below hb)
  replace R0 := Lib.hid (R0.out.below hb)
  replace B0 := Lib.hid (B0.out.trans (hb.mono B0.out.size))
  rw [sane_v1]
  clear hb
  go_wp2_with fail
  refine (Ver_any _ (rootB sL) sD 3 2 _ _ PP.out (by rw [sane_l1]; decide) big1 (by decide) (by decide) R0.out rz1).mono ?_
  rintro e W ⟨rfl, hb⟩
  replace S0 := Lib.hid (S0.out.below hb)
  replace S1 := Lib.hid (S1.out.below hb)
  replace S2 := Lib.hid (S2.out.below hb)
  replace PP := Lib.hid (PP.out.below hb)
  replace QQ := Lib.hid (QQ.out.below hb)
  replace R0 := Lib.hid (R0.out.below hb)
  replace B0 := Lib.hid (B0.out.trans (hb.mono B0.out.size))
  rw [sane_v2]
  clear hb
  go_wp2_with fail
  refine (Root_any _ _ [sA] S1.out (by decide) small1 R0.out).mono ?_
  rintro e W ⟨rfl, hb⟩
  replace S0 := Lib.hid (S0.out.below hb)
  replace S1 := Lib.hid (S1.out.below hb)
  replace S2 := Lib.hid (S2.out.below hb)
  replace PP := Lib.hid (PP.out.below hb)
  replace QQ := Lib.hid (QQ.out.below hb)
  replace R0 := Lib.hid (R0.out.below hb)
  replace B0 := Lib.hid (B0.out.trans (hb.mono B0.out.size))
  clear hb
  go_wp2_with fail
  refine (VE_any _ (rootB [sA]) (rootB sL) 1 3 _ _ QQ.out (by rw [sane_l2]; decide) big2 rz2 rz1 (by decide) R0.out).mono ?_
  rintro e W ⟨rfl, hb⟩
  replace S0 := Lib.hid (S0.out.below hb)
  replace S1 := Lib.hid (S1.out.below hb)
  replace S2 := Lib.hid (S2.out.below hb)
  replace PP := Lib.hid (PP.out.below hb)
  replace QQ := Lib.hid (QQ.out.below hb)
  replace R0 := Lib.hid (R0.out.below hb)
  replace B0 := Lib.hid (B0.out.trans (hb.mono B0.out.size))
  rw [sane_v3]
  clear hb
  go_wp2_with fail
  refine (Root_any _ _ [sA, sB] S2.out (by decide) small2 R0.out).mono ?_
  rintro e W ⟨rfl, hb⟩
  replace S0 := Lib.hid (S0.out.below hb)
  replace S1 := Lib.hid (S1.out.below hb)
  replace S2 := Lib.hid (S2.out.below hb)
  replace PP := Lib.hid (PP.out.below hb)
  replace QQ := Lib.hid (QQ.out.below hb)
  replace R0 := Lib.hid (R0.out.below hb)
  replace B0 := Lib.hid (B0.out.trans (hb.mono B0.out.size))
  clear hb
  go_wp2_with fail
  refine (VE_any _ (rootB [sA, sB]) (rootB sL) 1 3 _ _ QQ.out (by rw [sane_l2]; decide) big2 rz3 rz1 (by decide) R0.out).mono ?_
  rintro e W ⟨rfl, hb⟩
  replace S0 := Lib.hid (S0.out.below hb)
  replace S1 := Lib.hid (S1.out.below hb)
  replace S2 := Lib.hid (S2.out.below hb)
  replace PP := Lib.hid (PP.out.below hb)
  replace QQ := Lib.hid (QQ.out.below hb)
  replace R0 := Lib.hid (R0.out.below hb)
  replace B0 := Lib.hid (B0.out.trans (hb.mono B0.out.size))
  rw [sane_v4]
  clear hb
  go_wp2
  go_ret
  exact ⟨rfl, B0.out⟩
end Go.Proofs.YtljgphmdiflphaaDoor
