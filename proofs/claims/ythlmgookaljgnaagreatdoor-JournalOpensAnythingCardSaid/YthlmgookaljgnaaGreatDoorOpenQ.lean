/- What a tape that was opened is: grown from nothing by small records, no longer than the disk; the disk has power. Plain. -/
import Derived.Test.YthlmgookaljgnaaGreatDoorWCalls
namespace Go.Proofs.YthlmgookaljgnaaGreatDoor
open Go.RowKit Go.Shelf
set_option linter.unusedVariables false
set_option linter.unusedSimpArgs false

theorem loadP_small (s : ByteArray) : ∀ (f : Nat) (t t' : TV), loadP s f t = some t' → ∃ l, t' = growAll t l ∧ (∀ r ∈ l, r.size ≤ 65536) ∧ (t.size ≤ s.size → t'.size ≤ s.size)
  | 0, t, t', h => by
    rw [loadP] at h; cases h; exact ⟨[], rfl, by simp, id⟩
  | f + 1, t, t', h => by
    rw [loadP] at h
    split at h
    · rename_i hlt
      split at h
      · cases h; exact ⟨[], rfl, by simp, id⟩
      · split at h
        · split at h
          · rename_i r q hd
            split at h
            · rename_i hq
              obtain ⟨b1, b2, b3⟩ := decS_bounds hd
              obtain ⟨l, e, hl, hz⟩ := loadP_small s f _ t' h
              refine ⟨r :: l, e, fun x hx => ?_, fun _ => hz ?_⟩
              · rcases List.mem_cons.1 hx with rfl | hx
                · exact b1
                · exact hl x hx
              · show t.size + (recE t.head r).size ≤ s.size
                rw [hq.2, ByteArray.size_extract]; omega
            · cases h
          · cases h
        · cases h
    · cases h; exact ⟨[], rfl, by simp, id⟩
theorem openJ_some {n : Nat} {d d' : DV} {t : TV} (hv : d.vi.length = n) (h : openJ n d = (0, some t, d')) : d'.off = false ∧ ∃ l, t = growAll tv0 l ∧ (∀ r ∈ l, r.size ≤ 65536) ∧ t.size ≤ n := by
  unfold openJ at h
  split at h
  · simp at h
  · rename_i ho
    have ho' : d.off = false := by simpa using ho
    split at h
    · simp at h
    · rename_i t1 hL
      have hsz : (diskB d).size = n := by rw [diskB]; show d.vi.toArray.size = n; simpa using hv
      obtain ⟨l, e, hl, hz⟩ := loadP_small _ _ _ _ hL
      have hz' : t1.size ≤ n := by have := hz (Nat.zero_le _); omega
      split at h
      · simp only [Prod.mk.injEq, Option.some.injEq, true_and] at h
        obtain ⟨rfl, rfl⟩ := h
        exact ⟨ho', l, e, hl, hz'⟩
      · split at h
        · simp at h
        · rename_i ho1
          simp only [Prod.mk.injEq, Option.some.injEq, true_and] at h
          obtain ⟨rfl, rfl⟩ := h
          exact ⟨by have h9 := (Bool.not_eq_true _).mp ho1; exact h9, l, e, hl, hz'⟩
end Go.Proofs.YthlmgookaljgnaaGreatDoor
