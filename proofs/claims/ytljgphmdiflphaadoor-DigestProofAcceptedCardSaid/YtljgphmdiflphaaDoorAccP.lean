/- Accepted proofs, the plain laws. -/
import Derived.Test.YtljgphmdiflphaaDoorSane
namespace Go.Proofs.YtljgphmdiflphaaDoor
set_option linter.unusedVariables false

theorem lft_half (n : Nat) (h : 2 ≤ n) : n ≤ 2 * Dig.lft n := by
  have h1 := Nat.lt_log2_self (n := n - 1)
  unfold Dig.lft
  rw [Nat.pow_succ] at h1; omega
theorem lft_pow (n k : Nat) (h : 2 ≤ n) (hk : n ≤ 2 ^ (k + 1)) : Dig.lft n ≤ 2 ^ k := by
  have h1 := Dig.lft_lt (n := n) h
  unfold Dig.lft at *
  have h2 : Nat.log2 (n - 1) < k + 1 := by
    rcases Nat.lt_or_ge (Nat.log2 (n - 1)) (k + 1) with h' | h'
    · exact h'
    · have := Nat.pow_le_pow_right (n := 2) (by decide) h'; omega
  exact Nat.pow_le_pow_right (by decide) (by omega)
theorem prfB_le : ∀ (k : Nat) (l : List ByteArray) (i : Nat), l.length ≤ 2 ^ k → (prfB l i).length ≤ k := by
  intro k
  induction k with
  | zero => intro l i h; unfold prfB; rw [Dig.prf_one _ _ _ _ _ (by simpa using h)]; simp
  | succ k ih =>
    intro l i h
    by_cases h2 : 2 ≤ l.length
    · have h3 := lft_pow _ k h2 h
      have h4 := lft_half _ h2
      have h5 := Dig.lft_lt (n := l.length) h2
      unfold prfB at *
      rw [Dig.prf_two _ _ _ _ _ h2]
      split
      · have := ih (l.take (Dig.lft l.length)) i (by rw [List.length_take]; omega)
        simp only [List.length_cons]; omega
      · have := ih (l.drop (Dig.lft l.length)) (i - Dig.lft l.length) (by rw [List.length_drop]; omega)
        simp only [List.length_cons]; omega
    · unfold prfB; rw [Dig.prf_one _ _ _ _ _ (by omega)]; simp
theorem binN_pow (n : Nat) : n < 2 ^ binN n := by
  induction n using Nat.strongRecOn with
  | ind n ih =>
    by_cases h : n = 0
    · subst h; exact Nat.two_pow_pos _
    · rw [binN_pos n (by omega), Nat.pow_succ]
      have := ih (n / 2) (by omega); omega
theorem prfB_bin (l : List ByteArray) (i : Nat) : (prfB l i).length ≤ binN l.length := prfB_le _ l i (Nat.le_of_lt (binN_pow _))
theorem prfB_32 : ∀ (n : Nat) (l : List ByteArray) (i : Nat), l.length = n → ∀ x ∈ prfB l i, x.size = 32 := by
  intro n
  induction n using Nat.strongRecOn with
  | ind n ih =>
    intro l i hn x hx
    by_cases h2 : 2 ≤ l.length
    · have h5 := Dig.lft_lt (n := l.length) h2
      have h6 := Dig.lft_pos l.length
      unfold prfB at *
      rw [Dig.prf_two _ _ _ _ _ h2] at hx
      split at hx
      · rcases List.mem_cons.1 hx with rfl | hx
        · exact rootB_size _
        · exact ih (Dig.lft l.length) (by omega) (l.take (Dig.lft l.length)) i (by rw [List.length_take, Nat.min_eq_left (by omega)]) x hx
      · rcases List.mem_cons.1 hx with rfl | hx
        · exact rootB_size _
        · exact ih (l.length - Dig.lft l.length) (by omega) (l.drop (Dig.lft l.length)) _ (by rw [List.length_drop]) x hx
    · unfold prfB at hx; rw [Dig.prf_one _ _ _ _ _ (by omega)] at hx; cases hx
theorem prfB_all (l : List ByteArray) (i : Nat) : allD (prfB l i).reverse = true := (allD_iff _).2 fun x hx => prfB_32 _ l i rfl x (List.mem_reverse.1 hx)
theorem verB_ok (l : List ByteArray) (k : Nat) (h : k < l.length) : verB (rootB l) l.length k l[k] (prfB l k).reverse = true := by
  obtain ⟨ws, h1, h2⟩ := Dig.way_prf leafB nodeB empB l.length l k h rfl
  have h1' : wayB l.length k (prfB l k) = some (ws, []) := h1
  unfold verB
  rw [prfB_all, decide_eq_true (show (0 : Int) ≤ k by omega), decide_eq_true (show (k : Int) < l.length by omega), List.reverse_reverse, Int.toNat_natCast, Int.toNat_natCast, h1']
  show (true && true && true && (true && (Dig.value nodeB (leafB l[k]) ws == rootB l))) = true
  rw [h2]
  have e : (Dig.root leafB nodeB empB l == rootB l) = true := by rw [beq_toListBytes]; exact beq_self_eq_true _
  rw [e]; rfl
theorem verB_dep {root : ByteArray} {n i : Int} {s : ByteArray} {P : List ByteArray} (h : verB root n i s P = true) : P.length = Dig.depF n.toNat n.toNat i.toNat := by
  unfold verB at h
  simp only [Bool.and_eq_true] at h
  have h1 := h.2
  cases hw : wayB n.toNat i.toNat P.reverse with
  | none => rw [hw] at h1; cases h1
  | some r =>
    obtain ⟨ws, r⟩ := r
    rw [hw] at h1
    simp only [endB, Bool.and_eq_true, List.isEmpty_iff] at h1
    have h2 := Dig.way_sides n.toNat n.toNat i.toNat P.reverse ws r hw
    have h3 := Dig.way_length n.toNat n.toNat i.toNat P.reverse
    have hw' : Dig.wayF n.toNat n.toNat i.toNat P.reverse = some (ws, r) := hw
    rw [hw'] at h3
    simp only [Option.map_some, List.length_reverse] at h3
    split at h3
    · have := Option.some.inj h3
      rw [h1.1] at this
      simp at this; omega
    · cases h3
theorem verB_other {root root' : ByteArray} {n i : Int} {s s' : ByteArray} {P Q : List ByteArray} (h : verB root n i s P = true) (hl : Q.length ≠ P.length) : verB root' n i s' Q = false := by
  cases h2 : verB root' n i s' Q with
  | false => rfl
  | true => exact absurd ((verB_dep h2).trans (verB_dep h).symm) hl
theorem verB_range {root s : ByteArray} {n i : Int} {P : List ByteArray} (h : ¬ (0 ≤ i ∧ i < n)) : verB root n i s P = false := by
  unfold verB
  have : (decide (0 ≤ i) && decide (i < n)) = false := by simpa using h
  rw [this]; rfl
end Go.Proofs.YtljgphmdiflphaaDoor
