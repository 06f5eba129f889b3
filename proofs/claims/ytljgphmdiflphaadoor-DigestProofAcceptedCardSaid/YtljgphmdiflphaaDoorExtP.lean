/- Accepted extensions, the plain laws. -/
import Derived.Test.YtljgphmdiflphaaDoorAccP
namespace Go.Proofs.YtljgphmdiflphaaDoor
set_option linter.unusedVariables false

theorem extB_le : ∀ (k : Nat) (l : List ByteArray) (m : Nat) (w : Bool), 1 ≤ m → l.length ≤ 2 ^ k → (extB l m w).length ≤ k + 1 := by
  intro k
  induction k with
  | zero =>
    intro l m w hm h
    unfold extB; rw [Dig.ext_end _ _ _ _ _ _ (by omega)]; split <;> simp
  | succ k ih =>
    intro l m w hm h
    by_cases h2 : m < l.length
    · have h3 := lft_pow _ k (by omega) h
      have h4 := lft_half l.length (by omega)
      have h5 := Dig.lft_lt (n := l.length) (by omega)
      unfold extB at *
      rw [Dig.ext_step _ _ _ _ _ _ hm h2]
      split
      · have := ih (l.take (Dig.lft l.length)) m w hm (by rw [List.length_take]; omega)
        simp only [List.length_cons]; omega
      · have := ih (l.drop (Dig.lft l.length)) (m - Dig.lft l.length) false (by omega) (by rw [List.length_drop]; omega)
        simp only [List.length_cons]; omega
    · unfold extB; rw [Dig.ext_end _ _ _ _ _ _ (by omega)]; split <;> simp
theorem extB_bin (l : List ByteArray) (m : Nat) (w : Bool) (hm : 1 ≤ m) (hl : m ≤ l.length) : (extB l m w).length ≤ 2 * binN l.length := by
  have h1 := extB_le (binN l.length) l m w hm (Nat.le_of_lt (binN_pow _))
  have h2 := binN_pos l.length (by omega)
  omega
theorem extB_32 : ∀ (n : Nat) (l : List ByteArray) (m : Nat) (w : Bool), 1 ≤ m → l.length = n → ∀ x ∈ extB l m w, x.size = 32 := by
  intro n
  induction n using Nat.strongRecOn with
  | ind n ih =>
    intro l m w hm hn x hx
    by_cases h2 : m < l.length
    · have h5 := Dig.lft_lt (n := l.length) (by omega)
      have h6 := Dig.lft_pos l.length
      unfold extB at *
      rw [Dig.ext_step _ _ _ _ _ _ hm h2] at hx
      split at hx
      · rcases List.mem_cons.1 hx with rfl | hx
        · exact rootB_size _
        · exact ih (Dig.lft l.length) (by omega) (l.take (Dig.lft l.length)) m w hm (by rw [List.length_take, Nat.min_eq_left (by omega)]) x hx
      · rcases List.mem_cons.1 hx with rfl | hx
        · exact rootB_size _
        · exact ih (l.length - Dig.lft l.length) (by omega) (l.drop (Dig.lft l.length)) _ _ (by omega) (by rw [List.length_drop]) x hx
    · unfold extB at hx; rw [Dig.ext_end _ _ _ _ _ _ (by omega)] at hx
      split at hx
      · cases hx
      · obtain rfl := List.mem_singleton.1 hx; exact rootB_size _
theorem wayE_ext : ∀ (n : Nat) (l : List ByteArray) (m : Nat) (w : Bool), 1 ≤ m → m ≤ l.length → l.length = n →
    ∃ ws r w' b, wayEB l.length m (extB l m w) w = some (ws, r, w') ∧ (w' = true → w = true ∧ r = [] ∧ b = rootB (l.take m)) ∧ (w' = false → r = [b]) ∧ Dig.first nodeB b ws = rootB (l.take m) ∧ Dig.value nodeB b ws = rootB l := by
  intro n
  induction n using Nat.strongRecOn with
  | ind n ih =>
    intro l m w hm hml hn
    by_cases h2 : m < l.length
    · obtain ⟨k, hk⟩ : ∃ k, Dig.lft l.length = k := ⟨_, rfl⟩
      have h5 := Dig.lft_lt (n := l.length) (by omega)
      have h6 := Dig.lft_pos l.length
      have h7 := lft_half l.length (by omega)
      rw [hk] at h5 h6 h7
      have hrt : rootB l = nodeB (rootB (l.take k)) (rootB (l.drop k)) := by unfold rootB; rw [Dig.root_two _ _ _ l (by omega), hk]
      have hst : extB l m w = if m ≤ k then rootB (l.drop k) :: extB (l.take k) m w else rootB (l.take k) :: extB (l.drop k) (m - k) false := by
        unfold extB; rw [Dig.ext_step _ _ _ _ _ _ hm h2, hk]; rfl
      have hlt : (l.take k).length = k := by rw [List.length_take]; omega
      have hld : (l.drop k).length = l.length - k := List.length_drop
      by_cases hmk : m ≤ k
      · rw [if_pos hmk] at hst
        obtain ⟨ws, r, w', b, e1, e2, e3, e4, e5⟩ := ih k (by omega) (l.take k) m w hm (by omega) hlt
        rw [hlt] at e1
        have htt : (l.take k).take m = l.take m := by rw [List.take_take]; congr 1; omega
        rw [htt] at e2 e4
        refine ⟨(rootB (l.drop k), false) :: ws, r, w', b, ?_, e2, e3, ?_, ?_⟩
        · rw [hst]; unfold wayEB at *
          rw [Dig.wayE_cons _ _ _ _ _ hm h2, hk, if_pos hmk, e1]; rfl
        · rw [Dig.first_cons]; exact e4
        · rw [Dig.value_cons, e5, hrt]; rfl
      · rw [if_neg hmk] at hst
        obtain ⟨ws, r, w', b, e1, e2, e3, e4, e5⟩ := ih (l.length - k) (by omega) (l.drop k) (m - k) false (by omega) (by omega) hld
        rw [hld] at e1
        have hlm : Dig.lft m = k := by
          have : ∃ j, k = 2 ^ j := ⟨_, hk.symm⟩
          obtain ⟨j, rfl⟩ := this
          exact Dig.lft_unique (by omega) (by omega)
        have hmt : (l.take m).length = m := by rw [List.length_take]; omega
        have hrm : rootB (l.take m) = nodeB (rootB (l.take k)) (rootB ((l.drop k).take (m - k))) := by
          unfold rootB; rw [Dig.root_two _ _ _ (l.take m) (by omega), hmt, hlm, List.take_take, Nat.min_eq_left (by omega), List.drop_take]
        refine ⟨(rootB (l.take k), true) :: ws, r, w', b, ?_, (fun h => absurd (e2 h).1 (by decide)), e3, ?_, ?_⟩
        · rw [hst]; unfold wayEB at *
          rw [Dig.wayE_cons _ _ _ _ _ hm h2, hk, if_neg hmk, e1]; rfl
        · rw [Dig.first_cons, hrm, e4]; rfl
        · rw [Dig.value_cons, e5, hrt]; rfl
    · have e : m = l.length := by omega
      refine ⟨[], extB l m w, w, rootB l, by unfold wayEB; rw [Dig.wayE_end _ _ _ _ (by omega)], fun h => ⟨h, ?_, ?_⟩, fun h => ?_, ?_, rfl⟩
      · unfold extB; rw [Dig.ext_end _ _ _ _ _ _ (by omega), h]; rfl
      · rw [e, List.take_length]
      · unfold extB; rw [Dig.ext_end _ _ _ _ _ _ (by omega), h]; rfl
      · rw [e, List.take_length]; rfl
theorem beq_sameB (a : ByteArray) : (a == a) = true := by rw [beq_toListBytes]; exact beq_self_eq_true _
theorem verEB_ok (l : List ByteArray) (m : Nat) (h1 : 1 ≤ m) (h : m ≤ l.length) : verEB (rootB (l.take m)) m (rootB l) l.length (extB l m true).reverse = true := by
  have ha : allD (extB l m true).reverse = true := (allD_iff _).2 fun x hx => extB_32 _ l m true h1 rfl x (List.mem_reverse.1 hx)
  unfold verEB fineE
  rw [ha, decide_eq_true (show (0 : Int) ≤ m by omega), decide_eq_true (show (m : Int) ≤ l.length by omega), rootB_size, rootB_size, if_neg (by omega : ¬ (m : Int) = 0)]
  by_cases e : m = l.length
  · rw [if_pos (by omega)]
    have : extB l m true = [] := by unfold extB; rw [Dig.ext_end _ _ _ _ _ _ (by omega)]; rfl
    rw [this, e, List.take_length, beq_sameB]; rfl
  · rw [if_neg (by omega), List.reverse_reverse, Int.toNat_natCast, Int.toNat_natCast]
    obtain ⟨ws, r, w', b, e1, e2, e3, e4, e5⟩ := wayE_ext _ l m true h1 h rfl
    rw [e1]
    cases w' with
    | true =>
      obtain ⟨_, rfl, rfl⟩ := e2 rfl
      show (_ && (List.isEmpty [] && (Dig.first nodeB (rootB (l.take m)) ws == rootB (l.take m)) && (Dig.value nodeB (rootB (l.take m)) ws == rootB l))) = true
      rw [e4, e5, beq_sameB, beq_sameB]; rfl
    | false =>
      obtain rfl := e3 rfl
      show (_ && ((Dig.first nodeB b ws == rootB (l.take m)) && (Dig.value nodeB b ws == rootB l))) = true
      rw [e4, e5, beq_sameB, beq_sameB]; rfl
theorem verEB_zero (l : List ByteArray) : verEB (rootB (l.take 0)) 0 (rootB l) l.length [] = true := by
  unfold verEB fineE
  rw [decide_eq_true (show (0 : Int) ≤ 0 by omega), decide_eq_true (show (0 : Int) ≤ l.length by omega), rootB_size, rootB_size, if_pos rfl]
  show (_ && (true && (empB == empB))) = true
  rw [beq_sameB]; rfl
theorem verEB_range {old root : ByteArray} {m n : Int} {P : List ByteArray} (h : ¬ (0 ≤ m ∧ m ≤ n)) : verEB old m root n P = false := by
  unfold verEB fineE
  have : (decide (0 ≤ m) && decide (m ≤ n)) = false := by simpa using h
  rw [this]; rfl
end Go.Proofs.YtljgphmdiflphaaDoor
