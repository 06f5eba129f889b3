/- Binding of extensions, the plain law: two accepted extensions of different beginnings of one length hold two strings with one Sum. -/
import Derived.Test.YtljgphmdiflphaaDoorBindP
import Derived.Test.YtljgphmdiflphaaDoorExtP
namespace Go.Proofs.YtljgphmdiflphaaDoor
set_option linter.unusedVariables false

def sidesP (old : ByteArray) : Nat → Nat → List ByteArray → Bool → List ByteArray × ByteArray
  | m, n, [], w => ([], old)
  | m, n, x :: t, w => if n ≤ m then (if w then ([], old) else ([], (x :: t).getLast (by simp))) else
    if m ≤ Dig.lft n then (pre2 1 (sidesP old m (Dig.lft n) t w).2 x :: (sidesP old m (Dig.lft n) t w).1, nodeB (sidesP old m (Dig.lft n) t w).2 x)
    else (pre2 1 x (sidesP old (m - Dig.lft n) (n - Dig.lft n) t false).2 :: (sidesP old (m - Dig.lft n) (n - Dig.lft n) t false).1, nodeB x (sidesP old (m - Dig.lft n) (n - Dig.lft n) t false).2)
theorem sidesP_le (old : ByteArray) {m n : Nat} (x : ByteArray) (t : List ByteArray) (w : Bool) (h : m < n) (hk : m ≤ Dig.lft n) : sidesP old m n (x :: t) w = (pre2 1 (sidesP old m (Dig.lft n) t w).2 x :: (sidesP old m (Dig.lft n) t w).1, nodeB (sidesP old m (Dig.lft n) t w).2 x) := by
  rw [sidesP, if_neg (by omega), if_pos hk]
theorem sidesP_gt (old : ByteArray) {m n : Nat} (x : ByteArray) (t : List ByteArray) (w : Bool) (h : m < n) (hk : ¬ m ≤ Dig.lft n) : sidesP old m n (x :: t) w = (pre2 1 x (sidesP old (m - Dig.lft n) (n - Dig.lft n) t false).2 :: (sidesP old (m - Dig.lft n) (n - Dig.lft n) t false).1, nodeB x (sidesP old (m - Dig.lft n) (n - Dig.lft n) t false).2) := by
  rw [sidesP, if_neg (by omega), if_neg hk]
theorem sidesP_size (old : ByteArray) (ho : old.size = 32) : ∀ (t : List ByteArray) (m n : Nat) (w : Bool), (∀ x ∈ t, x.size = 32) → (sidesP old m n t w).2.size = 32 := by
  intro t
  cases t with
  | nil => intro m n w _; exact ho
  | cons x t =>
    intro m n w h
    rw [sidesP]
    split
    · split
      · exact ho
      · exact h _ (List.getLast_mem _)
    · split <;> exact sumB_size _
theorem sidesP_length (old : ByteArray) : ∀ (t : List ByteArray) (m n : Nat) (w : Bool), (sidesP old m n t w).1.length ≤ t.length := by
  intro t
  induction t with
  | nil => intro m n w; rw [sidesP]; simp
  | cons x t ih =>
    intro m n w
    rw [sidesP]
    split
    · split <;> simp
    · split
      · have := ih m (Dig.lft n) w; simp only [List.length_cons]; omega
      · have := ih (m - Dig.lft n) (n - Dig.lft n) false; simp only [List.length_cons]; omega
theorem sidesP_bound (old : ByteArray) (ho : old.size ≤ 60) : ∀ (t : List ByteArray) (m n : Nat) (w : Bool), (∀ x ∈ t, x.size ≤ 60) → (sidesP old m n t w).2.size ≤ 60 := by
  intro t
  cases t with
  | nil => intro m n w _; exact ho
  | cons x t =>
    intro m n w h
    rw [sidesP]
    split
    · split
      · exact ho
      · exact h _ (List.getLast_mem _)
    · split
      · have := sumB_size (catB 1 [(sidesP old m (Dig.lft n) t w).2, x]); show (sumB _).size ≤ 60; omega
      · have := sumB_size (catB 1 [x, (sidesP old (m - Dig.lft n) (n - Dig.lft n) t false).2]); show (sumB _).size ≤ 60; omega
theorem sidesP_small (old : ByteArray) (ho : old.size ≤ 60) : ∀ (t : List ByteArray) (m n : Nat) (w : Bool), (∀ x ∈ t, x.size ≤ 60) → ∀ y ∈ (sidesP old m n t w).1, y.size ≤ 100000 := by
  intro t
  induction t with
  | nil => intro m n w _ y hy; rw [sidesP] at hy; cases hy
  | cons x t ih =>
    intro m n w hx y hy
    have hx60 := hx x (by simp)
    rw [sidesP] at hy
    split at hy
    · split at hy <;> cases hy
    · split at hy
      · rcases List.mem_cons.1 hy with rfl | hy
        · have := sidesP_bound old ho t m (Dig.lft n) w (fun z hz => hx z (by simp [hz]))
          unfold pre2
          rw [ByteArray.size_append, ByteArray.size_append, show (⟨#[1]⟩ : ByteArray).size = 1 from rfl]; omega
        · exact ih _ _ w (fun z hz => hx z (by simp [hz])) y hy
      · rcases List.mem_cons.1 hy with rfl | hy
        · have := sidesP_bound old ho t (m - Dig.lft n) (n - Dig.lft n) false (fun z hz => hx z (by simp [hz]))
          unfold pre2
          rw [ByteArray.size_append, ByteArray.size_append, show (⟨#[1]⟩ : ByteArray).size = 1 from rfl]; omega
        · exact ih _ _ false (fun z hz => hx z (by simp [hz])) y hy

/-- the root at the end of a way -/
def Tip (old : ByteArray) (r : List ByteArray) (w : Bool) (r0 : ByteArray) : Prop := (w = true ∧ r = [] ∧ r0 = old) ∨ (w = false ∧ r = [r0])
theorem sidesP_value (old : ByteArray) : ∀ (t : List ByteArray) (m n : Nat) (w : Bool) (ws : List (ByteArray × Bool)) (r : List ByteArray) (w' : Bool) (r0 : ByteArray), 1 ≤ m → wayEB n m t w = some (ws, r, w') → Tip old r w' r0 → (sidesP old m n t w).2 = Dig.value nodeB r0 ws := by
  intro t
  induction t with
  | nil =>
    intro m n w ws r w' r0 hm h ht
    unfold wayEB at h
    by_cases h2 : m < n
    · rw [Dig.wayE_nil _ _ _ h2] at h; cases h
    · rw [Dig.wayE_end _ _ _ _ (by omega)] at h
      cases h
      rcases ht with ⟨rfl, _, rfl⟩ | ⟨rfl, h⟩
      · rfl
      · cases h
  | cons x t ih =>
    intro m n w ws r w' r0 hm h ht
    unfold wayEB at h ih
    by_cases h2 : m < n
    · rw [Dig.wayE_cons _ _ _ _ _ hm h2] at h
      rw [sidesP, if_neg (by omega)]
      split at h
      · rename_i hk
        rw [if_pos hk]
        obtain ⟨⟨ws', r', w2⟩, e1, e2⟩ := Option.map_eq_some_iff.1 h
        cases e2
        rw [Dig.value_cons, ← ih _ _ _ _ _ _ _ hm e1 ht]; rfl
      · rename_i hk
        rw [if_neg hk]
        obtain ⟨⟨ws', r', w2⟩, e1, e2⟩ := Option.map_eq_some_iff.1 h
        cases e2
        rw [Dig.value_cons, ← ih _ _ _ _ _ _ _ (by omega) e1 ht]; rfl
    · rw [Dig.wayE_end _ _ _ _ (by omega)] at h
      cases h
      rw [sidesP, if_pos (by omega)]
      rcases ht with ⟨rfl, h, rfl⟩ | ⟨rfl, h⟩
      · cases h
      · cases h; rfl

theorem sidesP_coll (a b : ByteArray) (ha : a.size = 32) (hb : b.size = 32) : ∀ (t t' : List ByteArray) (m n : Nat) (w : Bool) (ws ws' : List (ByteArray × Bool)) (r r' : List ByteArray) (w1 w2 : Bool) (ra rb : ByteArray), (∀ x ∈ t, x.size = 32) → (∀ x ∈ t', x.size = 32) → 1 ≤ m →
    wayEB n m t w = some (ws, r, w1) → Tip a r w1 ra → wayEB n m t' w = some (ws', r', w2) → Tip b r' w2 rb → (sidesP a m n t w).2 = (sidesP b m n t' w).2 → Dig.first nodeB ra ws ≠ Dig.first nodeB rb ws' → collB (sidesP a m n t w).1 (sidesP b m n t' w).1 = true := by
  intro t
  induction t with
  | nil =>
    intro t' m n w ws ws' r r' w1 w2 ra rb _ _ hm h1 t1 h2 t2 hv hf
    have v1 := sidesP_value a _ _ _ _ _ _ _ _ hm h1 t1
    have v2 := sidesP_value b _ _ _ _ _ _ _ _ hm h2 t2
    unfold wayEB at h1 h2
    by_cases hlt : m < n
    · rw [Dig.wayE_nil _ _ _ hlt] at h1; cases h1
    · rw [Dig.wayE_end _ _ _ _ (by omega)] at h1 h2
      cases h1; cases h2
      exact absurd (v1.symm.trans (hv.trans v2)) hf
  | cons x t ih =>
    intro t' m n w ws ws' r r' w1 w2 ra rb hx hx' hm h1 t1 h2 t2 hv hf
    by_cases hlt : m < n
    · cases t' with
      | nil => unfold wayEB at h2; rw [Dig.wayE_nil _ _ _ hlt] at h2; cases h2
      | cons x' t' =>
        unfold wayEB at h1 h2
        rw [Dig.wayE_cons _ _ _ _ _ hm hlt] at h1 h2
        have z1 := hx x (by simp)
        have z2 := hx' x' (by simp)
        have hxt : ∀ y ∈ t, y.size = 32 := fun y hy => hx y (by simp [hy])
        have hxt' : ∀ y ∈ t', y.size = 32 := fun y hy => hx' y (by simp [hy])
        by_cases hk : m ≤ Dig.lft n
        · rw [if_pos hk] at h1 h2
          rw [sidesP_le a x t w hlt hk, sidesP_le b x' t' w hlt hk] at hv ⊢
          obtain ⟨⟨ws1, q1, p1⟩, e1, f1⟩ := Option.map_eq_some_iff.1 h1
          obtain ⟨⟨ws2, q2, p2⟩, e2, f2⟩ := Option.map_eq_some_iff.1 h2
          cases f1; cases f2
          rw [Dig.first_cons, Dig.first_cons] at hf
          by_cases he : pre2 1 (sidesP a m (Dig.lft n) t w).2 x = pre2 1 (sidesP b m (Dig.lft n) t' w).2 x'
          · obtain ⟨g1, g2⟩ := pre2_inj he (by rw [sidesP_size a ha _ _ _ _ hxt, sidesP_size b hb _ _ _ _ hxt'])
            exact collB_tail (ih t' _ _ _ _ _ _ _ _ _ _ _ hxt hxt' hm e1 t1 e2 t2 g1 (by simpa using hf))
          · exact collB_head he (by simpa [nodeB, catB_two] using hv)
        · rw [if_neg hk] at h1 h2
          rw [sidesP_gt a x t w hlt hk, sidesP_gt b x' t' w hlt hk] at hv ⊢
          obtain ⟨⟨ws1, q1, p1⟩, e1, f1⟩ := Option.map_eq_some_iff.1 h1
          obtain ⟨⟨ws2, q2, p2⟩, e2, f2⟩ := Option.map_eq_some_iff.1 h2
          cases f1; cases f2
          rw [Dig.first_cons, Dig.first_cons] at hf
          by_cases he : pre2 1 x (sidesP a (m - Dig.lft n) (n - Dig.lft n) t false).2 = pre2 1 x' (sidesP b (m - Dig.lft n) (n - Dig.lft n) t' false).2
          · obtain ⟨g1, g2⟩ := pre2_inj he (by rw [z1, z2])
            refine collB_tail (ih t' _ _ _ _ _ _ _ _ _ _ _ hxt hxt' (by omega) e1 t1 e2 t2 g2 (fun h => hf ?_))
            rw [h, g1]
          · exact collB_head he (by simpa [nodeB, catB_two] using hv)
    · have v1 := sidesP_value a _ _ _ _ _ _ _ _ hm h1 t1
      have v2 := sidesP_value b _ _ _ _ _ _ _ _ hm h2 t2
      unfold wayEB at h1 h2
      rw [Dig.wayE_end _ _ _ _ (by omega)] at h1 h2
      cases h1; cases h2
      exact absurd (v1.symm.trans (hv.trans v2)) hf

theorem endEB_tip {old root : ByteArray} {q : Option (List (ByteArray × Bool) × List ByteArray × Bool)} (h : endEB old root q = true) : ∃ ws r w r0, q = some (ws, r, w) ∧ Tip old r w r0 ∧ Dig.first nodeB r0 ws = old ∧ Dig.value nodeB r0 ws = root := by
  match q, h with
  | some (ws, r, true), h =>
    simp only [endEB, Bool.and_eq_true] at h
    exact ⟨ws, r, true, old, rfl, .inl ⟨rfl, by simpa using h.1.1, rfl⟩, beq_iffB.1 h.1.2, beq_iffB.1 h.2⟩
  | some (ws, [r0], false), h =>
    simp only [endEB, Bool.and_eq_true] at h
    exact ⟨ws, [r0], false, r0, rfl, .inr ⟨rfl, rfl⟩, beq_iffB.1 h.1, beq_iffB.1 h.2⟩
  | some (ws, [], false), h => cases h
  | some (ws, _ :: _ :: _, false), h => cases h

theorem verEB_coll {a b root : ByteArray} {m n : Int} {P Q : List ByteArray} (h1 : verEB a m root n P = true) (h2 : verEB b m root n Q = true) (hab : a ≠ b) :
    (1 ≤ m ∧ m < n ∧ a.size = 32 ∧ b.size = 32) ∧ collB (sidesP a m.toNat n.toNat P.reverse true).1 (sidesP b m.toNat n.toNat Q.reverse true).1 = true := by
  unfold verEB fineE at h1 h2
  simp only [Bool.and_eq_true, decide_eq_true_eq, beq_iff_eq] at h1 h2
  obtain ⟨⟨⟨⟨⟨m0, mn⟩, aP⟩, za⟩, zr⟩, c1⟩ := h1
  obtain ⟨⟨⟨⟨_, aQ⟩, zb⟩, _⟩, c2⟩ := h2
  by_cases hm0 : m = 0
  · rw [if_pos hm0] at c1 c2
    rw [Bool.and_eq_true] at c1 c2
    exact absurd ((beq_iffB.1 c1.2).trans (beq_iffB.1 c2.2).symm) hab
  · rw [if_neg hm0] at c1 c2
    by_cases hmn : m = n
    · rw [if_pos hmn] at c1 c2
      rw [Bool.and_eq_true] at c1 c2
      exact absurd ((beq_iffB.1 c1.2).trans (beq_iffB.1 c2.2).symm) hab
    · rw [if_neg hmn] at c1 c2
      obtain ⟨ws, r, w, r0, e1, t1, f1, g1⟩ := endEB_tip c1
      obtain ⟨ws', r', w', r0', e2, t2, f2, g2⟩ := endEB_tip c2
      have a1 := (allD_iff _).1 aP
      have a2 := (allD_iff _).1 aQ
      refine ⟨⟨by omega, by omega, za, zb⟩, sidesP_coll a b za zb _ _ _ _ _ _ _ _ _ _ _ _ _ (fun x hx => a1 x (List.mem_reverse.1 hx)) (fun x hx => a2 x (List.mem_reverse.1 hx)) (by omega) e1 t1 e2 t2 ?_ ?_⟩
      · rw [sidesP_value a _ _ _ _ _ _ _ _ (by omega) e1 t1, sidesP_value b _ _ _ _ _ _ _ _ (by omega) e2 t2, g1, g2]
      · rw [f1, f2]; exact hab
end Go.Proofs.YtljgphmdiflphaaDoor
