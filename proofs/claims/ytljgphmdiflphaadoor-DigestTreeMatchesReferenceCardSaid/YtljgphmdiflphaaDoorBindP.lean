/- Binding, the plain law: two accepted proofs of different entries for one place hold two strings with one Sum. -/
import Derived.Test.YtljgphmdiflphaaDoorVerify
namespace Go.Proofs.YtljgphmdiflphaaDoor
set_option linter.unusedVariables false

def pre1 (m : UInt8) (a : ByteArray) : ByteArray := (⟨#[m]⟩ : ByteArray) ++ a
def pre2 (m : UInt8) (a b : ByteArray) : ByteArray := (⟨#[m]⟩ : ByteArray) ++ a ++ b
theorem catB_one (m : UInt8) (a : ByteArray) : catB m [a] = pre1 m a := by
  apply ByteArray.ext
  apply Array.toList_inj.1
  simp [catB, pre1, ByteArray.data_append]
theorem catB_two (m : UInt8) (a b : ByteArray) : catB m [a, b] = pre2 m a b := by
  apply ByteArray.ext
  apply Array.toList_inj.1
  simp [catB, pre2, ByteArray.data_append]
theorem pre1_inj {m : UInt8} {a b : ByteArray} (h : pre1 m a = pre1 m b) : a = b := by
  have h1 := congrArg (fun x : ByteArray => x.data.toList) h
  simp [pre1, ByteArray.data_append] at h1
  exact ByteArray.ext (by simpa using h1)
theorem pre2_inj {m : UInt8} {a b c d : ByteArray} (h : pre2 m a b = pre2 m c d) (hs : a.size = c.size) : a = c ∧ b = d := by
  have h1 := congrArg (fun x : ByteArray => x.data.toList) h
  simp [pre2, ByteArray.data_append] at h1
  have h2 := List.append_inj h1 (by simpa using hs)
  exact ⟨ByteArray.ext (by simpa using h2.1), ByteArray.ext (by simpa using h2.2)⟩

def wayP : Nat → Nat → ByteArray → List ByteArray → List ByteArray × ByteArray
  | n, i, s, [] => ([pre1 0 s], leafB s)
  | n, i, s, x :: t => if n ≤ 1 then ([pre1 0 s], leafB s) else
    if i < Dig.lft n then (pre2 1 (wayP (Dig.lft n) i s t).2 x :: (wayP (Dig.lft n) i s t).1, nodeB (wayP (Dig.lft n) i s t).2 x)
    else (pre2 1 x (wayP (n - Dig.lft n) (i - Dig.lft n) s t).2 :: (wayP (n - Dig.lft n) (i - Dig.lft n) s t).1, nodeB x (wayP (n - Dig.lft n) (i - Dig.lft n) s t).2)
theorem wayP_size : ∀ (t : List ByteArray) (n i : Nat) (s : ByteArray), (wayP n i s t).2.size = 32 := by
  intro t
  cases t with
  | nil => intro n i s; rw [wayP]; exact sumB_size _
  | cons x t =>
    intro n i s
    rw [wayP]
    split
    · exact sumB_size _
    · split <;> exact sumB_size _
theorem wayP_length : ∀ (t : List ByteArray) (n i : Nat) (s : ByteArray), (wayP n i s t).1.length ≤ t.length + 1 := by
  intro t
  induction t with
  | nil => intro n i s; rw [wayP]; simp
  | cons x t ih =>
    intro n i s
    rw [wayP]
    split
    · simp
    · split
      · have := ih (Dig.lft n) i s; simp only [List.length_cons]; omega
      · have := ih (n - Dig.lft n) (i - Dig.lft n) s; simp only [List.length_cons]; omega
theorem wayP_value : ∀ (t : List ByteArray) (n i : Nat) (s : ByteArray) (ws : List (ByteArray × Bool)) (r : List ByteArray), wayB n i t = some (ws, r) → (wayP n i s t).2 = Dig.value nodeB (leafB s) ws := by
  intro t
  induction t with
  | nil =>
    intro n i s ws r h
    unfold wayB at h
    by_cases h2 : 2 ≤ n
    · rw [Dig.way_nil _ _ h2] at h; cases h
    · rw [Dig.way_one _ _ _ (by omega)] at h
      cases h; rw [wayP]; rfl
  | cons x t ih =>
    intro n i s ws r h
    unfold wayB at h ih
    by_cases h2 : 2 ≤ n
    · rw [Dig.way_cons _ _ _ _ h2] at h
      rw [wayP, if_neg (by omega)]
      split at h
      · rename_i hk
        rw [if_pos hk]
        obtain ⟨⟨ws', r'⟩, e1, e2⟩ := Option.map_eq_some_iff.1 h
        cases e2
        rw [Dig.value_cons, ← ih _ _ s _ _ e1]; rfl
      · rename_i hk
        rw [if_neg hk]
        obtain ⟨⟨ws', r'⟩, e1, e2⟩ := Option.map_eq_some_iff.1 h
        cases e2
        rw [Dig.value_cons, ← ih _ _ s _ _ e1]; rfl
    · rw [Dig.way_one _ _ _ (by omega)] at h
      cases h
      rw [wayP, if_pos (by omega)]; rfl

def collB : List ByteArray → List ByteArray → Bool
  | a :: xs, b :: ys => (!(a == b) && (sumB a == sumB b)) || collB xs ys
  | _, _ => false
theorem beq_iffB {a b : ByteArray} : (a == b) = true ↔ a = b := by
  rw [beq_toListBytes, beq_iff_eq]
  exact ⟨fun h => ByteArray.ext (by rw [ByteArray.toList_eq, ByteArray.toList_eq] at h; exact Array.toList_inj.1 h), fun h => by rw [h]⟩
theorem neB {a b : ByteArray} (h : a ≠ b) : (a == b) = false := by
  cases e : (a == b) with
  | false => rfl
  | true => exact absurd (beq_iffB.1 e) h
theorem sameB (a : ByteArray) : (a == a) = true := beq_iffB.2 rfl
theorem collB_head {a b : ByteArray} {xs ys : List ByteArray} (h : a ≠ b) (hs : sumB a = sumB b) : collB (a :: xs) (b :: ys) = true := by
  rw [collB, neB h, hs, sameB]; rfl
theorem collB_tail {a b : ByteArray} {xs ys : List ByteArray} (h : collB xs ys = true) : collB (a :: xs) (b :: ys) = true := by
  rw [collB, h]; simp

theorem wayP_coll : ∀ (t t' : List ByteArray) (n i : Nat) (s s' : ByteArray), (∀ x ∈ t, x.size = 32) → (∀ x ∈ t', x.size = 32) → (wayB n i t).isSome → (wayB n i t').isSome → (wayP n i s t).2 = (wayP n i s' t').2 → s ≠ s' → collB (wayP n i s t).1 (wayP n i s' t').1 = true := by
  intro t
  induction t with
  | nil =>
    intro t' n i s s' _ _ h1 h2 hv hs
    have hn : n ≤ 1 := by
      by_cases h : 2 ≤ n
      · unfold wayB at h1; rw [Dig.way_nil _ _ h] at h1; cases h1
      · omega
    have e1 : wayP n i s [] = ([pre1 0 s], leafB s) := rfl
    have e2 : wayP n i s' t' = ([pre1 0 s'], leafB s') := by
      cases t' with
      | nil => rfl
      | cons x t' => rw [wayP, if_pos hn]
    rw [e1, e2] at hv ⊢
    exact collB_head (fun h => hs (pre1_inj h)) (by simpa [leafB, catB_one] using hv)
  | cons x t ih =>
    intro t' n i s s' hx hx' h1 h2 hv hs
    by_cases hn : n ≤ 1
    · have e1 : wayP n i s (x :: t) = ([pre1 0 s], leafB s) := by rw [wayP, if_pos hn]
      have e2 : wayP n i s' t' = ([pre1 0 s'], leafB s') := by
        cases t' with
        | nil => rfl
        | cons x t' => rw [wayP, if_pos hn]
      rw [e1, e2] at hv ⊢
      exact collB_head (fun h => hs (pre1_inj h)) (by simpa [leafB, catB_one] using hv)
    · cases t' with
      | nil => unfold wayB at h2; rw [Dig.way_nil _ _ (by omega)] at h2; cases h2
      | cons x' t' =>
        unfold wayB at h1 h2
        rw [Dig.way_cons _ _ _ _ (by omega)] at h1 h2
        rw [wayP, if_neg hn] at hv ⊢
        rw [wayP, if_neg hn] at hv ⊢
        have z1 := hx x (by simp)
        have z2 := hx' x' (by simp)
        by_cases hk : i < Dig.lft n
        · rw [if_pos hk] at h1 h2 hv ⊢
          rw [if_pos hk] at hv ⊢
          have i1 : (wayB (Dig.lft n) i t).isSome := by simpa [wayB] using h1
          have i2 : (wayB (Dig.lft n) i t').isSome := by simpa [wayB] using h2
          by_cases he : pre2 1 (wayP (Dig.lft n) i s t).2 x = pre2 1 (wayP (Dig.lft n) i s' t').2 x'
          · obtain ⟨e1, e2⟩ := pre2_inj he (by rw [wayP_size, wayP_size])
            exact collB_tail (ih t' _ _ s s' (fun y hy => hx y (by simp [hy])) (fun y hy => hx' y (by simp [hy])) i1 i2 e1 hs)
          · exact collB_head he (by simpa [nodeB, catB_two] using hv)
        · rw [if_neg hk] at h1 h2 hv ⊢
          rw [if_neg hk] at hv ⊢
          have i1 : (wayB (n - Dig.lft n) (i - Dig.lft n) t).isSome := by simpa [wayB] using h1
          have i2 : (wayB (n - Dig.lft n) (i - Dig.lft n) t').isSome := by simpa [wayB] using h2
          by_cases he : pre2 1 x (wayP (n - Dig.lft n) (i - Dig.lft n) s t).2 = pre2 1 x' (wayP (n - Dig.lft n) (i - Dig.lft n) s' t').2
          · obtain ⟨e1, e2⟩ := pre2_inj he (by rw [z1, z2])
            exact collB_tail (ih t' _ _ s s' (fun y hy => hx y (by simp [hy])) (fun y hy => hx' y (by simp [hy])) i1 i2 e2 hs)
          · exact collB_head he (by simpa [nodeB, catB_two] using hv)

theorem verB_coll {root : ByteArray} {n i : Int} {s s' : ByteArray} {P Q : List ByteArray} (h1 : verB root n i s P = true) (h2 : verB root n i s' Q = true) (hs : s ≠ s') :
    collB (wayP n.toNat i.toNat s P.reverse).1 (wayP n.toNat i.toNat s' Q.reverse).1 = true := by
  unfold verB at h1 h2
  simp only [Bool.and_eq_true] at h1 h2
  have a1 := (allD_iff _).1 h1.1.2
  have a2 := (allD_iff _).1 h2.1.2
  cases hw : wayB n.toNat i.toNat P.reverse with
  | none => rw [hw] at h1; cases h1.2
  | some r =>
    cases hw' : wayB n.toNat i.toNat Q.reverse with
    | none => rw [hw'] at h2; cases h2.2
    | some r' =>
      obtain ⟨ws, r⟩ := r
      obtain ⟨ws', r'⟩ := r'
      rw [hw] at h1; rw [hw'] at h2
      have v1 := h1.2; have v2 := h2.2
      simp only [endB, Bool.and_eq_true] at v1 v2
      refine wayP_coll _ _ _ _ _ _ (fun x hx => a1 x (List.mem_reverse.1 hx)) (fun x hx => a2 x (List.mem_reverse.1 hx)) (by rw [hw]; rfl) (by rw [hw']; rfl) ?_ hs
      rw [wayP_value _ _ _ _ _ _ hw, wayP_value _ _ _ _ _ _ hw', beq_iffB.1 v1.2, beq_iffB.1 v2.2]
end Go.Proofs.YtljgphmdiflphaaDoor
