/- Plain facts for the disk: which pending writes survive, and what they leave. No program in sight. -/
import Derived.Lib.SlicesCompact
import Derived.Laws.CopyOwn
namespace Go.Proofs.Ytljgphmdiflphaa

theorem compactUpTo_sorted (d : Array Int) (hs : ∀ i j, i < j → j < d.size → d[i]! ≤ d[j]!) : ∀ m, m ≤ d.size →
    (Lib.compactUpTo d m).Pairwise (· < ·) ∧ (∀ x, x ∈ Lib.compactUpTo d m ↔ ∃ j, j < m ∧ d[j]! = x)
  | 0, _ => by simp [Lib.compactUpTo]
  | m + 1, hm => by
    obtain ⟨h1, h2⟩ := compactUpTo_sorted d hs m (by omega)
    rw [Lib.compactUpTo_succ]
    by_cases hk : Lib.keeps d m = true
    · rw [if_pos hk]
      have hne : m ≠ 0 → d[m - 1]! < d[m]! := fun h0 => by
        have h := hs (m - 1) m (by omega) (by omega)
        have hn : d[m]! ≠ d[m - 1]! := by
          unfold Lib.keeps at hk
          simp [h0] at hk
          exact hk
        omega
      refine ⟨List.pairwise_append.2 ⟨h1, by simp, fun x hx y hy => ?_⟩, fun x => ?_⟩
      · obtain ⟨j, hj, rfl⟩ := (h2 x).1 hx
        simp at hy; subst hy
        have h0 : m ≠ 0 := by omega
        have := hne h0
        rcases Nat.lt_or_ge j (m - 1) with h | h
        · have := hs j (m - 1) h (by omega); omega
        · obtain rfl : j = m - 1 := by omega
          exact this
      · simp only [List.mem_append, List.mem_singleton, h2]
        constructor
        · rintro (⟨j, hj, e⟩ | rfl)
          · exact ⟨j, by omega, e⟩
          · exact ⟨m, by omega, rfl⟩
        · rintro ⟨j, hj, e⟩
          rcases Nat.lt_or_ge j m with h | h
          · exact .inl ⟨j, h, e⟩
          · obtain rfl : j = m := by omega
            exact .inr e.symm
    · rw [if_neg hk, List.append_nil]
      refine ⟨h1, fun x => ?_⟩
      rw [h2]
      constructor
      · rintro ⟨j, hj, e⟩; exact ⟨j, by omega, e⟩
      · rintro ⟨j, hj, e⟩
        rcases Nat.lt_or_ge j m with h | h
        · exact ⟨j, h, e⟩
        · obtain rfl : j = m := by omega
          have hk' : j ≠ 0 ∧ d[j]! = d[j - 1]! := by
            unfold Lib.keeps at hk
            simp at hk
            exact hk
          exact ⟨j - 1, by omega, by rw [← e]; exact hk'.2.symm⟩

/-- which numbers are none of a pending write -/
def outB (m : Nat) (i : Int) : Bool := decide (i < 0 ∨ (m : Int) ≤ i)

/-- the numbers of the pending writes that survive, in ascending order, as the program reckons them -/
def ordOf (keep : List Int) (m : Nat) : List Int := (Lib.compact (keep.mergeSort fun x y => decide (x ≤ y))).filter fun i => !outB m i
/-- .. and as they are meant -/
def survN (keep : List Int) (m : Nat) : List Nat := (List.range m).filter fun i => decide ((i : Int) ∈ keep)

theorem asc_ext : ∀ {a b : List Int}, a.Pairwise (· < ·) → b.Pairwise (· < ·) → (∀ x, x ∈ a ↔ x ∈ b) → a = b
  | [], [], _, _, _ => rfl
  | [], y :: b, _, _, h => by have := (h y).2 (by simp); simp at this
  | x :: a, [], _, _, h => by have := (h x).1 (by simp); simp at this
  | x :: a, y :: b, ha, hb, h => by
    obtain ⟨ha1, ha2⟩ := List.pairwise_cons.1 ha
    obtain ⟨hb1, hb2⟩ := List.pairwise_cons.1 hb
    have hxy : x = y := by
      have h1 := (h x).1 (by simp)
      have h2 := (h y).2 (by simp)
      rcases List.mem_cons.1 h1 with e | h1
      · exact e
      · rcases List.mem_cons.1 h2 with e | h2
        · exact e.symm
        · have := ha1 y h2; have := hb1 x h1; omega
    subst hxy
    rw [asc_ext ha2 hb2 fun z => ?_]
    have hz := h z
    constructor
    · intro hm
      rcases List.mem_cons.1 (hz.1 (by simp [hm])) with e | h'
      · subst e; exact absurd (ha1 z hm) (by omega)
      · exact h'
    · intro hm
      rcases List.mem_cons.1 (hz.2 (by simp [hm])) with e | h'
      · subst e; exact absurd (hb1 z hm) (by omega)
      · exact h'

theorem ordOf_eq (keep : List Int) (m : Nat) : ordOf keep m = (survN keep m).map fun (i : Nat) => (i : Int) := by
  have hsort : (keep.mergeSort fun x y => decide (x ≤ y)).Pairwise fun x y => x ≤ y := by
    have := List.pairwise_mergeSort (le := fun x y : Int => decide (x ≤ y)) (fun a b c h1 h2 => by simp at *; omega) (fun a b => by simp; omega) keep
    exact this.imp (by simp)
  generalize hL : (keep.mergeSort fun x y => decide (x ≤ y)) = L at hsort
  have hmem : ∀ x, x ∈ L ↔ x ∈ keep := fun x => by rw [← hL]; exact List.mem_mergeSort
  obtain ⟨h1, h2⟩ := compactUpTo_sorted L.toArray (fun i j hij hj => by
    have hj' : j < L.length := by simpa using hj
    rw [getElem!_pos L.toArray i (by simp; omega), getElem!_pos L.toArray j (by simpa using hj')]
    simp only [List.getElem_toArray]
    exact (List.pairwise_iff_getElem.1 hsort) i j (by omega) hj' hij) L.length (by simp)
  have h3 : ∀ x, x ∈ Lib.compact L ↔ x ∈ keep := fun x => by
    rw [show Lib.compact L = Lib.compactUpTo L.toArray L.length from rfl, h2, ← hmem]
    constructor
    · rintro ⟨j, hj, e⟩
      rw [getElem!_pos L.toArray j (by simpa using hj)] at e
      simp at e
      rw [← e]; exact List.getElem_mem hj
    · intro hx
      obtain ⟨j, hj, e⟩ := List.getElem_of_mem hx
      exact ⟨j, hj, by rw [getElem!_pos L.toArray j (by simpa using hj)]; simpa using e⟩
  refine asc_ext ?_ ?_ fun x => ?_
  · unfold ordOf; rw [hL]; exact List.Pairwise.filter _ h1
  · unfold survN
    rw [List.pairwise_map]
    exact (List.Pairwise.filter _ List.pairwise_lt_range).imp (fun h => by omega)
  · unfold ordOf survN
    rw [hL]
    simp only [List.mem_filter, h3, List.mem_map, List.mem_range, outB, Bool.not_eq_true', decide_eq_false_iff_not, decide_eq_true_eq]
    constructor
    · rintro ⟨hx, h⟩
      exact ⟨x.toNat, ⟨by omega, by rwa [Int.toNat_of_nonneg (by omega)]⟩, by omega⟩
    · rintro ⟨i, ⟨hi, hk⟩, rfl⟩
      exact ⟨hk, by omega⟩

/-- the first m bytes of a string -/
def takeB (s : ByteArray) (m : Nat) : ByteArray := ⟨(s.data.toList.take m).toArray⟩

/-- A content after writes. -/
def applyW (b : List UInt8) (ws : List (Nat × ByteArray)) : List UInt8 := ws.foldl (fun b p => splice b p.1 p.2.data.toList) b
theorem applyW_snoc (b : List UInt8) (ws : List (Nat × ByteArray)) (p : Nat × ByteArray) : applyW b (ws ++ [p]) = splice (applyW b ws) p.1 p.2.data.toList := by simp [applyW]
/-- The last one of the survivors torn. -/
def tornW (ws : List (Nat × ByteArray)) (torn : Int) : List (Nat × ByteArray) := ws.mapIdx fun k p => if k + 1 = ws.length ∧ 0 ≤ torn then (p.1, takeB p.2 torn.toNat) else p
/-- The survivors. -/
def survW (pe : List (Nat × ByteArray)) (keep : List Int) : List (Nat × ByteArray) := (survN keep pe.length).map fun i => pe[i]!

theorem survN_lt {keep : List Int} {m i : Nat} (h : i ∈ survN keep m) : i < m := by
  unfold survN at h; simpa using (List.mem_filter.1 h).1

end Go.Proofs.Ytljgphmdiflphaa
