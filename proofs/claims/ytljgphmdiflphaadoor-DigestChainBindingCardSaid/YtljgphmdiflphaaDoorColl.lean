/- collide. -/
import Derived.Test.YtljgphmdiflphaaDoorLawL
import Derived.Test.YtljgphmdiflphaaDoorBindP
namespace Go.Proofs.YtljgphmdiflphaaDoor
open Go.RowKit
set_option linter.unusedVariables false

theorem collB_iff : ∀ (a b : List ByteArray), collB a b = true ↔ ∃ k, ∃ (h1 : k < a.length) (h2 : k < b.length), a[k] ≠ b[k] ∧ sumB a[k] = sumB b[k] := by
  intro a
  induction a with
  | nil => intro b; simp [collB]
  | cons x a ih =>
    intro b
    cases b with
    | nil => simp [collB]
    | cons y b =>
      rw [collB, Bool.or_eq_true, ih b]
      constructor
      · rintro (h | ⟨k, h1, h2, h3⟩)
        · rw [Bool.and_eq_true] at h
          exact ⟨0, by simp, by simp, fun e => by rw [show x = y from e, sameB] at h; exact absurd h.1 (by decide), beq_iffB.1 h.2⟩
        · exact ⟨k + 1, by simp; exact h1, by simp; exact h2, by simpa using h3⟩
      · rintro ⟨k, h1, h2, h3, h4⟩
        cases k with
        | zero =>
          left
          rw [neB (by simpa using h3), Bool.and_eq_true]
          exact ⟨rfl, beq_iffB.2 (by simpa using h4)⟩
        | succ k => exact .inr ⟨k, by simpa using h1, by simpa using h2, by simpa using h3, by simpa using h4⟩

set_option maxRecDepth 100000 in
set_option maxHeartbeats 4000000 in
theorem collide_any (w : World) (av bv : Value) (A B : List ByteArray) (ha : SL w av A) (hb : SL w bv B) (hla : A.length ≤ 1000) (hlb : B.length ≤ 1000) (hsa : ∀ x ∈ A, x.size ≤ 100000) (hsb : ∀ x ∈ B, x.size ≤ 100000) (hR : RoundLaid w) :
    Calls Tryd.prog 26 #[av, bv] w fun e w' => e = .returned (.bool (collB A B)) ∧ Below w.heap.size w w' := by
  obtain ⟨aa, ac, rfl, hac, han⟩ := ha.form
  obtain ⟨ba, bc, rfl, hbc, hbn⟩ := hb.form
  have HA := Lib.hid han
  have HB := Lib.hid hbn
  have SA := Lib.hid hsa
  have SB := Lib.hid hsb
  have HR := Lib.hid hR
  have CI := Lib.hid (collB_iff A B)
  obtain ⟨n, hn⟩ : ∃ n, A.length = n := ⟨_, rfl⟩
  obtain ⟨m, hm⟩ : ∃ m, B.length = m := ⟨_, rfl⟩
  have HN := Lib.hid hn
  have HM := Lib.hid hm
  rw [hn] at hac hla ⊢
  rw [hm] at hbc hlb ⊢
  clear ha hb han hbn hsa hsb hR hn hm
  go_enter Tryd.func26, Tryd.ntmps26
  go_wp2
  go_loopw [5] (fun iv wr => ∃ k : Nat, iv = .int .i64 k ∧ k ≤ n ∧ k ≤ m ∧ (∀ j (h1 : j < A.length) (h2 : j < B.length), j < k → ¬ (A[j] ≠ B[j] ∧ sumB A[j] = sumB B[j])) ∧ Below w.heap.size w wr) (fun iv _ => n - (intOf iv).toNat)
  case atStart => exact ⟨0, rfl, Nat.zero_le _, Nat.zero_le _, fun j _ _ h => absurd h (by omega), Below.refl _ _⟩
  case round =>
    obtain ⟨k, rfl, hkn, hkm, hno, hbel⟩ := hrel
    have NO := Lib.hid hno
    have BE := Lib.hid hbel
    clear hno hbel
    by_cases h1 : k < n
    · by_cases h2 : k < m
      · have h1' : k < A.length := by have := HN.out; omega
        have h2' : k < B.length := by have := HM.out; omega
        obtain ⟨ab, ao, rfl, halt, hca⟩ := HA.out (by omega)
        obtain ⟨bb, bo, rfl, hblt, hcb⟩ := HB.out (by omega)
        have c1 : wr.cell? ⟨ab, ao + k, none⟩ = some (.string A[k]) := (BE.out.cell (p := ⟨ab, ao + k, none⟩) halt).trans (hca k A[k] (by simp))
        have c2 : wr.cell? ⟨bb, bo + k, none⟩ = some (.string B[k]) := (BE.out.cell (p := ⟨bb, bo + k, none⟩) hblt).trans (hcb k B[k] (by simp))
        have z1 := SA.out A[k] (List.getElem_mem h1')
        have z2 := SB.out B[k] (List.getElem_mem h2')
        have NK : Hid (¬ (A[k] ≠ B[k] ∧ sumB A[k] = sumB B[k]) → ∀ j (h1 : j < A.length) (h2 : j < B.length), j < k + 1 → ¬ (A[j] ≠ B[j] ∧ sumB A[j] = sumB B[j])) := Lib.hid (fun h j e1 e2 hj => by
          by_cases e : j = k
          · subst e; exact h
          · exact NO.out j e1 e2 (by omega))
        have YK : Hid (A[k] ≠ B[k] ∧ sumB A[k] = sumB B[k] → collB A B = true) := Lib.hid (fun h => CI.out.2 ⟨k, h1', h2', h⟩)
        generalize A[k] = x at *
        generalize B[k] = y at *
        clear HA HB SA SB hca hcb
        cases e : (x.toList == y.toList) with
        | true =>
          have exy : x = y := beq_iffB.1 (by rw [beq_toListBytes]; exact e)
          have NN := Lib.hid (NK.out (fun h => h.1 exy))
          go_wp2
          go_quiet (fail)
          go_wp2
          go_roundw
          case rel => exact ⟨k + 1, by go_num, by omega, by omega, NN.out, below_drewN BE.out _⟩
          case measure => simp [intOf]; omega
        | false =>
          have exy : x ≠ y := fun h => by rw [h] at e; simp at e
          have RW := Lib.hid (HR.out.below BE.out)
          have SX := Lib.hid (fun W (h : RoundLaid W) => Sum_any x (by omega) W h)
          have SY := Lib.hid (fun W (h : RoundLaid W) => Sum_any y (by omega) W h)
          have EE : Hid (((sumB x).toList == (sumB y).toList) = (sumB x == sumB y)) := Lib.hid (beq_toListBytes _ _).symm
          generalize hsx : sumB x = sx at *
          generalize hsy : sumB y = sy at *
          clear hsx hsy
          have hal : ab < wr.heap.size := by have := BE.out.size; omega
          have hbl : bb < wr.heap.size := by have := BE.out.size; omega
          go_wp2
          go_region_held3 (fun w' => w'.cell? ⟨ab, ao + k, none⟩ = some (.string x) ∧ w'.cell? ⟨bb, bo + k, none⟩ = some (.string y))
            ((first | exact ⟨c1, c2⟩ | exact ⟨f1, f2⟩ | exact ⟨d1, d2⟩ | go_keep))
            (first
              | (go_at_call 29
                 with_reducible refine Calls.mono (SY.out _ ?_) ?_
                 · exact RW2.out
                 rintro e w3 ⟨rfl, h3⟩
                 have B3 := Lib.hid (B2.out.trans (h3.mono B2.out.size))
                 have f1 : w3.cell? ⟨ab, ao + k, none⟩ = some (.string x) := (h3.cell (p := ⟨ab, ao + k, none⟩) hal2).trans d1
                 have f2 : w3.cell? ⟨bb, bo + k, none⟩ = some (.string y) := (h3.cell (p := ⟨bb, bo + k, none⟩) hbl2).trans d2
                 clear h3)
              | (go_at_call 29
                 with_reducible refine Calls.mono (SX.out _ ?_) ?_
                 · exact RW.out
                 rintro e w2 ⟨rfl, h2⟩
                 have RW2 := Lib.hid (RW.out.below h2.of_drew)
                 have d1 : w2.cell? ⟨ab, ao + k, none⟩ = some (.string x) := (h2.of_drew.cell (p := ⟨ab, ao + k, none⟩) hal).trans c1
                 have d2 : w2.cell? ⟨bb, bo + k, none⟩ = some (.string y) := (h2.of_drew.cell (p := ⟨bb, bo + k, none⟩) hbl).trans c2
                 have B2 := Lib.hid (BE.out.trans (h2.of_drew.mono BE.out.size))
                 have hal2 : ab < w2.heap.size := Nat.lt_of_lt_of_le hal h2.of_drew.size
                 have hbl2 : bb < w2.heap.size := Nat.lt_of_lt_of_le hbl h2.of_drew.size
                 clear h2))
          cases e2 : (sx.toList == sy.toList) with
          | true =>
            have YY : Hid (collB A B = true) := Lib.hid (YK.out ⟨exy, beq_iffB.1 (by rw [beq_toListBytes]; exact e2)⟩)
            go_wp2
            go_ret
            exact ⟨by rw [YY.out]; rfl, B3.out⟩
          | false =>
            have NN := Lib.hid (NK.out (fun h => by have h2 := h.2; rw [h2] at e2; simp at e2))
            go_wp2
            go_roundw
            case rel => first | exact ⟨k + 1, by go_num, by omega, by omega, NN.out, B3.out⟩ | ((repeat apply Exists.intro); exact ⟨⟨k + 1, by go_num, by omega, by omega, NN.out, B3.out⟩, rfl⟩)
            case measure => simp [intOf]; omega
      · have E : Hid (collB A B = false) := Lib.hid (by
          cases h : collB A B with
          | false => rfl
          | true =>
            obtain ⟨j, e1, e2, h3⟩ := CI.out.1 h
            exact absurd h3 (NO.out j e1 e2 (by have := HM.out; omega)))
        clear HA HB
        go_wp2
        go_ret
        exact ⟨by rw [E.out]; rfl, BE.out⟩
    · have E : Hid (collB A B = false) := Lib.hid (by
        cases h : collB A B with
        | false => rfl
        | true =>
          obtain ⟨j, e1, e2, h3⟩ := CI.out.1 h
          exact absurd h3 (NO.out j e1 e2 (by have := HN.out; omega)))
      clear HA HB
      go_wp2
      go_ret
      exact ⟨by rw [E.out]; rfl, BE.out⟩
end Go.Proofs.YtljgphmdiflphaaDoor
