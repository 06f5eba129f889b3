/- Same, of the reference implementation. -/
import Derived.Test.YtljgphmdiflphaaDoorLawL
import Derived.Test.YtljgphmdiflphaaDoorBindP
namespace Go.Proofs.YtljgphmdiflphaaDoor
open Go.RowKit
set_option linter.unusedVariables false

def sameL (a b : List ByteArray) : Bool := decide (a = b)
theorem sameL_len {a b : List ByteArray} (h : a.length ≠ b.length) : sameL a b = false := decide_eq_false (fun e => h (by rw [e]))
theorem sameL_at {a b : List ByteArray} (k : Nat) (h1 : k < a.length) (h2 : k < b.length) (h : a[k] ≠ b[k]) : sameL a b = false := decide_eq_false (fun e => h (by subst e; rfl))
theorem sameL_all {a b : List ByteArray} (h0 : a.length = b.length) (h : ∀ j (h1 : j < a.length) (h2 : j < b.length), a[j] = b[j]) : sameL a b = true := decide_eq_true (List.ext_getElem h0 (fun j h1 h2 => h j h1 h2))

set_option maxRecDepth 100000 in
set_option maxHeartbeats 4000000 in
theorem Same_any (w : World) (av bv : Value) (A B : List ByteArray) (ha : SL w av A) (hb : SL w bv B) (hla : A.length ≤ 1000000) (hlb : B.length ≤ 1000000) :
    Calls Tryd.prog 19 #[av, bv] w fun e w' => e = .returned (.bool (sameL A B)) ∧ Below w.heap.size w w' := by
  obtain ⟨aa, ac, rfl, hac, han⟩ := ha.form
  obtain ⟨ba, bc, rfl, hbc, hbn⟩ := hb.form
  have HA := Lib.hid han
  have HB := Lib.hid hbn
  obtain ⟨n, hn⟩ : ∃ n, A.length = n := ⟨_, rfl⟩
  obtain ⟨m, hm⟩ : ∃ m, B.length = m := ⟨_, rfl⟩
  have HN := Lib.hid hn
  have HM := Lib.hid hm
  rw [hn] at hac hla ⊢
  rw [hm] at hbc hlb ⊢
  clear ha hb han hbn hn hm
  by_cases hnm : n = m
  · have HNM : Hid (A.length = B.length) := Lib.hid (by rw [HN.out, HM.out, hnm])
    subst hnm
    go_enter Tryd.func19, Tryd.ntmps19
    go_wp2
    go_loopw [5] (fun iv wr => ∃ k : Nat, iv = .int .i64 k ∧ k ≤ n ∧ (∀ j (h1 : j < A.length) (h2 : j < B.length), j < k → A[j] = B[j]) ∧ Below w.heap.size w wr) (fun iv _ => n - (intOf iv).toNat)
    case atStart => exact ⟨0, rfl, Nat.zero_le _, fun j _ _ h => absurd h (by omega), Below.refl _ _⟩
    case round =>
      obtain ⟨k, rfl, hkn, hno, hbel⟩ := hrel
      have NO := Lib.hid hno
      have BE := Lib.hid hbel
      clear hno hbel
      by_cases h1 : k < n
      · have h1' : k < A.length := by have := HN.out; omega
        have h2' : k < B.length := by have := HM.out; omega
        obtain ⟨ab, ao, rfl, halt, hca⟩ := HA.out (by omega)
        obtain ⟨bb, bo, rfl, hblt, hcb⟩ := HB.out (by omega)
        have c1 : wr.cell? ⟨ab, ao + k, none⟩ = some (.string A[k]) := (BE.out.cell (p := ⟨ab, ao + k, none⟩) halt).trans (hca k A[k] (by simp))
        have c2 : wr.cell? ⟨bb, bo + k, none⟩ = some (.string B[k]) := (BE.out.cell (p := ⟨bb, bo + k, none⟩) hblt).trans (hcb k B[k] (by simp))
        have NK : Hid (A[k] = B[k] → ∀ j (h1 : j < A.length) (h2 : j < B.length), j < k + 1 → A[j] = B[j]) := Lib.hid (fun h j e1 e2 hj => by
          by_cases e : j = k
          · subst e; exact h
          · exact NO.out j e1 e2 (by omega))
        have YK : Hid (A[k] ≠ B[k] → sameL A B = false) := Lib.hid (fun h => sameL_at k h1' h2' h)
        generalize A[k] = x at *
        generalize B[k] = y at *
        clear HA HB hca hcb
        cases e : (x.toList == y.toList) with
        | true =>
          have exy : x = y := beq_iffB.1 (by rw [beq_toListBytes]; exact e)
          have NN := Lib.hid (NK.out exy)
          clear exy
          go_wp2
          go_quiet (fail)
          go_wp2
          go_roundw
          case rel => exact ⟨k + 1, by go_num, by omega, NN.out, below_drewN BE.out _⟩
          case measure => simp [intOf]; omega
        | false =>
          have exy : x ≠ y := fun h => by rw [h] at e; simp at e
          have E := Lib.hid (YK.out exy)
          clear exy
          go_wp2
          go_quiet (fail)
          go_wp2
          go_ret
          exact ⟨by rw [E.out]; rfl, below_drewN BE.out _⟩
      · have E : Hid (sameL A B = true) := Lib.hid (sameL_all HNM.out (fun j e1 e2 => NO.out j e1 e2 (by have := HN.out; omega)))
        clear HA HB
        go_wp2
        go_ret
        exact ⟨by rw [E.out]; rfl, BE.out⟩
  · have E : Hid (sameL A B = false) := Lib.hid (sameL_len (by rw [HN.out, HM.out]; exact hnm))
    have hnmi : ((n : Int) == (m : Int)) = false := beq_false_of_ne (by omega)
    clear hnm
    go_enter Tryd.func19, Tryd.ntmps19
    go_wp2
    go_ret
    exact ⟨by rw [E.out]; rfl, Below.refl _ _⟩
end Go.Proofs.YtljgphmdiflphaaDoor
