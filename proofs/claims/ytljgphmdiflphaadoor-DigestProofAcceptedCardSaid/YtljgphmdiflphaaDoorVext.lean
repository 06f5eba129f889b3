/- VerifyExtension. -/
import Derived.Test.YtljgphmdiflphaaDoorVerify
namespace Go.Proofs.YtljgphmdiflphaaDoor
open Go.RowKit Go.Shelf
set_option linter.unusedVariables false
attribute [local go_sem] Oper.semAt_some

def wayEB (n m : Nat) (t : List ByteArray) (w : Bool) : Option (List (ByteArray × Bool) × List ByteArray × Bool) := Dig.wayE n m t w
/-- what a way that was walked to its end answers -/
def endEB (old root : ByteArray) : Option (List (ByteArray × Bool) × List ByteArray × Bool) → Bool
  | none => false
  | some (ws, r, true) => r.isEmpty && (Dig.first nodeB old ws == old) && (Dig.value nodeB old ws == root)
  | some (ws, [r0], false) => (Dig.first nodeB r0 ws == old) && (Dig.value nodeB r0 ws == root)
  | some (_, _, false) => false
def fineE (old : ByteArray) (m : Int) (root : ByteArray) (n : Int) (P : List ByteArray) : Bool := decide (0 ≤ m) && decide (m ≤ n) && allD P && (old.size == 32) && (root.size == 32)
def verEB (old : ByteArray) (m : Int) (root : ByteArray) (n : Int) (P : List ByteArray) : Bool :=
  fineE old m root n P && (if m = 0 then P.isEmpty && (old == empB) else if m = n then P.isEmpty && (old == root) else endEB old root (wayEB n.toNat m.toNat P.reverse true))

set_option maxRecDepth 100000 in
set_option maxHeartbeats 1000000 in
theorem VE_range (w : World) (old root : ByteArray) (m n : Int) (pv : Value) (h : ¬ (0 ≤ m ∧ m ≤ n)) : Calls Tryd.prog 24 #[.string old, .int .i64 m, .string root, .int .i64 n, pv] w fun e w' => e = .returned (.bool false) ∧ w = w' := by
  refine callsIn_wide (n := 9) |>.1 ?_
  refine callsIn_of_wp_marks Tryd.func24 rfl trivial ?_ rfl
  refine wpIn_wide.2 ?_
  simp only [Tryd.ntmps24, List.size_toArray, List.length_cons, List.length_nil, Nat.reduceAdd, Nat.reduceSub, Array.replicate_succ, Array.replicate_zero, List.push_toArray, List.append_toArray, List.nil_append, List.cons_append]
  by_cases h0 : m < 0
  · have h1 : decide (m < 0) = true := by simpa using h0
    clear h
    go_wp2
    exact ⟨_, results_tmp rfl _ _ _, rfl, rfl⟩
  · have h1 : decide (m < 0) = false := by simpa using h0
    have h2 : n < m := by omega
    have h3 : decide (n < m) = true := by simpa using h2
    clear h
    go_wp2
    exact ⟨_, results_tmp rfl _ _ _, rfl, rfl⟩

set_option maxRecDepth 100000 in
set_option maxHeartbeats 2000000 in
theorem VE_odd (w : World) (old root : ByteArray) (m n : Int) (pv : Value) (P : List ByteArray) (hsl : SL w pv P) (hlen : P.length ≤ 1000000) (hs : ∀ s ∈ P, s.size ≤ 9223372036854775807) (ho : old.size ≤ 9223372036854775807) (hr : root.size ≤ 9223372036854775807)
    (h0' : 0 ≤ m) (h1' : m ≤ n) (hd : (allD P && (old.size == 32) && (root.size == 32)) = false) : Calls Tryd.prog 24 #[.string old, .int .i64 m, .string root, .int .i64 n, pv] w fun e w' => e = .returned (.bool false) ∧ w = w' := by
  have AL := Lib.hid (all_any w pv P hsl (by omega) hs)
  have D1 := Lib.hid (isDigest_any old ho w)
  have D2 := Lib.hid (isDigest_any root hr w)
  clear hsl hs
  refine callsIn_wide (n := 9) |>.1 ?_
  refine callsIn_of_wp_marks Tryd.func24 rfl trivial ?_ rfl
  refine wpIn_wide.2 ?_
  simp only [Tryd.ntmps24, List.size_toArray, List.length_cons, List.length_nil, Nat.reduceAdd, Nat.reduceSub, Array.replicate_succ, Array.replicate_zero, List.push_toArray, List.append_toArray, List.nil_append, List.cons_append]
  have h0 : ¬ m < 0 := by omega
  have h2 : decide (m < 0) = false := by simpa using h0
  have h3 : ¬ n < m := by omega
  have h4 : decide (n < m) = false := by simpa using h3
  cases hA : allD P with
  | false =>
    rw [hA] at AL
    clear hd hA
    go_wp2_with fail
    refine AL.out.mono ?_
    rintro e w' ⟨rfl, rfl⟩
    go_wp2
    exact ⟨_, results_tmp rfl _ _ _, rfl, rfl⟩
  | true =>
    rw [hA] at AL hd
    clear hA
    cases hB : (old.size == 32) with
    | false =>
      rw [hB] at D1
      clear hd hB
      go_wp2_with fail
      refine AL.out.mono ?_
      rintro e w' ⟨rfl, rfl⟩
      go_wp2_with fail
      refine D1.out.mono ?_
      rintro e w' ⟨rfl, rfl⟩
      go_wp2
      exact ⟨_, results_tmp rfl _ _ _, rfl, rfl⟩
    | true =>
      rw [hB] at D1 hd
      clear hB
      have hC : (root.size == 32) = false := by simpa using hd
      rw [hC] at D2
      clear hC hd
      go_wp2_with fail
      refine AL.out.mono ?_
      rintro e w' ⟨rfl, rfl⟩
      go_wp2_with fail
      refine D1.out.mono ?_
      rintro e w' ⟨rfl, rfl⟩
      go_wp2_with fail
      refine D2.out.mono ?_
      rintro e w' ⟨rfl, rfl⟩
      go_wp2
      exact ⟨_, results_tmp rfl _ _ _, rfl, rfl⟩

set_option maxRecDepth 100000 in
set_option maxHeartbeats 2000000 in
theorem VE_zero (w : World) (old root : ByteArray) (pv : Value) (P : List ByteArray) (hsl : SL w pv P) (hlen : P.length ≤ 1000000) (hd : allD P = true) (ho : old.size = 32) (hr : root.size = 32) (n : Int) (hn : 0 ≤ n) (hR : RoundLaid w) :
    Calls Tryd.prog 24 #[.string old, .int .i64 0, .string root, .int .i64 n, pv] w fun e w' => e = .returned (.bool (P.isEmpty && (old == empB))) ∧ Below w.heap.size w w' := by
  have AL := Lib.hid (all_any w pv P hsl (by omega) (fun s h => by have := (allD_iff P).1 hd s h; omega))
  have D1 := Lib.hid (isDigest_any old (by omega) w)
  have D2 := Lib.hid (isDigest_any root (by omega) w)
  rw [hd] at AL
  rw [show (old.size == 32) = true by simpa using ho] at D1
  rw [show (root.size == 32) = true by simpa using hr] at D2
  obtain ⟨a, c, rfl, _, _⟩ := hsl.form
  have SU := Lib.hid (Sum_any ⟨#[]⟩ (by decide) w hR)
  clear hsl hR hd ho hr
  refine callsIn_wide (n := 9) |>.1 ?_
  refine callsIn_of_wp_marks Tryd.func24 rfl trivial ?_ rfl
  refine wpIn_wide.2 ?_
  simp only [Tryd.ntmps24, List.size_toArray, List.length_cons, List.length_nil, Nat.reduceAdd, Nat.reduceSub, Array.replicate_succ, Array.replicate_zero, List.push_toArray, List.append_toArray, List.nil_append, List.cons_append]
  have h3 : ¬ n < 0 := by omega
  have h4 : decide (n < 0) = false := by simpa using h3
  cases P with
  | nil =>
    rw [show ([] : List ByteArray).length = 0 from rfl] at AL ⊢
    go_wp2_with fail
    refine AL.out.mono ?_
    rintro e w' ⟨rfl, rfl⟩
    go_wp2_with fail
    refine D1.out.mono ?_
    rintro e w' ⟨rfl, rfl⟩
    go_wp2_with fail
    refine D2.out.mono ?_
    rintro e w' ⟨rfl, rfl⟩
    go_wp2_with fail
    refine SU.out.mono ?_
    rintro e w' ⟨rfl, hb⟩
    have HB := Lib.hid hb
    clear hb
    go_wp2
    exact ⟨_, results_tmp rfl _ _ _, by rw [show (([] : List ByteArray).isEmpty && (old == empB)) = (old == empB) from rfl, beq_toListBytes]; rfl, HB.out⟩
  | cons x P =>
    have hb0 : (((x :: P).length : Int) == 0) = false := beq_false_of_ne (by simp; omega)
    rw [show ((x :: P).isEmpty && (old == empB)) = false from rfl]
    generalize (x :: P).length = pl at *
    go_wp2_with fail
    refine AL.out.mono ?_
    rintro e w' ⟨rfl, rfl⟩
    go_wp2_with fail
    refine D1.out.mono ?_
    rintro e w' ⟨rfl, rfl⟩
    go_wp2_with fail
    refine D2.out.mono ?_
    rintro e w' ⟨rfl, rfl⟩
    go_wp2
    exact ⟨_, results_tmp rfl _ _ _, rfl, Below.refl _ _⟩

set_option maxRecDepth 100000 in
set_option maxHeartbeats 2000000 in
theorem VE_same (w : World) (old root : ByteArray) (pv : Value) (P : List ByteArray) (hsl : SL w pv P) (hlen : P.length ≤ 1000000) (hd : allD P = true) (ho : old.size = 32) (hr : root.size = 32) (n : Int) (hn : 1 ≤ n) :
    Calls Tryd.prog 24 #[.string old, .int .i64 n, .string root, .int .i64 n, pv] w fun e w' => e = .returned (.bool (P.isEmpty && (old == root))) ∧ Below w.heap.size w w' := by
  have AL := Lib.hid (all_any w pv P hsl (by omega) (fun s h => by have := (allD_iff P).1 hd s h; omega))
  have D1 := Lib.hid (isDigest_any old (by omega) w)
  have D2 := Lib.hid (isDigest_any root (by omega) w)
  rw [hd] at AL
  rw [show (old.size == 32) = true by simpa using ho] at D1
  rw [show (root.size == 32) = true by simpa using hr] at D2
  obtain ⟨a, c, rfl, _, _⟩ := hsl.form
  clear hsl hd ho hr
  refine callsIn_wide (n := 9) |>.1 ?_
  refine callsIn_of_wp_marks Tryd.func24 rfl trivial ?_ rfl
  refine wpIn_wide.2 ?_
  simp only [Tryd.ntmps24, List.size_toArray, List.length_cons, List.length_nil, Nat.reduceAdd, Nat.reduceSub, Array.replicate_succ, Array.replicate_zero, List.push_toArray, List.append_toArray, List.nil_append, List.cons_append]
  have h0 : ¬ n < 0 := by omega
  have h2 : decide (n < 0) = false := by simpa using h0
  have h3 : ¬ n < n := by omega
  have h4 : decide (n < n) = false := decide_eq_false h3
  have h5 : (n == 0) = false := beq_false_of_ne (by omega)
  cases P with
  | nil =>
    rw [show ([] : List ByteArray).length = 0 from rfl] at AL ⊢
    go_wp2_with fail
    refine AL.out.mono ?_
    rintro e w' ⟨rfl, rfl⟩
    go_wp2_with fail
    refine D1.out.mono ?_
    rintro e w' ⟨rfl, rfl⟩
    go_wp2_with fail
    refine D2.out.mono ?_
    rintro e w' ⟨rfl, rfl⟩
    go_wp2
    exact ⟨_, results_tmp rfl _ _ _, by rw [show (([] : List ByteArray).isEmpty && (old == root)) = (old == root) from rfl, beq_toListBytes]; rfl, Below.refl _ _⟩
  | cons x P =>
    have hb0 : (((x :: P).length : Int) == 0) = false := beq_false_of_ne (by simp; omega)
    rw [show ((x :: P).isEmpty && (old == root)) = false from rfl]
    generalize (x :: P).length = pl at *
    go_wp2_with fail
    refine AL.out.mono ?_
    rintro e w' ⟨rfl, rfl⟩
    go_wp2_with fail
    refine D1.out.mono ?_
    rintro e w' ⟨rfl, rfl⟩
    go_wp2_with fail
    refine D2.out.mono ?_
    rintro e w' ⟨rfl, rfl⟩
    go_wp2
    exact ⟨_, results_tmp rfl _ _ _, rfl, Below.refl _ _⟩

end Go.Proofs.YtljgphmdiflphaaDoor
