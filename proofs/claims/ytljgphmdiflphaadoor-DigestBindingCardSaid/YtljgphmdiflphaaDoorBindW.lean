/- The law's own walk down an accepted proof. -/
import Derived.Test.YtljgphmdiflphaaDoorLawL
import Derived.Test.YtljgphmdiflphaaDoorBindP
namespace Go.Proofs.YtljgphmdiflphaaDoor
open Go.RowKit
set_option linter.unusedVariables false

set_option maxRecDepth 100000 in
set_option maxHeartbeats 2000000 in
theorem way_leaf (w : World) (n i : Nat) (s : ByteArray) (pv : Value) (P : List ByteArray) (hsl : SL w pv P) (hs : s.size ≤ 60) (h : n ≤ 1 ∨ P = []) (hlen : P.length ≤ 70) (hn : n ≤ 9223372036854775807) (hR : RoundLaid w) :
    Calls Tryd.prog 25 #[.int .i64 (n : Int), .int .i64 (i : Int), .string s, pv] w fun e w' => ∃ v, e = .returned (.tuple #[v, .string (leafB s)]) ∧ w'.ownsRow w.heap.size 9 1 v 1 (strV [pre1 0 s]) ∧ Below w.heap.size w w' := by
  obtain ⟨a, c, rfl, _, _⟩ := hsl.form
  have hsb : ¬ 9223372036854775807 < 1 + s.size := by omega
  obtain ⟨W0, hW0⟩ : ∃ W0, w.alloc (.cells #[.string (pre1 0 s)] 9) = W0 := ⟨_, rfl⟩
  have B0 : Below w.heap.size w W0 := by rw [← hW0]; exact (Below.refl _ w).alloc (Nat.le_refl _) _
  have OW : W0.ownsRow w.heap.size 9 1 (.slice (some ⟨w.heap.size, 0, none⟩) 1 1) 1 (strV [pre1 0 s]) := by rw [← hW0]; exact own_lit w [pre1 0 s] w.heap.size (Nat.le_refl _) (by simp)
  have LF := Lib.hid (Leaf_any s (by omega) W0 (hR.below B0))
  have BH := Lib.hid B0
  have OH := Lib.hid OW
  clear hsl B0 OW hR
  go_enter Tryd.func25, Tryd.ntmps25
  by_cases h1 : n ≤ 1
  · have h1i : (n : Int) ≤ 1 := by omega
    clear h
    go_wp2_with fail
    rw [show ((⟨#[0]⟩ : ByteArray) ++ s) = pre1 0 s from rfl, hW0]
    refine LF.out.mono ?_
    rintro e W1 ⟨rfl, hb⟩
    have O1 := Lib.hid (own_below OH.out hb)
    have B1 := Lib.hid (BH.out.trans (hb.mono BH.out.size))
    clear hb
    go_wp2
    go_ret2
    exact ⟨_, rfl, O1.out, B1.out⟩
  · have h2 : P = [] := h.resolve_left h1
    subst h2
    have h1i : ¬ (n : Int) ≤ 1 := by omega
    have h1d : decide ((n : Int) ≤ 1) = false := decide_eq_false h1i
    rw [show ([] : List ByteArray).length = 0 from rfl]
    go_wp2_with fail
    rw [show ((⟨#[0]⟩ : ByteArray) ++ s) = pre1 0 s from rfl, hW0]
    refine LF.out.mono ?_
    rintro e W1 ⟨rfl, hb⟩
    have O1 := Lib.hid (own_below OH.out hb)
    have B1 := Lib.hid (BH.out.trans (hb.mono BH.out.size))
    clear hb
    go_wp2
    go_ret2
    exact ⟨_, rfl, O1.out, B1.out⟩

set_option maxRecDepth 100000 in
set_option maxHeartbeats 4000000 in
theorem way_any : ∀ (q : Nat) (w : World) (n i : Nat) (s : ByteArray) (pv : Value) (P : List ByteArray), P.length = q → SL w pv P → (∀ x ∈ P, x.size ≤ 60) → s.size ≤ 60 → n ≤ 9223372036854775807 → i < n → RoundLaid w → q ≤ 70 →
    Calls Tryd.prog 25 #[.int .i64 (n : Int), .int .i64 (i : Int), .string s, pv] w fun e w' => ∃ v, e = .returned (.tuple #[v, .string (wayP n i s P.reverse).2]) ∧ w'.ownsRow w.heap.size 9 1 v (wayP n i s P.reverse).1.length (strV (wayP n i s P.reverse).1) ∧ Below w.heap.size w w' := by
  intro q
  induction q with
  | zero =>
    intro w n i s pv P hq hsl hP hs hn hi hR h70
    have e : P = [] := List.eq_nil_of_length_eq_zero hq
    subst e
    refine (way_leaf w n i s pv [] hsl hs (.inr rfl) (by simp) hn hR).mono ?_
    rintro e w' ⟨v, rfl, ho, hb⟩
    exact ⟨v, rfl, ho, hb⟩
  | succ q ih =>
    intro w n i s pv P hq hsl hP hs hn hi hR h70
    by_cases h1 : n ≤ 1
    · refine (way_leaf w n i s pv P hsl hs (.inl h1) (by omega) hn hR).mono ?_
      rintro e w' ⟨v, rfl, ho, hb⟩
      have e1 : wayP n i s P.reverse = ([pre1 0 s], leafB s) := by
        cases P.reverse with
        | nil => rfl
        | cons x t => rw [wayP, if_pos h1]
      rw [e1]
      exact ⟨v, rfl, ho, hb⟩
    · obtain ⟨x, t, hxt⟩ : ∃ x t, P.reverse = x :: t := by
        cases hr : P.reverse with
        | nil => have := congrArg List.length hr; rw [List.length_reverse, hq] at this; cases this
        | cons x t => exact ⟨x, t, rfl⟩
      have hPx : P = t.reverse ++ [x] := by have := congrArg List.reverse hxt; simpa using this
      have htq : t.length = q := by have := congrArg List.length hxt; simp at this; omega
      obtain ⟨b, off, c, rfl, hc, hb, hcs⟩ := hsl.out (by omega)
      rw [hq] at hc ⊢
      have hcx : w.cell? ⟨b, off + q, none⟩ = some (.string x) := hcs q x (by rw [hPx, List.getElem?_append_right (by simp [htq])]; simp [htq])
      have SLT : SL w (.slice (some ⟨b, off, none⟩) q c) t.reverse := SL.mk' (by simp [htq]) (by omega) hb (fun j y hj => hcs j y (by
        rw [hPx, List.getElem?_append_left (List.getElem?_eq_some_iff.1 hj).1]; exact hj))
      have hx60 := hP x (by rw [hPx]; simp)
      have hP' : ∀ y ∈ t.reverse, y.size ≤ 60 := fun y hy => hP y (by rw [hPx]; simp at hy ⊢; exact .inl hy)
      rw [hxt, wayP, if_neg h1]
      obtain ⟨k, hk⟩ : ∃ k, Dig.lft n = k := ⟨_, rfl⟩
      have hk1 := Dig.lft_lt (n := n) (by omega)
      have hk0 := Dig.lft_pos n
      have LE := Lib.hid (lawLeft_any n (by omega) hn w)
      rw [hk] at hk1 hk0 LE ⊢
      have h1i : ¬ (n : Int) ≤ 1 := by omega
      have h1d : decide ((n : Int) ≤ 1) = false := decide_eq_false h1i
      have hq0 : (((q + 1 : Nat) : Int) == 0) = false := beq_false_of_ne (by omega)
      by_cases hik : i < k
      · rw [if_pos hik]
        have IH := Lib.hid (ih w k i s _ t.reverse (by simp [htq]) SLT hP' hs (by omega) hik hR (by omega))
        rw [List.reverse_reverse] at IH
        have hlen := wayP_length t k i s
        have hvs := wayP_size t k i s
        have HR := Lib.hid hR
        generalize wayP k i s t = r at *
        obtain ⟨r1, r2⟩ := r
        dsimp only at *
        have hiki : (i : Int) < (k : Int) := by omega
        have hsb1 : ¬ 9223372036854775807 < 1 + r2.size := by omega
        have hsb2 : ¬ 9223372036854775807 < 1 + r2.size + x.size := by omega
        clear hsl hcs hPx hP hP' hxt SLT hR ih
        go_enter Tryd.func25, Tryd.ntmps25
        go_wp2_with fail
        refine LE.out.mono ?_
        rintro e w' ⟨rfl, rfl⟩
        go_wp2_with fail
        refine IH.out.mono ?_
        rintro e W2 ⟨lv, rfl, hown, hb2⟩
        have B2 := Lib.hid hb2
        have OL := own_lit W2 [pre2 1 r2 x] w.heap.size hb2.size (by simp)
        have OI := Lib.hid (hown.alloc (.cells #[.string (pre2 1 r2 x)] 9))
        have BA := Lib.hid (hb2.alloc hb2.size (.cells #[.string (pre2 1 r2 x)] 9))
        have HR2 := Lib.hid (HR.out.below hb2)
        generalize hlr : r1.length = rl at *
        have OH := Lib.hid OL
        clear hown hb2 OL IH LE
        have ex : ((⟨#[1]⟩ : ByteArray) ++ r2 ++ x) = pre2 1 r2 x := rfl
        have hbw := B2.out.size
        have BH := Lib.hid (fun W (h : RoundLaid W) => Node_any r2 x (by omega) W h)
        go_wp2_with (at_builtin; refine wpList_append_strs rfl (.tmp 57) (.tmp 58) rfl w.heap.size _ 1 [pre2 1 r2 x] rfl OH.out w.heap.size lv rl r1 rfl OI.out (by omega) (by simp; omega) ?_; intro v3 W4 hown hgr; have O4 := Lib.hid hown; have B4 := Lib.hid (BA.out.grown hgr (by simp; omega) (fun j e => (OH.out.lt j (by first | exact e | simpa using e)).1)); have HR4 := Lib.hid (HR.out.below B4.out); clear hown hgr)
        refine (BH.out _ HR4.out).mono ?_
        rintro e W5 ⟨rfl, hb5⟩
        have O5 := Lib.hid (own_below O4.out hb5)
        have B5 := Lib.hid (B4.out.trans (hb5.mono B4.out.size))
        clear hb5
        go_wp2
        go_ret2
        exact ⟨_, rfl, by have := O5.out; rwa [show [pre2 1 r2 x] ++ r1 = pre2 1 r2 x :: r1 from rfl, show 1 + rl = (pre2 1 r2 x :: r1).length by rw [List.length_cons, hlr]; omega] at this, B5.out⟩
      · rw [if_neg hik]
        have IH := Lib.hid (ih w (n - k) (i - k) s _ t.reverse (by simp [htq]) SLT hP' hs (by omega) (by omega) hR (by omega))
        rw [List.reverse_reverse, show ((n - k : Nat) : Int) = (n : Int) - (k : Int) by omega, show ((i - k : Nat) : Int) = (i : Int) - (k : Int) by omega] at IH
        have hlen := wayP_length t (n - k) (i - k) s
        have hvs := wayP_size t (n - k) (i - k) s
        have HR := Lib.hid hR
        generalize wayP (n - k) (i - k) s t = r at *
        obtain ⟨r1, r2⟩ := r
        dsimp only at *
        have hiki : ¬ (i : Int) < (k : Int) := by omega
        have hikd : decide (i < k) = false := decide_eq_false hik
        have hsb1 : ¬ 9223372036854775807 < 1 + x.size := by omega
        have hsb2 : ¬ 9223372036854775807 < 1 + x.size + r2.size := by omega
        clear hsl hcs hPx hP hP' hxt SLT hR ih
        go_enter Tryd.func25, Tryd.ntmps25
        go_wp2_with fail
        refine LE.out.mono ?_
        rintro e w' ⟨rfl, rfl⟩
        go_wp2_with fail
        refine IH.out.mono ?_
        rintro e W2 ⟨lv, rfl, hown, hb2⟩
        have B2 := Lib.hid hb2
        have OL := own_lit W2 [pre2 1 x r2] w.heap.size hb2.size (by simp)
        have OI := Lib.hid (hown.alloc (.cells #[.string (pre2 1 x r2)] 9))
        have BA := Lib.hid (hb2.alloc hb2.size (.cells #[.string (pre2 1 x r2)] 9))
        have HR2 := Lib.hid (HR.out.below hb2)
        generalize hlr : r1.length = rl at *
        have OH := Lib.hid OL
        clear hown hb2 OL IH LE
        have ex : ((⟨#[1]⟩ : ByteArray) ++ x ++ r2) = pre2 1 x r2 := rfl
        have hbw := B2.out.size
        have BH := Lib.hid (fun W (h : RoundLaid W) => Node_any x r2 (by omega) W h)
        go_wp2_with (at_builtin; refine wpList_append_strs rfl (.tmp 79) (.tmp 80) rfl w.heap.size _ 1 [pre2 1 x r2] rfl OH.out w.heap.size lv rl r1 rfl OI.out (by omega) (by simp; omega) ?_; intro v3 W4 hown hgr; have O4 := Lib.hid hown; have B4 := Lib.hid (BA.out.grown hgr (by simp; omega) (fun j e => (OH.out.lt j (by first | exact e | simpa using e)).1)); have HR4 := Lib.hid (HR.out.below B4.out); clear hown hgr)
        refine (BH.out _ HR4.out).mono ?_
        rintro e W5 ⟨rfl, hb5⟩
        have O5 := Lib.hid (own_below O4.out hb5)
        have B5 := Lib.hid (B4.out.trans (hb5.mono B4.out.size))
        clear hb5
        go_wp2
        go_ret2
        exact ⟨_, rfl, by have := O5.out; rwa [show [pre2 1 x r2] ++ r1 = pre2 1 x r2 :: r1 from rfl, show 1 + rl = (pre2 1 x r2 :: r1).length by rw [List.length_cons, hlr]; omega] at this, B5.out⟩
end Go.Proofs.YtljgphmdiflphaaDoor
