/- The law's own walk down an accepted extension. -/
import Derived.Test.YtljgphmdiflphaaDoorLawL
import Derived.Test.YtljgphmdiflphaaDoorSideP
namespace Go.Proofs.YtljgphmdiflphaaDoor
open Go.RowKit
set_option linter.unusedVariables false

theorem sidesP_leaf (old : ByteArray) (m n : Nat) (t : List ByteArray) (wh : Bool) (h : n ≤ m ∨ t = []) : (sidesP old m n t wh).1 = [] := by
  cases t with
  | nil => rfl
  | cons x t =>
    have h1 : n ≤ m := h.resolve_right (by simp)
    rw [sidesP, if_pos h1]
    cases wh <;> rfl
set_option maxRecDepth 100000 in
set_option maxHeartbeats 2000000 in
theorem sides_leaf (w : World) (old : ByteArray) (m n : Nat) (pv : Value) (P : List ByteArray) (wh : Bool) (hsl : SL w pv P) (h : n ≤ m ∨ P = []) (hlen : P.length ≤ 70) (hm : m ≤ 9223372036854775807) (hn : n ≤ 9223372036854775807) :
    Calls Tryd.prog 27 #[.string old, .int .i64 (m : Int), .int .i64 (n : Int), pv, .bool wh] w fun e w' => e = .returned (.tuple #[.slice none 0 0, .string (sidesP old m n P.reverse wh).2]) ∧ Below w.heap.size w w' := by
  have BR := Lib.hid (Below.refl w.heap.size w)
  by_cases h0 : P = []
  · subst h0
    obtain ⟨a, c, rfl, _, _⟩ := hsl.form
    rw [show ([] : List ByteArray).reverse = [] from rfl, show ([] : List ByteArray).length = 0 from rfl, show (sidesP old m n [] wh).2 = old from rfl]
    clear hsl h
    by_cases h1 : n ≤ m
    · have h1i : (n : Int) ≤ (m : Int) := by omega
      go_enter Tryd.func27, Tryd.ntmps27
      cases wh
      · go_wp2
        go_ret2
        exact ⟨rfl, BR.out⟩
      · go_wp2
        go_ret2
        exact ⟨rfl, BR.out⟩
    · have h1i : ¬ (n : Int) ≤ (m : Int) := by omega
      have h1d : decide (n ≤ m) = false := decide_eq_false h1
      go_enter Tryd.func27, Tryd.ntmps27
      cases wh
      · go_wp2
        go_ret2
        exact ⟨rfl, BR.out⟩
      · go_wp2
        go_ret2
        exact ⟨rfl, BR.out⟩
  · have h1 : n ≤ m := h.resolve_right h0
    have hpos : 0 < P.length := List.length_pos_iff.2 h0
    obtain ⟨b, off, c, rfl, hc, hb, hcs⟩ := hsl.out hpos
    obtain ⟨x, t, hxt⟩ : ∃ x t, P = x :: t := by
      cases P with
      | nil => exact absurd rfl h0
      | cons x t => exact ⟨x, t, rfl⟩
    have hc0 : w.cell? ⟨b, off, none⟩ = some (.string x) := hcs 0 x (by rw [hxt]; rfl)
    have e1 : (sidesP old m n P.reverse wh).2 = if wh then old else x := by
      obtain ⟨y, r, hr⟩ : ∃ y r, P.reverse = y :: r := by
        cases hr : P.reverse with
        | nil => exact absurd (by simpa using hr) h0
        | cons y r => exact ⟨y, r, rfl⟩
      have hl : (y :: r).getLast (by simp) = x := by
        have : (y :: r).getLast? = some x := by rw [← hr, hxt]; simp
        rw [List.getLast?_eq_some_getLast (by simp)] at this
        exact Option.some.inj this
      rw [hr, sidesP, if_pos h1, hl]
      cases wh <;> rfl
    rw [e1]
    obtain ⟨k, hk⟩ : ∃ k, P.length = k := ⟨_, rfl⟩
    rw [hk] at hc hpos hlen ⊢
    have h1i : (n : Int) ≤ (m : Int) := by omega
    have hq0 : (((k : Nat) : Int) == 0) = false := beq_false_of_ne (by omega)
    have hk0 : (0 : Int) < (k : Int) := by omega
    clear hsl h hcs hxt e1 h0 hk
    cases wh
    · go_enter Tryd.func27, Tryd.ntmps27
      go_wp2
      go_quiet (fail)
      go_wp2
      go_ret2
      exact ⟨rfl, below_drewN BR.out _⟩
    · go_enter Tryd.func27, Tryd.ntmps27
      go_wp2
      go_ret2
      exact ⟨rfl, BR.out⟩

set_option maxRecDepth 100000 in
set_option maxHeartbeats 4000000 in
theorem sides_any : ∀ (q : Nat) (w : World) (old : ByteArray) (m n : Nat) (pv : Value) (P : List ByteArray) (wh : Bool), P.length = q → SL w pv P → (∀ x ∈ P, x.size ≤ 60) → old.size ≤ 60 → 1 ≤ m → m ≤ 9223372036854775807 → n ≤ 9223372036854775807 → RoundLaid w → q ≤ 70 →
    Calls Tryd.prog 27 #[.string old, .int .i64 (m : Int), .int .i64 (n : Int), pv, .bool wh] w fun e w' => ∃ v, e = .returned (.tuple #[v, .string (sidesP old m n P.reverse wh).2]) ∧ w'.ownsRow w.heap.size 9 1 v (sidesP old m n P.reverse wh).1.length (strV (sidesP old m n P.reverse wh).1) ∧ Below w.heap.size w w' := by
  intro q
  induction q with
  | zero =>
    intro w old m n pv P wh hq hsl hP ho hm1 hmb hn hR h70
    have e : P = [] := List.eq_nil_of_length_eq_zero hq
    refine (sides_leaf w old m n pv P wh hsl (.inr e) (by omega) hmb hn).mono ?_
    rintro e' w' ⟨rfl, hb⟩
    exact ⟨_, rfl, by rw [sidesP_leaf old m n P.reverse wh (.inr (by rw [e]; rfl))]; exact World.ownsRow_nil _ _ _ _, hb⟩
  | succ q ih =>
    intro w old m n pv P wh hq hsl hP ho hm1 hmb hn hR h70
    by_cases h1 : n ≤ m
    · refine (sides_leaf w old m n pv P wh hsl (.inl h1) (by omega) hmb hn).mono ?_
      rintro e w' ⟨rfl, hb⟩
      exact ⟨_, rfl, by rw [sidesP_leaf old m n P.reverse wh (.inl h1)]; exact World.ownsRow_nil _ _ _ _, hb⟩
    · obtain ⟨x, t, hxt⟩ : ∃ x t, P.reverse = x :: t := by
        cases hr : P.reverse with
        | nil => have := congrArg List.length hr; rw [List.length_reverse, hq] at this; cases this
        | cons x t => exact ⟨x, t, rfl⟩
      have hPx : P = t.reverse ++ [x] := by have := congrArg List.reverse hxt; simpa using this
      have htq : t.length = q := by have := congrArg List.length hxt; simp at this; omega
      obtain ⟨b, off, c, rfl, hc, hb, hcs⟩ := hsl.out (by omega)
      rw [hq] at hc ⊢
      have hcx : w.cell? ⟨b, off + q, none⟩ = some (.string x) := hcs q x (by rw [hPx, List.getElem?_append_right (by simp [htq])]; simp [htq])
      have SLT : SL w (.slice (some ⟨b, off, none⟩) q c) t.reverse := SL.mk' (by simp [htq]) (by omega) hb (fun j y hj => hcs j y (by
        rw [hPx, List.getElem?_append_left (List.getElem?_eq_some_iff.1 hj).1]; exact hj))
      have hx60 := hP x (by rw [hPx]; simp)
      have hP' : ∀ y ∈ t.reverse, y.size ≤ 60 := fun y hy => hP y (by rw [hPx]; simp at hy ⊢; exact .inl hy)
      rw [hxt, sidesP, if_neg h1]
      obtain ⟨k, hk⟩ : ∃ k, Dig.lft n = k := ⟨_, rfl⟩
      have hk1 := Dig.lft_lt (n := n) (by omega)
      have hk0 := Dig.lft_pos n
      have LE := Lib.hid (lawLeft_any n (by omega) hn w)
      rw [hk] at hk1 hk0 LE ⊢
      have h1i : ¬ (n : Int) ≤ (m : Int) := by omega
      have h1d : decide (n ≤ m) = false := decide_eq_false h1
      have hq0 : (((q + 1 : Nat) : Int) == 0) = false := beq_false_of_ne (by omega)
      by_cases hmk : m ≤ k
      · rw [if_pos hmk]
        have IH := Lib.hid (ih w old m k _ t.reverse wh (by simp [htq]) SLT hP' ho hm1 hmb (by omega) hR (by omega))
        rw [List.reverse_reverse] at IH
        have hlen := sidesP_length old t m k wh
        have hvs := sidesP_bound old ho t m k wh (fun z hz => hP' z (List.mem_reverse.2 hz))
        have HR := Lib.hid hR
        generalize sidesP old m k t wh = r at *
        obtain ⟨r1, r2⟩ := r
        dsimp only at *
        have hmki : (m : Int) ≤ (k : Int) := by omega
        have hsb1 : ¬ 9223372036854775807 < 1 + r2.size := by omega
        have hsb2 : ¬ 9223372036854775807 < 1 + r2.size + x.size := by omega
        clear hsl hcs hPx hP hP' hxt SLT hR ih
        go_enter Tryd.func27, Tryd.ntmps27
        go_wp2_with fail
        refine LE.out.mono ?_
        rintro e w' ⟨rfl, rfl⟩
        go_wp2_with fail
        refine IH.out.mono ?_
        rintro e W2 ⟨lv, rfl, hown, hb2⟩
        have B2 := Lib.hid hb2
        have OL := own_lit W2 [pre2 1 r2 x] w.heap.size hb2.size (by simp)
        have OI := Lib.hid (hown.alloc (.cells #[.string (pre2 1 r2 x)] 9))
        have BA := Lib.hid (hb2.alloc hb2.size (.cells #[.string (pre2 1 r2 x)] 9))
        have HR2 := Lib.hid (HR.out.below hb2)
        generalize hlr : r1.length = rl at *
        have OH := Lib.hid OL
        clear hown hb2 OL IH LE
        have ex : ((⟨#[1]⟩ : ByteArray) ++ r2 ++ x) = pre2 1 r2 x := rfl
        have hbw := B2.out.size
        have BH := Lib.hid (fun W (h : RoundLaid W) => Node_any r2 x (by omega) W h)
        go_wp2_with (at_builtin; refine wpList_append_strs rfl (.tmp 66) (.tmp 67) rfl w.heap.size _ 1 [pre2 1 r2 x] rfl OH.out w.heap.size lv rl r1 rfl OI.out (by omega) (by simp; omega) ?_; intro v3 W4 hown hgr; have O4 := Lib.hid hown; have B4 := Lib.hid (BA.out.grown hgr (by simp; omega) (fun j e => (OH.out.lt j (by first | exact e | simpa using e)).1)); have HR4 := Lib.hid (HR.out.below B4.out); clear hown hgr)
        refine (BH.out _ HR4.out).mono ?_
        rintro e W5 ⟨rfl, hb5⟩
        have O5 := Lib.hid (own_below O4.out hb5)
        have B5 := Lib.hid (B4.out.trans (hb5.mono B4.out.size))
        clear hb5
        go_wp2
        go_ret2
        exact ⟨_, rfl, by have := O5.out; rwa [show [pre2 1 r2 x] ++ r1 = pre2 1 r2 x :: r1 from rfl, show 1 + rl = (pre2 1 r2 x :: r1).length by rw [List.length_cons, hlr]; omega] at this, B5.out⟩
      · rw [if_neg hmk]
        have IH := Lib.hid (ih w old (m - k) (n - k) _ t.reverse false (by simp [htq]) SLT hP' ho (by omega) (by omega) (by omega) hR (by omega))
        rw [List.reverse_reverse, show ((m - k : Nat) : Int) = (m : Int) - (k : Int) by omega, show ((n - k : Nat) : Int) = (n : Int) - (k : Int) by omega] at IH
        have hlen := sidesP_length old t (m - k) (n - k) false
        have hvs := sidesP_bound old ho t (m - k) (n - k) false (fun z hz => hP' z (List.mem_reverse.2 hz))
        have HR := Lib.hid hR
        generalize sidesP old (m - k) (n - k) t false = r at *
        obtain ⟨r1, r2⟩ := r
        dsimp only at *
        have hmki : ¬ (m : Int) ≤ (k : Int) := by omega
        have hmkd : decide (m ≤ k) = false := decide_eq_false hmk
        have hsb1 : ¬ 9223372036854775807 < 1 + x.size := by omega
        have hsb2 : ¬ 9223372036854775807 < 1 + x.size + r2.size := by omega
        clear hsl hcs hPx hP hP' hxt SLT hR ih
        go_enter Tryd.func27, Tryd.ntmps27
        go_wp2_with fail
        refine LE.out.mono ?_
        rintro e w' ⟨rfl, rfl⟩
        go_wp2_with fail
        refine IH.out.mono ?_
        rintro e W2 ⟨lv, rfl, hown, hb2⟩
        have B2 := Lib.hid hb2
        have OL := own_lit W2 [pre2 1 x r2] w.heap.size hb2.size (by simp)
        have OI := Lib.hid (hown.alloc (.cells #[.string (pre2 1 x r2)] 9))
        have BA := Lib.hid (hb2.alloc hb2.size (.cells #[.string (pre2 1 x r2)] 9))
        have HR2 := Lib.hid (HR.out.below hb2)
        generalize hlr : r1.length = rl at *
        have OH := Lib.hid OL
        clear hown hb2 OL IH LE
        have ex : ((⟨#[1]⟩ : ByteArray) ++ x ++ r2) = pre2 1 x r2 := rfl
        have hbw := B2.out.size
        have BH := Lib.hid (fun W (h : RoundLaid W) => Node_any x r2 (by omega) W h)
        go_wp2_with (at_builtin; refine wpList_append_strs rfl (.tmp 88) (.tmp 89) rfl w.heap.size _ 1 [pre2 1 x r2] rfl OH.out w.heap.size lv rl r1 rfl OI.out (by omega) (by simp; omega) ?_; intro v3 W4 hown hgr; have O4 := Lib.hid hown; have B4 := Lib.hid (BA.out.grown hgr (by simp; omega) (fun j e => (OH.out.lt j (by first | exact e | simpa using e)).1)); have HR4 := Lib.hid (HR.out.below B4.out); clear hown hgr)
        refine (BH.out _ HR4.out).mono ?_
        rintro e W5 ⟨rfl, hb5⟩
        have O5 := Lib.hid (own_below O4.out hb5)
        have B5 := Lib.hid (B4.out.trans (hb5.mono B4.out.size))
        clear hb5
        go_wp2
        go_ret2
        exact ⟨_, rfl, by have := O5.out; rwa [show [pre2 1 x r2] ++ r1 = pre2 1 x r2 :: r1 from rfl, show 1 + rl = (pre2 1 x r2 :: r1).length by rw [List.length_cons, hlr]; omega] at this, B5.out⟩
end Go.Proofs.YtljgphmdiflphaaDoor
