/- The reference disk: New, Read, Write, Sync, Cut. -/
import Derived.Test.YthlmgookaljgnaaGreatDoorRefA
namespace Go.Proofs.YthlmgookaljgnaaGreatDoor
open Go.RowKit
set_option linter.unusedVariables false

set_option maxHeartbeats 800000 in
theorem RefNew_ok (w : World) (n : Nat) (h1 : 1 ≤ n) (h2 : (n : Int) ≤ 4194304) :
    Calls Tryz.prog 25 #[.int .i64 (n : Int)] w fun e w' => ∃ bx gs,
      e = .returned (.tuple #[.pointer (some ⟨bx, 0, none⟩), .int .i64 0]) ∧ RefAt w' bx gs n (.slice none 0 0) n (newD n) ∧ Below w.heap.size w w' ∧ w.heap.size ≤ bx ∧ w.heap.size ≤ gs := by
  have hmk := mkBytes n (by omega)
  have hn0 : ¬ (n : Int) < 1 := by omega
  have hn1 : ¬ (4194304 : Int) < n := by omega
  go_enter Tryz.func25, Tryz.ntmps25
  go_wp2
  go_ret2
  refine ⟨w.heap.size + 1, rfl, w.heap.size, ⟨?_, ⟨⟨[], ?_, by simp⟩, by simp [newD], Nat.le_refl _, by omega⟩, World.ownsRow_nil _ _ _ _, h1, by omega, Int.le_refl _, by show (0 : Int) ≤ 9223372036854775807; decide, by simp [newD], rfl⟩, ((Below.refl _ w).alloc (Nat.le_refl _) _).alloc (by simp) _, by omega, Nat.le_refl _⟩
  · exact allocAt _ (by simp)
  · rw [List.append_nil, allocOld (by simp)]; exact allocAt _ rfl

section
variable {w : World} {bx gs cs : Nat} {lv : Value} {n : Nat} {d : DV}

set_option maxHeartbeats 800000 in
theorem RefRead_ok (h : RefAt w bx gs cs lv n d) (ho : d.off = false) (x m : Nat) (hx : x + m ≤ n) :
    Calls Tryz.prog 60 #[.pointer (some ⟨bx, 0, none⟩), .int .i64 (x : Int), .int .i64 (m : Int)] w fun e w' =>
      e = .returned (.tuple #[.string ⟨((d.vi.drop x).take m).toArray⟩, .int .i64 0]) ∧ Below w.heap.size w w' := by
  have c0 : w.cell? ⟨bx, 0, none⟩ = some (.slice (some ⟨gs, 0, none⟩) n cs) := cellOf h.hd 0
  have c2 : w.cell? ⟨bx, 2, none⟩ = some (.bool false) := by rw [cellOf h.hd 2, ← ho]; rfl
  have hnn : (n : Int) ≤ 4194304 := by have := h.hi; omega
  have q1 : ¬ (n : Int) < (x : Int) := by omega
  have q2 : ¬ (n : Int) - (x : Int) < (m : Int) := by omega
  have H := Lib.hid h
  clear h ho
  go_enter Tryz.func60, Tryz.ntmps60
  go_wp2_with fail
  refine (Visible_any H.out).mono ?_
  rintro e w1 ⟨g, cap, rfl, hg, hb, hB⟩
  have hc : ∀ c, (convert 39 9 (.slice (some ⟨g, x, none⟩) m c)).run Tryz.prog w1 = .ok (.string ⟨((d.vi.drop x).take m).toArray⟩) w1 := fun c => hb.conv x m hx
  have hc0 : ∀ c, x = cap → (convert 39 9 (.slice (some ⟨g, 0, none⟩) m c)).run Tryz.prog w1 = .ok (.string ⟨((d.vi.drop x).take m).toArray⟩) w1 := fun c e => by
    have hr := hb.room
    have hm : m = 0 := by omega
    subst hm
    rw [hb.conv (c := c) 0 0 (by omega)]
    simp
  have hroom := hb.room
  have h63 := hb.c63
  have HB := Lib.hid hB
  have HC0 := Lib.hid hc0
  clear hb hB hc0
  by_cases q : cap = x
  · have hc1 := fun c => HC0.out c q.symm
    clear hc
    go_wp2_with fail
    go_ret2
    exact ⟨rfl, HB.out⟩
  · go_wp2_with fail
    go_ret2
    exact ⟨rfl, HB.out⟩

set_option maxHeartbeats 400000 in
theorem RefRead_off (h : RefAt w bx gs cs lv n d) (ho : d.off = true) (x m : Int) :
    Calls Tryz.prog 60 #[.pointer (some ⟨bx, 0, none⟩), .int .i64 x, .int .i64 m] w fun e w' => e = .returned (.tuple #[.string ⟨#[]⟩, .int .i64 251]) ∧ w = w' := by
  have c2 : w.cell? ⟨bx, 2, none⟩ = some (.bool true) := by rw [cellOf h.hd 2, ← ho]; rfl
  clear h ho
  go_enter Tryz.func60, Tryz.ntmps60
  go_wp2_with fail
  go_ret2
  exact ⟨rfl, rfl⟩

set_option maxHeartbeats 800000 in
theorem RefRead_out (h : RefAt w bx gs cs lv n d) (ho : d.off = false) (x m : Int) (hx : -9223372036854775808 ≤ x) (hx' : x ≤ 9223372036854775807) (hm : -9223372036854775808 ≤ m) (h0 : ¬ (0 ≤ x ∧ 0 ≤ m ∧ x ≤ n ∧ m ≤ n - x)) :
    Calls Tryz.prog 60 #[.pointer (some ⟨bx, 0, none⟩), .int .i64 x, .int .i64 m] w fun e w' => e = .returned (.tuple #[.string ⟨#[]⟩, .int .i64 250]) ∧ w = w' := by
  have c0 : w.cell? ⟨bx, 0, none⟩ = some (.slice (some ⟨gs, 0, none⟩) n cs) := cellOf h.hd 0
  have c2 : w.cell? ⟨bx, 2, none⟩ = some (.bool false) := by rw [cellOf h.hd 2, ← ho]; rfl
  have hnn : (n : Int) ≤ 4194304 := by have := h.hi; omega
  clear h ho
  by_cases a0 : x < 0
  · have b0 : decide (x < 0) = true := by simpa using a0
    clear h0
    go_enter Tryz.func60, Tryz.ntmps60
    go_wp2_with fail
    go_ret2
    exact ⟨rfl, rfl⟩
  · have b0 : decide (x < 0) = false := by simpa using a0
    by_cases a1 : m < 0
    · have b1 : decide (m < 0) = true := by simpa using a1
      clear h0
      go_enter Tryz.func60, Tryz.ntmps60
      go_wp2_with fail
      go_ret2
      exact ⟨rfl, rfl⟩
    · have b1 : decide (m < 0) = false := by simpa using a1
      by_cases a2 : (n : Int) < x
      · have b2 : decide ((n : Int) < x) = true := by simpa using a2
        clear h0
        go_enter Tryz.func60, Tryz.ntmps60
        go_wp2_with fail
        go_ret2
        exact ⟨rfl, rfl⟩
      · have b2 : decide ((n : Int) < x) = false := by simpa using a2
        have a3 : (n : Int) - x < m := by omega
        have b3 : decide ((n : Int) - x < m) = true := by simpa using a3
        clear h0
        go_enter Tryz.func60, Tryz.ntmps60
        go_wp2_with fail
        go_ret2
        exact ⟨rfl, rfl⟩

set_option maxHeartbeats 400000 in
theorem RefWrite_off (h : RefAt w bx gs cs lv n d) (ho : d.off = true) (x : Int) (s : ByteArray) :
    Calls Tryz.prog 13 #[.pointer (some ⟨bx, 0, none⟩), .int .i64 x, .string s] w fun e w' => e = .returned (.int .i64 251) ∧ w = w' := by
  have c2 : w.cell? ⟨bx, 2, none⟩ = some (.bool true) := by rw [cellOf h.hd 2, ← ho]; rfl
  clear h ho
  go_enter Tryz.func13, Tryz.ntmps13
  go_wp2_with fail
  go_ret
  exact ⟨rfl, rfl⟩

set_option maxHeartbeats 800000 in
theorem RefWrite_out (h : RefAt w bx gs cs lv n d) (ho : d.off = false) (x : Int) (s : ByteArray) (hs : s.size ≤ 9223372036854775807) (hx : -9223372036854775808 ≤ x) (hx' : x ≤ 9223372036854775807) (h0 : ¬ (0 ≤ x ∧ x + s.size ≤ n)) :
    Calls Tryz.prog 13 #[.pointer (some ⟨bx, 0, none⟩), .int .i64 x, .string s] w fun e w' => e = .returned (.int .i64 250) ∧ w = w' := by
  have c0 : w.cell? ⟨bx, 0, none⟩ = some (.slice (some ⟨gs, 0, none⟩) n cs) := cellOf h.hd 0
  have c2 : w.cell? ⟨bx, 2, none⟩ = some (.bool false) := by rw [cellOf h.hd 2, ← ho]; rfl
  have hnn : (n : Int) ≤ 4194304 := by have := h.hi; omega
  clear h ho
  by_cases a0 : x < 0
  · have b0 : decide (x < 0) = true := by simpa using a0
    clear h0
    go_enter Tryz.func13, Tryz.ntmps13
    go_wp2_with fail
    go_ret
    exact ⟨rfl, rfl⟩
  · have b0 : decide (x < 0) = false := by simpa using a0
    by_cases a2 : (n : Int) < x
    · have b2 : decide ((n : Int) < x) = true := by simpa using a2
      clear h0
      go_enter Tryz.func13, Tryz.ntmps13
      go_wp2_with fail
      go_ret
      exact ⟨rfl, rfl⟩
    · have b2 : decide ((n : Int) < x) = false := by simpa using a2
      have a3 : (n : Int) - x < (s.size : Int) := by omega
      have b3 : decide ((n : Int) - x < (s.size : Int)) = true := by simpa using a3
      clear h0
      go_enter Tryz.func13, Tryz.ntmps13
      go_wp2_with fail
      go_ret
      exact ⟨rfl, rfl⟩

set_option maxHeartbeats 400000 in
theorem RefSync_off (h : RefAt w bx gs cs lv n d) (ho : d.off = true) :
    Calls Tryz.prog 37 #[.pointer (some ⟨bx, 0, none⟩)] w fun e w' => e = .returned (.int .i64 251) ∧ w = w' := by
  have c2 : w.cell? ⟨bx, 2, none⟩ = some (.bool true) := by rw [cellOf h.hd 2, ← ho]; rfl
  clear h ho
  go_enter Tryz.func37, Tryz.ntmps37
  go_wp2_with fail
  go_ret
  exact ⟨rfl, rfl⟩

set_option maxHeartbeats 800000 in
theorem RefSync_ok (h : RefAt w bx gs cs lv n d) (ho : d.off = false) :
    Calls Tryz.prog 37 #[.pointer (some ⟨bx, 0, none⟩)] w fun e w' => e = .returned (.int .i64 0) ∧
      ∃ gs' cs' lv', RefAt w' bx gs' cs' lv' n (syncD d) ∧ Moves (FootR bx gs lv) (FootR bx gs' lv') w w' := by
  have c2 : w.cell? ⟨bx, 2, none⟩ = some (.bool false) := by rw [cellOf h.hd 2, ← ho]; rfl
  have hx := ltOf h.hd
  have H := Lib.hid h
  clear h ho
  go_enter Tryz.func37, Tryz.ntmps37
  go_wp2_with fail
  refine (Visible_any H.out).mono ?_
  rintro e w1 ⟨g, cap, rfl, hg, hb, hB⟩
  have hU : Upd (fun _ => False) w w1 := Upd.of_below hB
  have H1 := Lib.hid (H.out.upd hU (fun _ _ f => f))
  have e0 : w1.cell? ⟨bx, 0, none⟩ = some (.slice (some ⟨gs, 0, none⟩) n cs) := cellOf H1.out.hd 0
  have e1 : w1.cell? ⟨bx, 1, none⟩ = some lv := cellOf H1.out.hd 1
  have f0 : w1.frozen? ⟨bx, 0, none⟩ = false := frozenOf H1.out.hd 0
  have f1 : w1.frozen? ⟨bx, 1, none⟩ = false := frozenOf H1.out.hd 1
  have HBF := Lib.hid hb
  have HU := Lib.hid hU
  clear hb hB hU c2
  go_wp2_with fail
  go_ret
  have U : Upd (· = bx) w1 ((w1.setCell ⟨bx, 0, none⟩ (.slice (some ⟨g, 0, none⟩) n cap)).setCell ⟨bx, 1, none⟩ (.slice none 0 0)) := ((Upd.refl (· = bx) w1).setCell _ _ (.inl rfl)).setCell _ _ (.inl rfl)
  refine ⟨rfl, g, cap, .slice none 0 0, ⟨?_, HBF.out.upd U (by omega), World.ownsRow_nil _ _ _ _, H.out.lo, H.out.hi, H.out.l0, H.out.l1, by simp [syncD], rfl⟩, (HU.out.mono (fun _ _ f => f.elim)).trans U (fun _ _ e => .inl e), ?_⟩
  · rw [setOf_ (setOf_ H1.out.hd 0 _) 1 _]; rfl
  · rintro k (rfl | rfl | e)
    · exact .inl (.inl rfl)
    · exact .inr hg
    · cases e

set_option maxHeartbeats 400000 in
theorem RefCut_off (h : RefAt w bx gs cs lv n d) (ho : d.off = true) (x : Int) :
    Calls Tryz.prog 47 #[.pointer (some ⟨bx, 0, none⟩), .int .i64 x] w fun e w' => e = .returned (.int .i64 251) ∧ w = w' := by
  have c2 : w.cell? ⟨bx, 2, none⟩ = some (.bool true) := by rw [cellOf h.hd 2, ← ho]; rfl
  clear h ho
  go_enter Tryz.func47, Tryz.ntmps47
  go_wp2_with fail
  go_ret
  exact ⟨rfl, rfl⟩
set_option maxHeartbeats 400000 in
theorem RefCut_neg (h : RefAt w bx gs cs lv n d) (ho : d.off = false) (x : Int) (h0 : x < 0) :
    Calls Tryz.prog 47 #[.pointer (some ⟨bx, 0, none⟩), .int .i64 x] w fun e w' => e = .returned (.int .i64 2) ∧ w = w' := by
  have c2 : w.cell? ⟨bx, 2, none⟩ = some (.bool false) := by rw [cellOf h.hd 2, ← ho]; rfl
  have b0 : decide (x < 0) = true := by simpa using h0
  clear h ho
  go_enter Tryz.func47, Tryz.ntmps47
  go_wp2_with fail
  go_ret
  exact ⟨rfl, rfl⟩
set_option maxHeartbeats 400000 in
theorem RefCut_ok (h : RefAt w bx gs cs lv n d) (ho : d.off = false) (x : Int) (h0 : 0 ≤ x) (h1 : x ≤ 9223372036854775807) :
    Calls Tryz.prog 47 #[.pointer (some ⟨bx, 0, none⟩), .int .i64 x] w fun e w' => e = .returned (.int .i64 0) ∧
      ∃ gs' cs' lv', RefAt w' bx gs' cs' lv' n (cutD d x) ∧ Moves (FootR bx gs lv) (FootR bx gs' lv') w w' := by
  have c2 : w.cell? ⟨bx, 2, none⟩ = some (.bool false) := by rw [cellOf h.hd 2, ← ho]; rfl
  have c3 : w.cell? ⟨bx, 3, none⟩ = some (.int .i64 d.left) := cellOf h.hd 3
  have f2 : w.frozen? ⟨bx, 2, none⟩ = false := frozenOf h.hd 2
  have f3 : w.frozen? ⟨bx, 3, none⟩ = false := frozenOf h.hd 3
  have b0 : ¬ x < 0 := by omega
  have H := Lib.hid h
  clear h ho
  go_enter Tryz.func47, Tryz.ntmps47
  go_wp2_with fail
  go_ret
  have U : Upd (· = bx) w ((w.setCell ⟨bx, 3, none⟩ (.int .i64 x)).setCell ⟨bx, 2, none⟩ (.bool (x == 0))) := ((Upd.refl (· = bx) w).setCell _ _ (.inl rfl)).setCell _ _ (.inl rfl)
  have hgx : gs ≠ bx := by
    obtain ⟨tl, e, _⟩ := H.out.hs.ex
    exact ty_ne e H.out.hd (by decide)
  refine ⟨rfl, gs, cs, lv, ⟨?_, H.out.hs.upd U hgx, own_upd' H.out.hl U (fun q e e' => ?_), H.out.lo, H.out.hi, h0, h1, H.out.fit, H.out.vis⟩, U.mono (fun _ _ e => .inl e), fun k e => .inl e⟩
  · rw [setOf_ (setOf_ H.out.hd 3 _) 2 _]; rfl
  · have e'' : q = bx := e'
    rw [e''] at e
    exact own_neK H.out.hl H.out.hd (by decide) e
end
end Go.Proofs.YthlmgookaljgnaaGreatDoor
