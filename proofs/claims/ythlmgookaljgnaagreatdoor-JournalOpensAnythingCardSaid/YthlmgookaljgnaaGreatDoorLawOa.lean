/- The walk of JournalOpensAnything (under way). -/
import Derived.Test.YthlmgookaljgnaaGreatDoorSeen
namespace Go.Proofs.YthlmgookaljgnaaGreatDoor
open Go.RowKit Go.Shelf
set_option linter.unusedVariables false
set_option linter.unusedSimpArgs false

set_option maxRecDepth 100000 in
set_option maxHeartbeats 4000000 in
theorem LawOa_any (w : World) (n : Int) (hn0 : -9223372036854775808 ≤ n) (hn1 : n ≤ 9223372036854775807) (s : ByteArray) (hs9 : s.size ≤ 9223372036854775807) (sv : Value) (l : List ByteArray) (hsl : SL w sv l) (hlen : l.length ≤ 9223372036854775807) (hs : ∀ s ∈ l, s.size ≤ 9223372036854775807)
    (at' : Int) (hm0 : -9223372036854775808 ≤ at') (hm1 : at' ≤ 9223372036854775807) (c : UInt8) (hR : RoundLaid w) (a : Addr) (hD : DamLaid a w) :
    Calls Tryz.prog 3 #[.int .i64 n, .string s, sv, .int .i64 at', .int .u8 (c.toNat : Int)] w fun e w' => e = .returned (.bool true) ∧ Below w.heap.size w w' := by
  have HR := Lib.hid hR
  have HD := Lib.hid hD
  have SN := Lib.hid (saneJ_any w hR a hD)
  have SZ := Lib.hid (fun W => sizeJ_any n W hn0 hn1)
  have hNb := sizeJ_bounds n
  have BG := Lib.hid (fun W hR hD => WBegin_any W n hR a hD hn0 hn1)
  generalize sizeJ n = N at *
  have PK := Lib.hid (fun W => pickJ_any at' (N : Int) W (by omega) (by omega) hm0 hm1)
  have hp1 := pickJ_lo at' (N : Int) (by omega)
  have hp2 := pickJ_hi at' (N : Int) (by omega)
  generalize pickJ at' (N : Int) = pk at *
  have HSL := Lib.hid hsl
  have FW := Lib.hid (fun W h => fewJ_any W sv l h hlen hs)
  have hfs := fewJ_small l 6
  have hfl : (fewJ l 6).length ≤ 6 := by rw [fewJ_length]; omega
  have HFS := Lib.hid hfs
  clear hR hD hlen hs hfs hn0 hn1 hm0 hm1
  obtain ⟨sa, sc, rfl, hsc, hsn⟩ := hsl.form
  clear hsl hsn
  generalize fewJ l 6 = L at *
  go_enter Tryz.func3, Tryz.ntmps3
  by_cases hl0 : l.length = 0
  · go_wp2_with (first
      | (go_at_call 5; refine SN.out.mono ?_; rintro e w1 ⟨rfl, hB1⟩; have HB1 := Lib.hid hB1; clear hB1)
      | (go_at_call 6; refine (BG.out _ (HR.out.below HB1.out) (HD.out.upd (Upd.of_below (S := fun _ => False) HB1.out) (fun h => h))).mono ?_; rintro e w2 ⟨wb, bd, bx, F, G, rfl, hW, hB2, hwb, hF, hG⟩; have H2 := Lib.hid (And.intro hW (And.intro hB2 (And.intro hwb (And.intro hF hG)))); clear hW hB2 hwb hF hG)
      | fail)
    have hl1 := HB1.out.size
    obtain ⟨jb, kb, hJ⟩ := H2.out.1.toWJ H2.out.2.1 H2.out.2.2.2.1 H2.out.2.2.2.2 H2.out.2.2.1
    have HJ := Lib.hid hJ
    have HJd := Lib.hid hJ.drew
    have c0 : w2.cell? ⟨wb, 0, none⟩ = some (.pointer (some ⟨bd, 0, none⟩)) := cellOf hJ.cell 0
    obtain ⟨m, hm⟩ : ∃ m : Nat, m = (min (s.size : Int) (N : Int)).toNat := ⟨_, rfl⟩
    have hm2 : (s.extract 0 m).size ≤ N := by rw [ByteArray.size_extract, hm]; omega
    have W1 : Hid (∀ W, WJ w1 W wb bd bx jb kb N false tv0 (newD N) false tv0 (newD N) F G → Calls Tryz.prog 10 #[.pointer (some ⟨bd, 0, none⟩), .int .i64 0, .string (s.extract 0 (min (s.size : Int) (N : Int)).toNat)] W fun r w' => r = .returned (.int .i64 0) ∧ ∃ F', WJ w1 w' wb bd bx jb kb N false tv0 (writeD (newD N) 0 (s.extract 0 m)) false tv0 (newD N) F' G) := Lib.hid (fun W h => by
      have := h.jWrite rfl 0 (s.extract 0 m) (by omega) (by show ([] : List (Nat × ByteArray)).length ≤ 1000000; simp)
      rw [← hm]
      simpa using this)
    have W2 : Hid (∀ W F', WJ w1 W wb bd bx jb kb N false tv0 (writeD (newD N) 0 (s.extract 0 m)) false tv0 (newD N) F' G → Calls Tryz.prog 13 #[.pointer (some ⟨bx, 0, none⟩), .int .i64 0, .string (s.extract 0 (min (s.size : Int) (N : Int)).toNat)] W fun r w' => r = .returned (.int .i64 0) ∧ ∃ G', WJ w1 w' wb bd bx jb kb N false tv0 (writeD (newD N) 0 (s.extract 0 m)) false tv0 (writeD (newD N) 0 (s.extract 0 m)) F' G') := Lib.hid (fun W F' h => by
      have := h.rWrite rfl 0 (s.extract 0 m) (by omega) (by show ([] : List (Nat × ByteArray)).length ≤ 1000000; simp)
      rw [← hm]
      simpa using this)
    have hmn0 : (0 : Int) ≤ min (s.size : Int) (N : Int) := by omega
    have hmn1 : min (s.size : Int) (N : Int) ≤ (s.size : Int) := by omega
    clear hJ hm hm2
    go_region_held3 (fun w' => w'.cell? ⟨wb, 0, none⟩ = some (.pointer (some ⟨bd, 0, none⟩)))
      (first | exact c0 | exact c0' | go_keep)
      (first
        | (go_at_call 12; with_reducible refine Calls.mono (SZ.out _) ?_; rintro e w' ⟨rfl, rfl⟩)
        | (go_at_call 10; refine (W1.out _ HJd.out).mono ?_; rintro e w3 ⟨rfl, F3, hJ3⟩; have Hw3 := Lib.hid hJ3; have c0' : w3.cell? ⟨wb, 0, none⟩ = some (.pointer (some ⟨bd, 0, none⟩)) := cellOf hJ3.cell 0; have c2' : w3.cell? ⟨wb, 2, none⟩ = some (.pointer (some ⟨bx, 0, none⟩)) := cellOf hJ3.cell 2; clear hJ3)
        | fail)
    all_goals
      have HJd3 := Lib.hid Hw3.out.drew
      go_wp2
      go_region_held3 (fun w' => w'.cell? ⟨wb, 2, none⟩ = some (.pointer (some ⟨bx, 0, none⟩)))
        (first | exact c2' | exact c4' | go_keep)
        (first
        | (go_at_call 12; with_reducible refine Calls.mono (SZ.out _) ?_; rintro e w' ⟨rfl, rfl⟩)
        | (go_at_call 13; refine (W2.out _ _ HJd3.out).mono ?_; rintro e w4 ⟨rfl, G4, hJ3⟩; have Hw4 := Lib.hid hJ3; have c4' : w4.cell? ⟨wb, 2, none⟩ = some (.pointer (some ⟨bx, 0, none⟩)) := cellOf hJ3.cell 2; have c6' : w4.cell? ⟨wb, 2, none⟩ = some (.pointer (some ⟨bx, 0, none⟩)) := cellOf hJ3.cell 2; clear hJ3)
        | fail)
      all_goals
        have X4 := Lib.hid Hw4.out.toWX
        have hpe1 : (writeD (newD N) 0 (s.extract 0 m)).pe.length ≤ 100000 := by show (_ :: _ : List (Nat × ByteArray)).length ≤ 100000; simp
        clear W1 W2 Hw3 HJd3 Hw4 HJ HJd H2
        generalize writeD (newD N) 0 (s.extract 0 m) = d1 at *
        have WO := Lib.hid (X4.out.openW (by omega) (HR.out.below HB1.out) a (HD.out.upd (Upd.of_below (S := fun _ => False) HB1.out) (fun h => h)) hpe1)
        have hvl := X4.out.facts.1
        clear hpe1
        rcases openJ_cases N d1 with ⟨cc, d', e0, hcc⟩ | ⟨t, d', e0⟩
        · rw [e0] at WO
          clear e0 hcc
          go_wp2_with (first
            | (go_at_call 14; refine WO.out.mono ?_; rintro e w6 ⟨rfl, pj6, pk6, F6, G6, hX⟩; have X6 : Hid (WX w1 w6 wb bd bx N pj6 pk6 none d' none d' F6 G6) := Lib.hid hX; clear hX)
            | fail)
          have hpj := X6.out.nil
          subst hpj
          have c1 := X6.out.c1
          refine wp_region_noPanic ?_
          refine wp_region_held_drew (S := fun w' => w'.cell? ⟨wb, 1, none⟩ = some (.pointer none)) (by kernel_rfl) c1 (fun hHeld => ?_)
          refine wpAnyH_take (i := 0) (oi := _) (v := ?_) rfl (by kernel_rfl) (by kernel_rfl) (by kernel_rfl) (fun _ _ _ h => h) (Or.inl ⟨by kernel_rfl, ?_⟩) hHeld ?_
          rotate_left
          · (intro w hSw; (try dsimp only at hSw); go_simp; all_goals (with_reducible rfl))
          try simp only [Act.put, List.getElem_toArray, List.getElem_cons_zero, List.getElem_cons_succ, List.setIfInBounds_toArray, List.set_cons_zero, List.set_cons_succ]
          refine wpAnyH_take (i := 1) (oi := _) (v := ?_) rfl (by kernel_rfl) (by kernel_rfl) (by kernel_rfl) (fun _ _ _ h => h) (Or.inl ⟨by kernel_rfl, ?_⟩) hHeld ?_
          rotate_left
          · (intro w hSw; (try dsimp only at hSw); go_simp; all_goals (with_reducible rfl))
          try simp only [Act.put, List.getElem_toArray, List.getElem_cons_zero, List.getElem_cons_succ, List.setIfInBounds_toArray, List.set_cons_zero, List.set_cons_succ]
          refine wpAnyH_take (i := 2) (oi := _) (v := ?_) rfl (by kernel_rfl) (by kernel_rfl) (by kernel_rfl) (fun _ _ _ h => h) (Or.inl ⟨by kernel_rfl, ?_⟩) hHeld ?_
          rotate_left
          · (intro w hSw; (try dsimp only at hSw); go_simp; all_goals (with_reducible rfl))
          try simp only [Act.put, List.getElem_toArray, List.getElem_cons_zero, List.getElem_cons_succ, List.setIfInBounds_toArray, List.set_cons_zero, List.set_cons_succ]
          refine wpAnyH_take (i := 3) (oi := _) (v := ?_) rfl (by kernel_rfl) (by kernel_rfl) (by kernel_rfl) (fun _ _ _ h => h) (Or.inl ⟨by kernel_rfl, ?_⟩) hHeld ?_
          rotate_left
          · (intro w hSw; (try dsimp only at hSw); go_simp; all_goals (with_reducible rfl))
          try simp only [Act.put, List.getElem_toArray, List.getElem_cons_zero, List.getElem_cons_succ, List.setIfInBounds_toArray, List.set_cons_zero, List.set_cons_succ]
          refine wpAnyH_take (i := 4) (oi := _) (v := ?_) rfl (by kernel_rfl) (by kernel_rfl) (by kernel_rfl) (fun _ _ _ h => h) (Or.inl ⟨by kernel_rfl, ?_⟩) hHeld ?_
          rotate_left
          · (intro w hSw; (try dsimp only at hSw); go_simp; all_goals (with_reducible rfl))
          try simp only [Act.put, List.getElem_toArray, List.getElem_cons_zero, List.getElem_cons_succ, List.setIfInBounds_toArray, List.set_cons_zero, List.set_cons_succ]
          refine wpAnyH_take (i := 5) (oi := _) (v := ?_) rfl (by kernel_rfl) (by kernel_rfl) (by kernel_rfl) (fun _ _ _ h => h) (Or.inl ⟨by kernel_rfl, ?_⟩) hHeld ?_
          rotate_left
          · (intro w hSw; (try dsimp only at hSw); go_simp; all_goals (with_reducible rfl))
          try simp only [Act.put, List.getElem_toArray, List.getElem_cons_zero, List.getElem_cons_succ, List.setIfInBounds_toArray, List.set_cons_zero, List.set_cons_succ]
          refine wpAnyH_take (i := 6) (oi := _) (v := ?_) rfl (by kernel_rfl) (by kernel_rfl) (by kernel_rfl) (fun _ _ _ h => h) (Or.inl ⟨by kernel_rfl, ?_⟩) hHeld ?_
          rotate_left
          · (intro w hSw; (try dsimp only at hSw); go_simp; all_goals (with_reducible rfl))
          try simp only [Act.put, List.getElem_toArray, List.getElem_cons_zero, List.getElem_cons_succ, List.setIfInBounds_toArray, List.set_cons_zero, List.set_cons_succ]
          refine wpAnyH_take (i := 7) (oi := _) (v := ?_) rfl (by kernel_rfl) (by kernel_rfl) (by kernel_rfl) (fun _ _ _ h => h) (Or.inl ⟨by kernel_rfl, ?_⟩) hHeld ?_
          rotate_left
          · (intro w hSw; (try dsimp only at hSw); go_simp; all_goals (with_reducible rfl))
          try simp only [Act.put, List.getElem_toArray, List.getElem_cons_zero, List.getElem_cons_succ, List.setIfInBounds_toArray, List.set_cons_zero, List.set_cons_succ]
          refine wpAnyH_take (i := 8) (oi := _) (v := ?_) rfl (by kernel_rfl) (by kernel_rfl) (by kernel_rfl) (fun _ _ _ h => h) (Or.inl ⟨by kernel_rfl, ?_⟩) hHeld ?_
          rotate_left
          · (intro w hSw; (try dsimp only at hSw); go_simp; all_goals (with_reducible rfl))
          try simp only [Act.put, List.getElem_toArray, List.getElem_cons_zero, List.getElem_cons_succ, List.setIfInBounds_toArray, List.set_cons_zero, List.set_cons_succ]
          refine wpAnyH_take (i := 9) (oi := _) (v := ?_) rfl (by kernel_rfl) (by kernel_rfl) (by kernel_rfl) (fun _ _ _ h => h) (Or.inl ⟨by kernel_rfl, ?_⟩) hHeld ?_
          rotate_left
          · (intro w hSw; (try dsimp only at hSw); go_simp; all_goals (with_reducible rfl))
          try simp only [Act.put, List.getElem_toArray, List.getElem_cons_zero, List.getElem_cons_succ, List.setIfInBounds_toArray, List.set_cons_zero, List.set_cons_succ]
          refine wpAnyH_take (i := 10) (oi := _) (v := ?_) rfl (by kernel_rfl) (by kernel_rfl) (by kernel_rfl) (fun _ _ _ h => h) (Or.inl ⟨by kernel_rfl, ?_⟩) hHeld ?_
          rotate_left
          · (intro w hSw; (try dsimp only at hSw); go_simp; all_goals (with_reducible rfl))
          try simp only [Act.put, List.getElem_toArray, List.getElem_cons_zero, List.getElem_cons_succ, List.setIfInBounds_toArray, List.set_cons_zero, List.set_cons_succ]
          refine wpAnyH_take (i := 11) (oi := _) (v := undef) rfl (by kernel_rfl) (by kernel_rfl) (by kernel_rfl) (fun _ _ _ h => h) (Or.inr ⟨by kernel_rfl, rfl⟩) hHeld ?_
          try simp only [Act.put, List.getElem_toArray, List.getElem_cons_zero, List.getElem_cons_succ, List.setIfInBounds_toArray, List.set_cons_zero, List.set_cons_succ]
          refine wpAnyH_take (i := 12) (oi := _) (v := undef) rfl (by kernel_rfl) (by kernel_rfl) (by kernel_rfl) (fun _ _ _ h => h) (Or.inr ⟨by kernel_rfl, rfl⟩) hHeld ?_
          try simp only [Act.put, List.getElem_toArray, List.getElem_cons_zero, List.getElem_cons_succ, List.setIfInBounds_toArray, List.set_cons_zero, List.set_cons_succ]
          refine wpAnyH_take (i := 13) (oi := _) (v := undef) rfl (by kernel_rfl) (by kernel_rfl) (by kernel_rfl) (fun _ _ _ h => h) (Or.inr ⟨by kernel_rfl, rfl⟩) hHeld ?_
          try simp only [Act.put, List.getElem_toArray, List.getElem_cons_zero, List.getElem_cons_succ, List.setIfInBounds_toArray, List.set_cons_zero, List.set_cons_succ]
          refine wpAnyH_take (i := 14) (oi := _) (v := undef) rfl (by kernel_rfl) (by kernel_rfl) (by kernel_rfl) (fun _ _ _ h => h) (Or.inr ⟨by kernel_rfl, rfl⟩) hHeld ?_
          try simp only [Act.put, List.getElem_toArray, List.getElem_cons_zero, List.getElem_cons_succ, List.setIfInBounds_toArray, List.set_cons_zero, List.set_cons_succ]
          refine wpAnyH_take (i := 15) (oi := _) (v := undef) rfl (by kernel_rfl) (by kernel_rfl) (by kernel_rfl) (fun _ _ _ h => h) (Or.inr ⟨by kernel_rfl, rfl⟩) hHeld ?_
          try simp only [Act.put, List.getElem_toArray, List.getElem_cons_zero, List.getElem_cons_succ, List.setIfInBounds_toArray, List.set_cons_zero, List.set_cons_succ]
          refine wpAnyH_take (i := 16) (oi := _) (v := undef) rfl (by kernel_rfl) (by kernel_rfl) (by kernel_rfl) (fun _ _ _ h => h) (Or.inr ⟨by kernel_rfl, rfl⟩) hHeld ?_
          try simp only [Act.put, List.getElem_toArray, List.getElem_cons_zero, List.getElem_cons_succ, List.setIfInBounds_toArray, List.set_cons_zero, List.set_cons_succ]
          refine wpAnyH_take (i := 17) (oi := _) (v := undef) rfl (by kernel_rfl) (by kernel_rfl) (by kernel_rfl) (fun _ _ _ h => h) (Or.inr ⟨by kernel_rfl, rfl⟩) hHeld ?_
          try simp only [Act.put, List.getElem_toArray, List.getElem_cons_zero, List.getElem_cons_succ, List.setIfInBounds_toArray, List.set_cons_zero, List.set_cons_succ]
          refine wpAnyH_take (i := 18) (oi := _) (v := undef) rfl (by kernel_rfl) (by kernel_rfl) (by kernel_rfl) (fun _ _ _ h => h) (Or.inr ⟨by kernel_rfl, rfl⟩) hHeld ?_
          try simp only [Act.put, List.getElem_toArray, List.getElem_cons_zero, List.getElem_cons_succ, List.setIfInBounds_toArray, List.set_cons_zero, List.set_cons_succ]
          refine wpAnyH_take (i := 19) (oi := _) (v := undef) rfl (by kernel_rfl) (by kernel_rfl) (by kernel_rfl) (fun _ _ _ h => h) (Or.inr ⟨by kernel_rfl, rfl⟩) hHeld ?_
          try simp only [Act.put, List.getElem_toArray, List.getElem_cons_zero, List.getElem_cons_succ, List.setIfInBounds_toArray, List.set_cons_zero, List.set_cons_succ]
          refine wpAnyH_take (i := 20) (oi := _) (v := undef) rfl (by kernel_rfl) (by kernel_rfl) (by kernel_rfl) (fun _ _ _ h => h) (Or.inr ⟨by kernel_rfl, rfl⟩) hHeld ?_
          try simp only [Act.put, List.getElem_toArray, List.getElem_cons_zero, List.getElem_cons_succ, List.setIfInBounds_toArray, List.set_cons_zero, List.set_cons_succ]
          refine wpAnyH_take (i := 21) (oi := _) (v := undef) rfl (by kernel_rfl) (by kernel_rfl) (by kernel_rfl) (fun _ _ _ h => h) (Or.inr ⟨by kernel_rfl, rfl⟩) hHeld ?_
          try simp only [Act.put, List.getElem_toArray, List.getElem_cons_zero, List.getElem_cons_succ, List.setIfInBounds_toArray, List.set_cons_zero, List.set_cons_succ]
          refine wpAnyH_take (i := 22) (oi := _) (v := undef) rfl (by kernel_rfl) (by kernel_rfl) (by kernel_rfl) (fun _ _ _ h => h) (Or.inr ⟨by kernel_rfl, rfl⟩) hHeld ?_
          try simp only [Act.put, List.getElem_toArray, List.getElem_cons_zero, List.getElem_cons_succ, List.setIfInBounds_toArray, List.set_cons_zero, List.set_cons_succ]
          refine wpAnyH_take (i := 23) (oi := _) (v := undef) rfl (by kernel_rfl) (by kernel_rfl) (by kernel_rfl) (fun _ _ _ h => h) (Or.inr ⟨by kernel_rfl, rfl⟩) hHeld ?_
          try simp only [Act.put, List.getElem_toArray, List.getElem_cons_zero, List.getElem_cons_succ, List.setIfInBounds_toArray, List.set_cons_zero, List.set_cons_succ]
          refine wpAnyH_take (i := 24) (oi := _) (v := undef) rfl (by kernel_rfl) (by kernel_rfl) (by kernel_rfl) (fun _ _ _ h => h) (Or.inr ⟨by kernel_rfl, rfl⟩) hHeld ?_
          try simp only [Act.put, List.getElem_toArray, List.getElem_cons_zero, List.getElem_cons_succ, List.setIfInBounds_toArray, List.set_cons_zero, List.set_cons_succ]
          refine wpAnyH_take (i := 25) (oi := _) (v := undef) rfl (by kernel_rfl) (by kernel_rfl) (by kernel_rfl) (fun _ _ _ h => h) (Or.inr ⟨by kernel_rfl, rfl⟩) hHeld ?_
          try simp only [Act.put, List.getElem_toArray, List.getElem_cons_zero, List.getElem_cons_succ, List.setIfInBounds_toArray, List.set_cons_zero, List.set_cons_succ]
          refine wpAnyH_take (i := 26) (oi := _) (v := undef) rfl (by kernel_rfl) (by kernel_rfl) (by kernel_rfl) (fun _ _ _ h => h) (Or.inr ⟨by kernel_rfl, rfl⟩) hHeld ?_
          try simp only [Act.put, List.getElem_toArray, List.getElem_cons_zero, List.getElem_cons_succ, List.setIfInBounds_toArray, List.set_cons_zero, List.set_cons_succ]
          refine wpAnyH_take (i := 27) (oi := _) (v := undef) rfl (by kernel_rfl) (by kernel_rfl) (by kernel_rfl) (fun _ _ _ h => h) (Or.inr ⟨by kernel_rfl, rfl⟩) hHeld ?_
          try simp only [Act.put, List.getElem_toArray, List.getElem_cons_zero, List.getElem_cons_succ, List.setIfInBounds_toArray, List.set_cons_zero, List.set_cons_succ]
          refine wpAnyH_take (i := 28) (oi := _) (v := undef) rfl (by kernel_rfl) (by kernel_rfl) (by kernel_rfl) (fun _ _ _ h => h) (Or.inr ⟨by kernel_rfl, rfl⟩) hHeld ?_
          try simp only [Act.put, List.getElem_toArray, List.getElem_cons_zero, List.getElem_cons_succ, List.setIfInBounds_toArray, List.set_cons_zero, List.set_cons_succ]
          refine wpAnyH_take (i := 29) (oi := _) (v := undef) rfl (by kernel_rfl) (by kernel_rfl) (by kernel_rfl) (fun _ _ _ h => h) (Or.inr ⟨by kernel_rfl, rfl⟩) hHeld ?_
          try simp only [Act.put, List.getElem_toArray, List.getElem_cons_zero, List.getElem_cons_succ, List.setIfInBounds_toArray, List.set_cons_zero, List.set_cons_succ]
          refine wpAnyH_take (i := 30) (oi := _) (v := undef) rfl (by kernel_rfl) (by kernel_rfl) (by kernel_rfl) (fun _ _ _ h => h) (Or.inr ⟨by kernel_rfl, rfl⟩) hHeld ?_
          try simp only [Act.put, List.getElem_toArray, List.getElem_cons_zero, List.getElem_cons_succ, List.setIfInBounds_toArray, List.set_cons_zero, List.set_cons_succ]
          refine wpAnyH_take (i := 31) (oi := _) (v := undef) rfl (by kernel_rfl) (by kernel_rfl) (by kernel_rfl) (fun _ _ _ h => h) (Or.inr ⟨by kernel_rfl, rfl⟩) hHeld ?_
          try simp only [Act.put, List.getElem_toArray, List.getElem_cons_zero, List.getElem_cons_succ, List.setIfInBounds_toArray, List.set_cons_zero, List.set_cons_succ]
          refine wpAnyH_take (i := 32) (oi := _) (v := undef) rfl (by kernel_rfl) (by kernel_rfl) (by kernel_rfl) (fun _ _ _ h => h) (Or.inr ⟨by kernel_rfl, rfl⟩) hHeld ?_
          try simp only [Act.put, List.getElem_toArray, List.getElem_cons_zero, List.getElem_cons_succ, List.setIfInBounds_toArray, List.set_cons_zero, List.set_cons_succ]
          refine wpAnyH_take (i := 33) (oi := _) (v := undef) rfl (by kernel_rfl) (by kernel_rfl) (by kernel_rfl) (fun _ _ _ h => h) (Or.inr ⟨by kernel_rfl, rfl⟩) hHeld ?_
          try simp only [Act.put, List.getElem_toArray, List.getElem_cons_zero, List.getElem_cons_succ, List.setIfInBounds_toArray, List.set_cons_zero, List.set_cons_succ]
          refine wpAnyH_take (i := 34) (oi := _) (v := undef) rfl (by kernel_rfl) (by kernel_rfl) (by kernel_rfl) (fun _ _ _ h => h) (Or.inr ⟨by kernel_rfl, rfl⟩) hHeld ?_
          try simp only [Act.put, List.getElem_toArray, List.getElem_cons_zero, List.getElem_cons_succ, List.setIfInBounds_toArray, List.set_cons_zero, List.set_cons_succ]
          refine wpAnyH_take (i := 35) (oi := _) (v := undef) rfl (by kernel_rfl) (by kernel_rfl) (by kernel_rfl) (fun _ _ _ h => h) (Or.inr ⟨by kernel_rfl, rfl⟩) hHeld ?_
          try simp only [Act.put, List.getElem_toArray, List.getElem_cons_zero, List.getElem_cons_succ, List.setIfInBounds_toArray, List.set_cons_zero, List.set_cons_succ]
          refine wpAnyH_take (i := 36) (oi := _) (v := undef) rfl (by kernel_rfl) (by kernel_rfl) (by kernel_rfl) (fun _ _ _ h => h) (Or.inr ⟨by kernel_rfl, rfl⟩) hHeld ?_
          try simp only [Act.put, List.getElem_toArray, List.getElem_cons_zero, List.getElem_cons_succ, List.setIfInBounds_toArray, List.set_cons_zero, List.set_cons_succ]
          refine wpAnyH_take (i := 37) (oi := _) (v := undef) rfl (by kernel_rfl) (by kernel_rfl) (by kernel_rfl) (fun _ _ _ h => h) (Or.inr ⟨by kernel_rfl, rfl⟩) hHeld ?_
          try simp only [Act.put, List.getElem_toArray, List.getElem_cons_zero, List.getElem_cons_succ, List.setIfInBounds_toArray, List.set_cons_zero, List.set_cons_succ]
          refine wpAnyH_take (i := 38) (oi := _) (v := undef) rfl (by kernel_rfl) (by kernel_rfl) (by kernel_rfl) (fun _ _ _ h => h) (Or.inr ⟨by kernel_rfl, rfl⟩) hHeld ?_
          try simp only [Act.put, List.getElem_toArray, List.getElem_cons_zero, List.getElem_cons_succ, List.setIfInBounds_toArray, List.set_cons_zero, List.set_cons_succ]
          refine wpAnyH_take (i := 39) (oi := _) (v := undef) rfl (by kernel_rfl) (by kernel_rfl) (by kernel_rfl) (fun _ _ _ h => h) (Or.inr ⟨by kernel_rfl, rfl⟩) hHeld ?_
          try simp only [Act.put, List.getElem_toArray, List.getElem_cons_zero, List.getElem_cons_succ, List.setIfInBounds_toArray, List.set_cons_zero, List.set_cons_succ]
          refine wpAnyH_take (i := 40) (oi := _) (v := undef) rfl (by kernel_rfl) (by kernel_rfl) (by kernel_rfl) (fun _ _ _ h => h) (Or.inr ⟨by kernel_rfl, rfl⟩) hHeld ?_
          try simp only [Act.put, List.getElem_toArray, List.getElem_cons_zero, List.getElem_cons_succ, List.setIfInBounds_toArray, List.set_cons_zero, List.set_cons_succ]
          refine wpAnyH_take (i := 41) (oi := _) (v := undef) rfl (by kernel_rfl) (by kernel_rfl) (by kernel_rfl) (fun _ _ _ h => h) (Or.inr ⟨by kernel_rfl, rfl⟩) hHeld ?_
          try simp only [Act.put, List.getElem_toArray, List.getElem_cons_zero, List.getElem_cons_succ, List.setIfInBounds_toArray, List.set_cons_zero, List.set_cons_succ]
          refine wpAnyH_take (i := 42) (oi := _) (v := undef) rfl (by kernel_rfl) (by kernel_rfl) (by kernel_rfl) (fun _ _ _ h => h) (Or.inr ⟨by kernel_rfl, rfl⟩) hHeld ?_
          try simp only [Act.put, List.getElem_toArray, List.getElem_cons_zero, List.getElem_cons_succ, List.setIfInBounds_toArray, List.set_cons_zero, List.set_cons_succ]
          refine wpAnyH_take (i := 43) (oi := _) (v := undef) rfl (by kernel_rfl) (by kernel_rfl) (by kernel_rfl) (fun _ _ _ h => h) (Or.inr ⟨by kernel_rfl, rfl⟩) hHeld ?_
          try simp only [Act.put, List.getElem_toArray, List.getElem_cons_zero, List.getElem_cons_succ, List.setIfInBounds_toArray, List.set_cons_zero, List.set_cons_succ]
          refine wpAnyH_take (i := 44) (oi := _) (v := undef) rfl (by kernel_rfl) (by kernel_rfl) (by kernel_rfl) (fun _ _ _ h => h) (Or.inr ⟨by kernel_rfl, rfl⟩) hHeld ?_
          try simp only [Act.put, List.getElem_toArray, List.getElem_cons_zero, List.getElem_cons_succ, List.setIfInBounds_toArray, List.set_cons_zero, List.set_cons_succ]
          refine wpAnyH_take (i := 45) (oi := _) (v := undef) rfl (by kernel_rfl) (by kernel_rfl) (by kernel_rfl) (fun _ _ _ h => h) (Or.inr ⟨by kernel_rfl, rfl⟩) hHeld ?_
          try simp only [Act.put, List.getElem_toArray, List.getElem_cons_zero, List.getElem_cons_succ, List.setIfInBounds_toArray, List.set_cons_zero, List.set_cons_succ]
          refine wpAnyH_take (i := 46) (oi := _) (v := undef) rfl (by kernel_rfl) (by kernel_rfl) (by kernel_rfl) (fun _ _ _ h => h) (Or.inr ⟨by kernel_rfl, rfl⟩) hHeld ?_
          try simp only [Act.put, List.getElem_toArray, List.getElem_cons_zero, List.getElem_cons_succ, List.setIfInBounds_toArray, List.set_cons_zero, List.set_cons_succ]
          refine wpAnyH_take (i := 47) (oi := _) (v := undef) rfl (by kernel_rfl) (by kernel_rfl) (by kernel_rfl) (fun _ _ _ h => h) (Or.inr ⟨by kernel_rfl, rfl⟩) hHeld ?_
          try simp only [Act.put, List.getElem_toArray, List.getElem_cons_zero, List.getElem_cons_succ, List.setIfInBounds_toArray, List.set_cons_zero, List.set_cons_succ]
          refine wpAnyH_take (i := 48) (oi := _) (v := undef) rfl (by kernel_rfl) (by kernel_rfl) (by kernel_rfl) (fun _ _ _ h => h) (Or.inr ⟨by kernel_rfl, rfl⟩) hHeld ?_
          try simp only [Act.put, List.getElem_toArray, List.getElem_cons_zero, List.getElem_cons_succ, List.setIfInBounds_toArray, List.set_cons_zero, List.set_cons_succ]
          refine wpAnyH_take (i := 49) (oi := _) (v := undef) rfl (by kernel_rfl) (by kernel_rfl) (by kernel_rfl) (fun _ _ _ h => h) (Or.inr ⟨by kernel_rfl, rfl⟩) hHeld ?_
          try simp only [Act.put, List.getElem_toArray, List.getElem_cons_zero, List.getElem_cons_succ, List.setIfInBounds_toArray, List.set_cons_zero, List.set_cons_succ]
          refine wpAnyH_take (i := 50) (oi := _) (v := undef) rfl (by kernel_rfl) (by kernel_rfl) (by kernel_rfl) (fun _ _ _ h => h) (Or.inr ⟨by kernel_rfl, rfl⟩) hHeld ?_
          try simp only [Act.put, List.getElem_toArray, List.getElem_cons_zero, List.getElem_cons_succ, List.setIfInBounds_toArray, List.set_cons_zero, List.set_cons_succ]
          refine wpAnyH_take (i := 51) (oi := _) (v := ?_) rfl (by kernel_rfl) (by kernel_rfl) (by kernel_rfl) (fun _ _ _ h => h) (Or.inl ⟨by kernel_rfl, ?_⟩) hHeld ?_
          rotate_left
          · (intro w hSw; (try dsimp only at hSw); go_simp; all_goals (with_reducible rfl))
          try simp only [Act.put, List.getElem_toArray, List.getElem_cons_zero, List.getElem_cons_succ, List.setIfInBounds_toArray, List.set_cons_zero, List.set_cons_succ]
          refine wpAnyH_take (i := 52) (oi := _) (v := ?_) rfl (by kernel_rfl) (by kernel_rfl) (by kernel_rfl) (fun _ _ _ h => h) (Or.inl ⟨by kernel_rfl, ?_⟩) hHeld ?_
          rotate_left
          · (intro w hSw; (try dsimp only at hSw); go_simp; all_goals (with_reducible rfl))
          try simp only [Act.put, List.getElem_toArray, List.getElem_cons_zero, List.getElem_cons_succ, List.setIfInBounds_toArray, List.set_cons_zero, List.set_cons_succ]
          refine wpAnyH_take (i := 53) (oi := _) (v := ?_) rfl (by kernel_rfl) (by kernel_rfl) (by kernel_rfl) (fun _ _ _ h => h) (Or.inl ⟨by kernel_rfl, ?_⟩) hHeld ?_
          rotate_left
          · (intro w hSw; (try dsimp only at hSw); go_simp; all_goals (with_reducible rfl))
          try simp only [Act.put, List.getElem_toArray, List.getElem_cons_zero, List.getElem_cons_succ, List.setIfInBounds_toArray, List.set_cons_zero, List.set_cons_succ]
          refine wpAnyH_done (by kernel_rfl) ?_ _
          refine NoPanic.normal ?_
          go_wp2
          go_ret
          exact ⟨rfl, HB1.out.trans (X6.out.drew.below.mono hl1)⟩
        · obtain ⟨ho', l9, ht9, hl9, hz9⟩ := openJ_some hvl e0
          have hrl : t.recs.length ≤ 1000000 := by
            rw [ht9, growAll_recs0]
            rw [ht9, growAll_len] at hz9
            have := needOf_length l9
            omega
          rw [e0] at WO
          clear e0 ht9 hl9
          go_wp2_with (first
            | (go_at_call 14; refine WO.out.mono ?_; rintro e w6 ⟨rfl, pj6, pk6, F6, G6, hX⟩; have X6 : Hid (WX w1 w6 wb bd bx N pj6 pk6 (some (false, t)) d' (some (false, t)) d' F6 G6) := Lib.hid hX; clear hX)
            | fail)
          obtain ⟨jb6, kb6, e1, e2, hJ6⟩ := X6.out.toWJ
          subst e1 e2
          obtain ⟨A5, m5, C5, hs5⟩ := hJ6.seen
          have E0 := Lib.hid hs5
          have SA := Lib.hid (fun W (h : Seen w1 W wb bd bx jb6 kb6 N false t d' F6 G6 A5 m5 C5) => h.same hrl)
          have RR := Lib.hid (fun W (h : Seen w1 W wb bd bx jb6 kb6 N false t d' F6 G6 A5 m5 C5) => h.rRoom hz9)
          have JR := Lib.hid (fun W (h : Seen w1 W wb bd bx jb6 kb6 N false t d' F6 G6 A5 m5 C5) => h.jRoom)
          have CT := Lib.hid (fun W (h : Seen w1 W wb bd bx jb6 kb6 N false t d' F6 G6 A5 m5 C5) => h.content ho')
          have VS := Lib.hid (fun W (h : Seen w1 W wb bd bx jb6 kb6 N false t d' F6 G6 A5 m5 C5) => h.visible)
          clear hJ6 hs5 WO X4 ho' hvl hrl
          generalize N - t.size = z5 at *
          generalize diskB d' = s5 at *
          refine wp_region_noPanic ?_
          go_region_held (fun w' => w'.cell? ⟨wb, 0, none⟩ = some (.pointer (some ⟨bd, 0, none⟩)) ∧ w'.cell? ⟨wb, 1, none⟩ = some (.pointer (some ⟨jb6, 0, none⟩)) ∧ w'.cell? ⟨wb, 2, none⟩ = some (.pointer (some ⟨bx, 0, none⟩)) ∧ w'.cell? ⟨wb, 3, none⟩ = some (.pointer (some ⟨kb6, 0, none⟩)) ∧ w'.cell? ⟨kb6, 1, none⟩ = some (.slice A5 m5 C5))
            (first | exact E0.out.drew.S | exact E6.out.S | exact E5.out.S | exact E4.out.S | exact E3.out.S | exact E2.out.S | exact E1.out.S | go_keep)
            (first
              | (go_at_call 20; refine (VS.out _ E5.out).mono ?_; rintro r w12 ⟨g12, cap12, rfl, cv12, h12⟩; have E6 := Lib.hid h12; clear h12)
              | (go_at_call 19; refine (CT.out _ E4.out).mono ?_; rintro r w11 ⟨rfl, h11⟩; have E5 := Lib.hid h11; clear h11)
              | (go_at_call 18; refine (RR.out _ E3.out).mono ?_; rintro r w10 ⟨rfl, h10⟩; have E4 := Lib.hid h10; clear h10)
              | (go_at_call 17; refine (JR.out _ E2.out).mono ?_; rintro r w9 ⟨rfl, h9⟩; have E3 := Lib.hid h9; clear h9)
              | (go_at_call 15; refine (SA.out _ E1.out _ V7.out).mono ?_; rintro r w8 ⟨rfl, h8⟩; have E2 := Lib.hid h8; clear h8)
              | (go_at_call 16; refine E0.out.drew.records.mono ?_; rintro r w7 ⟨v7, rfl, hv7, h7⟩; have E1 := Lib.hid h7; have V7 := Lib.hid hv7; clear h7 hv7)
              | fail)
          all_goals
            refine NoPanic.normal ?_
            go_wp2
            go_ret
            exact ⟨rfl, HB1.out.trans (E6.out.j.below.mono hl1)⟩
  · have hlp : (0 : Int) < (l.length : Int) := by omega
    go_wp2_with (first
      | (go_at_call 5; refine SN.out.mono ?_; rintro e w1 ⟨rfl, hB1⟩; have HB1 := Lib.hid hB1; clear hB1)
      | (go_at_call 6; refine (BG.out _ (HR.out.below HB1.out) (HD.out.upd (Upd.of_below (S := fun _ => False) HB1.out) (fun h => h))).mono ?_; rintro e w2 ⟨wb, bd, bx, F, G, rfl, hW, hB2, hwb, hF, hG⟩; have H2 := Lib.hid (And.intro hW (And.intro hB2 (And.intro hwb (And.intro hF hG)))); clear hW hB2 hwb hF hG)
      | fail)
    have hl1 := HB1.out.size
    obtain ⟨jb, kb, hJ⟩ := H2.out.1.toWJ H2.out.2.1 H2.out.2.2.2.1 H2.out.2.2.2.2 H2.out.2.2.1
    have HJ := Lib.hid hJ
    have c1 := hJ.toWX.c1
    have c3 := hJ.toWX.c3
    obtain ⟨cA, tA, dA, hA, hCalm⟩ : ∃ cA tA dA, appJ N false tv0 (newD N) L = (cA, false, tA, dA) ∧ Calm dA := by
      have h65 : ∀ r ∈ L, r.size ≤ 65536 := fun r hr => by have := HFS.out r hr; omega
      by_cases hf : needOf [] + needOf L ≤ N
      · obtain ⟨d', e, _, h2⟩ := appJ_fits (JInv.new N) ⟨rfl, rfl, rfl⟩ h65 hf
        exact ⟨_, _, d', e, h2⟩
      · exact ⟨_, _, _, appJ_full h65 hf, ⟨rfl, rfl, rfl⟩⟩
    have HCA := Lib.hid hCalm
    have HL6 := Lib.hid (show ∀ r ∈ L, r.size ≤ 1000000 from fun r hr => by have := HFS.out r hr; omega)
    have JA : Hid (∀ W v F1, WJ w1 W wb bd bx jb kb N false tv0 (newD N) false tv0 (newD N) F1 G → SL W v L → Calls Tryz.prog 7 #[.pointer (some ⟨jb, 0, none⟩), v] W fun r w' => r = .returned (.int .i64 cA) ∧ ∃ F', WJ w1 w' wb bd bx jb kb N false tA dA false tv0 (newD N) F' G) := Lib.hid (fun W v F1 h hv => by
      have := h.jAppend (HR.out.below HB1.out) (by omega) v L hv (by omega) HL6.out (by show ([] : List (Nat × ByteArray)).length ≤ _; simp)
      rw [hA] at this
      exact this.mono fun r w' ⟨a, F', b, _⟩ => ⟨a, F', b⟩)
    have RA : Hid (∀ W v F1, WJ w1 W wb bd bx jb kb N false tA dA false tv0 (newD N) F1 G → RowK W v L G → Calls Tryz.prog 9 #[.pointer (some ⟨kb, 0, none⟩), v] W fun r w' => r = .returned (.int .i64 cA) ∧ ∃ G', WJ w1 w' wb bd bx jb kb N false tA dA false tA dA F1 G') := Lib.hid (fun W v F1 h hv => by
      have := h.rAppend (by intro r hr; cases hr) (by show 0 ≤ _; omega) (Nat.zero_le _) (by omega) v L hv (by omega) HL6.out (by show ([] : List (Nat × ByteArray)).length ≤ _; simp)
      rw [hA] at this
      exact this.mono fun r w' ⟨a, G', b, _⟩ => ⟨a, G', b⟩)
    clear hJ hA hCalm
    go_region_held3 (fun w' => w'.cell? ⟨wb, 1, none⟩ = some (.pointer (some ⟨jb, 0, none⟩)) ∧ w'.cell? ⟨wb, 3, none⟩ = some (.pointer (some ⟨kb, 0, none⟩)))
      (first | exact ⟨c1, c3⟩ | exact ⟨q1, q3⟩ | exact ⟨p1, p3⟩ | exact ⟨z1, z3⟩ | exact ⟨y1, y3⟩ | go_keep)
      (first
        | (go_at_call 9
           refine (RA.out _ _ _ K3.out R3.out).mono ?_
           rintro r w4 ⟨rfl, G4, h4⟩
           have K4 := Lib.hid h4
           have q1 := h4.toWX.c1
           have q3 := h4.toWX.c3
           clear h4)
        | (go_at_call 8
           refine (FW.out _ (HSL.out.below (HB1.out.trans (K2.out.below.mono hl1)))).mono ?_
           rintro r w3 ⟨v3, rfl, hO3, hB3⟩
           have R3 := Lib.hid (RowK.new hO3 (fun k hk => K2.out.kr.lt hk))
           have K3 := Lib.hid (K2.out.keep hB3)
           have p1 := K3.out.toWX.c1
           have p3 := K3.out.toWX.c3
           clear hO3 hB3)
        | (go_at_call 7
           refine (JA.out _ _ _ K1.out S1.out).mono ?_
           rintro r w2b ⟨rfl, F2, h2⟩
           have K2 := Lib.hid h2
           have z1 := h2.toWX.c1
           have z3 := h2.toWX.c3
           clear h2)
        | (go_at_call 8
           refine (FW.out _ (HSL.out.below (HB1.out.trans (HJ.out.drew.below.mono hl1)))).mono ?_
           rintro r w1b ⟨v1, rfl, hO1, hB1⟩
           have S1 := Lib.hid (SL_own hO1)
           have K1 := Lib.hid (HJ.out.drew.keep hB1)
           have y1 := K1.out.toWX.c1
           have y3 := K1.out.toWX.c3
           clear hO1 hB1)
        | fail)
    all_goals
      have c0 := K4.out.toWX.c0
      obtain ⟨pn, rfl⟩ := Int.eq_ofNat_of_zero_le hp1
      have hpn : pn < N := by omega
      have W1 : Hid (∀ W, WJ w1 W wb bd bx jb kb N false tA dA false tA dA F2 G4 → Calls Tryz.prog 10 #[.pointer (some ⟨bd, 0, none⟩), .int .i64 (pn : Int), .string ⟨#[c]⟩] W fun r w' => r = .returned (.int .i64 0) ∧ ∃ F', WJ w1 w' wb bd bx jb kb N false tA (writeD dA pn ⟨#[c]⟩) false tA dA F' G4) := Lib.hid (fun W h => h.jWrite HCA.out.off pn ⟨#[c]⟩ (by show pn + 1 ≤ N; omega) (by rw [HCA.out.pe]; simp))
      have W2 : Hid (∀ W F', WJ w1 W wb bd bx jb kb N false tA (writeD dA pn ⟨#[c]⟩) false tA dA F' G4 → Calls Tryz.prog 13 #[.pointer (some ⟨bx, 0, none⟩), .int .i64 (pn : Int), .string ⟨#[c]⟩] W fun r w' => r = .returned (.int .i64 0) ∧ ∃ G', WJ w1 w' wb bd bx jb kb N false tA (writeD dA pn ⟨#[c]⟩) false tA (writeD dA pn ⟨#[c]⟩) F' G') := Lib.hid (fun W F' h => h.rWrite HCA.out.off pn ⟨#[c]⟩ (by show pn + 1 ≤ N; omega) (by rw [HCA.out.pe]; simp))
      have hpe1 : (writeD dA pn ⟨#[c]⟩).pe.length ≤ 100000 := by show (dA.pe ++ [_]).length ≤ _; rw [HCA.out.pe]; simp
      have hcvA := convC c
      have hcvB := convCB c
      have hcvD := convCD c
      clear JA RA K1 K2 K3 R3 S1 y1 y3 z1 z3 p1 p3 q1 q3 c1 c3 HJ H2
      go_wp2
      refine Code.wp_mono (Q := CutQ ?A8 (fun w' => ∃ F5, WJ w1 w' wb bd bx jb kb N false tA (writeD dA pn ⟨#[c]⟩) false tA dA F5 G4)) ?imp8 ?run8
      case run8 =>
        go_region_held (fun w' => w'.cell? ⟨wb, 0, none⟩ = some (.pointer (some ⟨bd, 0, none⟩)))
          (first | exact c0 | exact keepA0 c0 | exact keepA c0 | exact c0' | go_keep)
          (first
            | (go_at_call 12; with_reducible refine Calls.mono (SZ.out _) ?_; rintro e w' ⟨rfl, rfl⟩)
            | (go_at_call 11; with_reducible refine Calls.mono (PK.out _) ?_; rintro e w' ⟨rfl, rfl⟩)
            | (go_at_call 10; refine (W1.out _ (by first | exact (K4.out.keep ((Below.refl _ _).alloc (Nat.le_refl _) _)).drew | exact K4.out.drew.keep ((Below.refl _ _).alloc (Nat.le_refl _) _))).mono ?_; rintro e w5 ⟨rfl, F5, h5⟩; have K5 := Lib.hid h5; have c0' := h5.toWX.c0; clear h5)
            | fail)
        all_goals (refine ⟨?_, _, K5.out⟩; with_reducible rfl)
      case imp8 =>
        intro e a8 w5 h8
        cases e
        case normal =>
          obtain ⟨rfl, F5, h5⟩ := h8
          have K5 := Lib.hid h5
          have c2 := h5.toWX.c2
          clear h5 c0 W1 K4
          go_wp2
          refine Code.wp_mono (Q := CutQ ?A9 (fun w' => ∃ G5, WJ w1 w' wb bd bx jb kb N false tA (writeD dA pn ⟨#[c]⟩) false tA (writeD dA pn ⟨#[c]⟩) F5 G5)) ?imp9 ?run9
          case run9 =>
            go_region_held (fun w' => w'.cell? ⟨wb, 2, none⟩ = some (.pointer (some ⟨bx, 0, none⟩)))
              (first | exact c2 | exact keepA0 c2 | exact keepA c2 | exact c2' | go_keep)
              (first
                | (go_at_call 12; with_reducible refine Calls.mono (SZ.out _) ?_; rintro e w' ⟨rfl, rfl⟩)
                | (go_at_call 11; with_reducible refine Calls.mono (PK.out _) ?_; rintro e w' ⟨rfl, rfl⟩)
                | (go_at_call 13; refine (W2.out _ _ (by first | exact (K5.out.keep ((Below.refl _ _).alloc (Nat.le_refl _) _)).drew | exact K5.out.drew.keep ((Below.refl _ _).alloc (Nat.le_refl _) _))).mono ?_; rintro e w6 ⟨rfl, G6, h6⟩; have K6 := Lib.hid h6; have c2' := h6.toWX.c2; clear h6)
                | fail)
            all_goals (refine ⟨?_, _, K6.out⟩; with_reducible rfl)
          case imp9 =>
            intro e a9 w6b h9
            cases e
            case normal =>
              obtain ⟨rfl, G5, h5⟩ := h9
              have X4 := Lib.hid h5.toWX
              clear h5 c2 W2 K5 hcvA hcvB hcvD SZ PK
              generalize writeD dA pn ⟨#[c]⟩ = d1 at *
              have WO := Lib.hid (X4.out.openW (by omega) (HR.out.below HB1.out) a (HD.out.upd (Upd.of_below (S := fun _ => False) HB1.out) (fun h => h)) hpe1)
              have hvl := X4.out.facts.1
              clear hpe1
              rcases openJ_cases N d1 with ⟨cc, d', e0, hcc⟩ | ⟨t, d', e0⟩
              · rw [e0] at WO
                clear e0 hcc
                go_wp2_with (first
                  | (go_at_call 14; refine WO.out.mono ?_; rintro e w6 ⟨rfl, pj6, pk6, F6, G6, hX⟩; have X6 : Hid (WX w1 w6 wb bd bx N pj6 pk6 none d' none d' F6 G6) := Lib.hid hX; clear hX)
                  | fail)
                have hpj := X6.out.nil
                subst hpj
                have c1 := X6.out.c1
                refine wp_region_noPanic ?_
                refine wp_region_held_drew (S := fun w' => w'.cell? ⟨wb, 1, none⟩ = some (.pointer none)) (by kernel_rfl) c1 (fun hHeld => ?_)
                refine wpAnyH_take (i := 0) (oi := _) (v := ?_) rfl (by kernel_rfl) (by kernel_rfl) (by kernel_rfl) (fun _ _ _ h => h) (Or.inl ⟨by kernel_rfl, ?_⟩) hHeld ?_
                rotate_left
                · (intro w hSw; (try dsimp only at hSw); go_simp; all_goals (with_reducible rfl))
                try simp only [Act.put, List.getElem_toArray, List.getElem_cons_zero, List.getElem_cons_succ, List.setIfInBounds_toArray, List.set_cons_zero, List.set_cons_succ]
                refine wpAnyH_take (i := 1) (oi := _) (v := ?_) rfl (by kernel_rfl) (by kernel_rfl) (by kernel_rfl) (fun _ _ _ h => h) (Or.inl ⟨by kernel_rfl, ?_⟩) hHeld ?_
                rotate_left
                · (intro w hSw; (try dsimp only at hSw); go_simp; all_goals (with_reducible rfl))
                try simp only [Act.put, List.getElem_toArray, List.getElem_cons_zero, List.getElem_cons_succ, List.setIfInBounds_toArray, List.set_cons_zero, List.set_cons_succ]
                refine wpAnyH_take (i := 2) (oi := _) (v := ?_) rfl (by kernel_rfl) (by kernel_rfl) (by kernel_rfl) (fun _ _ _ h => h) (Or.inl ⟨by kernel_rfl, ?_⟩) hHeld ?_
                rotate_left
                · (intro w hSw; (try dsimp only at hSw); go_simp; all_goals (with_reducible rfl))
                try simp only [Act.put, List.getElem_toArray, List.getElem_cons_zero, List.getElem_cons_succ, List.setIfInBounds_toArray, List.set_cons_zero, List.set_cons_succ]
                refine wpAnyH_take (i := 3) (oi := _) (v := ?_) rfl (by kernel_rfl) (by kernel_rfl) (by kernel_rfl) (fun _ _ _ h => h) (Or.inl ⟨by kernel_rfl, ?_⟩) hHeld ?_
                rotate_left
                · (intro w hSw; (try dsimp only at hSw); go_simp; all_goals (with_reducible rfl))
                try simp only [Act.put, List.getElem_toArray, List.getElem_cons_zero, List.getElem_cons_succ, List.setIfInBounds_toArray, List.set_cons_zero, List.set_cons_succ]
                refine wpAnyH_take (i := 4) (oi := _) (v := ?_) rfl (by kernel_rfl) (by kernel_rfl) (by kernel_rfl) (fun _ _ _ h => h) (Or.inl ⟨by kernel_rfl, ?_⟩) hHeld ?_
                rotate_left
                · (intro w hSw; (try dsimp only at hSw); go_simp; all_goals (with_reducible rfl))
                try simp only [Act.put, List.getElem_toArray, List.getElem_cons_zero, List.getElem_cons_succ, List.setIfInBounds_toArray, List.set_cons_zero, List.set_cons_succ]
                refine wpAnyH_take (i := 5) (oi := _) (v := ?_) rfl (by kernel_rfl) (by kernel_rfl) (by kernel_rfl) (fun _ _ _ h => h) (Or.inl ⟨by kernel_rfl, ?_⟩) hHeld ?_
                rotate_left
                · (intro w hSw; (try dsimp only at hSw); go_simp; all_goals (with_reducible rfl))
                try simp only [Act.put, List.getElem_toArray, List.getElem_cons_zero, List.getElem_cons_succ, List.setIfInBounds_toArray, List.set_cons_zero, List.set_cons_succ]
                refine wpAnyH_take (i := 6) (oi := _) (v := ?_) rfl (by kernel_rfl) (by kernel_rfl) (by kernel_rfl) (fun _ _ _ h => h) (Or.inl ⟨by kernel_rfl, ?_⟩) hHeld ?_
                rotate_left
                · (intro w hSw; (try dsimp only at hSw); go_simp; all_goals (with_reducible rfl))
                try simp only [Act.put, List.getElem_toArray, List.getElem_cons_zero, List.getElem_cons_succ, List.setIfInBounds_toArray, List.set_cons_zero, List.set_cons_succ]
                refine wpAnyH_take (i := 7) (oi := _) (v := ?_) rfl (by kernel_rfl) (by kernel_rfl) (by kernel_rfl) (fun _ _ _ h => h) (Or.inl ⟨by kernel_rfl, ?_⟩) hHeld ?_
                rotate_left
                · (intro w hSw; (try dsimp only at hSw); go_simp; all_goals (with_reducible rfl))
                try simp only [Act.put, List.getElem_toArray, List.getElem_cons_zero, List.getElem_cons_succ, List.setIfInBounds_toArray, List.set_cons_zero, List.set_cons_succ]
                refine wpAnyH_take (i := 8) (oi := _) (v := ?_) rfl (by kernel_rfl) (by kernel_rfl) (by kernel_rfl) (fun _ _ _ h => h) (Or.inl ⟨by kernel_rfl, ?_⟩) hHeld ?_
                rotate_left
                · (intro w hSw; (try dsimp only at hSw); go_simp; all_goals (with_reducible rfl))
                try simp only [Act.put, List.getElem_toArray, List.getElem_cons_zero, List.getElem_cons_succ, List.setIfInBounds_toArray, List.set_cons_zero, List.set_cons_succ]
                refine wpAnyH_take (i := 9) (oi := _) (v := ?_) rfl (by kernel_rfl) (by kernel_rfl) (by kernel_rfl) (fun _ _ _ h => h) (Or.inl ⟨by kernel_rfl, ?_⟩) hHeld ?_
                rotate_left
                · (intro w hSw; (try dsimp only at hSw); go_simp; all_goals (with_reducible rfl))
                try simp only [Act.put, List.getElem_toArray, List.getElem_cons_zero, List.getElem_cons_succ, List.setIfInBounds_toArray, List.set_cons_zero, List.set_cons_succ]
                refine wpAnyH_take (i := 10) (oi := _) (v := ?_) rfl (by kernel_rfl) (by kernel_rfl) (by kernel_rfl) (fun _ _ _ h => h) (Or.inl ⟨by kernel_rfl, ?_⟩) hHeld ?_
                rotate_left
                · (intro w hSw; (try dsimp only at hSw); go_simp; all_goals (with_reducible rfl))
                try simp only [Act.put, List.getElem_toArray, List.getElem_cons_zero, List.getElem_cons_succ, List.setIfInBounds_toArray, List.set_cons_zero, List.set_cons_succ]
                refine wpAnyH_take (i := 11) (oi := _) (v := undef) rfl (by kernel_rfl) (by kernel_rfl) (by kernel_rfl) (fun _ _ _ h => h) (Or.inr ⟨by kernel_rfl, rfl⟩) hHeld ?_
                try simp only [Act.put, List.getElem_toArray, List.getElem_cons_zero, List.getElem_cons_succ, List.setIfInBounds_toArray, List.set_cons_zero, List.set_cons_succ]
                refine wpAnyH_take (i := 12) (oi := _) (v := undef) rfl (by kernel_rfl) (by kernel_rfl) (by kernel_rfl) (fun _ _ _ h => h) (Or.inr ⟨by kernel_rfl, rfl⟩) hHeld ?_
                try simp only [Act.put, List.getElem_toArray, List.getElem_cons_zero, List.getElem_cons_succ, List.setIfInBounds_toArray, List.set_cons_zero, List.set_cons_succ]
                refine wpAnyH_take (i := 13) (oi := _) (v := undef) rfl (by kernel_rfl) (by kernel_rfl) (by kernel_rfl) (fun _ _ _ h => h) (Or.inr ⟨by kernel_rfl, rfl⟩) hHeld ?_
                try simp only [Act.put, List.getElem_toArray, List.getElem_cons_zero, List.getElem_cons_succ, List.setIfInBounds_toArray, List.set_cons_zero, List.set_cons_succ]
                refine wpAnyH_take (i := 14) (oi := _) (v := undef) rfl (by kernel_rfl) (by kernel_rfl) (by kernel_rfl) (fun _ _ _ h => h) (Or.inr ⟨by kernel_rfl, rfl⟩) hHeld ?_
                try simp only [Act.put, List.getElem_toArray, List.getElem_cons_zero, List.getElem_cons_succ, List.setIfInBounds_toArray, List.set_cons_zero, List.set_cons_succ]
                refine wpAnyH_take (i := 15) (oi := _) (v := undef) rfl (by kernel_rfl) (by kernel_rfl) (by kernel_rfl) (fun _ _ _ h => h) (Or.inr ⟨by kernel_rfl, rfl⟩) hHeld ?_
                try simp only [Act.put, List.getElem_toArray, List.getElem_cons_zero, List.getElem_cons_succ, List.setIfInBounds_toArray, List.set_cons_zero, List.set_cons_succ]
                refine wpAnyH_take (i := 16) (oi := _) (v := undef) rfl (by kernel_rfl) (by kernel_rfl) (by kernel_rfl) (fun _ _ _ h => h) (Or.inr ⟨by kernel_rfl, rfl⟩) hHeld ?_
                try simp only [Act.put, List.getElem_toArray, List.getElem_cons_zero, List.getElem_cons_succ, List.setIfInBounds_toArray, List.set_cons_zero, List.set_cons_succ]
                refine wpAnyH_take (i := 17) (oi := _) (v := undef) rfl (by kernel_rfl) (by kernel_rfl) (by kernel_rfl) (fun _ _ _ h => h) (Or.inr ⟨by kernel_rfl, rfl⟩) hHeld ?_
                try simp only [Act.put, List.getElem_toArray, List.getElem_cons_zero, List.getElem_cons_succ, List.setIfInBounds_toArray, List.set_cons_zero, List.set_cons_succ]
                refine wpAnyH_take (i := 18) (oi := _) (v := undef) rfl (by kernel_rfl) (by kernel_rfl) (by kernel_rfl) (fun _ _ _ h => h) (Or.inr ⟨by kernel_rfl, rfl⟩) hHeld ?_
                try simp only [Act.put, List.getElem_toArray, List.getElem_cons_zero, List.getElem_cons_succ, List.setIfInBounds_toArray, List.set_cons_zero, List.set_cons_succ]
                refine wpAnyH_take (i := 19) (oi := _) (v := undef) rfl (by kernel_rfl) (by kernel_rfl) (by kernel_rfl) (fun _ _ _ h => h) (Or.inr ⟨by kernel_rfl, rfl⟩) hHeld ?_
                try simp only [Act.put, List.getElem_toArray, List.getElem_cons_zero, List.getElem_cons_succ, List.setIfInBounds_toArray, List.set_cons_zero, List.set_cons_succ]
                refine wpAnyH_take (i := 20) (oi := _) (v := undef) rfl (by kernel_rfl) (by kernel_rfl) (by kernel_rfl) (fun _ _ _ h => h) (Or.inr ⟨by kernel_rfl, rfl⟩) hHeld ?_
                try simp only [Act.put, List.getElem_toArray, List.getElem_cons_zero, List.getElem_cons_succ, List.setIfInBounds_toArray, List.set_cons_zero, List.set_cons_succ]
                refine wpAnyH_take (i := 21) (oi := _) (v := undef) rfl (by kernel_rfl) (by kernel_rfl) (by kernel_rfl) (fun _ _ _ h => h) (Or.inr ⟨by kernel_rfl, rfl⟩) hHeld ?_
                try simp only [Act.put, List.getElem_toArray, List.getElem_cons_zero, List.getElem_cons_succ, List.setIfInBounds_toArray, List.set_cons_zero, List.set_cons_succ]
                refine wpAnyH_take (i := 22) (oi := _) (v := undef) rfl (by kernel_rfl) (by kernel_rfl) (by kernel_rfl) (fun _ _ _ h => h) (Or.inr ⟨by kernel_rfl, rfl⟩) hHeld ?_
                try simp only [Act.put, List.getElem_toArray, List.getElem_cons_zero, List.getElem_cons_succ, List.setIfInBounds_toArray, List.set_cons_zero, List.set_cons_succ]
                refine wpAnyH_take (i := 23) (oi := _) (v := undef) rfl (by kernel_rfl) (by kernel_rfl) (by kernel_rfl) (fun _ _ _ h => h) (Or.inr ⟨by kernel_rfl, rfl⟩) hHeld ?_
                try simp only [Act.put, List.getElem_toArray, List.getElem_cons_zero, List.getElem_cons_succ, List.setIfInBounds_toArray, List.set_cons_zero, List.set_cons_succ]
                refine wpAnyH_take (i := 24) (oi := _) (v := undef) rfl (by kernel_rfl) (by kernel_rfl) (by kernel_rfl) (fun _ _ _ h => h) (Or.inr ⟨by kernel_rfl, rfl⟩) hHeld ?_
                try simp only [Act.put, List.getElem_toArray, List.getElem_cons_zero, List.getElem_cons_succ, List.setIfInBounds_toArray, List.set_cons_zero, List.set_cons_succ]
                refine wpAnyH_take (i := 25) (oi := _) (v := undef) rfl (by kernel_rfl) (by kernel_rfl) (by kernel_rfl) (fun _ _ _ h => h) (Or.inr ⟨by kernel_rfl, rfl⟩) hHeld ?_
                try simp only [Act.put, List.getElem_toArray, List.getElem_cons_zero, List.getElem_cons_succ, List.setIfInBounds_toArray, List.set_cons_zero, List.set_cons_succ]
                refine wpAnyH_take (i := 26) (oi := _) (v := undef) rfl (by kernel_rfl) (by kernel_rfl) (by kernel_rfl) (fun _ _ _ h => h) (Or.inr ⟨by kernel_rfl, rfl⟩) hHeld ?_
                try simp only [Act.put, List.getElem_toArray, List.getElem_cons_zero, List.getElem_cons_succ, List.setIfInBounds_toArray, List.set_cons_zero, List.set_cons_succ]
                refine wpAnyH_take (i := 27) (oi := _) (v := undef) rfl (by kernel_rfl) (by kernel_rfl) (by kernel_rfl) (fun _ _ _ h => h) (Or.inr ⟨by kernel_rfl, rfl⟩) hHeld ?_
                try simp only [Act.put, List.getElem_toArray, List.getElem_cons_zero, List.getElem_cons_succ, List.setIfInBounds_toArray, List.set_cons_zero, List.set_cons_succ]
                refine wpAnyH_take (i := 28) (oi := _) (v := undef) rfl (by kernel_rfl) (by kernel_rfl) (by kernel_rfl) (fun _ _ _ h => h) (Or.inr ⟨by kernel_rfl, rfl⟩) hHeld ?_
                try simp only [Act.put, List.getElem_toArray, List.getElem_cons_zero, List.getElem_cons_succ, List.setIfInBounds_toArray, List.set_cons_zero, List.set_cons_succ]
                refine wpAnyH_take (i := 29) (oi := _) (v := undef) rfl (by kernel_rfl) (by kernel_rfl) (by kernel_rfl) (fun _ _ _ h => h) (Or.inr ⟨by kernel_rfl, rfl⟩) hHeld ?_
                try simp only [Act.put, List.getElem_toArray, List.getElem_cons_zero, List.getElem_cons_succ, List.setIfInBounds_toArray, List.set_cons_zero, List.set_cons_succ]
                refine wpAnyH_take (i := 30) (oi := _) (v := undef) rfl (by kernel_rfl) (by kernel_rfl) (by kernel_rfl) (fun _ _ _ h => h) (Or.inr ⟨by kernel_rfl, rfl⟩) hHeld ?_
                try simp only [Act.put, List.getElem_toArray, List.getElem_cons_zero, List.getElem_cons_succ, List.setIfInBounds_toArray, List.set_cons_zero, List.set_cons_succ]
                refine wpAnyH_take (i := 31) (oi := _) (v := undef) rfl (by kernel_rfl) (by kernel_rfl) (by kernel_rfl) (fun _ _ _ h => h) (Or.inr ⟨by kernel_rfl, rfl⟩) hHeld ?_
                try simp only [Act.put, List.getElem_toArray, List.getElem_cons_zero, List.getElem_cons_succ, List.setIfInBounds_toArray, List.set_cons_zero, List.set_cons_succ]
                refine wpAnyH_take (i := 32) (oi := _) (v := undef) rfl (by kernel_rfl) (by kernel_rfl) (by kernel_rfl) (fun _ _ _ h => h) (Or.inr ⟨by kernel_rfl, rfl⟩) hHeld ?_
                try simp only [Act.put, List.getElem_toArray, List.getElem_cons_zero, List.getElem_cons_succ, List.setIfInBounds_toArray, List.set_cons_zero, List.set_cons_succ]
                refine wpAnyH_take (i := 33) (oi := _) (v := undef) rfl (by kernel_rfl) (by kernel_rfl) (by kernel_rfl) (fun _ _ _ h => h) (Or.inr ⟨by kernel_rfl, rfl⟩) hHeld ?_
                try simp only [Act.put, List.getElem_toArray, List.getElem_cons_zero, List.getElem_cons_succ, List.setIfInBounds_toArray, List.set_cons_zero, List.set_cons_succ]
                refine wpAnyH_take (i := 34) (oi := _) (v := undef) rfl (by kernel_rfl) (by kernel_rfl) (by kernel_rfl) (fun _ _ _ h => h) (Or.inr ⟨by kernel_rfl, rfl⟩) hHeld ?_
                try simp only [Act.put, List.getElem_toArray, List.getElem_cons_zero, List.getElem_cons_succ, List.setIfInBounds_toArray, List.set_cons_zero, List.set_cons_succ]
                refine wpAnyH_take (i := 35) (oi := _) (v := undef) rfl (by kernel_rfl) (by kernel_rfl) (by kernel_rfl) (fun _ _ _ h => h) (Or.inr ⟨by kernel_rfl, rfl⟩) hHeld ?_
                try simp only [Act.put, List.getElem_toArray, List.getElem_cons_zero, List.getElem_cons_succ, List.setIfInBounds_toArray, List.set_cons_zero, List.set_cons_succ]
                refine wpAnyH_take (i := 36) (oi := _) (v := undef) rfl (by kernel_rfl) (by kernel_rfl) (by kernel_rfl) (fun _ _ _ h => h) (Or.inr ⟨by kernel_rfl, rfl⟩) hHeld ?_
                try simp only [Act.put, List.getElem_toArray, List.getElem_cons_zero, List.getElem_cons_succ, List.setIfInBounds_toArray, List.set_cons_zero, List.set_cons_succ]
                refine wpAnyH_take (i := 37) (oi := _) (v := undef) rfl (by kernel_rfl) (by kernel_rfl) (by kernel_rfl) (fun _ _ _ h => h) (Or.inr ⟨by kernel_rfl, rfl⟩) hHeld ?_
                try simp only [Act.put, List.getElem_toArray, List.getElem_cons_zero, List.getElem_cons_succ, List.setIfInBounds_toArray, List.set_cons_zero, List.set_cons_succ]
                refine wpAnyH_take (i := 38) (oi := _) (v := undef) rfl (by kernel_rfl) (by kernel_rfl) (by kernel_rfl) (fun _ _ _ h => h) (Or.inr ⟨by kernel_rfl, rfl⟩) hHeld ?_
                try simp only [Act.put, List.getElem_toArray, List.getElem_cons_zero, List.getElem_cons_succ, List.setIfInBounds_toArray, List.set_cons_zero, List.set_cons_succ]
                refine wpAnyH_take (i := 39) (oi := _) (v := undef) rfl (by kernel_rfl) (by kernel_rfl) (by kernel_rfl) (fun _ _ _ h => h) (Or.inr ⟨by kernel_rfl, rfl⟩) hHeld ?_
                try simp only [Act.put, List.getElem_toArray, List.getElem_cons_zero, List.getElem_cons_succ, List.setIfInBounds_toArray, List.set_cons_zero, List.set_cons_succ]
                refine wpAnyH_take (i := 40) (oi := _) (v := undef) rfl (by kernel_rfl) (by kernel_rfl) (by kernel_rfl) (fun _ _ _ h => h) (Or.inr ⟨by kernel_rfl, rfl⟩) hHeld ?_
                try simp only [Act.put, List.getElem_toArray, List.getElem_cons_zero, List.getElem_cons_succ, List.setIfInBounds_toArray, List.set_cons_zero, List.set_cons_succ]
                refine wpAnyH_take (i := 41) (oi := _) (v := undef) rfl (by kernel_rfl) (by kernel_rfl) (by kernel_rfl) (fun _ _ _ h => h) (Or.inr ⟨by kernel_rfl, rfl⟩) hHeld ?_
                try simp only [Act.put, List.getElem_toArray, List.getElem_cons_zero, List.getElem_cons_succ, List.setIfInBounds_toArray, List.set_cons_zero, List.set_cons_succ]
                refine wpAnyH_take (i := 42) (oi := _) (v := undef) rfl (by kernel_rfl) (by kernel_rfl) (by kernel_rfl) (fun _ _ _ h => h) (Or.inr ⟨by kernel_rfl, rfl⟩) hHeld ?_
                try simp only [Act.put, List.getElem_toArray, List.getElem_cons_zero, List.getElem_cons_succ, List.setIfInBounds_toArray, List.set_cons_zero, List.set_cons_succ]
                refine wpAnyH_take (i := 43) (oi := _) (v := undef) rfl (by kernel_rfl) (by kernel_rfl) (by kernel_rfl) (fun _ _ _ h => h) (Or.inr ⟨by kernel_rfl, rfl⟩) hHeld ?_
                try simp only [Act.put, List.getElem_toArray, List.getElem_cons_zero, List.getElem_cons_succ, List.setIfInBounds_toArray, List.set_cons_zero, List.set_cons_succ]
                refine wpAnyH_take (i := 44) (oi := _) (v := undef) rfl (by kernel_rfl) (by kernel_rfl) (by kernel_rfl) (fun _ _ _ h => h) (Or.inr ⟨by kernel_rfl, rfl⟩) hHeld ?_
                try simp only [Act.put, List.getElem_toArray, List.getElem_cons_zero, List.getElem_cons_succ, List.setIfInBounds_toArray, List.set_cons_zero, List.set_cons_succ]
                refine wpAnyH_take (i := 45) (oi := _) (v := undef) rfl (by kernel_rfl) (by kernel_rfl) (by kernel_rfl) (fun _ _ _ h => h) (Or.inr ⟨by kernel_rfl, rfl⟩) hHeld ?_
                try simp only [Act.put, List.getElem_toArray, List.getElem_cons_zero, List.getElem_cons_succ, List.setIfInBounds_toArray, List.set_cons_zero, List.set_cons_succ]
                refine wpAnyH_take (i := 46) (oi := _) (v := undef) rfl (by kernel_rfl) (by kernel_rfl) (by kernel_rfl) (fun _ _ _ h => h) (Or.inr ⟨by kernel_rfl, rfl⟩) hHeld ?_
                try simp only [Act.put, List.getElem_toArray, List.getElem_cons_zero, List.getElem_cons_succ, List.setIfInBounds_toArray, List.set_cons_zero, List.set_cons_succ]
                refine wpAnyH_take (i := 47) (oi := _) (v := undef) rfl (by kernel_rfl) (by kernel_rfl) (by kernel_rfl) (fun _ _ _ h => h) (Or.inr ⟨by kernel_rfl, rfl⟩) hHeld ?_
                try simp only [Act.put, List.getElem_toArray, List.getElem_cons_zero, List.getElem_cons_succ, List.setIfInBounds_toArray, List.set_cons_zero, List.set_cons_succ]
                refine wpAnyH_take (i := 48) (oi := _) (v := undef) rfl (by kernel_rfl) (by kernel_rfl) (by kernel_rfl) (fun _ _ _ h => h) (Or.inr ⟨by kernel_rfl, rfl⟩) hHeld ?_
                try simp only [Act.put, List.getElem_toArray, List.getElem_cons_zero, List.getElem_cons_succ, List.setIfInBounds_toArray, List.set_cons_zero, List.set_cons_succ]
                refine wpAnyH_take (i := 49) (oi := _) (v := undef) rfl (by kernel_rfl) (by kernel_rfl) (by kernel_rfl) (fun _ _ _ h => h) (Or.inr ⟨by kernel_rfl, rfl⟩) hHeld ?_
                try simp only [Act.put, List.getElem_toArray, List.getElem_cons_zero, List.getElem_cons_succ, List.setIfInBounds_toArray, List.set_cons_zero, List.set_cons_succ]
                refine wpAnyH_take (i := 50) (oi := _) (v := undef) rfl (by kernel_rfl) (by kernel_rfl) (by kernel_rfl) (fun _ _ _ h => h) (Or.inr ⟨by kernel_rfl, rfl⟩) hHeld ?_
                try simp only [Act.put, List.getElem_toArray, List.getElem_cons_zero, List.getElem_cons_succ, List.setIfInBounds_toArray, List.set_cons_zero, List.set_cons_succ]
                refine wpAnyH_take (i := 51) (oi := _) (v := ?_) rfl (by kernel_rfl) (by kernel_rfl) (by kernel_rfl) (fun _ _ _ h => h) (Or.inl ⟨by kernel_rfl, ?_⟩) hHeld ?_
                rotate_left
                · (intro w hSw; (try dsimp only at hSw); go_simp; all_goals (with_reducible rfl))
                try simp only [Act.put, List.getElem_toArray, List.getElem_cons_zero, List.getElem_cons_succ, List.setIfInBounds_toArray, List.set_cons_zero, List.set_cons_succ]
                refine wpAnyH_take (i := 52) (oi := _) (v := ?_) rfl (by kernel_rfl) (by kernel_rfl) (by kernel_rfl) (fun _ _ _ h => h) (Or.inl ⟨by kernel_rfl, ?_⟩) hHeld ?_
                rotate_left
                · (intro w hSw; (try dsimp only at hSw); go_simp; all_goals (with_reducible rfl))
                try simp only [Act.put, List.getElem_toArray, List.getElem_cons_zero, List.getElem_cons_succ, List.setIfInBounds_toArray, List.set_cons_zero, List.set_cons_succ]
                refine wpAnyH_take (i := 53) (oi := _) (v := ?_) rfl (by kernel_rfl) (by kernel_rfl) (by kernel_rfl) (fun _ _ _ h => h) (Or.inl ⟨by kernel_rfl, ?_⟩) hHeld ?_
                rotate_left
                · (intro w hSw; (try dsimp only at hSw); go_simp; all_goals (with_reducible rfl))
                try simp only [Act.put, List.getElem_toArray, List.getElem_cons_zero, List.getElem_cons_succ, List.setIfInBounds_toArray, List.set_cons_zero, List.set_cons_succ]
                refine wpAnyH_done (by kernel_rfl) ?_ _
                refine NoPanic.normal ?_
                go_wp2
                go_ret
                exact ⟨rfl, HB1.out.trans (X6.out.drew.below.mono hl1)⟩
              · obtain ⟨ho', l9, ht9, hl9, hz9⟩ := openJ_some hvl e0
                have hrl : t.recs.length ≤ 1000000 := by
                  rw [ht9, growAll_recs0]
                  rw [ht9, growAll_len] at hz9
                  have := needOf_length l9
                  omega
                rw [e0] at WO
                clear e0 ht9 hl9
                go_wp2_with (first
                  | (go_at_call 14; refine WO.out.mono ?_; rintro e w6 ⟨rfl, pj6, pk6, F6, G6, hX⟩; have X6 : Hid (WX w1 w6 wb bd bx N pj6 pk6 (some (false, t)) d' (some (false, t)) d' F6 G6) := Lib.hid hX; clear hX)
                  | fail)
                obtain ⟨jb6, kb6, e1, e2, hJ6⟩ := X6.out.toWJ
                subst e1 e2
                obtain ⟨A5, m5, C5, hs5⟩ := hJ6.seen
                have E0 := Lib.hid hs5
                have SA := Lib.hid (fun W (h : Seen w1 W wb bd bx jb6 kb6 N false t d' F6 G6 A5 m5 C5) => h.same hrl)
                have RR := Lib.hid (fun W (h : Seen w1 W wb bd bx jb6 kb6 N false t d' F6 G6 A5 m5 C5) => h.rRoom hz9)
                have JR := Lib.hid (fun W (h : Seen w1 W wb bd bx jb6 kb6 N false t d' F6 G6 A5 m5 C5) => h.jRoom)
                have CT := Lib.hid (fun W (h : Seen w1 W wb bd bx jb6 kb6 N false t d' F6 G6 A5 m5 C5) => h.content ho')
                have VS := Lib.hid (fun W (h : Seen w1 W wb bd bx jb6 kb6 N false t d' F6 G6 A5 m5 C5) => h.visible)
                clear hJ6 hs5 WO X4 ho' hvl hrl
                generalize N - t.size = z5 at *
                generalize diskB d' = s5 at *
                refine wp_region_noPanic ?_
                go_region_held (fun w' => w'.cell? ⟨wb, 0, none⟩ = some (.pointer (some ⟨bd, 0, none⟩)) ∧ w'.cell? ⟨wb, 1, none⟩ = some (.pointer (some ⟨jb6, 0, none⟩)) ∧ w'.cell? ⟨wb, 2, none⟩ = some (.pointer (some ⟨bx, 0, none⟩)) ∧ w'.cell? ⟨wb, 3, none⟩ = some (.pointer (some ⟨kb6, 0, none⟩)) ∧ w'.cell? ⟨kb6, 1, none⟩ = some (.slice A5 m5 C5))
                  (first | exact E0.out.drew.S | exact E6.out.S | exact E5.out.S | exact E4.out.S | exact E3.out.S | exact E2.out.S | exact E1.out.S | go_keep)
                  (first
                    | (go_at_call 20; refine (VS.out _ E5.out).mono ?_; rintro r w12 ⟨g12, cap12, rfl, cv12, h12⟩; have E6 := Lib.hid h12; clear h12)
                    | (go_at_call 19; refine (CT.out _ E4.out).mono ?_; rintro r w11 ⟨rfl, h11⟩; have E5 := Lib.hid h11; clear h11)
                    | (go_at_call 18; refine (RR.out _ E3.out).mono ?_; rintro r w10 ⟨rfl, h10⟩; have E4 := Lib.hid h10; clear h10)
                    | (go_at_call 17; refine (JR.out _ E2.out).mono ?_; rintro r w9 ⟨rfl, h9⟩; have E3 := Lib.hid h9; clear h9)
                    | (go_at_call 15; refine (SA.out _ E1.out _ V7.out).mono ?_; rintro r w8 ⟨rfl, h8⟩; have E2 := Lib.hid h8; clear h8)
                    | (go_at_call 16; refine E0.out.drew.records.mono ?_; rintro r w7 ⟨v7, rfl, hv7, h7⟩; have E1 := Lib.hid h7; have V7 := Lib.hid hv7; clear h7 hv7)
                    | fail)
                all_goals
                  refine NoPanic.normal ?_
                  go_wp2
                  go_ret
                  exact ⟨rfl, HB1.out.trans (E6.out.j.below.mono hl1)⟩
            all_goals exact False.elim h9
        all_goals exact False.elim h8
end Go.Proofs.YthlmgookaljgnaaGreatDoor
