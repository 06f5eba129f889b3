/- law26: what a call of the sequence does on both: does. -/
import Derived.Test.YthlmgookaljgnaaGreatDoorDoesP
import Derived.Test.YthlmgookaljgnaaGreatDoorOpenOp
namespace Go.Proofs.YthlmgookaljgnaaGreatDoor
open Go.RowKit Go.Shelf
set_option linter.unusedVariables false
set_option linter.unusedSimpArgs false

set_option maxRecDepth 100000 in
set_option maxHeartbeats 8000000 in
theorem does_any {w wr : World} {wb bd bx n : Nat} {pj pk : Value} {o : Option (Bool × TV)} {d : DV} {F G : Nat → Prop} (h : WX w wr wb bd bx n pj pk o d o d F G) (hn : n ≤ 800000) (hR : RoundLaid w) (a : Addr) (hD : DamLaid a w)
    (kind : Int) (lv : Value) (l : List ByteArray) (nn : Int) (ka : Option Addr) (kl kc : Nat) (ks : List Int) (hk0 : -9223372036854775808 ≤ kind) (hk1 : kind ≤ 9223372036854775807) (hn0 : -9223372036854775808 ≤ nn) (hn1 : nn ≤ 9223372036854775807)
    (hsl : SL w lv l) (hll : l.length ≤ 9223372036854775807) (hls : ∀ s ∈ l, s.size ≤ 9223372036854775807) (hkk : kl ≤ kc ∧ kc ≤ 9223372036854775807) (hkr : KRow w ka kl kc ks) (k : Nat) (hk : k ≤ 25) (hI : WInv n k o d) :
    Calls Tryz.prog 21 #[.pointer (some ⟨wb, 0, none⟩), .agg #[.int .i64 kind, lv, .int .i64 nn, .slice ka kl kc]] wr fun r w' => r = .returned (.bool true) ∧
      ∃ pj' pk' o' d' F' G', WX w w' wb bd bx n pj' pk' o' d' o' d' F' G' ∧ WInv n (k + 1) o' d' := by
  have FW := Lib.hid (fun W (hB : Below w.heap.size w W) => fewJ_any W lv l (hsl.below hB) hll hls)
  have hfs := fewJ_small l 6
  have hfl : (fewJ l 6).length ≤ 6 := by rw [fewJ_length]; omega
  have HFS := Lib.hid hfs
  generalize fewJ l 6 = L at *
  obtain ⟨va, vl, vc, rfl⟩ : ∃ va vl vc, lv = .slice va vl vc := by
    obtain ⟨x, c, e, _⟩ := hsl.form
    exact ⟨_, _, _, e⟩
  have HP := Lib.hid (And.intro hR hD)
  have HI := Lib.hid hI
  have hpe := hI.1
  have HKR := Lib.hid hkr
  obtain ⟨W1, hW1⟩ : ∃ x, wr.alloc (.cells #[.int .i64 kind, .slice va vl vc, .int .i64 nn, .slice ka kl kc] 52) = x := ⟨_, rfl⟩
  have H : Hid (WX w W1 wb bd bx n pj pk o d o d F G) := Lib.hid (by rw [← hW1]; exact h.keep ((Below.refl _ wr).alloc (Nat.le_refl _) _))
  have n1 : ¬ F wr.heap.size := fun f => absurd (h.kj.lt f) (by omega)
  have n2 : ¬ G wr.heap.size := fun f => absurd (h.kr.lt f) (by omega)
  have X : Hid (W1.heap[wr.heap.size]? = some (.cells #[.int .i64 kind, .slice va vl vc, .int .i64 nn, .slice ka kl kc] 52 (0, 0))) := Lib.hid (by rw [← hW1]; exact allocAt _ rfl)
  have HW1 := Lib.hid hW1
  have PK8 := Lib.hid (fun W => pickJ_any kind 8 W (by decide) (by decide) hk0 hk1)
  have PK5 := Lib.hid (fun W => pickJ_any nn 5 W (by decide) (by decide) hn0 hn1)
  have hp1 := pickJ_lo nn 5 (by decide)
  have hp2 := pickJ_hi nn 5 (by decide)
  generalize pickJ kind 8 = q at *
  generalize pickJ nn 5 = p at *
  have hv := h.facts
  clear h hR hD hI hsl hll hls hkr hfs hW1
  have hqs : ((q == 5) = true) ∨ ((q == 5) = false ∧ (q == 6) = true) ∨ ((q == 5) = false ∧ (q == 6) = false ∧ (q == 7) = true) ∨ ((q == 5) = false ∧ (q == 6) = false ∧ (q == 7) = false) := by
    by_cases h5 : q = 5
    · left; simpa using h5
    · by_cases h6 : q = 6
      · right; left; exact ⟨by simpa using h5, by simpa using h6⟩
      · by_cases h7 : q = 7
        · right; right; left; exact ⟨by simpa using h5, by simpa using h6, by simpa using h7⟩
        · right; right; right; exact ⟨by simpa using h5, by simpa using h6, by simpa using h7⟩
  go_enter Tryz.func21, Tryz.ntmps21
  go_wp2_with fail
  refine (PK8.out _).mono ?_
  rintro r w' ⟨rfl, rfl⟩
  rw [HW1.out]
  have b1 : W1.cell? ⟨wr.heap.size, 1, none⟩ = some (.slice va vl vc) := cellOf X.out 1
  have b2 : W1.cell? ⟨wr.heap.size, 2, none⟩ = some (.int .i64 nn) := cellOf X.out 2
  have b3 : W1.cell? ⟨wr.heap.size, 3, none⟩ = some (.slice ka kl kc) := cellOf X.out 3
  have c0 := H.out.c0
  have c1 := H.out.c1
  have c2 := H.out.c2
  have c3 := H.out.c3
  rcases hqs with h5 | ⟨h5, h6⟩ | ⟨h5, h6, h7⟩ | ⟨h5, h6, h7⟩
  · -- the power is to fail
    have hw5 : IntKind.i64.wrap (1 + p) = 1 + p := by rw [IntKind.wrap_i64]; omega
    have J1 := Lib.hid (H.out.drew.jCut (1 + p) (by omega) (by omega))
    clear b1 b3 c1 c3
    go_wp2
    go_region_held3 (fun w' => w'.cell? ⟨wb, 0, none⟩ = some (.pointer (some ⟨bd, 0, none⟩)) ∧ w'.cell? ⟨wb, 2, none⟩ = some (.pointer (some ⟨bx, 0, none⟩)) ∧ w'.cell? ⟨wr.heap.size, 2, none⟩ = some (.int .i64 nn))
      (first | exact ⟨c0, c2, b2⟩ | exact ⟨y0, y2, yb⟩ | exact ⟨z0, z2, zb⟩ | go_keep)
      (first
        | (go_at_call 47
           with_reducible refine Calls.mono J2.out ?_
           rintro r w2 ⟨rfl, G2, h2, m2⟩
           have H2 := Lib.hid h2
           have z0 := h2.c0
           have z2 := h2.c2
           have zb : w2.cell? ⟨wr.heap.size, 2, none⟩ = some (.int .i64 nn) := cellOf (stay m2 X1.out n2).1 2
           clear h2 m2)
        | (go_at_call 46
           with_reducible refine Calls.mono J1.out ?_
           rintro r w1 ⟨rfl, F1, h1, m1⟩
           have H1 := Lib.hid h1
           have X1 := Lib.hid (stay m1 (show W1.drew.heap[wr.heap.size]? = _ from X.out) n1).1
           have y0 := h1.c0
           have y2 := h1.c2
           have yb : w1.cell? ⟨wr.heap.size, 2, none⟩ = some (.int .i64 nn) := cellOf X1.out 2
           have J2 := Lib.hid (h1.rCut (1 + p) (by omega) (by omega))
           clear h1 m1)
        | (go_at_call 11; with_reducible refine Calls.mono (PK5.out _) ?_; rintro e w' ⟨rfl, rfl⟩)
        | fail)
    all_goals
      go_wp2_with fail
      go_ret
      exact ⟨by simp, pj, pk, o, _, F1, G2, H2.out, HI.out.cut _⟩
  · -- the power fails, and the journal is opened
    obtain ⟨mk, hmk⟩ : ∃ mk, min kl 20 = mk := ⟨_, rfl⟩
    have hmi : min (kl : Int) 20 = (mk : Int) := by omega
    have hmk1 : mk ≤ kl := by omega
    have hmi1 : (mk : Int) ≤ (kc : Int) := by omega
    have hkl20 : (ks.take mk).length ≤ 100 := by rw [List.length_take]; omega
    have CJ := Lib.hid (fun W d' e' F' G' (hx : WX w W wb bd bx n pj pk o d' o e' F' G') (hm : d'.pe.length ≤ 1000000) => hx.jCrash (ks.take mk) ka mk kc (((HKR.out.2 mk hmk1).below hx.below).more2 hx.below.size) (by omega) hm nn hn0 hn1)
    have CR := Lib.hid (fun W d' e' F' G' (hx : WX w W wb bd bx n pj pk o d' o e' F' G') (hm : e'.pe.length ≤ 1000000) => hx.rCrash (ks.take mk) ka mk kc (((HKR.out.2 mk hmk1).below hx.below).more2 hx.below.size) (by omega) hm nn hn0 hn1)
    have hkn := HKR.out.1
    clear b1 c1 c3
    have hkk2 : ka = none ∨ ∃ x, ka = some x := by cases ka; exact .inl rfl; exact .inr ⟨_, rfl⟩
    rcases hkk2 with rfl | ⟨kx, rfl⟩
    focus
      obtain ⟨e1, e2⟩ := hkn rfl
      subst e1 e2
      obtain rfl : mk = 0 := by omega
      have hmi0 : min (0 : Int) 20 = 0 := by decide
    all_goals
      go_wp2
      go_region_held3 (fun w' => w'.cell? ⟨wb, 0, none⟩ = some (.pointer (some ⟨bd, 0, none⟩)) ∧ w'.cell? ⟨wr.heap.size, 2, none⟩ = some (.int .i64 nn))
        (first | exact ⟨c0, b2⟩ | exact ⟨y0, yb⟩ | go_keep)
        (first
          | (go_at_call 48
             refine (CJ.out _ _ _ _ _ H.out.drew (by omega)).mono ?_
             rintro r w1 ⟨rfl, F1, h1, m1⟩
             have H1 := Lib.hid h1
             have X1 := Lib.hid (stay m1 (show W1.drew.heap[wr.heap.size]? = _ from X.out) n1).1
             have y0 := h1.c0
             have y2 := h1.c2
             have yb : w1.cell? ⟨wr.heap.size, 2, none⟩ = some (.int .i64 nn) := cellOf X1.out 2
             clear h1 m1)
          | fail)
      all_goals
        clear b2 c0 c2
        go_wp2
        go_region_held3 (fun w' => w'.cell? ⟨wb, 2, none⟩ = some (.pointer (some ⟨bx, 0, none⟩)) ∧ w'.cell? ⟨wr.heap.size, 2, none⟩ = some (.int .i64 nn))
          (first | exact ⟨y2, yb⟩ | exact ⟨z2, zb⟩ | go_keep)
          (first
            | (go_at_call 49
               refine (CR.out _ _ _ _ _ H1.out.drew (by omega)).mono ?_
               rintro r w2 ⟨rfl, G2, h2, m2⟩
               have H2 := Lib.hid h2
               have z2 := h2.c2
               have zb : w2.cell? ⟨wr.heap.size, 2, none⟩ = some (.int .i64 nn) := cellOf (stay m2 (show w1.drew.heap[wr.heap.size]? = _ from X1.out) n2).1 2
               clear h2 m2)
            | fail)
        all_goals
          go_wp2_with (first
            | (go_at_call 14; refine (H2.out.openW hn HP.out.1 a HP.out.2 (Nat.zero_le _)).mono ?_; rintro e w3 ⟨rfl, pj3, pk3, F3, G3, h3⟩; have H3 := Lib.hid h3; clear h3)
            | fail)
          go_ret
          exact ⟨rfl, pj3, pk3, _, _, F3, G3, H3.out, WInv.crash _ _ H2.out.facts.1⟩
  · -- opened again
    clear b1 b2 b3 c0 c1 c2 c3
    go_wp2_with (first
      | (go_at_call 14; refine (H.out.openW hn HP.out.1 a HP.out.2 (by omega)).mono ?_; rintro e w3 ⟨rfl, pj3, pk3, F3, G3, h3⟩; have H3 := Lib.hid h3; clear h3)
      | fail)
    go_ret
    exact ⟨rfl, pj3, pk3, _, _, F3, G3, H3.out, WInv.open hv.1 HI.out.1⟩
  · -- appended
    rcases o with _ | ⟨br, t⟩
    · have hpj := H.out.nil
      subst hpj
      clear b2 b3 c0 c2 c3
      go_wp2
      go_region_held3 (fun w' => w'.cell? ⟨wb, 1, none⟩ = some (.pointer none) ∧ w'.cell? ⟨wr.heap.size, 1, none⟩ = some (.slice va vl vc))
        (first | exact ⟨c1, b1⟩ | exact ⟨y1, yb⟩ | go_keep)
        (first
          | (go_at_call 7; refine (Append_nil _ _).mono ?_; rintro e w2 ⟨rfl, rfl⟩)
          | (go_at_call 8
             refine (FW.out _ H.out.drew.below).mono ?_
             rintro r w1 ⟨v1, rfl, hO1, hB1⟩
             have H1 := Lib.hid (H.out.drew.keep hB1)
             have y1 := H1.out.c1
             have yb : w1.cell? ⟨wr.heap.size, 1, none⟩ = some (.slice va vl vc) := (hB1.cell (p := ⟨wr.heap.size, 1, none⟩) (ltOf X.out)).trans b1
             clear hO1 hB1)
          | fail)
      all_goals
        go_wp2_with fail
        go_ret
        exact ⟨rfl, _, pk, none, d, F, G, H1.out, HI.out.same⟩
    · obtain ⟨jb, kb, e1, e2, hJ⟩ := H.out.toWJ
      subst e1 e2
      have HJ := Lib.hid hJ
      obtain ⟨r1, r2, r3⟩ := HI.out.recs
      have HR1 := Lib.hid r1
      have hL6 := HFS.out
      have HL6 := Lib.hid (show ∀ r ∈ L, r.size ≤ 1000000 from fun r hr => by have := hL6 r hr; omega)
      clear hJ r1 hL6 b2 b3 c0 c2
      go_wp2
      go_region_held3 (fun w' => w'.cell? ⟨wb, 1, none⟩ = some (.pointer (some ⟨jb, 0, none⟩)) ∧ w'.cell? ⟨wb, 3, none⟩ = some (.pointer (some ⟨kb, 0, none⟩)) ∧ w'.cell? ⟨wr.heap.size, 1, none⟩ = some (.slice va vl vc))
        (first | exact ⟨c1, c3, b1⟩ | exact ⟨q1, q3, qb⟩ | exact ⟨p1, p3, pb⟩ | exact ⟨z1, z3, zb⟩ | exact ⟨y1, y3, yb⟩ | go_keep)
        (first
          | (go_at_call 9
             refine (H3.out.rAppend HR1.out (by omega) r3 hn _ L R3.out (by omega) HL6.out (by omega)).mono ?_
             rintro r w4 ⟨rfl, G4, h4, m4⟩
             have H4 := Lib.hid h4
             have q1 := h4.toWX.c1
             have q3 := h4.toWX.c3
             have qb : w4.cell? ⟨wr.heap.size, 1, none⟩ = some (.slice va vl vc) := cellOf (stay m4 X3.out n2).1 1
             clear h4 m4)
          | (go_at_call 8
             refine (FW.out _ H2.out.below).mono ?_
             rintro r w3 ⟨v3, rfl, hO3, hB3⟩
             have R3 := Lib.hid (RowK.new hO3 (fun k hk => H2.out.kr.lt hk))
             have H3 := Lib.hid (H2.out.keep hB3)
             have X3 := Lib.hid ((Upd.of_below (S := fun _ => False) hB3).at X2.out (fun f => f))
             have p1 := H3.out.toWX.c1
             have p3 := H3.out.toWX.c3
             have pb : w3.cell? ⟨wr.heap.size, 1, none⟩ = some (.slice va vl vc) := cellOf X3.out 1
             clear hO3 hB3)
          | (go_at_call 7
             refine (H1.out.jAppend HP.out.1 hn _ L S1.out (by omega) HL6.out (by omega)).mono ?_
             rintro r w2 ⟨rfl, F2, h2, m2⟩
             have H2 := Lib.hid h2
             have X2 := Lib.hid (stay m2 X1.out n1).1
             have z1 := h2.toWX.c1
             have z3 := h2.toWX.c3
             have zb : w2.cell? ⟨wr.heap.size, 1, none⟩ = some (.slice va vl vc) := cellOf X2.out 1
             clear h2 m2)
          | (go_at_call 8
             refine (FW.out _ HJ.out.drew.below).mono ?_
             rintro r w1 ⟨v1, rfl, hO1, hB1⟩
             have S1 := Lib.hid (SL_own hO1)
             have H1 := Lib.hid (HJ.out.drew.keep hB1)
             have X1 := Lib.hid ((Upd.of_below (S := fun _ => False) hB1).at (show W1.drew.heap[wr.heap.size]? = _ from X.out) (fun f => f))
             have y1 := H1.out.toWX.c1
             have y3 := H1.out.toWX.c3
             have yb : w1.cell? ⟨wr.heap.size, 1, none⟩ = some (.slice va vl vc) := cellOf X1.out 1
             clear hO1 hB1)
          | fail)
      all_goals
        have HA := Lib.hid (HI.out.append L (fun r hr => by have := HFS.out r hr; omega))
        go_wp2_with fail
        go_ret
        exact ⟨by simp, _, _, _, _, F2, G4, H4.out.toWX, HA.out⟩
end Go.Proofs.YthlmgookaljgnaaGreatDoor
