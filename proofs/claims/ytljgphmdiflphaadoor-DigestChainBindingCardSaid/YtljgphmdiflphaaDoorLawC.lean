/- DigestChainBinding: the walk. -/
import Derived.Test.YtljgphmdiflphaaDoorHeadW
import Derived.Test.YtljgphmdiflphaaDoorRsH
import Derived.Deep.RegionHeld
import Derived.Test.YtljgphmdiflphaaDoorSame
import Derived.Test.YtljgphmdiflphaaDoorColl
import Derived.Test.YtljgphmdiflphaaDoorSane
namespace Go.Proofs.YtljgphmdiflphaaDoor
open Go.RowKit
set_option linter.unusedVariables false

theorem conv32 {W : World} {g : Nat} (h : W.heap[g]? = some (.cells (bytesV z32.data.toList).toArray 5 (0, 0))) :
    (convert 45 9 (.slice (some ⟨g, 0, none⟩) 32 32)).run Tryd.prog W = .ok (.string z32) W := by
  rw [run_conv_row 45 9 5 Tryd.underlying45 Tryd.underlying5 Tryd.underlying9 g 0 32 32 _ _ h (by decide)]
  rfl
theorem make32 (w : World) : (Instr.makeSlice 45 (.int .i64 32) (.int .i64 32)).run Tryd.prog w = .ok (.slice (some ⟨w.heap.size, 0, none⟩) 32 32) (w.alloc (.cells (bytesV z32.data.toList).toArray 5)) := by kernel_rfl

theorem below_step {a b c : World} (h : Below b.heap.size b c) (k : Below a.heap.size a b) : Below a.heap.size a c := k.trans (h.mono k.size)
theorem conv32A (W : World) : (convert 45 9 (.slice (some ⟨W.heap.size, 0, none⟩) 32 32)).run Tryd.prog (W.alloc (.cells (bytesV z32.data.toList).toArray 5)) = .ok (.string z32) (W.alloc (.cells (bytesV z32.data.toList).toArray 5)) := conv32 (allocAt _ rfl)
theorem conv32D (W : World) : (convert 45 9 (.slice (some ⟨W.heap.size, 0, none⟩) 32 32)).run Tryd.prog (W.alloc (.cells (bytesV z32.data.toList).toArray 5)).drew = .ok (.string z32) (W.alloc (.cells (bytesV z32.data.toList).toArray 5)).drew := conv32 (by rw [drewHeap]; exact allocAt _ rfl)

set_option maxRecDepth 100000 in
set_option maxHeartbeats 8000000 in
theorem LawC_any (w : World) (av : Value) (a : List ByteArray) (bv : Value) (b : List ByteArray)
    (ha : SL w av a) (hal : a.length ≤ 9223372036854775807) (has : ∀ s ∈ a, s.size ≤ 9223372036854775807) (hb : SL w bv b) (hbl : b.length ≤ 9223372036854775807) (hbs : ∀ s ∈ b, s.size ≤ 9223372036854775807) (hR : RoundLaid w) :
    Calls Tryd.prog 10 #[av, bv] w fun e w' => e = .returned (.bool true) ∧ Below w.heap.size w w' := by
  have SA := Lib.hid (sane_any w hR)
  have HR := Lib.hid hR
  have HP := Lib.hid ha
  have HQ := Lib.hid hb
  have HPS := Lib.hid has
  have HQS := Lib.hid hbs
  clear hR ha hb has hbs
  go_enter Tryd.func10, Tryd.ntmps10
  go_wp2_with fail
  refine SA.out.mono ?_
  rintro e W1 ⟨rfl, hb1⟩
  have B1 := Lib.hid hb1
  have FP := Lib.hid (few_any W1 av a (HP.out.below hb1) hal HPS.out 20 (by decide))
  clear SA HP HPS hb1
  go_wp2_with fail
  refine FP.out.mono ?_
  rintro e W2 ⟨v, rfl, hown, hb2⟩
  have SP := Lib.hid (SL_own hown)
  have hPs := fewB_small a 20
  have hPn : (fewB a 20).length ≤ 20 := by rw [fewB_length]; omega
  generalize fewB a 20 = A at *
  have PS := Lib.hid hPs
  have PN := Lib.hid hPn
  have B2 := Lib.hid (B1.out.trans (hb2.mono B1.out.size))
  have FQ := Lib.hid (few_any W2 bv b (HQ.out.below B2.out) hbl HQS.out 20 (by decide))
  clear FP HQ HQS hown hb2 hPs hPn B1
  go_wp2_with fail
  refine FQ.out.mono ?_
  rintro e W3 ⟨v2, rfl, hown, hb3⟩
  have SQ := Lib.hid (SL_own hown)
  replace SP := Lib.hid (SP.out.below hb3)
  have hQs := fewB_small b 20
  have hQn : (fewB b 20).length ≤ 20 := by rw [fewB_length]; omega
  generalize fewB b 20 = B at *
  have QS := Lib.hid hQs
  have QN := Lib.hid hQn
  have B3 := Lib.hid (B2.out.trans (hb3.mono B2.out.size))
  have R3 := Lib.hid (HR.out.below B3.out)
  have V1 := Lib.hid (heads_any W3 v A SP.out (by have := PN.out; omega) (fun s h => by have := PS.out s h; omega) R3.out)
  clear FQ hown hb3 hQs hQn B2 HR
  go_wp2_with fail
  refine V1.out.mono ?_
  rintro e W4 ⟨x, rfl, hox, hb4⟩
  have B4 := Lib.hid (B3.out.trans (hb4.mono B3.out.size))
  have R4 := Lib.hid (R3.out.below hb4)
  replace SP := Lib.hid (SP.out.below hb4)
  replace SQ := Lib.hid (SQ.out.below hb4)
  have ex1 : (stR A.reverse).length = A.length := by rw [stR_length, List.length_reverse]
  rw [← ex1] at hox
  have SX := Lib.hid (SL_own hox)
  have V2 := Lib.hid (heads_any W4 v2 B SQ.out (by have := QN.out; omega) (fun s h => by have := QS.out s h; omega) R4.out)
  clear hb4 V1 B3 R3 hox ex1
  go_wp2_with fail
  refine V2.out.mono ?_
  rintro e W5 ⟨y, rfl, hoy, hb5⟩
  have B5 := Lib.hid (B4.out.trans (hb5.mono B4.out.size))
  have R5 := Lib.hid (R4.out.below hb5)
  replace SP := Lib.hid (SP.out.below hb5)
  replace SQ := Lib.hid (SQ.out.below hb5)
  replace SX := Lib.hid (SX.out.below hb5)
  have ey1 : (stR B.reverse).length = B.length := by rw [stR_length, List.length_reverse]
  rw [← ey1] at hoy
  have SY := Lib.hid (SL_own hoy)
  clear hb5 V2 B4 R4 hoy ey1
  have SM := Lib.hid (Same_any W5 v v2 A B SP.out SQ.out (by have := PN.out; omega) (by have := QN.out; omega))
  obtain ⟨va, vc, rfl, _, _⟩ := SP.out.form
  have zh1 := hdR_size A.reverse
  have zh2 := hdR_size B.reverse
  have hz1 : (((hdR A.reverse).size : Int) != 32) = false := by rw [zh1]; rfl
  have hz2 : (((hdR A.reverse).size : Int) == 32) = true := by rw [zh1]; rfl
  by_cases hAB : A = B
  · subst hAB
    have e1 : sameL A A = true := decide_eq_true rfl
    rw [e1] at SM
    have he : ((hdR A.reverse).toList == (hdR A.reverse).toList) = true := beq_self_eq_true _
    clear e1 zh1 zh2
    generalize hdR A.reverse = h at *
    go_wp2_with fail
    refine SM.out.mono ?_
    rintro e W6 ⟨rfl, hb6⟩
    have B6 := Lib.hid (B5.out.trans (hb6.mono B5.out.size))
    clear hb6
    go_wp2
    go_ret
    exact ⟨rfl, B6.out⟩
  · have e1 : sameL A B = false := decide_eq_false hAB
    rw [e1] at SM
    have HC := Lib.hid (head_coll A.reverse B.reverse (fun h => hAB (by simpa using congrArg List.reverse h)))
    have LA := Lib.hid (show (stR A.reverse).length = A.length by rw [stR_length, List.length_reverse])
    have LB := Lib.hid (show (stR B.reverse).length = B.length by rw [stR_length, List.length_reverse])
    clear e1 hAB
    cases he : ((hdR A.reverse).toList == (hdR B.reverse).toList) with
    | false =>
      clear HC zh1 zh2
      generalize hdR A.reverse = h at *
      generalize hdR B.reverse = k at *
      go_wp2_with fail
      refine SM.out.mono ?_
      rintro e W6 ⟨rfl, hb6⟩
      have B6 := Lib.hid (B5.out.trans (hb6.mono B5.out.size))
      clear hb6
      go_wp2
      go_ret
      exact ⟨rfl, B6.out⟩
    | true =>
      have hk : hdR A.reverse = hdR B.reverse := beq_iffB.1 (by rw [beq_toListBytes]; exact he)
      have HC2 := Lib.hid (HC.out hk)
      rw [← hk]
      clear HC he hk zh2
      go_wp2_with fail
      refine SM.out.mono ?_
      rintro e W6 ⟨rfl, hb6⟩
      have B6 := Lib.hid (B5.out.trans (hb6.mono B5.out.size))
      have R6 := Lib.hid (R5.out.below hb6)
      replace SX := Lib.hid (SX.out.below hb6)
      replace SY := Lib.hid (SY.out.below hb6)
      clear hb6 SM B5 R5 SP SQ
      generalize hdR A.reverse = h at *
      have he : (h.toList == h.toList) = true := beq_self_eq_true _
      have XS := Lib.hid (stR_small A.reverse (fun z hz => PS.out z (List.mem_reverse.1 hz)))
      have YS := Lib.hid (stR_small B.reverse (fun z hz => QS.out z (List.mem_reverse.1 hz)))
      have hC : collB (stR A.reverse) (stR B.reverse) = true ∨ A.length ≠ B.length ∧ ∃ x, (if A.length < B.length then stR B.reverse else stR A.reverse)[min A.length B.length]? = some x ∧ sumB x = z32 := by
        have := HC2.out
        unfold longR at this
        rw [List.length_reverse, List.length_reverse] at this
        exact this
      have hxl : (stR A.reverse).length ≤ 20 := by rw [LA.out]; exact PN.out
      have hyl : (stR B.reverse).length ≤ 20 := by rw [LB.out]; exact QN.out
      obtain ⟨n, hn⟩ : ∃ n, A.length = n := ⟨_, rfl⟩
      obtain ⟨m, hm⟩ : ∃ m, B.length = m := ⟨_, rfl⟩
      rw [hn] at hC LA
      rw [hm] at hC LB
      rw [hn]
      clear HC2 PS QS PN QN hn hm zh1
      generalize stR A.reverse = X at *
      generalize stR B.reverse = Y at *
      have CO := Lib.hid (fun W (h1 : SL W x X) (h2 : SL W y Y) (r : RoundLaid W) => collide_any W x y X Y h1 h2 (by omega) (by omega) XS.out YS.out r)
      obtain ⟨xa, xc, rfl, hxc, hxs⟩ := SX.out.form
      obtain ⟨ya, yc, rfl, hyc, hys⟩ := SY.out.form
      rw [LA.out] at hxl hxc hxs SX CO ⊢
      rw [LB.out] at hyl hyc hys SY CO ⊢
      have HXS := Lib.hid hxs
      have HYS := Lib.hid hys
      have HC := Lib.hid hC
      clear hxs hys hC
      by_cases hnm : n = m
      · have h1 : ((n : Int) != (m : Int)) = false := by rw [hnm]; simp
        have h2 : ¬ n < m := by omega
        have h2d : decide (n < m) = false := decide_eq_false h2
        have hc : collB X Y = true := by
          rcases HC.out with h | ⟨h, _⟩
          · exact h
          · exact absurd hnm h
        rw [hc] at CO
        clear hc hnm
        go_wp2
        go_quiet (fail)
        go_wp2_with fail
        refine (CO.out (W6.drewN nq) ⟨SX.out.form⟩ ⟨SY.out.form⟩ R6.out).mono ?_
        rintro e W8 ⟨rfl, hb8⟩
        have B8 := Lib.hid (B6.out.trans (hb8.of_drewN.mono B6.out.size))
        clear hb8
        go_wp2
        go_ret
        exact ⟨rfl, B8.out⟩
      · have h1 : ((n : Int) != (m : Int)) = true := by simpa using fun h => hnm (by omega)
        by_cases h2 : n < m
        · have h2d : decide (n < m) = true := decide_eq_true h2
          have h2e : (n : Int) < (m : Int) := by omega
          have hmin : min (n : Int) (m : Int) = (n : Int) := by omega
          have hL : n < Y.length := by rw [LB.out]; exact h2
          obtain ⟨yb, yo, rfl, hyb, hcy⟩ := HYS.out (by omega)
          have hs := YS.out Y[n] (List.getElem_mem hL)
          have c1 : W6.cell? ⟨yb, yo + n, none⟩ = some (.string Y[n]) := hcy n _ (List.getElem?_eq_getElem hL)
          have hc : collB X Y = true ∨ ((sumB Y[n]).toList == z32.toList) = true := by
            rcases HC.out with h | ⟨_, z, h, e⟩
            · exact .inl h
            · rw [if_pos h2, Nat.min_eq_left (by omega), List.getElem?_eq_getElem hL] at h
              rw [Option.some.inj h, e]
              exact .inr (beq_self_eq_true _)
          have HC' := Lib.hid hc
          generalize Y[n] = s at *
          have SU := Lib.hid (fun W (r : RoundLaid W) => Sum_any s (by omega) W r)
          clear hc hcy hnm HXS HYS
          have hmk := make32
          have hcA := conv32A
          have hcD := conv32D
          go_wp2
          go_region_held (fun w' => w'.cell? ⟨yb, yo + n, none⟩ = some (.string s))
            ((first | exact c1 | exact d1 | exact keepA c1 | exact keepA0 c1 | exact keepA d1 | exact keepA0 d1 | go_keep))
            (first
              | (go_at_call 29
                 with_reducible refine Calls.mono (SU.out _ ?_) ?_
                 · first | exact R6.out | exact R6.out.below ((Below.refl _ _).alloc (Nat.le_refl _) _) | exact R6.out.below ((Below.refl _ _).alloc (Nat.le_refl _) _).drew
                 rintro e W7 ⟨rfl, h7⟩
                 have h67 : Below W6.heap.size W6 W7 := below_step h7 (by first | exact (Below.refl _ _).drew | exact ((Below.refl _ _).alloc (Nat.le_refl _) _).drew | exact (Below.refl _ _).alloc (Nat.le_refl _) _ | exact Below.refl _ _)
                 have d1 : W7.cell? ⟨yb, yo + n, none⟩ = some (.string s) := (h67.cell (p := ⟨yb, yo + n, none⟩) hyb).trans c1
                 try (have hc7 := conv32 (W := W7) (g := W6.heap.size) (by rw [h7.block _ (by simp)]; exact allocAt _ rfl))
                 have H67 := Lib.hid h67
                 clear h7 h67))
          all_goals
            have hmk' := hmk
            clear hmk' hmk hcA hcD
            obtain ⟨cb, hcb⟩ : ∃ cb, collB X Y = cb := ⟨_, rfl⟩
            rw [hcb] at HC' CO
            clear hcb
            generalize ((sumB s).toList == z32.toList) = zb at *
            cases cb with
            | true =>
              go_wp2_with fail
              refine (CO.out _ ?_ ?_ ?_).mono ?_
              · first | exact SX.out.below H67.out | exact SX.out.below (H67.out.alloc H67.out.size _)
              · first | exact SY.out.below H67.out | exact SY.out.below (H67.out.alloc H67.out.size _)
              · first | exact R6.out.below H67.out | exact R6.out.below (H67.out.alloc H67.out.size _)
              rintro e W8 ⟨rfl, h8⟩
              have B8 : Below w.heap.size w W8 := B6.out.trans ((below_step h8 (by first | exact H67.out | exact H67.out.alloc H67.out.size _)).mono B6.out.size)
              have H8 := Lib.hid B8
              clear B8 h8
              go_wp2
              go_ret
              exact ⟨rfl, H8.out⟩
            | false =>
              have hz : zb = true := HC'.out.resolve_left (by decide)
              subst hz
              go_wp2_with fail
              refine (CO.out _ ?_ ?_ ?_).mono ?_
              · first | exact SX.out.below H67.out | exact SX.out.below (H67.out.alloc H67.out.size _)
              · first | exact SY.out.below H67.out | exact SY.out.below (H67.out.alloc H67.out.size _)
              · first | exact R6.out.below H67.out | exact R6.out.below (H67.out.alloc H67.out.size _)
              rintro e W8 ⟨rfl, h8⟩
              have B8 : Below w.heap.size w W8 := B6.out.trans ((below_step h8 (by first | exact H67.out | exact H67.out.alloc H67.out.size _)).mono B6.out.size)
              have H8 := Lib.hid B8
              clear B8 h8
              go_wp2
              go_ret
              exact ⟨rfl, H8.out⟩
        · have h2d : decide (n < m) = false := decide_eq_false h2
          have h2e : (m : Int) < (n : Int) := by omega
          have hmin : min (n : Int) (m : Int) = (m : Int) := by omega
          have hL : m < X.length := by rw [LA.out]; omega
          obtain ⟨yb, yo, rfl, hyb, hcy⟩ := HXS.out (by omega)
          have hs := XS.out X[m] (List.getElem_mem hL)
          have c1 : W6.cell? ⟨yb, yo + m, none⟩ = some (.string X[m]) := hcy m _ (List.getElem?_eq_getElem hL)
          have hc : collB X Y = true ∨ ((sumB X[m]).toList == z32.toList) = true := by
            rcases HC.out with h | ⟨_, z, h, e⟩
            · exact .inl h
            · rw [if_neg h2, Nat.min_eq_right (by omega), List.getElem?_eq_getElem hL] at h
              rw [Option.some.inj h, e]
              exact .inr (beq_self_eq_true _)
          have HC' := Lib.hid hc
          generalize X[m] = s at *
          have SU := Lib.hid (fun W (r : RoundLaid W) => Sum_any s (by omega) W r)
          clear hc hcy hnm HXS HYS
          have hmk := make32
          have hcA := conv32A
          have hcD := conv32D
          go_wp2
          go_region_held (fun w' => w'.cell? ⟨yb, yo + m, none⟩ = some (.string s))
            ((first | exact c1 | exact d1 | exact keepA c1 | exact keepA0 c1 | exact keepA d1 | exact keepA0 d1 | go_keep))
            (first
              | (go_at_call 29
                 with_reducible refine Calls.mono (SU.out _ ?_) ?_
                 · first | exact R6.out | exact R6.out.below ((Below.refl _ _).alloc (Nat.le_refl _) _) | exact R6.out.below ((Below.refl _ _).alloc (Nat.le_refl _) _).drew
                 rintro e W7 ⟨rfl, h7⟩
                 have h67 : Below W6.heap.size W6 W7 := below_step h7 (by first | exact (Below.refl _ _).drew | exact ((Below.refl _ _).alloc (Nat.le_refl _) _).drew | exact (Below.refl _ _).alloc (Nat.le_refl _) _ | exact Below.refl _ _)
                 have d1 : W7.cell? ⟨yb, yo + m, none⟩ = some (.string s) := (h67.cell (p := ⟨yb, yo + m, none⟩) hyb).trans c1
                 try (have hc7 := conv32 (W := W7) (g := W6.heap.size) (by rw [h7.block _ (by simp)]; exact allocAt _ rfl))
                 have H67 := Lib.hid h67
                 clear h7 h67))
          all_goals
            have hmk' := hmk
            clear hmk' hmk hcA hcD
            obtain ⟨cb, hcb⟩ : ∃ cb, collB X Y = cb := ⟨_, rfl⟩
            rw [hcb] at HC' CO
            clear hcb
            generalize ((sumB s).toList == z32.toList) = zb at *
            cases cb with
            | true =>
              go_wp2_with fail
              refine (CO.out _ ?_ ?_ ?_).mono ?_
              · first | exact SX.out.below H67.out | exact SX.out.below (H67.out.alloc H67.out.size _)
              · first | exact SY.out.below H67.out | exact SY.out.below (H67.out.alloc H67.out.size _)
              · first | exact R6.out.below H67.out | exact R6.out.below (H67.out.alloc H67.out.size _)
              rintro e W8 ⟨rfl, h8⟩
              have B8 : Below w.heap.size w W8 := B6.out.trans ((below_step h8 (by first | exact H67.out | exact H67.out.alloc H67.out.size _)).mono B6.out.size)
              have H8 := Lib.hid B8
              clear B8 h8
              go_wp2
              go_ret
              exact ⟨rfl, H8.out⟩
            | false =>
              have hz : zb = true := HC'.out.resolve_left (by decide)
              subst hz
              go_wp2_with fail
              refine (CO.out _ ?_ ?_ ?_).mono ?_
              · first | exact SX.out.below H67.out | exact SX.out.below (H67.out.alloc H67.out.size _)
              · first | exact SY.out.below H67.out | exact SY.out.below (H67.out.alloc H67.out.size _)
              · first | exact R6.out.below H67.out | exact R6.out.below (H67.out.alloc H67.out.size _)
              rintro e W8 ⟨rfl, h8⟩
              have B8 : Below w.heap.size w W8 := B6.out.trans ((below_step h8 (by first | exact H67.out | exact H67.out.alloc H67.out.size _)).mono B6.out.size)
              have H8 := Lib.hid B8
              clear B8 h8
              go_wp2
              go_ret
              exact ⟨rfl, H8.out⟩
end Go.Proofs.YtljgphmdiflphaaDoor
