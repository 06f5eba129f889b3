/- DigestProofAccepted: the walk. -/
import Derived.Test.YtljgphmdiflphaaDoorGrow
import Derived.Deep.RegionHeld3
import Derived.Test.YtljgphmdiflphaaDoorAccP
import Derived.Test.YtljgphmdiflphaaDoorRsH
import Derived.Test.YtljgphmdiflphaaDoorLawS
namespace Go.Proofs.YtljgphmdiflphaaDoor
open Go.RowKit
set_option linter.unusedVariables false

set_option maxRecDepth 100000 in
set_option maxHeartbeats 8000000 in
theorem LawA_any (w : World) (sv : Value) (l : List ByteArray) (hsl : SL w sv l) (hlen : l.length ≤ 9223372036854775807) (hs : ∀ s ∈ l, s.size ≤ 9223372036854775807) (i : Int) (hR : RoundLaid w) :
    Calls Tryd.prog 4 #[sv, .int .i64 i] w fun e w' => e = .returned (.bool true) ∧ Below w.heap.size w w' := by
  have SA := Lib.hid (sane_any w hR)
  have HR := Lib.hid hR
  have HSL := Lib.hid hsl
  have HS := Lib.hid hs
  clear hR hsl hs
  go_enter Tryd.func4, Tryd.ntmps4
  go_wp2_with fail
  refine SA.out.mono ?_
  rintro e W1 ⟨rfl, hb1⟩
  have FE := Lib.hid (few_any W1 sv l (HSL.out.below hb1) hlen HS.out 40 (by decide))
  have B1 := Lib.hid hb1
  clear SA HSL HS hb1
  go_wp2_with fail
  refine FE.out.mono ?_
  rintro e W2 ⟨v, rfl, hown, hb2⟩
  obtain ⟨L, hL⟩ : ∃ L, fewB l 40 = L := ⟨_, rfl⟩
  have hLs := fewB_small l 40
  have hLn : (fewB l 40).length ≤ 40 := by rw [fewB_length]; omega
  rw [hL] at hown hLs hLn
  have B2 := Lib.hid (B1.out.trans (hb2.mono B1.out.size))
  have HR2 := Lib.hid (HR.out.below B2.out)
  have SL2 := Lib.hid (SL_own hown)
  have LS := Lib.hid (fun s hs => Nat.le_trans (hLs s hs) (by decide : 60 ≤ 800000))
  have L60 := Lib.hid hLs
  obtain ⟨n, hn⟩ : ∃ n, L.length = n := ⟨_, rfl⟩
  have hn40 : n ≤ 40 := by omega
  have RO := Lib.hid (Root_any W2 _ L SL2.out (by omega) LS.out HR2.out)
  have HN := Lib.hid hn
  obtain ⟨va, vc, rfl, hvc, hva⟩ := SL2.out.form
  have HVA := Lib.hid hva
  rw [hn] at SL2 RO hvc HVA ⊢
  clear FE hown hb2 hL hLs hLn B1 HR hn hva
  go_wp2_with fail
  refine RO.out.mono ?_
  rintro e W3 ⟨rfl, hb3⟩
  have B3 := Lib.hid hb3
  clear RO hb3
  have RZ := rootB_size L
  obtain ⟨bn, hbn⟩ : ∃ bn, binN n = bn := ⟨_, rfl⟩
  have hbn40 : bn ≤ 40 := by have := binN_le n; omega
  have BI := Lib.hid (fun W => binary_any n (by omega) W)
  have EL := Lib.hid (fun k => prfB_bin L k)
  rw [HN.out, hbn] at EL
  rw [hbn] at BI
  have EO : Hid (∀ (k : Nat) (h : k < L.length), verB (rootB L) (n : Int) (k : Int) L[k] (prfB L k).reverse = true) := Lib.hid (fun k h => by
    have h1 := verB_ok L k h
    rw [show (L.length : Int) = (n : Int) by rw [HN.out]] at h1
    exact h1)
  obtain ⟨rt, hrt⟩ : ∃ rt, rootB L = rt := ⟨_, rfl⟩
  rw [hrt] at EO RZ ⊢
  clear hbn hrt
  go_wp2
  go_loopw [7, 8, 9] (fun kv _ _ wr => ∃ k : Nat, kv = .int .i64 k ∧ k ≤ n ∧ Below W2.heap.size W2 wr) (fun kv _ _ _ => n - (intOf kv).toNat)
  case atStart => exact ⟨0, rfl, Nat.zero_le _, B3.out⟩
  case round =>
    obtain ⟨k, rfl, hk, hbr⟩ := hrel
    have BR := Lib.hid hbr
    clear hbr B3
    by_cases h1 : k < n
    · have hkl : k < L.length := by rw [HN.out]; exact h1
      have EX := Lib.hid (Proof_ok wr _ L (SL2.out.below BR.out) (by have := HN.out; omega) LS.out (HR2.out.below BR.out) k hkl)
      have h1i : (k : Int) < (n : Int) := by omega
      obtain ⟨ab, ao, rfl, hab, hca⟩ := HVA.out (by omega)
      have eo := EO.out k hkl
      have hs60 := L60.out _ (List.getElem_mem hkl)
      have hc1 : ∀ W, Below W2.heap.size W2 W → W.cell? ⟨ab, ao + k, none⟩ = some (.string L[k]) := fun W hW => (hW.cell (p := ⟨ab, ao + k, none⟩) hab).trans (hca k _ (List.getElem?_eq_getElem hkl))
      have HC1 := Lib.hid hc1
      generalize L[k] = s at *
      clear hca hc1
      go_wp2_with fail
      refine EX.out.mono ?_
      rintro e W4 ⟨x, rfl, hx, hb4⟩
      obtain ⟨xa, xc, rfl, _, _⟩ := hx.form
      obtain ⟨xn, hxn⟩ : ∃ xn, (prfB L k).reverse.length = xn := ⟨_, rfl⟩
      have hxl := EL.out k
      rw [List.length_reverse] at hxn
      rw [hxn] at hxl
      have HX := Lib.hid hx
      have BR4 := Lib.hid (BR.out.trans (hb4.mono BR.out.size))
      have HXN := Lib.hid hxn
      rw [List.length_reverse, hxn] at HX ⊢
      have hcell := HC1.out W4 BR4.out
      clear hx hb4 BR EX hxn
      have hc0 : ¬ (bn : Int) < (xn : Int) := by omega
      have hcd : decide (bn < xn) = false := decide_eq_false (by omega)
      have VK := Lib.hid (Ver_any W4 rt s n k _ (prfB L k).reverse HX.out (by rw [List.length_reverse]; have := HXN.out; omega) (fun s h => by have := prfB_32 _ L k rfl s (List.mem_reverse.1 h); omega) (by omega) (by omega) (HR2.out.below BR4.out) (by omega))
      rw [eo] at VK
      clear eo
      go_wp2_with fail
      refine (BI.out _).mono ?_
      rintro e w' ⟨rfl, rfl⟩
      go_wp2_with fail
      refine VK.out.mono ?_
      rintro e W5 ⟨rfl, hb5⟩
      have BR5 := Lib.hid (BR4.out.trans (hb5.mono BR4.out.size))
      clear VK hb5 hcell
      go_wp2
      go_roundw
      case rel => first | exact ⟨k + 1, by go_num, by omega, BR5.out⟩ | ((repeat apply Exists.intro); exact ⟨⟨k + 1, by go_num, by omega, BR5.out⟩, rfl⟩)
      case measure => simp [intOf]; omega
    · obtain rfl : k = n := by omega
      by_cases hin : 0 ≤ i ∧ i < (k : Int)
      · obtain ⟨I, rfl⟩ := Int.eq_ofNat_of_zero_le hin.1
        have hIk : I < k := by omega
        have hIl : I < L.length := by rw [HN.out]; exact hIk
        have EX := Lib.hid (Proof_ok wr _ L (SL2.out.below BR.out) (by have := HN.out; omega) LS.out (HR2.out.below BR.out) I hIl)
        obtain ⟨ab, ao, rfl, hab, hca⟩ := HVA.out (by omega)
        have eo := EO.out I hIl
        have hs60 := L60.out _ (List.getElem_mem hIl)
        have hc1 : ∀ W, Below W2.heap.size W2 W → W.cell? ⟨ab, ao + I, none⟩ = some (.string L[I]) := fun W hW => (hW.cell (p := ⟨ab, ao + I, none⟩) hab).trans (hca I _ (List.getElem?_eq_getElem hIl))
        have HC1 := Lib.hid hc1
        have h1i : (I : Int) < (k : Int) := by omega
        have h1d : decide (I < k) = true := decide_eq_true hIk
        generalize L[I] = s at *
        clear hca hc1 hin
        go_wp2_with fail
        refine EX.out.mono ?_
        rintro e W4 ⟨x, rfl, hx, hb4⟩
        have P32 : Hid (∀ z ∈ (prfB L I).reverse, z.size ≤ 60) := Lib.hid (fun z h => by have := prfB_32 _ L I rfl z (List.mem_reverse.1 h); omega)
        have PL : (prfB L I).reverse.length ≤ 40 := by have := EL.out I; rw [List.length_reverse]; omega
        generalize (prfB L I).reverse = P at *
        obtain ⟨xa, xc, rfl, hxc, hxs⟩ := hx.form
        obtain ⟨pn, hpn⟩ : ∃ pn, P.length = pn := ⟨_, rfl⟩
        have HX := Lib.hid hx
        have HXS := Lib.hid hxs
        have BR4 := Lib.hid (BR.out.trans (hb4.mono BR.out.size))
        have HPN := Lib.hid hpn
        rw [hpn] at HX hxc PL HXS ⊢
        have HRW := Lib.hid (HR2.out.below BR4.out)
        have c4 := HC1.out W4 BR4.out
        have habW : ab < W4.heap.size := Nat.lt_of_lt_of_le hab BR4.out.size
        have VL := Lib.hid (fun W v (h : SL W v (P ++ [rt])) (r : RoundLaid W) => Ver_any W rt s k I v (P ++ [rt]) h (by rw [List.length_append, HPN.out]; simp; omega) (fun z hz => by
          rcases List.mem_append.1 hz with hz | hz
          · have := P32.out z hz; omega
          · obtain rfl := List.mem_singleton.1 hz; omega) (by omega) (by omega) r (by omega))
        rw [verB_other (P := P) (s := s) (root := rt) eo (by rw [List.length_append]; simp)] at VL
        have VS := Lib.hid (fun W v (h : SL W v P.tail) (r : RoundLaid W) => Ver_any W rt s k I v P.tail h (by rw [List.length_tail, HPN.out]; omega) (fun z hz => by have := P32.out z (List.mem_of_mem_tail hz); omega) (by omega) (by omega) r (by omega))
        have VT : Hid (0 < pn → verB rt k I s P.tail = false) := Lib.hid (fun h => verB_other (P := P) (s := s) (root := rt) eo (by rw [List.length_tail, HPN.out]; omega))
        clear hx hb4 EX hpn hxs eo HC1
        go_wp2
        go_region_held3 (fun w' => w'.cell? ⟨ab, ao + I, none⟩ = some (.string s))
          ((first | exact c4 | exact keepA c4 | exact keepA0 c4 | exact keepA0 (keepA0 c4) | exact keepA (keepA0 c4) | exact c5 | exact keepA0 c5 | exact c6 | exact c7 | go_keep))
          (first
            | (go_at_call 23
               with_reducible refine Calls.mono (VL.out _ _ ?_ ?_) ?_
               · exact G6.out.sl
               · exact HRW.out.below B6.out
               rintro e W7 ⟨rfl, h7⟩
               have B7 := Lib.hid (B6.out.trans (h7.mono B6.out.size))
               have c7 := (B7.out.cell (p := ⟨ab, ao + I, none⟩) habW).trans c4
               clear h7)
            | (refine step_append_empty (by rfl) _ _ (by rfl) W4.heap.size (by rfl) _ P (by rfl) (by first | exact HX.out.below ((Below.refl _ _).alloc (Nat.le_refl _) _) | exact HX.out.below ((Below.refl _ _).alloc (Nat.le_refl _) _).drew) (by have := HPN.out; omega) W4.heap.size (by simp) ?_
               intro v5 W5 hg5 hb5
               have G5 := Lib.hid hg5
               have B5 : Below W4.heap.size W4 W5 := by first | exact ((Below.refl _ _).alloc (Nat.le_refl _) _).trans (hb5.mono (by simp)) | exact ((Below.refl _ _).alloc (Nat.le_refl _) _).drew.trans (hb5.mono (by simp))
               have B5h := Lib.hid B5
               have c5 := (B5.cell (p := ⟨ab, ao + I, none⟩) habW).trans c4
               have SR5 : Hid (SL (W5.alloc (.cells #[.string rt] 9)) (.slice (some ⟨W5.heap.size, 0, none⟩) 1 1) [rt]) := Lib.hid (SL_lit W5 rt)
               clear hg5 hb5 B5)
            | (refine step_append_empty (by rfl) _ _ (by rfl) W4.heap.size (by rfl) _ P (by rfl) (by first | exact HX.out.below (((Below.refl _ _).alloc (Nat.le_refl _) _).alloc (by simp) _) | exact HX.out.below (((Below.refl _ _).alloc (Nat.le_refl _) _).alloc (by simp) _).drew) (by have := HPN.out; omega) W4.heap.size (by simp; omega) ?_
               intro v5 W5 hg5 hb5
               have G5 := Lib.hid hg5
               have B5 : Below W4.heap.size W4 W5 := by first | exact (((Below.refl _ _).alloc (Nat.le_refl _) _).alloc (by simp) _).trans (hb5.mono (by simp; omega)) | exact (((Below.refl _ _).alloc (Nat.le_refl _) _).alloc (by simp) _).drew.trans (hb5.mono (by simp; omega))
               have B5h := Lib.hid B5
               have c5 := (B5.cell (p := ⟨ab, ao + I, none⟩) habW).trans c4
               have SR5 : Hid (SL W5 (.slice (some ⟨W4.heap.size + 1, 0, none⟩) 1 1) [rt]) := Lib.hid (by first | (have := (SL_lit (W4.alloc (.cells #[] 9)) rt).below hb5; simpa using this) | (have := SL.below (w := ((W4.alloc (.cells #[] 9)).alloc (.cells #[.string rt] 9)).drew) ⟨(SL_lit (W4.alloc (.cells #[] 9)) rt).form⟩ hb5; simpa using this))
               clear hg5 hb5 B5)
            | (refine step_append_empty (by rfl) _ _ (by rfl) (W4.heap.size + 1) (by rfl) _ P (by rfl) (by first | exact HX.out.below (((Below.refl _ _).alloc (Nat.le_refl _) _).alloc (by simp) _) | exact HX.out.below (((Below.refl _ _).alloc (Nat.le_refl _) _).alloc (by simp) _).drew) (by have := HPN.out; omega) W4.heap.size (by simp; omega) ?_
               intro v5 W5 hg5 hb5
               have G5 := Lib.hid hg5
               have B5 : Below W4.heap.size W4 W5 := by first | exact (((Below.refl _ _).alloc (Nat.le_refl _) _).alloc (by simp) _).trans (hb5.mono (by simp; omega)) | exact (((Below.refl _ _).alloc (Nat.le_refl _) _).alloc (by simp) _).drew.trans (hb5.mono (by simp; omega))
               have B5h := Lib.hid B5
               have c5 := (B5.cell (p := ⟨ab, ao + I, none⟩) habW).trans c4
               have SR5 : Hid (SL W5 (.slice (some ⟨W4.heap.size, 0, none⟩) 1 1) [rt]) := Lib.hid (by first | (have := ((SL_lit W4 rt).below ((Below.refl _ _).alloc (Nat.le_refl _) _)).below hb5; simpa using this) | (have := SL.below (w := ((W4.alloc (.cells #[.string rt] 9)).alloc (.cells #[] 9)).drew) ⟨((SL_lit W4 rt).below ((Below.refl _ _).alloc (Nat.le_refl _) _)).form⟩ hb5; simpa using this))
               clear hg5 hb5 B5)
            | (refine step_append_grow (by rfl) _ _ (by rfl) W4.heap.size v5 P (by rfl) (by first | exact G5.out | exact G5.out.alloc _) _ [rt] (by rfl) SR5.out (by have := HPN.out; simp; omega) (by have := B5h.out.size; first | omega | (simp; omega)) ?_
               intro v6 W6 hg6 hb6
               have G6 := Lib.hid hg6
               have B6 : Hid (Below W4.heap.size W4 W6) := Lib.hid (by first | exact B5h.out.trans hb6 | exact (B5h.out.alloc B5h.out.size _).trans hb6)
               have c6 := (B6.out.cell (p := ⟨ab, ao + I, none⟩) habW).trans c4
               clear hg6 hb6)
            | fail)
        all_goals
          have R7 := Lib.hid (HRW.out.below B7.out)
          have S7 := Lib.hid (HX.out.below B7.out)
          have BF := Lib.hid (B2.out.trans ((BR4.out.trans (B7.out.mono BR4.out.size)).mono B2.out.size))
          have ab7 : ab < W7.heap.size := Nat.lt_of_lt_of_le habW B7.out.size
          clear c4 c5 c6 HRW HX G5 G6 B5h B6 B7 SR5 VL BR4
          by_cases hp0 : pn = 0
          · have hp1 : decide (0 < pn) = false := decide_eq_false (by omega)
            have hp2 : decide ((0 : Int) < (pn : Int)) = false := decide_eq_false (by omega)
            go_wp2
            go_quiet (fail)
            go_wp2
            go_ret
            exact ⟨rfl, below_drewN BF.out _⟩
          · have hp1 : decide (0 < pn) = true := decide_eq_true (by omega)
            have hp2 : (0 : Int) < (pn : Int) := by omega
            have hp3 : (1 : Int) ≤ (pn : Int) := by omega
            have hp4 : (pn : Int) ≤ (xc : Int) := by omega
            have hp5 : (1 : Int) ≤ (xc : Int) := by omega
            have vt := VT.out (by omega)
            rw [vt] at VS
            clear vt VT
            obtain ⟨xb, xo, rfl, hxb, hxcs⟩ := HXS.out (by omega)
            clear hxb hxcs
            have SLT : ∃ A c', SL W7 (.slice A (pn - 1) c') P.tail ∧ (if xc = 1 then (A = some ⟨xb, xo, none⟩ ∧ c' = 0) else (A = some ⟨xb, xo + 1, none⟩ ∧ c' = xc - 1)) := by
              by_cases h1 : xc = 1
              · refine ⟨_, _, ⟨some ⟨xb, xo, none⟩, 0, by rw [List.length_tail, HPN.out], by rw [List.length_tail, HPN.out]; omega, fun h => ?_⟩, by rw [if_pos h1]; exact ⟨rfl, rfl⟩⟩
                rw [List.length_tail, HPN.out] at h; omega
              · refine ⟨_, _, ?_, by rw [if_neg h1]; exact ⟨rfl, rfl⟩⟩
                have := SL.dropS S7.out HPN.out (by omega) 1 (by omega)
                rwa [List.drop_one] at this
            obtain ⟨A, c', slt, hA⟩ := SLT
            have ST := Lib.hid slt
            clear slt
            by_cases h1 : xc = 1
            · rw [if_pos h1] at hA
              obtain ⟨rfl, rfl⟩ := hA
              have h1p : pn = 1 := by omega
              subst h1 h1p
              clear hp0
              go_wp2
              go_region_held3 (fun w' => w'.cell? ⟨ab, ao + I, none⟩ = some (.string s))
                ((first | exact c7 | exact c8 | go_keep))
                (first
                  | (go_at_call 23
                     with_reducible refine Calls.mono (VS.out _ _ ?_ ?_) ?_
                     · exact ⟨ST.out.form⟩
                     · exact R7.out
                     rintro e W8 ⟨rfl, h8⟩
                     have c8 := (h8.of_drew.cell (p := ⟨ab, ao + I, none⟩) ab7).trans c7
                     have B8 := Lib.hid (BF.out.trans (h8.of_drew.mono BF.out.size))
                     clear h8)
                  | fail)
              clear c7 c8
              go_wp2
              go_ret
              exact ⟨rfl, B8.out⟩
            · rw [if_neg h1] at hA
              obtain ⟨rfl, rfl⟩ := hA
              have h1i : (1 : Int) < (xc : Int) := by omega
              clear hp0
              go_wp2
              go_region_held3 (fun w' => w'.cell? ⟨ab, ao + I, none⟩ = some (.string s))
                ((first | exact c7 | exact c8 | go_keep))
                (first
                  | (go_at_call 23
                     with_reducible refine Calls.mono (VS.out _ _ ?_ ?_) ?_
                     · exact ⟨ST.out.form⟩
                     · exact R7.out
                     rintro e W8 ⟨rfl, h8⟩
                     have c8 := (h8.of_drew.cell (p := ⟨ab, ao + I, none⟩) ab7).trans c7
                     have B8 := Lib.hid (BF.out.trans (h8.of_drew.mono BF.out.size))
                     clear h8)
                  | fail)
              clear c7 c8
              go_wp2
              go_ret
              exact ⟨rfl, B8.out⟩
      · have EX := Lib.hid (Proof_bad wr _ L (SL2.out.below BR.out) i (by have := HN.out; rw [this]; exact hin))
        have VK := Lib.hid (Ver_any wr rt ⟨#[]⟩ k i (.slice none 0 0) [] (SL.nil _) (by simp) (by simp) (by decide) (by omega) (HR2.out.below BR.out) (by omega))
        rw [verB_range hin] at VK
        have BF := Lib.hid (B2.out.trans (BR.out.mono B2.out.size))
        by_cases h0i : 0 ≤ i
        · have h2i : ¬ i < (k : Int) := fun h => hin ⟨h0i, h⟩
          have h2d : decide (i < (k : Int)) = false := decide_eq_false h2i
          have h0b : decide (0 ≤ i) = true := decide_eq_true h0i
          clear hin
          go_wp2_with fail
          refine EX.out.mono ?_
          rintro e w' ⟨rfl, rfl⟩
          go_wp2_with fail
          refine VK.out.mono ?_
          rintro e W5 ⟨rfl, hb5⟩
          have BF5 := Lib.hid (BF.out.trans (hb5.mono BF.out.size))
          clear hb5
          go_wp2
          go_ret
          exact ⟨rfl, BF5.out⟩
        · have h0d : decide (0 ≤ i) = false := decide_eq_false h0i
          clear hin
          go_wp2_with fail
          refine EX.out.mono ?_
          rintro e w' ⟨rfl, rfl⟩
          go_wp2_with fail
          refine VK.out.mono ?_
          rintro e W5 ⟨rfl, hb5⟩
          have BF5 := Lib.hid (BF.out.trans (hb5.mono BF.out.size))
          clear hb5
          go_wp2
          go_ret
          exact ⟨rfl, BF5.out⟩
end Go.Proofs.YtljgphmdiflphaaDoor
