/- DigestExtensionAccepted: the walk. -/
import Derived.Test.YtljgphmdiflphaaDoorExtP
namespace Go.Proofs.YtljgphmdiflphaaDoor
open Go.RowKit
set_option linter.unusedVariables false

def exB (l : List ByteArray) (k : Nat) : List ByteArray := if k = 0 then [] else (extB l k true).reverse
theorem exB_le (l : List ByteArray) (k : Nat) (h : k ≤ l.length) : (exB l k).length ≤ 2 * binN l.length := by
  unfold exB; split
  · simp
  · rw [List.length_reverse]; exact extB_bin l k true (by omega) h
theorem exB_32 (l : List ByteArray) (k : Nat) : ∀ x ∈ exB l k, x.size = 32 := by
  intro x hx; unfold exB at hx; split at hx
  · cases hx
  · exact extB_32 _ l k true (by omega) rfl x (List.mem_reverse.1 hx)
theorem exB_ok (l : List ByteArray) (k : Nat) (h : k ≤ l.length) : verEB (rootB (l.take k)) k (rootB l) l.length (exB l k) = true := by
  unfold exB; split
  · subst k; exact verEB_zero l
  · exact verEB_ok l k (by omega) h
theorem ExtA (w : World) (sv : Value) (l : List ByteArray) (hsl : SL w sv l) (hlen : l.length ≤ 1000000) (hs : ∀ s ∈ l, s.size ≤ 800000) (hR : RoundLaid w) (k : Nat) (hk : k ≤ l.length) :
    Calls Tryd.prog 17 #[sv, .int .i64 (k : Int)] w fun e w' => ∃ v, e = .returned (.tuple #[v, .int .i64 0]) ∧ SL w' v (exB l k) ∧ Below w.heap.size w w' := by
  by_cases h : k = 0
  · subst h
    refine (Ext_zero w sv l hsl).mono ?_
    rintro e w' ⟨rfl, rfl⟩
    exact ⟨_, rfl, by rw [exB, if_pos rfl]; exact SL.nil _, Below.refl _ _⟩
  · rw [exB, if_neg h]
    exact Ext_ok w sv l hsl hlen hs hR k (by omega) hk

/-- what few hands back, and its beginnings -/
theorem own_shape {w : World} {base : Nat} {v : Value} {l : List ByteArray} (h : w.ownsRow base 9 1 v l.length (strV l)) : ∃ a c, v = .slice a l.length c ∧ l.length ≤ c ∧ ((a = none ∧ c = 0 ∧ l = []) ∨ ∃ g, a = some ⟨g, 0, none⟩ ∧ ∀ k, k ≤ l.length → SL w (.slice (some ⟨g, 0, none⟩) k c) (l.take k)) := by
  rcases h.2 with ⟨e, e0⟩ | ⟨g, c, cur, e, hb, hg, hc, hcm, hcs⟩
  · have hl : l = [] := List.eq_nil_of_length_eq_zero (by first | exact e0 | simpa using e0 | omega)
    subst hl
    exact ⟨none, 0, e, Nat.le_refl _, .inl ⟨rfl, rfl, rfl⟩⟩
  · refine ⟨_, c, e, by first | assumption | omega, .inr ⟨g, rfl, fun k hk => ?_⟩⟩
    by_cases h0 : 0 < l.length
    · obtain ⟨g', cap, e', h1, h2, h3, h4, h5⟩ := own_form h h0
      rw [e] at e'
      cases e'
      exact SL.takeK (n := l.length) k rfl hk h3 h2 (fun j x hj => by rw [Nat.zero_add]; exact h5 j _ (by rw [strV, List.getElem?_map, hj]; rfl))
    · have e0 : l = [] := List.eq_nil_of_length_eq_zero (by omega)
      subst e0
      have : k = 0 := by simpa using hk
      subst this
      exact ⟨_, c, rfl, Nat.zero_le _, fun h => absurd h (by simp)⟩

set_option maxRecDepth 100000 in
set_option maxHeartbeats 4000000 in
theorem LawE_any (w : World) (sv : Value) (l : List ByteArray) (hsl : SL w sv l) (hlen : l.length ≤ 9223372036854775807) (hs : ∀ s ∈ l, s.size ≤ 9223372036854775807) (m : Int) (hR : RoundLaid w) :
    Calls Tryd.prog 5 #[sv, .int .i64 m] w fun e w' => e = .returned (.bool true) ∧ Below w.heap.size w w' := by
  have SA := Lib.hid (sane_any w hR)
  have HR := Lib.hid hR
  have HSL := Lib.hid hsl
  have HS := Lib.hid hs
  clear hR hsl hs
  go_enter Tryd.func5, Tryd.ntmps5
  go_wp2_with fail
  refine SA.out.mono ?_
  rintro e W1 ⟨rfl, hb1⟩
  have FE := Lib.hid (few_any W1 sv l (HSL.out.below hb1) hlen HS.out 25 (by decide))
  have B1 := Lib.hid hb1
  clear SA HSL HS hb1
  go_wp2_with fail
  refine FE.out.mono ?_
  rintro e W2 ⟨v, rfl, hown, hb2⟩
  obtain ⟨L, hL⟩ : ∃ L, fewB l 25 = L := ⟨_, rfl⟩
  have hLs := fewB_small l 25
  have hLn : (fewB l 25).length ≤ 25 := by rw [fewB_length]; omega
  rw [hL] at hown hLs hLn
  have B2 := Lib.hid (B1.out.trans (hb2.mono B1.out.size))
  have HR2 := Lib.hid (HR.out.below B2.out)
  obtain ⟨va, vc, rfl, hvc, hsh⟩ := own_shape hown
  have SL2 := Lib.hid (SL_own hown)
  have SH := Lib.hid hsh
  have LS := Lib.hid (fun s hs => Nat.le_trans (hLs s hs) (by decide : 60 ≤ 800000))
  have LN := Lib.hid hLn
  obtain ⟨n, hn⟩ : ∃ n, L.length = n := ⟨_, rfl⟩
  have hn25 : n ≤ 25 := by omega
  have RO := Lib.hid (Root_any W2 _ L SL2.out (by omega) LS.out HR2.out)
  have HN := Lib.hid hn
  rw [hn] at SL2 RO hvc ⊢
  clear FE hown hb2 hL hLs hLn hsh B1 HR hn LN
  go_wp2_with fail
  refine RO.out.mono ?_
  rintro e W3 ⟨rfl, hb3⟩
  have B3 := Lib.hid hb3
  clear RO hb3
  have RZ := rootB_size L
  obtain ⟨bn, hbn⟩ : ∃ bn, binN n = bn := ⟨_, rfl⟩
  have hbn25 : bn ≤ 25 := by have := binN_le n; omega
  have BI := Lib.hid (fun W => binary_any n (by omega) W)
  have EL := Lib.hid (fun k h => exB_le L k h)
  rw [HN.out, hbn] at EL
  rw [hbn] at BI
  have EO := Lib.hid (fun k h => exB_ok L k h)
  rw [HN.out] at EO
  obtain ⟨rt, hrt⟩ : ∃ rt, rootB L = rt := ⟨_, rfl⟩
  rw [hrt] at EO RZ ⊢
  clear hbn hrt
  go_wp2
  go_loopw [7, 8, 9] (fun kv _ _ wr => ∃ k : Nat, kv = .int .i64 k ∧ k ≤ n + 1 ∧ Below W2.heap.size W2 wr) (fun kv _ _ _ => n + 1 - (intOf kv).toNat)
  case atStart => exact ⟨0, rfl, Nat.zero_le _, B3.out⟩
  case round =>
    obtain ⟨k, rfl, hk, hbr⟩ := hrel
    have BR := Lib.hid hbr
    clear hbr
    by_cases h1 : k ≤ n
    · have EX := Lib.hid (ExtA wr _ L (SL2.out.below BR.out) (by have := HN.out; omega) LS.out (HR2.out.below BR.out) k (by have := HN.out; omega))
      have h1i : (k : Int) ≤ (n : Int) := by omega
      go_wp2_with fail
      refine EX.out.mono ?_
      rintro e W4 ⟨x, rfl, hx, hb4⟩
      obtain ⟨xa, xc, rfl, _, _⟩ := hx.form
      obtain ⟨xn, hxn⟩ : ∃ xn, (exB L k).length = xn := ⟨_, rfl⟩
      have hxl := EL.out k (by have := HN.out; omega)
      rw [hxn] at hx hxl ⊢
      have HX := Lib.hid hx
      have BR4 := Lib.hid (BR.out.trans (hb4.mono BR.out.size))
      have HXN := Lib.hid hxn
      clear hx hb4 BR EX hxn
      have hc0 : ¬ (2 * (bn : Int) < (xn : Int)) := by omega
      have hc1 : decide (2 * (bn : Int) < (xn : Int)) = false := decide_eq_false hc0
      go_wp2_with fail
      refine (BI.out _).mono ?_
      rintro e w' ⟨rfl, rfl⟩
      rcases SH.out with ⟨rfl, rfl, h0⟩ | ⟨g, rfl, hsk⟩
      · have hn0 : n = 0 := by have := HN.out; rw [h0] at this; exact this.symm
        have hk0 : k = 0 := by omega
        subst hn0
        subst hk0
        rw [show ((0 : Nat) : Int) = 0 from rfl]
        have RK := Lib.hid (Root_any W4 _ (L.take 0) (SL.nil _) (by simp) (fun s h => LS.out s (List.mem_of_mem_take h)) (HR2.out.below BR4.out))
        go_wp2_with fail
        refine RK.out.mono ?_
        rintro e W5 ⟨rfl, hb5⟩
        have rz5 := rootB_size (L.take 0)
        have VK := Lib.hid (VE_any W5 (rootB (L.take 0)) rt 0 0 _ (exB L 0) (by rw [← HXN.out] at HX; exact HX.out.below hb5) (by have := HXN.out; omega) (fun s h => by have := exB_32 L 0 s h; omega) (by omega) (by omega) (by omega) (HR2.out.below (BR4.out.trans (hb5.mono BR4.out.size))))
        have eo := EO.out 0 (by omega)
        rw [show ((0 : Nat) : Int) = 0 from rfl] at eo
        rw [HXN.out, eo] at VK
        have BR5 := Lib.hid (BR4.out.trans (hb5.mono BR4.out.size))
        generalize rootB (L.take 0) = rk at *
        clear RK hb5 eo
        go_wp2_with fail
        refine VK.out.mono ?_
        rintro e W6 ⟨rfl, hb6⟩
        have BR6 := Lib.hid (BR5.out.trans (hb6.mono BR5.out.size))
        clear VK hb6
        go_wp2
        go_roundw
        case rel => first | exact ⟨1, by go_num, by omega, BR6.out⟩ | ((repeat apply Exists.intro); exact ⟨⟨1, by go_num, by omega, BR6.out⟩, rfl⟩)
        case measure => simp [intOf]
      · have SK := Lib.hid (hsk k (by have := HN.out; omega))
        have RK := Lib.hid (Root_any W4 _ (L.take k) (SK.out.below BR4.out) (by rw [List.length_take]; omega) (fun s h => LS.out s (List.mem_of_mem_take h)) (HR2.out.below BR4.out))
        go_wp2_with fail
        refine RK.out.mono ?_
        rintro e W5 ⟨rfl, hb5⟩
        have rz5 := rootB_size (L.take k)
        have VK := Lib.hid (VE_any W5 (rootB (L.take k)) rt k n _ (exB L k) (by rw [← HXN.out] at HX; exact HX.out.below hb5) (by have := HXN.out; omega) (fun s h => by have := exB_32 L k s h; omega) (by omega) (by omega) (by omega) (HR2.out.below (BR4.out.trans (hb5.mono BR4.out.size))))
        rw [HXN.out, EO.out k (by have := HN.out; omega)] at VK
        have BR5 := Lib.hid (BR4.out.trans (hb5.mono BR4.out.size))
        generalize rootB (L.take k) = rk at *
        clear RK hb5
        go_wp2_with fail
        refine VK.out.mono ?_
        rintro e W6 ⟨rfl, hb6⟩
        have BR6 := Lib.hid (BR5.out.trans (hb6.mono BR5.out.size))
        clear VK hb6
        go_wp2
        go_roundw
        case rel => first | exact ⟨k + 1, by go_num, by omega, BR6.out⟩ | ((repeat apply Exists.intro); exact ⟨⟨k + 1, by go_num, by omega, BR6.out⟩, rfl⟩)
        case measure => simp [intOf]; omega
    · have h1i : ¬ (k : Int) ≤ (n : Int) := by omega
      have h1d : decide (k ≤ n) = false := decide_eq_false h1
      by_cases hin : 0 ≤ m ∧ m ≤ n
      · obtain ⟨M, rfl⟩ := Int.eq_ofNat_of_zero_le hin.1
        have hMn : M ≤ n := by omega
        have EX := Lib.hid (ExtA wr _ L (SL2.out.below BR.out) (by have := HN.out; omega) LS.out (HR2.out.below BR.out) M (by have := HN.out; omega))
        have hMi : (M : Int) ≤ (n : Int) := by omega
        clear hin
        go_wp2_with fail
        refine EX.out.mono ?_
        rintro e W4 ⟨x, rfl, hx, hb4⟩
        have BF := Lib.hid (B2.out.trans ((BR.out.trans (hb4.mono BR.out.size)).mono B2.out.size))
        clear EX hx hb4
        go_wp2
        go_ret
        exact ⟨rfl, BF.out⟩
      · have EX := Lib.hid (Ext_bad wr _ L (SL2.out.below BR.out) m (by have := HN.out; omega))
        have VK := Lib.hid (VE_any wr rt rt m n _ [] (SL.nil _) (by simp) (by simp) (by omega) (by omega) (by omega) (HR2.out.below BR.out))
        rw [verEB_range hin] at VK
        have BF := Lib.hid (B2.out.trans (BR.out.mono B2.out.size))
        by_cases h0m : 0 ≤ m
        · have h2m : ¬ m ≤ n := fun h => hin ⟨h0m, h⟩
          have h2d : decide (m ≤ (n : Int)) = false := decide_eq_false h2m
          have H2D := Lib.hid h2d
          clear hin
          go_wp2_with fail
          refine EX.out.mono ?_
          rintro e w' ⟨rfl, rfl⟩
          go_wp2_with fail
          refine VK.out.mono ?_
          rintro e W5 ⟨rfl, hb5⟩
          have BF5 := Lib.hid (BF.out.trans (hb5.mono BF.out.size))
          clear hb5
          go_wp2
          go_ret
          exact ⟨rfl, BF5.out⟩
        · have h0d : decide (0 ≤ m) = false := decide_eq_false h0m
          clear hin
          go_wp2_with fail
          refine EX.out.mono ?_
          rintro e w' ⟨rfl, rfl⟩
          go_wp2_with fail
          refine VK.out.mono ?_
          rintro e W5 ⟨rfl, hb5⟩
          have BF5 := Lib.hid (BF.out.trans (hb5.mono BF.out.size))
          clear hb5
          go_wp2
          go_ret
          exact ⟨rfl, BF5.out⟩
end Go.Proofs.YtljgphmdiflphaaDoor
