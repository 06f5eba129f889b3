/- The walk of DiskAllSurvive. -/
import Derived.Test.YtljgphmdiflphaaDiskW
namespace Go.Proofs.Ytljgphmdiflphaa
open Go.RowKit
set_option linter.unusedVariables false

theorem crashed_all (d : DV) : crashed d ((List.range d.pe.length).map fun (i : Nat) => (i : Int)) (-1) = ⟨false, 0, applyW d.du d.pe, applyW d.du d.pe, []⟩ := by
  have h0 : survN ((List.range d.pe.length).map fun (i : Nat) => (i : Int)) d.pe.length = List.range d.pe.length := by
    unfold survN
    rw [List.filter_eq_self]
    intro i hi
    simp only [List.mem_map, decide_eq_true_eq]
    exact ⟨i, hi, rfl⟩
  have h1 : survW d.pe ((List.range d.pe.length).map fun (i : Nat) => (i : Int)) = d.pe := by
    unfold survW
    rw [h0]
    apply List.ext_getElem
    · simp
    · intro i h1 h2
      simp [h2]
  have h2 : tornW d.pe (-1) = d.pe := by
    apply List.ext_getElem
    · simp [tornW]
    · intro i h1 h2
      simp [tornW]
  simp only [crashed, h1, h2]

theorem crashed_none' (d : DV) (torn : Int) : crashed d [] torn = ⟨false, 0, d.du, d.du, []⟩ := by
  have h : survW d.pe [] = [] := by simp [survW, survN]
  simp [crashed, h, tornW, applyW]

/-- A disk with power: what is visible is what is durable with the pending writes applied. -/
structure RD (w wr : World) (bd n k : Nat) (d : DV) (F : Nat → Prop) : Prop where
  dk : DiskF wr bd n d F
  off : d.off = false
  left : d.left = 0
  pe : d.pe.length ≤ k
  vis : d.vi = applyW d.du d.pe
  base : ∀ i, F i → w.heap.size ≤ i
  below : Below w.heap.size w wr
theorem RD.keep {w wr wr' : World} {bd n k : Nat} {d : DV} {F : Nat → Prop} (h : RD w wr bd n k d F) (hB : Below wr.heap.size wr wr') : RD w wr' bd n k d F :=
  ⟨h.dk.upd (Upd.of_below (S := fun _ => False) hB) (fun _ _ f => f), h.off, h.left, h.pe, h.vis, h.base, h.below.trans (hB.mono h.below.size)⟩
theorem RD.move {w wr wr' : World} {bd n k : Nat} {d : DV} {F : Nat → Prop} (h : RD w wr bd n k d F) {d' : DV} {F' : Nat → Prop} {k' : Nat} (hk : DiskF wr' bd n d' F') (hM : Moves F F' wr wr') (ho : d'.off = false) (hl : d'.left = 0) (hp : d'.pe.length ≤ k')
    (hv : d'.vi = applyW d'.du d'.pe) : RD w wr' bd n k' d' F' :=
  ⟨hk, ho, hl, hp, hv, (hM.base h.base h.below.size).1, h.below.trans (hM.base h.base h.below.size).2⟩

theorem IntsAt.of_own {w : World} {base n : Nat} {v : Value} {zs : List Int} (h : w.ownsRow base 3 1 v n (zs.map (Value.int .i64))) : IntsAt w.heap.size w v zs := by
  have hl : zs.length = n := by have := h.1; simpa using this
  rcases h.2 with ⟨rfl, h0⟩ | ⟨g, cap, cur, rfl, hb, hg, hn, hc, hs, htk⟩
  · exact .inl ⟨rfl, List.eq_nil_of_length_eq_zero (by omega)⟩
  · refine .inr ⟨g, 0, cap, by rw [hl], ltOf hg, fun j hj => ?_⟩
    rw [Nat.zero_add, cellOf hg]
    have := congrArg (fun l : List Value => l[j]?) htk
    simp only [Nat.mul_one, List.getElem?_take] at this
    rw [if_pos (by omega)] at this
    simp only [Array.getElem?_toList] at this
    rw [this]
    simp [hj]
theorem own_form {w : World} {base n : Nat} {v : Value} {xs : List Value} (h : w.ownsRow base 3 1 v n xs) : ∃ A c, v = .slice A n c := by
  rcases h.2 with ⟨e, e0⟩ | ⟨g, cap, cur, e, _⟩
  · exact ⟨none, 0, by rw [e, e0]⟩
  · exact ⟨_, cap, e⟩

set_option maxRecDepth 100000 in
set_option maxHeartbeats 3200000 in
theorem allSurvive_walk (size : Int) (a : Option Addr) (len cap : Nat) (zs : List (Int × ByteArray × Bool)) (w : World) (hs0 : -9223372036854775808 ≤ size) (hs1 : size ≤ 9223372036854775807) (hlen : len ≤ cap) (hcap : cap ≤ 9223372036854775807)
    (hz : zs.length = len) (hrow : WRow w w.heap.size a zs) :
    Calls Try.prog 9 #[.int .i64 size, .slice a len cap] w fun e w' => e = .returned (.bool true) ∧ Below w.heap.size w w' := by
  have hp0 := pickZ_lo size 300 (by omega)
  have hp1 := pickZ_hi size 300 (by omega)
  obtain ⟨p, hp⟩ : ∃ p : Nat, pickZ size 300 = p := Int.eq_ofNat_of_zero_le hp0
  have hpn : p < 300 := by omega
  have HP := Lib.hid hp
  have HZ := Lib.hid hz
  have HROW := Lib.hid hrow
  clear hp0 hp1 hp hz hrow
  obtain ⟨n, hn⟩ : ∃ n : Nat, 1 + p = n := ⟨_, rfl⟩
  have hn1 : 1 ≤ n := by omega
  have hn2 : n ≤ 300 := by omega
  have HN := Lib.hid hn
  clear hn
  go_enter Try.func9, Try.ntmps9
  go_wp2_with fail
  refine (sane_any w).mono ?_
  rintro e w1 ⟨rfl, b1⟩
  have B1 := Lib.hid b1
  clear b1
  go_wp2_with fail
  refine (pick_any size 300 w1 (by omega) (by omega) hs0 hs1).mono ?_
  rintro e w' ⟨rfl, rfl⟩
  rw [HP.out]
  go_wp2_with fail
  rw [show (1 + (p : Int)) = (n : Int) from by have := HN.out; omega]
  refine (newF w1 n hn1 (by omega)).mono ?_
  rintro e w2 ⟨bd, rfl, ⟨F, g2, f2⟩, b2⟩
  have G2 := Lib.hid g2
  have F2 := Lib.hid f2
  have B2 := Lib.hid b2
  clear g2 f2 b2
  go_wp2_with fail
  have HR := Lib.hid (show RD w w2 bd n 0 (newD n) F from ⟨G2.out, rfl, rfl, Nat.le_refl _, rfl, fun k f => Nat.le_trans B1.out.size (F2.out k f), B1.out.trans (B2.out.mono B1.out.size)⟩)
  obtain ⟨i0, hi, hz0, hz1, hz2⟩ := info_parts Try.infoInt
  have HI := Lib.hid hi
  have HZ0 := Lib.hid hz0
  have HZ1 := Lib.hid hz1
  have HZ2 := Lib.hid hz2
  clear hi hz0 hz1 hz2
  go_loopw [8] (fun vi wr => ∃ (k : Nat) (d : DV) (F : Nat → Prop), k ≤ len ∧ k ≤ 60 ∧ vi = .int .i64 k ∧ Hid (RD w wr bd n k d F)) (fun vi _ => len - (intOf vi).toNat)
  case atStart => exact ⟨0, newD n, F, by omega, by omega, rfl, HR.out⟩
  case round =>
    obtain ⟨k, d, F', hk, hk60, rfl, hB⟩ := hrel
    by_cases hlt : k < len ∧ k < 60
    · obtain ⟨hlt, hlt60⟩ := hlt
      have hkz : k < zs.length := by rw [HZ.out]; exact hlt
      have hrw := HROW.out.below hB.out.below
      obtain ⟨g, off, ha, hg, c0, c1, c2⟩ := hrw.cell k hkz
      obtain ⟨f0, f1, f2⟩ := hrw.fit k hkz
      subst ha
      generalize zs[k] = z at *
      obtain ⟨x, s, b⟩ := z
      simp only at c0 c1 c2 f0 f1 f2
      clear hrw hkz
      go_wp2_with fail
      refine (fits_any x s b n wr f0 f1 f2 (by omega)).mono ?_
      rintro e w3 ⟨q, rfl, hq, hqn, b3⟩
      have HB3 := Lib.hid (hB.out.keep b3)
      have HQ := Lib.hid hq
      clear hB hq b3 c0 c1 c2
      have hs' : q + (takeB s (n - q)).size ≤ n := by have := takeB_fit s (n - q); omega
      generalize takeB s (n - q) = s' at hs' ⊢
      have HB4 := Lib.hid (HB3.out.keep ((Below.refl _ w3).alloc (Nat.le_refl _) (.cells #[.int .i64 (q : Int), .string s', .bool b] 53)))
      have hBF : ¬ F' w3.heap.size := fun f => absurd (HB3.out.dk.lt f) (by omega)
      have e0 : (w3.alloc (.cells #[.int .i64 (q : Int), .string s', .bool b] 53)).heap[w3.heap.size]? = some (.cells #[.int .i64 (q : Int), .string s', .bool b] 53 (0, 0)) := allocAt _ rfl
      have E4 := Lib.hid e0
      clear e0
      go_wp2_with fail
      refine (writeF HB4.out.dk HB4.out.off q s' hs' (by have := HB4.out.pe; omega)).mono ?_
      rintro e w5 ⟨rfl, F5, d5, m5⟩
      have E5 := Lib.hid (m5.1.at E4.out hBF)
      have HB5 := Lib.hid (HB4.out.move d5 m5 (k' := k + 1) (by simp [writeD, usedOff, HB4.out.left]) (by simp [writeD, usedLeft, HB4.out.left]) (by have := HB4.out.pe; simp [writeD]; omega)
        (by show splice d.vi q s'.data.toList = applyW d.du (d.pe ++ [(q, s')]); rw [applyW_snoc, HB4.out.vis]))
      have x2 : w5.cell? ⟨w3.heap.size, 2, none⟩ = some (.bool b) := cellOf E5.out 2
      clear d5 m5
      cases b with
      | true =>
        go_wp2_with fail
        refine (syncF HB5.out.dk HB5.out.off).mono ?_
        rintro e w6 ⟨rfl, F6, d6, m6⟩
        have HB6 := Lib.hid (HB5.out.move d6 m6 (k' := k + 1) HB5.out.off HB5.out.left (Nat.zero_le _) rfl)
        clear d6 m6
        go_wp2_with fail
        go_roundw
        case rel => exact ⟨k + 1, _, F6, by omega, by omega, by simp, HB6.out⟩
        case measure => simp [intOf]; omega
      | false =>
        go_wp2_with fail
        go_roundw
        case rel => exact ⟨k + 1, _, F5, by omega, by omega, by simp, HB5.out⟩
        case measure => simp [intOf]; omega
    · by_cases hl : k < len
      · have h60 : ¬ (k : Int) < 60 := by omega
        clear hlt
        go_wp2_with fail
        refine (readF_all hB.out.dk hB.out.off).mono ?_
        rintro e w' ⟨rfl, rfl⟩
        rw [hB.out.vis]
        obtain ⟨B, hBz⟩ : ∃ B, wr.heap.size = B := ⟨_, rfl⟩
        have HBz := Lib.hid hBz
        have hown0 := Lib.hid (World.ownsRow_nil wr B 3 1)
        have hbel0 := Lib.hid (Below.refl B wr)
        clear hBz
        go_wp2_with fail
        go_loopw [12, 13] (fun va vi wq => ∃ j : Nat, j ≤ d.pe.length ∧ vi = .int .i64 j ∧ Hid (wq.ownsRow B 3 1 va j ((List.range j).map fun (i : Nat) => Value.int .i64 (i : Int))) ∧ Hid (Below B wr wq)) (fun _ vi _ => d.pe.length - (intOf vi).toNat)
        case atStart => exact ⟨0, by omega, rfl, hown0.out, hbel0.out⟩
        case round =>
          obtain ⟨j, hj, rfl, hown, hBw⟩ := hrel
          have HD := Lib.hid (hB.out.keep (by rw [HBz.out]; exact hBw.out))
          have hBw' : B ≤ wr.heap.size := by rw [← HBz.out]; exact hBw.out.size
          go_wp2_with fail
          refine (pendingF HD.out.dk).mono ?_
          rintro e w' ⟨rfl, rfl⟩
          have hpe := HD.out.pe
          by_cases hjl : j < d.pe.length
          · go_wp2_with (at_builtin; refine wpList_append_lies _ rfl _ _ 37 rfl B 3 i0 (.int .i64 0) 1 8 Try.underlying37 HI.out HZ0.out HZ1.out HZ2.out rfl (by decide) _ _ _ rfl (hown.out.alloc _) ⟨wr.heap.size, 0, none⟩ 1 1 [.int .i64 (j : Int)] rfl rfl (cell_one_new _ _ _) (by simp [Value.oneCell']) (by omega) (by simp only [maxLen]; omega) (by omega) (by simp; omega) (wr.heap.size + 1) (by simp) ?_; intro g' cap' w1 hown' hgrow hat hlt')
            have HO := Lib.hid hown'
            have HW := Lib.hid ((hBw.out.trans (((Below.refl _ wr).alloc (Nat.le_refl _) (.cells #[.int .i64 (j : Int)] 3)).mono hBw')).grown hgrow (by simp; omega) (fun k e => (hown.out.lt _ e).1))
            clear hown' hgrow
            go_wp2_with fail
            go_roundw
            case rel =>
              refine ⟨j + 1, by omega, by simp, ?_, HW.out⟩
              have := HO.out
              rw [List.range_succ, List.map_append]
              exact this
            case measure => simp [intOf]; omega
          · obtain rfl : j = d.pe.length := by omega
            obtain ⟨A, c, hv⟩ := own_form hown.out
            subst hv
            have hI := IntsAt.of_own (zs := (List.range d.pe.length).map fun (i : Nat) => (i : Int)) (by rw [List.map_map]; exact hown.out)
            have HI2 := Lib.hid hI
            clear hI
            go_wp2_with fail
            refine (crashF HD.out.dk _ A d.pe.length c HI2.out (by simp; omega) (by omega) (-1) (by omega) (by omega)).mono ?_
            rintro e w3 ⟨rfl, F3, d3, m3⟩
            rw [crashed_all] at d3
            have HB3 := Lib.hid (HD.out.move d3 m3 (k' := 60) rfl rfl (Nat.zero_le _) rfl)
            clear d3 m3
            go_wp2_with fail
            refine (readF_all HB3.out.dk HB3.out.off).mono ?_
            rintro e w' ⟨rfl, rfl⟩
            go_wp2_with fail
            refine (crashF HB3.out.dk [] none 0 0 (.inl ⟨rfl, rfl⟩) (by simp) (by simp) 0 (by omega) (by omega)).mono ?_
            rintro e w4 ⟨rfl, F4, d4, m4⟩
            rw [crashed_none'] at d4
            have HB4 := Lib.hid (HB3.out.move d4 m4 (k' := 60) rfl rfl (Nat.zero_le _) rfl)
            clear d4 m4
            go_wp2_with fail
            refine (readF_all HB4.out.dk HB4.out.off).mono ?_
            rintro e w' ⟨rfl, rfl⟩
            go_wp2_with fail
            go_ret
            exact ⟨rfl, HB4.out.below⟩
      · clear hlt
        go_wp2_with fail
        refine (readF_all hB.out.dk hB.out.off).mono ?_
        rintro e w' ⟨rfl, rfl⟩
        rw [hB.out.vis]
        obtain ⟨B, hBz⟩ : ∃ B, wr.heap.size = B := ⟨_, rfl⟩
        have HBz := Lib.hid hBz
        have hown0 := Lib.hid (World.ownsRow_nil wr B 3 1)
        have hbel0 := Lib.hid (Below.refl B wr)
        clear hBz
        go_wp2_with fail
        go_loopw [12, 13] (fun va vi wq => ∃ j : Nat, j ≤ d.pe.length ∧ vi = .int .i64 j ∧ Hid (wq.ownsRow B 3 1 va j ((List.range j).map fun (i : Nat) => Value.int .i64 (i : Int))) ∧ Hid (Below B wr wq)) (fun _ vi _ => d.pe.length - (intOf vi).toNat)
        case atStart => exact ⟨0, by omega, rfl, hown0.out, hbel0.out⟩
        case round =>
          obtain ⟨j, hj, rfl, hown, hBw⟩ := hrel
          have HD := Lib.hid (hB.out.keep (by rw [HBz.out]; exact hBw.out))
          have hBw' : B ≤ wr.heap.size := by rw [← HBz.out]; exact hBw.out.size
          go_wp2_with fail
          refine (pendingF HD.out.dk).mono ?_
          rintro e w' ⟨rfl, rfl⟩
          have hpe := HD.out.pe
          by_cases hjl : j < d.pe.length
          · go_wp2_with (at_builtin; refine wpList_append_lies _ rfl _ _ 37 rfl B 3 i0 (.int .i64 0) 1 8 Try.underlying37 HI.out HZ0.out HZ1.out HZ2.out rfl (by decide) _ _ _ rfl (hown.out.alloc _) ⟨wr.heap.size, 0, none⟩ 1 1 [.int .i64 (j : Int)] rfl rfl (cell_one_new _ _ _) (by simp [Value.oneCell']) (by omega) (by simp only [maxLen]; omega) (by omega) (by simp; omega) (wr.heap.size + 1) (by simp) ?_; intro g' cap' w1 hown' hgrow hat hlt')
            have HO := Lib.hid hown'
            have HW := Lib.hid ((hBw.out.trans (((Below.refl _ wr).alloc (Nat.le_refl _) (.cells #[.int .i64 (j : Int)] 3)).mono hBw')).grown hgrow (by simp; omega) (fun k e => (hown.out.lt _ e).1))
            clear hown' hgrow
            go_wp2_with fail
            go_roundw
            case rel =>
              refine ⟨j + 1, by omega, by simp, ?_, HW.out⟩
              have := HO.out
              rw [List.range_succ, List.map_append]
              exact this
            case measure => simp [intOf]; omega
          · obtain rfl : j = d.pe.length := by omega
            obtain ⟨A, c, hv⟩ := own_form hown.out
            subst hv
            have hI := IntsAt.of_own (zs := (List.range d.pe.length).map fun (i : Nat) => (i : Int)) (by rw [List.map_map]; exact hown.out)
            have HI2 := Lib.hid hI
            clear hI
            go_wp2_with fail
            refine (crashF HD.out.dk _ A d.pe.length c HI2.out (by simp; omega) (by omega) (-1) (by omega) (by omega)).mono ?_
            rintro e w3 ⟨rfl, F3, d3, m3⟩
            rw [crashed_all] at d3
            have HB3 := Lib.hid (HD.out.move d3 m3 (k' := 60) rfl rfl (Nat.zero_le _) rfl)
            clear d3 m3
            go_wp2_with fail
            refine (readF_all HB3.out.dk HB3.out.off).mono ?_
            rintro e w' ⟨rfl, rfl⟩
            go_wp2_with fail
            refine (crashF HB3.out.dk [] none 0 0 (.inl ⟨rfl, rfl⟩) (by simp) (by simp) 0 (by omega) (by omega)).mono ?_
            rintro e w4 ⟨rfl, F4, d4, m4⟩
            rw [crashed_none'] at d4
            have HB4 := Lib.hid (HB3.out.move d4 m4 (k' := 60) rfl rfl (Nat.zero_le _) rfl)
            clear d4 m4
            go_wp2_with fail
            refine (readF_all HB4.out.dk HB4.out.off).mono ?_
            rintro e w' ⟨rfl, rfl⟩
            go_wp2_with fail
            go_ret
            exact ⟨rfl, HB4.out.below⟩
end Go.Proofs.Ytljgphmdiflphaa
