/- The walk of DiskSynced. -/
import Derived.Test.YtljgphmdiflphaaDiskW
namespace Go.Proofs.Ytljgphmdiflphaa
open Go.RowKit
set_option linter.unusedVariables false

theorem crashed_none (d : DV) (torn : Int) : crashed d [] torn = ⟨false, 0, d.du, d.du, []⟩ := by
  have h : survW d.pe [] = [] := by simp [survW, survN]
  simp [crashed, h, tornW, applyW]

set_option maxRecDepth 100000 in
set_option maxHeartbeats 3200000 in
theorem synced_walk (size torn : Int) (a : Option Addr) (len cap : Nat) (zs : List (Int × ByteArray × Bool)) (w : World) (hs0 : -9223372036854775808 ≤ size) (hs1 : size ≤ 9223372036854775807) (hlen : len ≤ cap) (hcap : cap ≤ 9223372036854775807)
    (hz : zs.length = len) (hrow : WRow w w.heap.size a zs) (ht0 : -9223372036854775808 ≤ torn) (ht1 : torn ≤ 9223372036854775807) :
    Calls Try.prog 7 #[.int .i64 size, .slice a len cap, .int .i64 torn] w fun e w' => e = .returned (.bool true) ∧ Below w.heap.size w w' := by
  have hp0 := pickZ_lo size 300 (by omega)
  have hp1 := pickZ_hi size 300 (by omega)
  obtain ⟨p, hp⟩ : ∃ p : Nat, pickZ size 300 = p := Int.eq_ofNat_of_zero_le hp0
  have hpn : p < 300 := by omega
  have HP := Lib.hid hp
  have HZ := Lib.hid hz
  have HROW := Lib.hid hrow
  clear hp0 hp1 hp hz hrow
  obtain ⟨n, hn⟩ : ∃ n : Nat, 1 + p = n := ⟨_, rfl⟩
  have hn1 : 1 ≤ n := by omega
  have hn2 : n ≤ 300 := by omega
  have HN := Lib.hid hn
  clear hn
  have hmk := mkBytes n (by omega)
  go_enter Try.func7, Try.ntmps7
  go_wp2_with fail
  refine (sane_any w).mono ?_
  rintro e w1 ⟨rfl, b1⟩
  have B1 := Lib.hid b1
  clear b1
  go_wp2_with fail
  refine (pick_any size 300 w1 (by omega) (by omega) hs0 hs1).mono ?_
  rintro e w' ⟨rfl, rfl⟩
  rw [HP.out]
  go_wp2_with fail
  rw [show (1 + (p : Int)) = (n : Int) from by have := HN.out; omega]
  refine (newF w1 n hn1 (by omega)).mono ?_
  rintro e w2 ⟨bd, rfl, ⟨F, g2, f2⟩, b2⟩
  have G2 := Lib.hid g2
  have F2 := Lib.hid f2
  have B2 := Lib.hid b2
  clear g2 f2 b2
  have hR := RB.start G2.out F2.out B1.out B2.out
  have hc := hR.conv (by omega)
  have HR := Lib.hid hR
  clear hR
  go_wp2_with fail
  clear hmk hc
  go_loopw [11, 12] (fun vs vi wr => ∃ (k : Nat) (d : DV) (F : Nat → Prop), k ≤ len ∧ k ≤ 60 ∧ vi = .int .i64 k ∧ vs = .string ⟨d.du.toArray⟩ ∧ Hid (RB w wr bd n w2.heap.size k d d.vi F)) (fun _ vi _ => len - (intOf vi).toNat)
  case atStart => exact ⟨0, newD n, F, by omega, by omega, rfl, rfl, HR.out⟩
  case round =>
    obtain ⟨k, d, F', hk, hk60, rfl, rfl, hB⟩ := hrel
    by_cases hlt : k < len ∧ k < 60
    · obtain ⟨hlt, hlt60⟩ := hlt
      have hkz : k < zs.length := by rw [HZ.out]; exact hlt
      have hrw := HROW.out.below hB.out.below
      obtain ⟨g, off, ha, hg, c0, c1, c2⟩ := hrw.cell k hkz
      obtain ⟨f0, f1, f2⟩ := hrw.fit k hkz
      subst ha
      generalize zs[k] = z at *
      obtain ⟨x, s, b⟩ := z
      simp only at c0 c1 c2 f0 f1 f2
      clear hrw hkz
      go_wp2_with fail
      refine (fits_any x s b n wr f0 f1 f2 (by omega)).mono ?_
      rintro e w3 ⟨q, rfl, hq, hqn, b3⟩
      have HB3 := Lib.hid (hB.out.keep b3)
      have HQ := Lib.hid hq
      clear hB hq b3 c0 c1 c2
      have hs' : q + (takeB s (n - q)).size ≤ n := by have := takeB_fit s (n - q); omega
      generalize takeB s (n - q) = s' at hs' ⊢
      go_wp2_with fail
      have HB3' := Lib.hid (HB3.out.alloc (.cells #[.int .i64 (q : Int), .string s', .bool b] 53))
      have hBg : w2.heap.size < w3.heap.size := ltOf HB3.out.row
      have hBF : ¬ F' w3.heap.size := fun f => absurd (HB3.out.dk.lt f) (by omega)
      have e0 : (w3.alloc (.cells #[.int .i64 (q : Int), .string s', .bool b] 53)).heap[w3.heap.size]? = some (.cells #[.int .i64 (q : Int), .string s', .bool b] 53 (0, 0)) := allocAt _ rfl
      have E0 := Lib.hid e0
      clear e0
      refine (put_any w2.heap.size q n s' d.vi _ HB3'.out.row HB3'.out.len hs' (by omega)).mono ?_
      rintro e w4 ⟨rfl, r4, u4⟩
      have HB4 := Lib.hid (HB3'.out.put r4 (by rw [length_splice]; exact HB3.out.len; rw [← Lib.size_eq, HB3.out.len]; exact hs') u4)
      have E4 := Lib.hid (u4.at E0.out (fun e => by have e' : w3.heap.size = w2.heap.size := e; omega))
      have c0 : w4.cell? ⟨w3.heap.size, 0, none⟩ = some (.int .i64 (q : Int)) := cellOf E4.out 0
      have c1 : w4.cell? ⟨w3.heap.size, 1, none⟩ = some (.string s') := cellOf E4.out 1
      have c2 : w4.cell? ⟨w3.heap.size, 2, none⟩ = some (.bool b) := cellOf E4.out 2
      clear r4 u4
      go_wp2_with fail
      refine (writeF HB4.out.dk HB4.out.off q s' hs' (by have := HB4.out.pe; omega)).mono ?_
      rintro e w5 ⟨rfl, F5, d5, m5⟩
      have E5 := Lib.hid (m5.1.at E4.out hBF)
      have HB5 := Lib.hid (HB4.out.move d5 m5 (k' := k + 1) (by simp [writeD, usedOff, HB4.out.left]) (by simp [writeD, usedLeft, HB4.out.left]) (by have := HB4.out.pe; simp [writeD]; omega))
      have x2 : w5.cell? ⟨w3.heap.size, 2, none⟩ = some (.bool b) := cellOf E5.out 2
      have HB5b := Lib.hid m5.2
      clear d5 m5 c0 c1 c2
      cases b with
      | true =>
        go_wp2_with fail
        refine (syncF HB5.out.dk HB5.out.off).mono ?_
        rintro e w6 ⟨rfl, F6, d6, m6⟩
        have HB6 := Lib.hid (HB5.out.move d6 m6 (k' := k + 1) HB5.out.off HB5.out.left (Nat.zero_le _))
        have E6 := Lib.hid (m6.1.at E5.out (by
          intro f
          rcases HB5b.out _ f with f | f
          · exact hBF f
          · exact absurd f (by have := ltOf E4.out; omega)))
        have y2 : w6.cell? ⟨w3.heap.size, 2, none⟩ = some (.bool true) := cellOf E6.out 2
        have hc := HB6.out.conv (by omega)
        clear d6 m6
        go_wp2_with fail
        go_roundw
        case rel => exact ⟨k + 1, syncD (writeD d q s'), F6, by omega, by omega, by simp, rfl, HB6.out⟩
        case measure => simp [intOf]; omega
      | false =>
        go_wp2_with fail
        go_roundw
        case rel => exact ⟨k + 1, writeD d q s', F5, by omega, by omega, by simp, rfl, HB5.out⟩
        case measure => simp [intOf]; omega
    · have ex : ∀ Wv : World, IntsAt Wv.heap.size Wv (.slice none 0 0) [] := fun _ => .inl ⟨rfl, rfl⟩
      have EX := Lib.hid ex
      clear ex
      by_cases hl : k < len
      · have h60 : ¬ (k : Int) < 60 := by omega
        clear hlt
        go_wp2_with fail
        refine (crashF hB.out.dk [] none 0 0 (EX.out _) (by simp) (by have := hB.out.pe; omega) torn ht0 ht1).mono ?_
        rintro e w3 ⟨rfl, F3, d3, m3⟩
        rw [crashed_none] at d3
        have HB3 := Lib.hid (hB.out.move d3 m3 (k' := k) rfl rfl (Nat.zero_le _))
        clear d3 m3
        go_wp2_with fail
        refine (readF_all HB3.out.dk HB3.out.off).mono ?_
        rintro e w' ⟨rfl, rfl⟩
        go_wp2_with fail
        refine (pendingF HB3.out.dk).mono ?_
        rintro e w' ⟨rfl, rfl⟩
        go_wp2_with fail
        go_ret
        exact ⟨rfl, HB3.out.below⟩
      · clear hlt
        go_wp2_with fail
        refine (crashF hB.out.dk [] none 0 0 (EX.out _) (by simp) (by have := hB.out.pe; omega) torn ht0 ht1).mono ?_
        rintro e w3 ⟨rfl, F3, d3, m3⟩
        rw [crashed_none] at d3
        have HB3 := Lib.hid (hB.out.move d3 m3 (k' := k) rfl rfl (Nat.zero_le _))
        clear d3 m3
        go_wp2_with fail
        refine (readF_all HB3.out.dk HB3.out.off).mono ?_
        rintro e w' ⟨rfl, rfl⟩
        go_wp2_with fail
        refine (pendingF HB3.out.dk).mono ?_
        rintro e w' ⟨rfl, rfl⟩
        go_wp2_with fail
        go_ret
        exact ⟨rfl, HB3.out.below⟩
end Go.Proofs.Ytljgphmdiflphaa
