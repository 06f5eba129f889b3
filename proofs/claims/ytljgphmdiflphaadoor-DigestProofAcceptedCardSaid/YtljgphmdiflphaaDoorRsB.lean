/- The reference's SHA-256: the bytes that are added to a string. -/
import Derived.Test.YtljgphmdiflphaaDoorRsA
namespace Go.Proofs.YtljgphmdiflphaaDoor
open Go.RowKit
set_option linter.unusedVariables false

theorem news_one {w : World} {x y : Value} {t : TypeId} (h : x = y) : ∀ j u, [y][j]? = some u → (w.alloc (.cells #[x] t)).cell? ((⟨w.heap.size, 0, none⟩ : Addr).add j) = some u := by subst h; exact cell_one_new _ _ _
theorem nats_take (s : ByteArray) (k : Nat) (h : k < s.size) : (Sha.nats s.data.toList).take (k + 1) = (Sha.nats s.data.toList).take k ++ [s[k].toNat] := by
  unfold Sha.nats
  rw [← List.map_take, ← List.map_take, List.take_succ_eq_append_getElem (by simpa using h), List.map_append]; rfl
theorem nats_len (s : ByteArray) : (Sha.nats s.data.toList).length = s.size := by rw [Sha.nats, List.length_map]; rfl

/-- A row of bytes of the call's own. -/
structure OB (w : World) (l : List Nat) (n : Nat) (v : Value) (wr : World) : Prop where
  row : wr.ownsRow w.heap.size 5 1 v n (nv l)
  below : Below w.heap.size w wr
theorem OB.push {w wr w' : World} {l l' : List Nat} {n n' : Nat} {v v' : Value} (h : OB w l n v wr) (o : Obj) (xs : List Nat) (hr : w'.ownsRow w.heap.size 5 1 v' n' (nv l ++ nv xs)) (hl : l' = l ++ xs) (hg : (wr.alloc o).grownBy w' v.ownBlock) : OB w l' n' v' w' := by
  subst hl
  exact ⟨by rw [show nv (l ++ xs) = nv l ++ nv xs by simp [nv]]; exact hr, (h.below.alloc h.below.size o).grown hg (by have := h.below.size; simp; omega) (fun k e => (h.row.lt k e).1)⟩
theorem OB.form {w wr : World} {l : List Nat} {n : Nat} {v : Value} (h : OB w l n v wr) (hn : 0 < n) : ∃ g c, v = .slice (some ⟨g, 0, none⟩) n c ∧ n ≤ c := by
  rcases h.row.2 with ⟨_, e⟩ | ⟨g, c, cur, e, _, _, hc, _⟩
  · omega
  · exact ⟨g, c, e, hc⟩

set_option maxRecDepth 100000 in
set_option maxHeartbeats 4000000 in
theorem extended_any (s : ByteArray) (hs : s.size ≤ 1000000) (w : World) :
    Calls Tryd.prog 67 #[.string s] w fun e w' => ∃ v, e = .returned v ∧ OB w (Sha.pad (Sha.nats s.data.toList)) (Sha.pad (Sha.nats s.data.toList)).length v w' := by
  obtain ⟨i0, hi, hz0, hz1, hz2⟩ := info_parts Tryd.infoByte'
  have HN0 := Lib.hid (nats_len s)
  obtain ⟨N, hN⟩ : ∃ N, Sha.nats s.data.toList = N := ⟨_, rfl⟩
  have HN := Lib.hid hN
  rw [hN] at HN0 ⊢
  clear hN
  go_enter Tryd.func67, Tryd.ntmps67
  go_wp2
  go_loopw [3, 4] (fun bv iv wr => ∃ k : Nat, iv = .int .i64 k ∧ k ≤ s.size ∧ OB w (N.take k) k bv wr) (fun _ iv _ => s.size - (intOf iv).toNat)
  case atStart => exact ⟨0, rfl, Nat.zero_le _, World.ownsRow_nil _ _ _ _, Below.refl _ _⟩
  case round =>
    obtain ⟨k, rfl, hk, hO⟩ := hrel
    have HO := Lib.hid hO
    clear hO
    by_cases h1 : k < s.size
    · have hlt : (k : Int) < (s.size : Int) := by omega
      have NT := Lib.hid (by have := nats_take s k h1; rw [HN.out] at this; exact this)
      go_wp2_with (at_builtin; refine wpList_append_own _ rfl (.tmp 12) (.tmp 16) 45 rfl w.heap.size 5 i0 _ 1 1 Tryd.underlying45 hi hz0 hz1 hz2 rfl (by decide) u3 k _ rfl (HO.out.row.alloc _) ⟨wr.heap.size, 0, none⟩ 1 1 [.int .u8 (s[k].toNat : Nat)] rfl rfl (news_one (by simp)) (by simp [Value.oneCell']) (by simp only [maxLen]; omega) (by omega) (by have := HO.out.below.size; simp; omega) ?_; intro v2 W2 hown hgr _; have O2 := Lib.hid hown; have G2 := Lib.hid hgr; clear hown hgr)
      go_roundw
      case rel => first | exact ⟨k + 1, by go_num, by omega, HO.out.push _ [s[k].toNat] O2.out NT.out G2.out⟩ | ((repeat apply Exists.intro); exact ⟨⟨k + 1, by go_num, by omega, HO.out.push _ [s[k].toNat] O2.out NT.out G2.out⟩, rfl⟩)
      case measure => simp [intOf]; omega
    · obtain rfl : k = s.size := by omega
      have P0 : Hid (OB w N s.size u3 wr) := Lib.hid (by have := HO.out; rwa [List.take_of_length_le (by rw [HN0.out]; exact Nat.le_refl _)] at this)
      clear HO
      go_wp2_with (at_builtin; refine wpList_append_own _ rfl (.tmp 18) (.tmp 19) 45 rfl w.heap.size 5 i0 _ 1 1 Tryd.underlying45 hi hz0 hz1 hz2 rfl (by decide) u3 s.size _ rfl (P0.out.row.alloc _) ⟨wr.heap.size, 0, none⟩ 1 1 [.int .u8 ((128 : Nat) : Int)] rfl rfl (news_one rfl) (by simp [Value.oneCell']) (by simp only [maxLen]; omega) (by omega) (by have := P0.out.below.size; simp; omega) ?_; intro v2 W2 hown hgr _; have O2 := Lib.hid hown; have G2 := Lib.hid hgr; clear hown hgr)
      have P1 : Hid (OB w (N ++ 128 :: List.replicate 0 0) (s.size + 1 + 0) v2 W2) := Lib.hid (P0.out.push _ [128] O2.out rfl G2.out)
      clear P0 O2 G2
      go_loopw [3] (fun v wr => ∃ k : Nat, k ≤ Sha.zeros s.size ∧ OB w (N ++ 128 :: List.replicate k 0) (s.size + 1 + k) v wr) (fun v _ => s.size + 1 + Sha.zeros s.size - vlen v)
      case atStart => exact ⟨0, by omega, P1.out⟩
      case round =>
        clear P1
        obtain ⟨k, hk, hP⟩ := hrel
        obtain ⟨g, cap, rfl, hcap⟩ := hP.form (by omega)
        have HP := Lib.hid hP
        clear hP
        obtain ⟨p, hp⟩ : ∃ p, s.size + 1 + k = p := ⟨_, rfl⟩
        rw [hp] at HP hcap ⊢
        have hz : Sha.zeros s.size < 64 := Nat.mod_lt _ (by decide)
        have hpb : p ≤ 2000000 := by omega
        have hp0 : 1 ≤ p := by omega
        by_cases hlt : k < Sha.zeros s.size
        · have hm : ((p : Int) % 64 == 56) = false := by
            unfold Sha.zeros at hlt hk
            have : ¬ (p : Int) % 64 = 56 := by omega
            simpa using this
          have Hp := Lib.hid hp
          clear hp
          go_wp2_with (at_builtin; refine wpList_append_own _ rfl (.tmp 25) (.tmp 26) 45 rfl w.heap.size 5 i0 _ 1 1 Tryd.underlying45 hi hz0 hz1 hz2 rfl (by decide) _ p _ rfl (HP.out.row.alloc _) ⟨wr.heap.size, 0, none⟩ 1 1 [.int .u8 ((0 : Nat) : Int)] rfl rfl (news_one rfl) (by simp [Value.oneCell']) (by simp only [maxLen]; omega) (by omega) (by have := HP.out.below.size; simp; omega) ?_; intro v2 W2 hown hgr _; have O2 := Lib.hid hown; have G2 := Lib.hid hgr; clear hown hgr)
          go_roundw
          case rel =>
            have R : OB w (N ++ 128 :: List.replicate (k + 1) 0) (s.size + 1 + (k + 1)) v2 W2 := by
              rw [show s.size + 1 + (k + 1) = p + 1 by have := Hp.out; omega]
              exact HP.out.push _ [0] O2.out (by rw [List.replicate_succ', ← List.cons_append, ← List.append_assoc]) G2.out
            first | exact ⟨k + 1, by omega, R⟩ | ((repeat apply Exists.intro); exact ⟨⟨k + 1, by omega, R⟩, rfl⟩)
          case measure =>
            have R : OB w (N ++ 128 :: List.replicate (k + 1) 0) (p + 1) v2 W2 := HP.out.push _ [0] O2.out (by rw [List.replicate_succ', ← List.cons_append, ← List.append_assoc]) G2.out
            obtain ⟨g2, cap2, hv2, _⟩ := R.form (by omega)
            have := Hp.out
            subst hv2
            simp only [vlen]
            omega
        · obtain rfl : k = Sha.zeros s.size := by omega
          have hm : ((p : Int) % 64 == 56) = true := by
            unfold Sha.zeros at hp
            have : (p : Int) % 64 = 56 := by omega
            simpa using this
          have hm2 : ((p : Int) % 64 != 56) = false := by simpa using hm
          have Hp := Lib.hid hp
          clear hp
          go_wp2
          have P1 : Hid (OB w (N ++ 128 :: List.replicate (Sha.zeros s.size) 0 ++ (Sha.be8 (8 * s.size)).take 0) (p + 0) (.slice (some ⟨g, 0, none⟩) p cap) wr) := Lib.hid (by simpa using HP.out)
          have HNP := Lib.hid (show Sha.pad N = N ++ 128 :: List.replicate (Sha.zeros s.size) 0 ++ Sha.be8 (8 * s.size) by rw [Sha.pad, HN0.out]; simp)
          have HPL := Lib.hid (show (Sha.pad N).length = p + 8 by rw [Sha.pad_length, HN0.out]; have := Hp.out; unfold Sha.zeros at this; omega)
          clear HP hm hm2
          generalize N ++ 128 :: List.replicate (Sha.zeros s.size) 0 = L0 at *
          obtain ⟨wo, rfl⟩ : ∃ wo : World, wo = wr := ⟨_, rfl⟩
          go_loopw [3, 5] (fun v i wr => ∃ k : Nat, k ≤ 8 ∧ i = .int .i64 (7 - (k : Int)) ∧ OB w (L0 ++ (Sha.be8 (8 * s.size)).take k) (p + k) v wr) (fun _ i _ => (intOf i + 1).toNat)
          case atStart => exact ⟨0, by omega, rfl, P1.out⟩
          case round =>
            clear P1
            obtain ⟨k, hk, rfl, hP⟩ := hrel
            obtain ⟨g, cap, rfl, hcap⟩ := hP.form (by omega)
            have HP := Lib.hid hP
            clear hP
            by_cases hlt : k < 8
            · have q0 : 0 ≤ 7 - (k : Int) := by omega
              have q1 : (k : Int) ≤ 7 := by omega
              have q2 : 0 ≤ 8 * (7 - (k : Int)) := by omega
              have q3 : (8 * (7 - (k : Int))).toNat = 56 - 8 * k := by omega
              have q4 : min (56 - 8 * k) 64 = 56 - 8 * k := by omega
              have hsz : (s.size : Int) ≤ 1000000 := by omega
              go_wp2_with (at_builtin; refine wpList_append_own _ rfl (.tmp 32) (.tmp 40) 45 rfl w.heap.size 5 i0 _ 1 1 Tryd.underlying45 hi hz0 hz1 hz2 rfl (by decide) _ (p + k) _ rfl (HP.out.row.alloc _) ⟨wr.heap.size, 0, none⟩ 1 1 [.int .u8 ((8 * s.size / 2 ^ (56 - 8 * k) % 256 : Nat) : Int)] rfl rfl (news_one (by simp)) (by simp [Value.oneCell']) (by simp only [maxLen]; omega) (by omega) (by have := HP.out.below.size; simp; omega) ?_; intro v2 W2 hown hgr _; have O2 := Lib.hid hown; have G2 := Lib.hid hgr; clear hown hgr)
              go_roundw
              case rel =>
                have R : OB w (L0 ++ (Sha.be8 (8 * s.size)).take (k + 1)) (p + (k + 1)) v2 W2 := HP.out.push _ [8 * s.size / 2 ^ (56 - 8 * k) % 256] O2.out (by rw [be8_take _ k hlt, ← List.append_assoc]) G2.out
                first | exact ⟨k + 1, by omega, by go_num, R⟩ | ((repeat apply Exists.intro); exact ⟨⟨k + 1, by omega, by go_num, R⟩, rfl⟩)
              case measure => simp [intOf]; omega
            · obtain rfl : k = 8 := by omega
              rw [show (7 : Int) - ((8 : Nat) : Int) = -1 from rfl]
              go_wp2
              go_ret
              refine ⟨_, rfl, ?_⟩
              have := HP.out
              rw [List.take_of_length_le (by simp [Sha.be8]), ← HNP.out, ← HPL.out] at this
              rw [← HPL.out]
              exact this
end Go.Proofs.YtljgphmdiflphaaDoor
