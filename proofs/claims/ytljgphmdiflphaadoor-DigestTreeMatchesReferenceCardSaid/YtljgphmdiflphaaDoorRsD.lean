/- The reference's SHA-256: Sum, Leaf, Node, Chain. -/
import Derived.Test.YtljgphmdiflphaaDoorRsC
import Derived.Test.YtljgphmdiflphaaDoorBindP
namespace Go.Proofs.YtljgphmdiflphaaDoor
open Go.RowKit
set_option linter.unusedVariables false

theorem NL.blk {w wr : World} {n : Nat} {v : Value} {l : List Nat} (h : OWd w l n v wr) (hl : l.length = n) (h0 : 0 < n) : NL wr v l := NL.own h.row hl h0
theorem OB.cells {w wr : World} {l : List Nat} {n : Nat} {v : Value} (h : OB w l n v wr) (hl : l.length = n) (h0 : 0 < n) : ∃ g c, v = .slice (some ⟨g, 0, none⟩) n c ∧ n ≤ c ∧ g < wr.heap.size ∧ ∀ j, j < n → wr.cell? ⟨g, j, none⟩ = some (.int .u8 (l.getD j 0 : Nat)) := by
  rcases h.row.2 with ⟨_, e⟩ | ⟨g, c, cur, e, hb, hg, hc, hm, _⟩
  · omega
  · subst e
    refine ⟨g, c, rfl, hc, ltOf hg, fun j hj => ?_⟩
    have := h.row.cells (g := g) rfl j (.int .u8 (l.getD j 0 : Nat)) (by simp [nv, List.getD_eq_getElem?_getD, List.getElem?_eq_getElem (show j < l.length by omega)])
    have ha : (⟨g, 0, none⟩ : Addr).add j = ⟨g, j, none⟩ := by unfold Addr.add; split <;> simp_all
    rwa [ha] at this
theorem OB.conv {w wr : World} {F : List Nat} {n : Nat} {v : Value} (h : OB w F n v wr) (hl : F.length = n) (h0 : 0 < n) (hF : Sha.bytes F) :
    (convert 45 9 v).run Tryd.prog wr = .ok (.string ⟨(F.map UInt8.ofNat).toArray⟩) wr := by
  obtain ⟨g, c, rfl, _, _, hc⟩ := h.cells hl h0
  have hr := run_convert_bytes_arg (P := Tryd.prog) wr 45 5 Tryd.underlying45 Tryd.underlying5 g 0 n c (F.map fun (x : Nat) => (x : Int)) (by simpa using hl) (fun i hi => by
    rw [Nat.zero_add, hc i hi]
    simp [List.getD_eq_getElem?_getD, List.getElem?_eq_getElem (show i < F.length by omega)]) 9 Tryd.underlying9
  rw [hr]
  simp [strOfNums, Function.comp_def]
theorem be4_int (x : Nat) (hx : x < 4294967296) : [Value.int .u8 ((x : Int) / 16777216 % 256), .int .u8 ((x : Int) / 65536 % 256), .int .u8 ((x : Int) / 256 % 256), .int .u8 ((x : Int) % 256)] = nv (Sha.be4 x) := by
  simp [nv, Sha.be4]
theorem flat_take (H : List Nat) (k : Nat) (h : k < H.length) : (H.take (k + 1)).flatMap Sha.be4 = (H.take k).flatMap Sha.be4 ++ Sha.be4 H[k] := by
  rw [List.take_succ_eq_append_getElem h, List.flatMap_append, List.flatMap_singleton]
theorem news_many {w : World} {B : Nat} {cs : Array Value} {xs : List Value} {t : TypeId} {fr : Nat × Nat} (hb : w.heap[B]? = some (.cells cs t fr)) (h : cs.toList = xs) : ∀ j u, xs[j]? = some u → w.cell? ((⟨B, 0, none⟩ : Addr).add j) = some u := by
  subst h; exact World.news_of_block hb

set_option maxRecDepth 100000 in
set_option maxHeartbeats 8000000 in
theorem RSum_any (s : ByteArray) (hs : s.size ≤ 1000000) (w : World) :
    Calls Tryd.prog 32 #[.string s] w fun e w' => e = .returned (.string (sumB s)) ∧ Below w.heap.size w w' := by
  obtain ⟨i0, hi, hz0, hz1, hz2⟩ := info_parts Tryd.infoByte'
  have HN := Lib.hid (nats_len s)
  have HNB := Lib.hid (Sha.pad_bytes _ (Sha.nats_bytes s.data.toList))
  obtain ⟨W0, hW0⟩ : ∃ W0, w.alloc (.cells (wv Sha.H0).toArray 82) = W0 := ⟨_, rfl⟩
  have N0 : NL W0 (.slice (some ⟨w.heap.size, 0, none⟩) 8 8) Sha.H0 := by rw [← hW0]; exact NL.lit w Sha.H0 82
  have B0 : Below w.heap.size w W0 := by rw [← hW0]; exact (Below.refl _ w).alloc (Nat.le_refl _) _
  have HN0 := Lib.hid N0
  have HB0 := Lib.hid B0
  have HW0 := Lib.hid hW0
  have EX := Lib.hid (extended_any s hs W0)
  have HS : Hid (∀ h, h = Sha.run ((s.size + 72) / 64) Sha.H0 (Sha.pad (Sha.nats s.data.toList)) → (⟨((h.flatMap Sha.be4).map UInt8.ofNat).toArray⟩ : ByteArray) = sumB s) := Lib.hid (fun h e => by
    rw [e]; unfold sumB Sha.sum Sha.sumN; rw [HN.out])
  clear N0 B0 hW0
  go_enter Tryd.func32, Tryd.ntmps32
  go_wp2_with fail
  generalize hWx : World.alloc w _ = Wx
  obtain rfl : W0 = Wx := HW0.out.symm.trans hWx
  clear hWx
  refine EX.out.mono ?_
  rintro e W1 ⟨bv, rfl, hO⟩
  obtain ⟨N, hN⟩ : ∃ N, Sha.pad (Sha.nats s.data.toList) = N := ⟨_, rfl⟩
  have hNl : N.length = 64 * ((s.size + 72) / 64) := by rw [← hN, Sha.pad_length, HN.out]; omega
  rw [hN] at hO HS HNB
  obtain ⟨m, hm⟩ : ∃ m, (s.size + 72) / 64 = m := ⟨_, rfl⟩
  rw [hm] at hNl HS
  have hm1 : 1 ≤ m := by omega
  have hmb : m ≤ 1000000 := by omega
  obtain ⟨gb, cb, rfl, hcb, hgb, hcs⟩ := hO.cells rfl (by omega)
  have HB1 := Lib.hid (HB0.out.trans (hO.below.mono HB0.out.size))
  have HN1 := Lib.hid (HN0.out.below hO.below)
  have HNL := Lib.hid hNl
  rw [hNl] at hcb hcs ⊢
  have HCS := Lib.hid hcs
  clear EX hO HN0 HB0 HW0 hN hNl hm hcs HN
  go_wp2
  go_loopw [3, 5] (fun hv i wr => ∃ k : Nat, k ≤ m ∧ i = .int .i64 (64 * (k : Int)) ∧ NL wr hv (Sha.run k Sha.H0 N) ∧ Below W1.heap.size W1 wr) (fun _ i _ => 64 * m - (intOf i).toNat)
  case atStart => exact ⟨0, by omega, rfl, HN1.out, Below.refl _ _⟩
  case round =>
    clear HN1
    obtain ⟨k, hk, rfl, hNk, hBk⟩ := hrel
    have HNk := Lib.hid hNk
    have HBk := Lib.hid hBk
    clear hNk hBk
    by_cases hlt : k < m
    · have RS := Lib.hid (Sha.run_succ k Sha.H0 N)
      have hl8 := Sha.run_length k Sha.H0 N rfl
      have hsm := Sha.run_small k Sha.H0 N Sha.H0_small
      have hbs : Sha.bytes ((N.drop (64 * k)).take 64) := fun x hx => HNB.out x (List.mem_of_mem_drop (List.mem_of_mem_take hx))
      have hbl : ((N.drop (64 * k)).take 64).length = 64 := by rw [List.length_take, List.length_drop, HNL.out]; omega
      have hba : BytesAt wr gb (64 * k) ((N.drop (64 * k)).take 64) := fun i hi => by
        rw [hbl] at hi
        rw [(HBk.out.cell (p := ⟨gb, 64 * k + i, none⟩) hgb), HCS.out (64 * k + i) (by omega)]
        rw [List.getD_eq_getElem?_getD, List.getD_eq_getElem?_getD, List.getElem?_take, if_pos hi, List.getElem?_drop]
      have BK := Lib.hid (block_any _ _ hl8 hsm hbs hbl u3 wr HNk.out gb (64 * k) (cb - 64 * k) (Nat.lt_of_lt_of_le hgb HBk.out.size) hba)
      have b0 : 64 * (k : Int) ≤ 64 * (k : Int) + 64 := by omega
      have b1 : 64 * (k : Int) + 64 ≤ 64 * (m : Int) := by omega
      have b2 : 64 * (k : Int) + 64 ≤ (cb : Int) := by omega
      clear hbs hba hbl hsm
      go_wp2_with fail
      refine BK.out.mono ?_
      rintro e W2 ⟨v2, rfl, hO⟩
      have HN2 : Hid (NL W2 v2 (Sha.run (k + 1) Sha.H0 N)) := Lib.hid (by
        rw [RS.out]
        exact NL.own hO.row (Sha.blk_length _ _ hl8) (by decide))
      have HB2 := Lib.hid (HBk.out.trans (hO.below.mono HBk.out.size))
      clear BK hO RS hl8
      go_wp2
      go_roundw
      case rel => first | exact ⟨k + 1, by omega, by go_num, HN2.out, HB2.out⟩ | ((repeat apply Exists.intro); exact ⟨⟨k + 1, by omega, by go_num, HN2.out, HB2.out⟩, rfl⟩)
      case measure => simp [intOf]; omega
    · obtain rfl : k = m := by omega
      have hl8 := Sha.run_length k Sha.H0 N rfl
      have hsm := Sha.run_small k Sha.H0 N Sha.H0_small
      have FIN := Lib.hid (HS.out _ rfl)
      generalize Sha.run k Sha.H0 N = H at *
      obtain ⟨gh, oh, ch, rfl, hch, hgh, hcH⟩ := HNk.out.form
      rw [hl8] at hch ⊢
      have HCH := Lib.hid hcH
      have HL8 := Lib.hid hl8
      have HSM := Lib.hid hsm
      have BW := Lib.hid (HB1.out.trans (HBk.out.mono HB1.out.size))
      clear hcH hl8 hsm HNk HBk HB1 HS HCS HNL HNB
      obtain ⟨wo, rfl⟩ : ∃ wo : World, wo = wr := ⟨_, rfl⟩
      go_wp2
      go_loopw [6, 7] (fun ov i wq => ∃ k : Nat, k ≤ 8 ∧ i = .int .i64 k ∧ OB wo ((H.take k).flatMap Sha.be4) (4 * k) ov wq) (fun _ i _ => 8 - (intOf i).toNat)
      case atStart => exact ⟨0, by omega, rfl, World.ownsRow_nil _ _ _ _, Below.refl _ _⟩
      case round =>
        obtain ⟨j, hj, rfl, hO⟩ := hrel
        have HO := Lib.hid hO
        clear hO
        by_cases hlt : j < 8
        · have hjl : j < H.length := by rw [HL8.out]; exact hlt
          have c0 : wr.cell? ⟨gh, oh + j, none⟩ = some (.int .u32 (H[j] : Nat)) := (HO.out.below.cell (p := ⟨gh, oh + j, none⟩) hgh).trans (HCH.out j _ (List.getElem?_eq_getElem hjl))
          have lx : H[j] < 4294967296 := HSM.out _ (List.getElem_mem hjl)
          have N1 := Lib.hid (flat_take H j hjl)
          have hne1 : ∀ b, u6.ownBlock = some b → b ≠ gh := fun b e => by have := (HO.out.row.lt b e).1; omega
          have q0 : (j : Int) < 8 := by omega
          generalize H[j] = x at *
          go_wp2
          go_region_held3 (fun w' => w'.cell? ⟨gh, oh + j, none⟩ = some (.int .u32 (x : Nat)))
            ((first | (with_reducible exact c0) | (with_reducible exact keepA c0) | (with_reducible exact keepA0 c0) | (with_reducible exact d0) | go_keep))
            ((refine step_append_lies _ (by rfl) _ _ _ (by rfl) wo.heap.size 5 i0 _ 1 1 Tryd.underlying45 hi hz0 hz1 hz2 rfl (by omega) u6 (4 * j) _ (by rfl) (by first | exact (HO.out.row.alloc _).drew | exact HO.out.row.drew.alloc _ | exact HO.out.row.alloc _) ⟨wr.heap.size, 0, none⟩ 4 4 (nv (Sha.be4 x)) (by rfl) (by rfl) (news_many (by first | exact heap_alloc_new _ _ | (rw [drewHeap]; exact heap_alloc_new _ _)) (by simp [nv, Sha.be4, IntKind.wrap_u8'])) (by simp [nv, Value.oneCell']) (by omega) (by simp only [maxLen]; omega) (by omega) (by have := HO.out.below.size; simp; omega) (wr.heap.size + 1) (by simp) ?_
              intro gg cc W2 hown hgr hat hlt6
              have d0 := keepG hgr (by first | exact keepA c0 | exact keepA0 c0) hne1))
          have O2 := Lib.hid hown
          have G2 : Hid ((wr.alloc _).grownBy W2 u6.ownBlock) := Lib.hid (by first | exact hgr | exact grown_of_drew hgr)
          clear hown hgr hat hlt6 d0 c0 hne1
          go_wp2
          go_roundw
          case rel =>
            have R : OB wo ((H.take (j + 1)).flatMap Sha.be4) (4 * j + 4) (.slice (some ⟨gg, 0, none⟩) (4 * j + 4) cc) W2 := HO.out.push _ (Sha.be4 x) O2.out N1.out G2.out
            rw [show 4 * j + 4 = 4 * (j + 1) by omega] at R
            first | exact ⟨j + 1, by omega, by go_num, R⟩ | ((repeat apply Exists.intro); exact ⟨⟨j + 1, by omega, by go_num, R⟩, rfl⟩)
          case measure => simp [intOf]; omega
        · obtain rfl : j = 8 := by omega
          have hfb := flat_bytes H
          have h1 := HO.out
          rw [List.take_of_length_le (by rw [HL8.out]; exact Nat.le_refl _)] at h1
          have hcv := h1.conv (by rw [Sha.flat_length, HL8.out]) (by decide) hfb
          rw [FIN.out] at hcv
          have HBF := Lib.hid (BW.out.trans (h1.below.mono BW.out.size))
          clear h1 HO hfb
          go_wp2
          go_ret
          exact ⟨rfl, HBF.out⟩
end Go.Proofs.YtljgphmdiflphaaDoor
