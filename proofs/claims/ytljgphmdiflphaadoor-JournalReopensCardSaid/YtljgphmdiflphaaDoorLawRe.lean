/- JournalReopens: the walk. -/
import Derived.Test.YtljgphmdiflphaaDoorMi
import Derived.Test.YtljgphmdiflphaaDoorOpenSS
namespace Go.Proofs.YtljgphmdiflphaaDoor
open Go.RowKit Go.Shelf
set_option linter.unusedVariables false
set_option linter.unusedSimpArgs false

/-- a group that is appended with power: it fits, or nothing is changed -/
theorem appJ_calm {n : Nat} {d : DV} {l g : List ByteArray} (h : JInv n d l) (hc : Calm d) (hs : ∀ r ∈ g, r.size ≤ 65536) :
    ∃ c d' l', appJ n false (growAll tv0 l) d g = (c, false, growAll tv0 l', d') ∧ JInv n d' l' ∧ Calm d' ∧ ((c = 0 ∧ l' = l ++ g) ∨ (c = 261 ∧ l' = l)) := by
  by_cases hf : needOf l + needOf g ≤ n
  · obtain ⟨d', e, h1, h2⟩ := appJ_fits h hc hs hf
    exact ⟨0, d', l ++ g, e, h1, h2, .inl ⟨rfl, rfl⟩⟩
  · exact ⟨261, d, l, appJ_full hs hf, h, hc, .inr ⟨rfl, rfl⟩⟩

theorem LL.below {w w' : World} {sv : Value} {gs : List (List ByteArray)} (h : LL w sv gs) (hb : Below w.heap.size w w') : LL w' sv gs := by
  obtain ⟨a, cap, e, h1, h2⟩ := h
  refine ⟨a, cap, e, h1, fun h0 => ?_⟩
  obtain ⟨b, off, ea, hlt, hc⟩ := h2 h0
  exact ⟨b, off, ea, Nat.lt_of_lt_of_le hlt hb.size, fun j g hj => by
    obtain ⟨v, hv, hg⟩ := hc j g hj
    exact ⟨v, (hb.cell (p := ⟨b, off + j, none⟩) hlt).trans hv, hg.below hb⟩⟩

set_option maxRecDepth 100000 in
set_option maxHeartbeats 4000000 in
theorem LawRe_any (w : World) (n : Int) (hn0 : -9223372036854775808 ≤ n) (hn1 : n ≤ 9223372036854775807) (sv : Value) (gs : List (List ByteArray)) (hll : LL w sv gs) (hlen : gs.length ≤ 9223372036854775807)
    (hs : ∀ g ∈ gs, g.length ≤ 9223372036854775807 ∧ ∀ s ∈ g, s.size ≤ 9223372036854775807) (hR : RoundLaid w) (a : Addr) (hD : DamLaid a w) :
    Calls Tryd.prog 12 #[.int .i64 n, sv] w fun e w' => e = .returned (.bool true) ∧ Below w.heap.size w w' := by
  have HR := Lib.hid hR
  have HD := Lib.hid hD
  have SN := Lib.hid (saneJ_any w hR a hD)
  have SZ := Lib.hid (fun W => sizeJ_any n W hn0 hn1)
  have hNb := sizeJ_bounds n
  generalize sizeJ n = N at *
  have HLL := Lib.hid hll
  have HS := Lib.hid hs
  obtain ⟨ga, gc, rfl, hgc, -⟩ := hll
  clear hR hD hs hn0 hn1
  go_enter Tryd.func12, Tryd.ntmps12
  go_wp2_with fail
  refine SN.out.mono ?_
  rintro e w1 ⟨rfl, hB1⟩
  have HB1 := Lib.hid hB1
  clear hB1 SN
  go_wp2_with (go_at_call 40; refine (SZ.out _).mono ?_; rintro e w' ⟨rfl, rfl⟩)
  refine (newF w1 N hNb.1 (by omega)).mono ?_
  rintro e w2 ⟨bd, rfl, ⟨F1, hD1, hF1⟩, hB2⟩
  have HD1 := Lib.hid hD1
  have HF1 := Lib.hid (fun k hk => Nat.le_trans HB1.out.size (hF1 k hk))
  have HB2 := Lib.hid (HB1.out.trans (hB2.mono HB1.out.size))
  clear hD1 hF1 hB2 HB1
  go_wp2_with fail
  refine (OpenS HD1.out HF1.out HB2.out rfl (by omega) HR.out a HD.out (JInv.new N)).mono ?_
  rintro e w3 ⟨jb, G3, rfl, h3, -, -⟩
  have H3 := Lib.hid h3
  clear h3 HD1 HF1 HB2
  go_wp2
  go_loopw [10] (fun iv wr => ∃ k : Nat, iv = .int .i64 (k : Int) ∧ k ≤ gs.length ∧ ∃ l d G, SG w wr jb bd N false (growAll tv0 l) d G ∧ JInv N d l ∧ Calm d) (fun iv _ => gs.length - (intOf iv).toNat)
  case atStart => exact ⟨0, rfl, Nat.zero_le _, [], newD N, G3, H3.out, JInv.new N, ⟨rfl, rfl, rfl⟩⟩
  case round =>
    obtain ⟨k, rfl, hk, l, d, G, hG, hI, hC⟩ := hrel
    have HG := Lib.hid hG
    have HI := Lib.hid (And.intro hI hC)
    clear hG hI hC H3
    by_cases hlt : k < gs.length ∧ k < 8
    · obtain ⟨hlt, h8⟩ := hlt
      have hlti : (k : Int) < (gs.length : Int) := by omega
      obtain ⟨gb, go, hga, hgb, hgx⟩ : ∃ b off, ga = some ⟨b, off, none⟩ ∧ b < w.heap.size ∧ ∀ j g, gs[j]? = some g → ∃ v, w.cell? ⟨b, off + j, none⟩ = some v ∧ SL w v g := by
        obtain ⟨a', c', e, _, hf⟩ := HLL.out
        injection e with e1 e2 e3
        obtain ⟨b, off, ea, hb, hc⟩ := hf (by omega)
        exact ⟨b, off, e1.trans ea, hb, hc⟩
      subst hga
      obtain ⟨gv, hgv, hgl⟩ := hgx k gs[k] (List.getElem?_eq_getElem hlt)
      have cx : wr.cell? ⟨gb, go + k, none⟩ = some gv := (HG.out.bel.cell (p := ⟨gb, go + k, none⟩) hgb).trans hgv
      have hgs := HS.out gs[k] (List.getElem_mem hlt)
      have FW := Lib.hid (fewJ_any wr gv gs[k] (hgl.below HG.out.bel) hgs.1 hgs.2)
      have hfs := fewJ_small gs[k] 6
      have hfl : (fewJ gs[k] 6).length ≤ 6 := by rw [fewJ_length]; omega
      have HFS := Lib.hid hfs
      obtain ⟨va, vl, vc, rfl⟩ : ∃ va vl vc, gv = .slice va vl vc := by
        obtain ⟨x, c, e, _⟩ := hgl.form
        exact ⟨_, _, _, e⟩
      clear hgx hgv hgl hgs hfs
      generalize fewJ gs[k] 6 = L at *
      obtain ⟨c, d', l', he, hI', hC', -⟩ := appJ_calm (g := L) HI.out.1 HI.out.2 (fun r hr => by have := HFS.out r hr; omega)
      have HE := Lib.hid he
      have HI2 := Lib.hid (And.intro hI' hC')
      clear he hI' hC'
      go_wp2_with (first
        | (go_at_call 42
           refine FW.out.mono ?_
           rintro e w4 ⟨v, rfl, hO, hB⟩
           have H4 := Lib.hid (HG.out.below hB)
           have HSL := Lib.hid (SL_own hO)
           clear hO hB)
        | (go_at_call 44
           refine (AppendS H4.out HR.out (by omega) _ L HSL.out (by omega) (fun r hr => by have := HFS.out r hr; omega) (by rw [HI.out.2.pe]; simp) HE.out).mono ?_
           rintro e w5 ⟨rfl, G5, h5, -⟩
           have H5 := Lib.hid h5
           clear h5)
        | fail)
      go_roundw
      case rel => exact ⟨k + 1, by go_num, by omega, l', d', G5, H5.out, HI2.out.1, HI2.out.2⟩
      case measure => simp [intOf]; omega
    · have hex : ¬ (k : Int) < (gs.length : Int) ∨ ((k : Int) < (gs.length : Int) ∧ ¬ (k : Int) < 8) := by omega
      have H5 := HG
      obtain ⟨F5, f1, f2, f3⟩ := H5.out.disk
      have D5 := Lib.hid f1
      clear f1 f2 hlt
      obtain ⟨m, hm⟩ : ∃ m, N = needOf l + m := ⟨N - needOf l, by have := HI.out.1.fit; omega⟩
      have HM := Lib.hid hm
      have hIc : JInv N (cutD d 1) l := ⟨HI.out.1.vi, HI.out.1.fit, HI.out.1.small⟩
      have hoc : (cutD d 1).off = false := rfl
      have hpc : (cutD d 1).pe = [] := HI.out.2.pe
      have hsz : ((diskB (cutD d 1)).size : Int) = (N : Int) := by
        have := hIc.len
        rw [diskB]; show ((cutD d 1).vi.toArray.size : Int) = _; rw [List.size_toArray, this]
      have hsi : (((diskB (cutD d 1)).size : Int) == (N : Int)) = true := by rw [hsz]; simp
      have HIC := Lib.hid (And.intro hIc (And.intro hoc hpc))
      have hl6 : l.length ≤ 1000 := by have := needOf_length l; have := HI.out.1.fit; omega
      have SM := Lib.hid (fun W av bv ha hb => sameJ_any W av bv l l ha hb (by omega) (by omega))
      rw [show sameJ l l = true from decide_eq_true rfl] at SM
      have hcut := cutF D5.out HI.out.2.off 1 (by decide) (by decide)
      have HCUT := Lib.hid hcut
      clear hm hIc hoc hpc hsz hcut HLL HS
      rcases hex with hx | ⟨hx0, hx⟩
      all_goals
        go_wp2_with fail
        refine HCUT.out.mono ?_
        rintro e w6 ⟨rfl, F6, hD6, hm6⟩
        obtain ⟨G6, h6, -⟩ := H5.out.moved D5.out hD6 hm6
        have H6 := Lib.hid h6
        have D6 := Lib.hid hD6
        have N6 := Lib.hid ((hm6.base f3 H5.out.bel.size).1)
        clear hD6 hm6 h6 HCUT
        go_wp2_with fail
        refine (OpenS D6.out N6.out H6.out.bel HIC.out.2.1 (by omega) HR.out a HD.out HIC.out.1).mono ?_
        rintro e w7 ⟨kb, G7, rfl, k7, -, hB7⟩
        have K7 := Lib.hid k7
        have H7 := Lib.hid (H6.out.below hB7)
        have D7 := Lib.hid (D6.out.upd (Upd.of_below (S := fun _ => False) hB7) (fun _ _ f => f))
        clear k7 hB7 H6 D6 N6
        have CT := Lib.hid (fun W h => content_any (w := W) (bd := bd) (n := N) (d := cutD d 1) (F := F6) h HIC.out.2.1)
        have PD := Lib.hid (fun W h => pendingF (w := W) (bd := bd) (n := N) (d := cutD d 1) (F := F6) h)
        rw [HIC.out.2.2] at PD
        generalize diskB (cutD d 1) = s at *
        go_wp2_with (first
          | (go_at_call 40; refine (SZ.out _).mono ?_; rintro e w' ⟨rfl, rfl⟩)
          | (go_at_call 46
             with_reducible refine Calls.mono (RecordsS H7.out) ?_
             rintro e w8 ⟨A8, C8, rfl, hO8, hB8⟩
             have O8 := Lib.hid (SL_own hO8)
             have H8 := Lib.hid (H7.out.below hB8)
             have K8 := Lib.hid (K7.out.below hB8)
             have D8 := Lib.hid (D7.out.upd (Upd.of_below (S := fun _ => False) hB8) (fun _ _ f => f))
             clear hO8 hB8)
          | (go_at_call 46
             with_reducible refine Calls.mono (RecordsS K8.out) ?_
             rintro e w9 ⟨A9, C9, rfl, hO9, hB9⟩
             have O9 := Lib.hid (SL_own hO9)
             have O8b := Lib.hid (O8.out.below hB9)
             have H9 := Lib.hid (H8.out.below hB9)
             have K9 := Lib.hid (K8.out.below hB9)
             have D9 := Lib.hid (D8.out.upd (Upd.of_below (S := fun _ => False) hB9) (fun _ _ f => f))
             clear hO9 hB9)
          | (go_at_call 49
             refine (SM.out _ _ _ O8b.out O9.out).mono ?_
             rintro e w10 ⟨rfl, hB10⟩
             have H10 := Lib.hid (H9.out.below hB10)
             have K10 := Lib.hid (K9.out.below hB10)
             have D10 := Lib.hid (D9.out.upd (Upd.of_below (S := fun _ => False) hB10) (fun _ _ f => f))
             clear hB10)
          | (go_at_call 45
             with_reducible refine Calls.mono (RoomS H10.out m HM.out) ?_
             rintro e w11 ⟨rfl, hB11⟩
             have H11 := Lib.hid (H10.out.below hB11)
             have K11 := Lib.hid (K10.out.below hB11)
             have D11 := Lib.hid (D10.out.upd (Upd.of_below (S := fun _ => False) hB11) (fun _ _ f => f))
             clear hB11)
          | (go_at_call 45
             with_reducible refine Calls.mono (RoomS K11.out m HM.out) ?_
             rintro e w12 ⟨rfl, hB12⟩
             have B12 := Lib.hid (H11.out.bel.trans (hB12.mono H11.out.bel.size))
             have D12 := Lib.hid (D11.out.upd (Upd.of_below (S := fun _ => False) hB12) (fun _ _ f => f))
             clear hB12)
          | (go_at_call 50; refine (PD.out _ D12.out).mono ?_; rintro e w' ⟨rfl, rfl⟩)
          | (go_at_call 51; refine (CT.out _ D12.out).mono ?_; rintro e w' ⟨rfl, rfl⟩)
          | fail)
        go_ret
        exact ⟨rfl, B12.out⟩
end Go.Proofs.YtljgphmdiflphaaDoor
