/- JournalSurvives: the walk. -/
import Derived.Test.YtljgphmdiflphaaGreatDoorMh
import Derived.Test.YtljgphmdiflphaaGreatDoorMi
import Derived.Test.YtljgphmdiflphaaGreatDoorMf
namespace Go.Proofs.YtljgphmdiflphaaGreatDoor
open Go.RowKit Go.Shelf
set_option linter.unusedVariables false
set_option linter.unusedSimpArgs false

theorem appJ_good {n : Nat} {d : DV} {l g : List ByteArray} (h : Good n d l) (hc : Calm d) (hs : ∀ r ∈ g, r.size ≤ 65536) :
    (¬ needOf l + needOf g ≤ n ∧ appJ n false (growAll tv0 l) d g = (261, false, growAll tv0 l, d)) ∨
    (needOf l + needOf g ≤ n ∧ ∃ d', appJ n false (growAll tv0 l) d g = (0, false, growAll tv0 (l ++ g), d') ∧ Good n d' (l ++ g) ∧ Calm d') := by
  rcases appJ_power h hc.off (by rw [hc.left]; omega) hs with h1 | ⟨hf, d1, e1, g1, _⟩ | ⟨hf, d1, e1, _⟩
  · exact .inl h1
  · obtain ⟨d2, e2, i2, c2⟩ := appJ_fits h.inv hc hs hf
    rw [e1] at e2
    simp only [Prod.mk.injEq, true_and] at e2
    subst e2
    exact .inr ⟨hf, d1, e1, g1, c2⟩
  · obtain ⟨d2, e2, i2, c2⟩ := appJ_fits h.inv hc hs hf
    rw [e1] at e2
    simp at e2

/-- a row that is read, beside a journal -/
structure RowS (W : World) (v : Value) (l : List ByteArray) (G : Nat → Prop) : Prop where
  sl : SL W v l
  ap : 0 < l.length → ∀ k, v.ownBlock = some k → ¬ G k ∧ k < W.heap.size
theorem RowK.toS {W : World} {v : Value} {l : List ByteArray} {G : Nat → Prop} (h : RowK W v l G) : RowS W v l G := ⟨h.sl, fun _ k e => ⟨h.ap k e, (h.row.lt k e).2⟩⟩
theorem RowS.moves {W W' : World} {v : Value} {l : List ByteArray} {G G' : Nat → Prop} (h : RowS W v l G) (hm : Moves G G' W W') : RowS W' v l G' := by
  refine ⟨?_, fun h0 k e => ?_⟩
  · obtain ⟨a, cap, e, h1, h2⟩ := h.sl.form
    refine ⟨a, cap, e, h1, fun h0 => ?_⟩
    obtain ⟨b, off, ea, hlt, hc⟩ := h2 h0
    have hb := (h.ap h0 b (by rw [e, ea]; rfl)).1
    exact ⟨b, off, ea, Nat.lt_of_lt_of_le hlt hm.1.size, fun j x hj => (World.cell?_of_block (w := W) (hm.1.block b hlt hb)).trans (hc j x hj)⟩
  · have := h.ap h0 k e
    exact ⟨fun hk => (hm.2 k hk).elim this.1 (by omega), Nat.lt_of_lt_of_le this.2 hm.1.size⟩
theorem RowS.below {W W' : World} {v : Value} {l : List ByteArray} {G : Nat → Prop} (h : RowS W v l G) (hB : Below W.heap.size W W') : RowS W' v l G := ⟨h.sl.below hB, fun h0 k e => ⟨(h.ap h0 k e).1, Nat.lt_of_lt_of_le (h.ap h0 k e).2 hB.size⟩⟩
theorem RowS.mono {W : World} {v : Value} {l : List ByteArray} {G F : Nat → Prop} (h : RowS W v l G) (hF : ∀ k, F k → G k) : RowS W v l F := ⟨h.sl, fun h0 k e => ⟨fun hk => (h.ap h0 k e).1 (hF k hk), (h.ap h0 k e).2⟩⟩
theorem RowS.nil (W : World) (G : Nat → Prop) : RowS W (.slice none 0 0) [] G := ⟨SL.nil W, fun h => absurd h (by simp)⟩
theorem Grow.toS {B : Nat} {W : World} {v : Value} {l : List ByteArray} {G : Nat → Prop} (h : Grow B W v l) (hG : ∀ k, G k → k < B) : RowS W v l G := by
  refine ⟨h.sl, fun h0 k e => ?_⟩
  rcases h with ⟨rfl, _⟩ | h
  · simp at h0
  · have := h.lt k e
    exact ⟨fun hk => by have := hG k hk; omega, this.2⟩
theorem Grow.below {B : Nat} {w w' : World} {v : Value} {xs : List ByteArray} (h : Grow B w v xs) (hB : Below w.heap.size w w') : Grow B w' v xs :=
  h.imp id (fun k => SL_kept k (Upd.of_below (S := fun _ => False) hB) (fun _ _ f => f))

/-- where the power may fail: what survives is one of two lists -/
def SvB (w wr : World) (bd N : Nat) (wasv wantv : Value) : Prop :=
  ∃ d F lw lt, DiskF wr bd N d F ∧ (∀ k, F k → w.heap.size ≤ k) ∧ Below w.heap.size w wr ∧ RowS wr wasv lw F ∧ RowS wr wantv lt F ∧ lw.length ≤ 10000 ∧ lt.length ≤ 10000 ∧ d.pe.length ≤ 1 ∧
    ∀ keep torn, ∃ d' l', openJ N (crashed d keep torn) = (0, some (growAll tv0 l'), d') ∧ (l' = lw ∨ l' = lt)
/-- before the last group -/
def SvA (w wr : World) (jb bd N : Nat) (wasv wantv : Value) : Prop :=
  ∃ l d G, SG w wr jb bd N false (growAll tv0 l) d G ∧ Good N d l ∧ Calm d ∧ RowS wr wasv l G ∧ RowS wr wantv l G
theorem Good.short {n : Nat} {d : DV} {l : List ByteArray} (h : Good n d l) (hn : n ≤ 100000) : l.length ≤ 10000 := by have := needOf_length l; have := h.inv.fit; omega
theorem SvB.of_good {w wr : World} {jb bd N : Nat} {br : Bool} {t : TV} {wasv wantv : Value} {l : List ByteArray} {d : DV} {G : Nat → Prop} (h : SG w wr jb bd N br t d G) (hg : Good N d l) (hN : N ≤ 100000) (h1 : RowS wr wasv l G) (h2 : RowS wr wantv l G) : SvB w wr bd N wasv wantv := by
  obtain ⟨F, f1, f2, f3⟩ := h.disk
  refine ⟨d, F, l, l, f1, f3, h.bel, h1.mono f2, h2.mono f2, hg.short hN, hg.short hN, by rw [hg.pe]; simp, fun keep torn => ?_⟩
  obtain ⟨a, b, c⟩ := hg.crash keep torn
  exact ⟨_, l, a.open b, .inl rfl⟩
theorem SvB.of_rec {w wr : World} {jb bd N : Nat} {br : Bool} {t : TV} {wasv wantv : Value} {l g : List ByteArray} {d : DV} {G : Nat → Prop} (h : SG w wr jb bd N br t d G) (hg : Rec N d l g) (hl : l.length ≤ 1000) (hgl : g.length ≤ 1000) (h1 : RowS wr wasv l G) (h2 : RowS wr wantv (l ++ g) G) : SvB w wr bd N wasv wantv := by
  obtain ⟨F, f1, f2, f3⟩ := h.disk
  refine ⟨d, F, l, l ++ g, f1, f3, h.bel, h1.mono f2, h2.mono f2, by omega, by rw [List.length_append]; omega, hg.2.1, fun keep torn => ?_⟩
  obtain ⟨d', l', e, hl', _⟩ := hg.crash keep torn
  exact ⟨d', l', e, hl'⟩

set_option maxRecDepth 100000 in
set_option maxHeartbeats 8000000 in
theorem LawSv_any (w : World) (n : Int) (hn0 : -9223372036854775808 ≤ n) (hn1 : n ≤ 9223372036854775807) (sv : Value) (gs : List (List ByteArray)) (hll : LL w sv gs) (hlen : gs.length ≤ 9223372036854775807)
    (hs : ∀ g ∈ gs, g.length ≤ 9223372036854775807 ∧ ∀ s ∈ g, s.size ≤ 9223372036854775807) (cut : Int) (hc0 : -9223372036854775808 ≤ cut) (hc1 : cut ≤ 9223372036854775807)
    (ka : Option Addr) (kl kc : Nat) (zs : List Int) (hzs : zs.length = kl) (hkl : kl ≤ kc) (hkc : kc ≤ 9223372036854775807) (hka : ka = none → kl = 0 ∧ kc = 0) (hkeep : ∀ m, m ≤ kl → IntsAt w.heap.size w (.slice ka m kc) (zs.take m))
    (torn : Int) (ht0 : -9223372036854775808 ≤ torn) (ht1 : torn ≤ 9223372036854775807) (hR : RoundLaid w) (a : Addr) (hD : DamLaid a w) :
    Calls Tryz.prog 5 #[.int .i64 n, sv, .int .i64 cut, .slice ka kl kc, .int .i64 torn] w fun e w' => e = .returned (.bool true) ∧ Below w.heap.size w w' := by
  obtain ⟨i0, hi, hz0, hz1, hz2⟩ := info_parts Tryz.infoStr
  have HR := Lib.hid hR
  have HD := Lib.hid hD
  have SN := Lib.hid (saneJ_any w hR a hD)
  have SZ := Lib.hid (fun W => sizeJ_any n W hn0 hn1)
  have PK := Lib.hid (fun W => pickJ_any cut 3 W (by decide) (by decide) hc0 hc1)
  have hp1 := pickJ_lo cut 3 (by decide)
  have hp2 := pickJ_hi cut 3 (by decide)
  generalize pickJ cut 3 = pk at *
  have hNb := sizeJ_bounds n
  generalize sizeJ n = N at *
  have HLL := Lib.hid hll
  have HS := Lib.hid hs
  have HK := Lib.hid hkeep
  have HKA := Lib.hid hka
  have HZ := Lib.hid hzs
  have HT := Lib.hid (And.intro ht0 ht1)
  obtain ⟨ga, gc, rfl, hgc, -⟩ := hll
  obtain ⟨m, hm⟩ : ∃ m, min gs.length 8 = m := ⟨_, rfl⟩
  have HM := Lib.hid hm
  clear hR hD hs hn0 hn1 hkeep hka hzs ht0 ht1 hc0 hc1 hm
  go_enter Tryz.func5, Tryz.ntmps5
  go_wp2_with fail
  refine SN.out.mono ?_
  rintro e w1 ⟨rfl, hB1⟩
  have HB1 := Lib.hid hB1
  clear hB1 SN
  go_wp2_with (go_at_call 15; refine (SZ.out _).mono ?_; rintro e w' ⟨rfl, rfl⟩)
  refine (newF w1 N hNb.1 (by omega)).mono ?_
  rintro e w2 ⟨bd, rfl, ⟨F1, hD1, hF1⟩, hB2⟩
  have HD1 := Lib.hid hD1
  have HF1 := Lib.hid (fun k hk => Nat.le_trans HB1.out.size (hF1 k hk))
  have HB2 := Lib.hid (HB1.out.trans (hB2.mono HB1.out.size))
  clear hD1 hF1 hB2 HB1
  go_wp2_with fail
  refine (OpenS HD1.out HF1.out HB2.out rfl (by omega) HR.out a HD.out (JInv.new N)).mono ?_
  rintro e w3 ⟨jb, G3, rfl, h3, -, -⟩
  have H3 := Lib.hid h3
  clear h3 HD1 HF1 HB2
  go_wp2
  go_loopw [16, 17, 18] (fun av bv iv wr => ∃ k : Nat, iv = .int .i64 (k : Int) ∧ k ≤ m ∧ (((k < m ∨ m = 0) ∧ SvA w wr jb bd N av bv) ∨ (k = m ∧ SvB w wr bd N av bv))) (fun _ _ iv _ => m - (intOf iv).toNat)
  case atStart => exact ⟨0, rfl, Nat.zero_le _, .inl ⟨by omega, [], newD N, G3, H3.out, ⟨JInv.new N, rfl, rfl⟩, ⟨rfl, rfl, rfl⟩, RowS.nil _ _, RowS.nil _ _⟩⟩
  case round =>
    obtain ⟨k, rfl, hk, hst⟩ := hrel
    clear H3
    have hmm := HM.out
    by_cases hlt : k < m
    · have hk1 : k < gs.length := by omega
      have hk8 : (k : Int) < 8 := by omega
      have hlti : (k : Int) < (gs.length : Int) := by omega
      obtain ⟨l, d, G, hG, hgood, hcalm, hra, hrb⟩ : SvA w wr jb bd N u16 u17 := by
        rcases hst with h | h
        · exact h.2
        · omega
      have HG := Lib.hid hG
      have HI := Lib.hid (And.intro hgood hcalm)
      have hll6 : l.length ≤ 1000 := by have := needOf_length l; have := hgood.inv.fit; omega
      clear hst hG hgood hcalm hra hrb
      obtain ⟨gb, go, hga, hgb, hgx⟩ : ∃ b off, ga = some ⟨b, off, none⟩ ∧ b < w.heap.size ∧ ∀ j g, gs[j]? = some g → ∃ v, w.cell? ⟨b, off + j, none⟩ = some v ∧ SL w v g := by
        obtain ⟨a', c', e, _, hf⟩ := HLL.out
        injection e with e1 e2 e3
        obtain ⟨b, off, ea, hb, hc⟩ := hf (by omega)
        exact ⟨b, off, e1.trans ea, hb, hc⟩
      subst hga
      obtain ⟨gv, hgv, hgl⟩ := hgx k gs[k] (List.getElem?_eq_getElem hk1)
      have cw : ∀ W, Below w.heap.size w W → W.cell? ⟨gb, go + k, none⟩ = some gv := fun W hB => (hB.cell (p := ⟨gb, go + k, none⟩) hgb).trans hgv
      have CW := Lib.hid cw
      have hgs := HS.out gs[k] (List.getElem_mem hk1)
      have FW := Lib.hid (fun W (hB : Below w.heap.size w W) => fewJ_any W gv gs[k] (hgl.below hB) hgs.1 hgs.2)
      have hfs := fewJ_small gs[k] 6
      have hfl : (fewJ gs[k] 6).length ≤ 6 := by rw [fewJ_length]; omega
      have HFS := Lib.hid hfs
      obtain ⟨va, vl, vc, rfl⟩ : ∃ va vl vc, gv = .slice va vl vc := by
        obtain ⟨x, c, e, _⟩ := hgl.form
        exact ⟨_, _, _, e⟩
      clear hgx hgv hgl hgs hfs cw
      generalize fewJ gs[k] 6 = L at *
      go_wp2_with fail
      refine (RecordsS HG.out).mono ?_
      rintro e w4 ⟨A4, C4, rfl, hO4, hB4⟩
      have H4 := Lib.hid (HG.out.below hB4)
      have WAS := Lib.hid (RowK.new hO4 (fun k hk => HG.out.j.lt hk)).toS
      clear hO4 hB4 HG
      have c4 : w4.cell? ⟨gb, go + k, none⟩ = some (.slice va vl vc) := CW.out w4 H4.out.bel
      go_wp2
      go_region_held3 (fun w' => w'.cell? ⟨gb, go + k, none⟩ = some (.slice va vl vc))
        ((first | exact c4 | exact keepA c4 | exact keepA0 c4 | exact c5 | exact keepA0 c5 | exact c6 | exact c7 | go_keep))
        (first
        | (refine step_append_empty (by rfl) _ _ (by rfl) w4.heap.size (by rfl) _ l (by rfl) (by first | exact WAS.out.sl.below ((Below.refl _ _).alloc (Nat.le_refl _) _) | exact WAS.out.sl.below ((Below.refl _ _).alloc (Nat.le_refl _) _).drew | exact WAS.out.sl.below ((Below.refl _ _).drew.alloc (Nat.le_refl _) _)) (by omega) w4.heap.size (by simp) ?_
           intro v5 w5 hg5 hb5
           have G5 := Lib.hid hg5
           have B5 : Hid (Below w4.heap.size w4 w5) := Lib.hid (by first | exact ((Below.refl _ _).alloc (Nat.le_refl _) _).trans (hb5.mono (by simp)) | exact ((Below.refl _ _).alloc (Nat.le_refl _) _).drew.trans (hb5.mono (by simp)) | exact ((Below.refl _ _).drew.alloc (Nat.le_refl _) _).trans (hb5.mono (by simp)))
           have c5 : w5.cell? ⟨gb, go + k, none⟩ = some (.slice va vl vc) := CW.out w5 (H4.out.bel.trans (B5.out.mono H4.out.bel.size))
           clear hg5 hb5)
        | (go_at_call 11
           refine (FW.out _ (by first | exact H4.out.bel.trans (B5.out.mono H4.out.bel.size) | exact (H4.out.bel.trans (B5.out.mono H4.out.bel.size)).drew)).mono ?_
           rintro e w6 ⟨v6, rfl, hO6, hB6⟩
           have B6 : Hid (Below w4.heap.size w4 w6) := Lib.hid (by first | exact B5.out.trans (hB6.mono B5.out.size) | exact B5.out.trans (((Below.refl _ _).drew.trans hB6).mono B5.out.size))
           have G6 : Hid (Grow w4.heap.size w6 v5 l) := Lib.hid (by first | exact G5.out.below hB6 | exact (G5.out.below (Below.refl _ _).drew).below hB6)
           have S6 := Lib.hid (SL_own hO6)
           have c6 : w6.cell? ⟨gb, go + k, none⟩ = some (.slice va vl vc) := CW.out w6 (H4.out.bel.trans (B6.out.mono H4.out.bel.size))
           clear hO6 hB6)
        | (refine step_append_grow (by rfl) _ _ (by rfl) w4.heap.size v5 l (by rfl) (by first | exact G6.out | exact G6.out.below (Below.refl _ _).drew) _ L (by rfl) (by first | exact S6.out | exact S6.out.below (Below.refl _ _).drew) (by omega) (by have := B6.out.size; first | omega | (simp; omega)) ?_
           intro v7 w7 hg7 hb7
           have G7 := Lib.hid hg7
           have B7 : Hid (Below w4.heap.size w4 w7) := Lib.hid (by first | exact B6.out.trans hb7 | exact B6.out.trans ((Below.refl _ _).drew.trans hb7))
           have c7 : w7.cell? ⟨gb, go + k, none⟩ = some (.slice va vl vc) := CW.out w7 (H4.out.bel.trans (B7.out.mono H4.out.bel.size))
           clear hg7 hb7)
        | fail)
      all_goals
        have H7 := Lib.hid (H4.out.below B7.out)
        have WANT7 := Lib.hid (G7.out.toS (fun k hk => H4.out.j.lt hk))
        have WAS7 := Lib.hid (WAS.out.below B7.out)
        have LT4 := Lib.hid (fun k (hk : G k) => H4.out.j.lt hk)
        clear c4 c5 c6 c7 G5 G6 G7 B5 B6 B7 S6 H4 WAS
        by_cases hl : k + 1 = m
        · have hx1 : ((1 + pk) == 0) = false := by simp; omega
          have hoff : (cutD d (1 + pk)).off = false := hx1
          have hgc : Good N (cutD d (1 + pk)) l := ⟨⟨HI.out.1.inv.vi, HI.out.1.inv.fit, HI.out.1.inv.small⟩, HI.out.1.du, HI.out.1.pe⟩
          have HGC := Lib.hid (And.intro hgc hoff)
          have AP := Lib.hid (appJ_power (g := L) hgc hoff (by show 0 ≤ 1 + pk; omega) (fun r hr => by have := HFS.out r hr; omega))
          have hlast : (((k : Int) == (gs.length : Int) - 1) = true) ∨ (((k : Int) == (gs.length : Int) - 1) = false ∧ ((k : Int) == 7) = true) := by
            by_cases h : k + 1 = gs.length
            · left; simp; omega
            · right
              refine ⟨by simp; omega, by simp; omega⟩
          obtain ⟨F7, f1, f2, f3⟩ := H7.out.disk
          have D7 := Lib.hid f1
          have CT := Lib.hid (cutF f1 HI.out.2.off (1 + pk) (by omega) (by omega))
          clear f1 f2 f3 hgc hoff hx1
          rcases hlast with hb1 | ⟨hb1, hb2⟩
          all_goals
            go_wp2_with (first
              | (go_at_call 14; refine (PK.out _).mono ?_; rintro e w' ⟨rfl, rfl⟩)
              | fail)
            refine CT.out.mono ?_
            rintro e w8 ⟨rfl, F8, hD8, hm8⟩
            obtain ⟨G8, h8, hg8⟩ := H7.out.moved D7.out hD8 hm8
            have H8 := Lib.hid h8
            have WAS8 := Lib.hid (WAS7.out.moves hg8)
            have WANT8 := Lib.hid (WANT7.out.moves hg8)
            have c8 : w8.cell? ⟨gb, go + k, none⟩ = some (.slice va vl vc) := CW.out w8 h8.bel
            clear h8 hg8 hD8 hm8 CT D7 H7 WAS7 WANT7 hb1
            go_wp2_with fail
            refine (FW.out _ H8.out.bel).mono ?_
            rintro e w9 ⟨v9, rfl, hO9, hB9⟩
            have H9 := Lib.hid (H8.out.below hB9)
            have S9 := Lib.hid (SL_own hO9)
            have WAS9 := Lib.hid (WAS8.out.below hB9)
            have WANT9 := Lib.hid (WANT8.out.below hB9)
            clear hO9 hB9 H8 WAS8 WANT8 c8
            rcases AP.out with ⟨-, he⟩ | ⟨-, d', he, hg', ho', -⟩ | ⟨-, d', he, hrec⟩
            · have HE := Lib.hid he
              clear he
              go_wp2_with fail
              refine (AppendS H9.out HR.out (by omega) _ L S9.out (by omega) (fun r hr => by have := HFS.out r hr; omega) (by rw [HGC.out.1.pe]; simp) HE.out).mono ?_
              rintro e w10 ⟨rfl, G10, h10, hm10⟩
              have R : Hid (SvB w w10 bd N (.slice A4 l.length C4) (.slice A4 l.length C4)) := Lib.hid (SvB.of_good h10 HGC.out.1 (by omega) (WAS9.out.moves hm10) (WAS9.out.moves hm10))
              clear h10 hm10
              go_wp2
              go_roundw
              case rel => exact ⟨k + 1, by go_num, by omega, .inr ⟨hl, R.out⟩⟩
              case measure => simp [intOf]; omega
            · have HE := Lib.hid he
              clear he
              go_wp2_with fail
              refine (AppendS H9.out HR.out (by omega) _ L S9.out (by omega) (fun r hr => by have := HFS.out r hr; omega) (by rw [HGC.out.1.pe]; simp) HE.out).mono ?_
              rintro e w10 ⟨rfl, G10, h10, hm10⟩
              have R : Hid (SvB w w10 bd N v7 v7) := Lib.hid (SvB.of_good h10 hg' (by omega) (WANT9.out.moves hm10) (WANT9.out.moves hm10))
              clear h10 hm10 hg' ho'
              go_wp2
              go_roundw
              case rel => exact ⟨k + 1, by go_num, by omega, .inr ⟨hl, R.out⟩⟩
              case measure => simp [intOf]; omega
            · have HE := Lib.hid he
              clear he
              go_wp2_with fail
              refine (AppendS H9.out HR.out (by omega) _ L S9.out (by omega) (fun r hr => by have := HFS.out r hr; omega) (by rw [HGC.out.1.pe]; simp) HE.out).mono ?_
              rintro e w10 ⟨rfl, G10, h10, hm10⟩
              have R : Hid (SvB w w10 bd N (.slice A4 l.length C4) v7) := Lib.hid (SvB.of_rec h10 hrec (by omega) (by omega) (WAS9.out.moves hm10) (WANT9.out.moves hm10))
              clear h10 hm10 hrec
              go_wp2
              go_roundw
              case rel => exact ⟨k + 1, by go_num, by omega, .inr ⟨hl, R.out⟩⟩
              case measure => simp [intOf]; omega
        · have hb1 : ((k : Int) == (gs.length : Int) - 1) = false := by simp; omega
          have hb2 : ((k : Int) == 7) = false := by simp; omega
          have AP := Lib.hid (appJ_good (g := L) HI.out.1 HI.out.2 (fun r hr => by have := HFS.out r hr; omega))
          have c7 : w7.cell? ⟨gb, go + k, none⟩ = some (.slice va vl vc) := CW.out w7 H7.out.bel
          go_wp2_with fail
          refine (FW.out _ H7.out.bel).mono ?_
          rintro e w9 ⟨v9, rfl, hO9, hB9⟩
          have H9 := Lib.hid (H7.out.below hB9)
          have S9 := Lib.hid (SL_own hO9)
          have WAS9 := Lib.hid (WAS7.out.below hB9)
          have WANT9 := Lib.hid (WANT7.out.below hB9)
          clear hO9 hB9 H7 WAS7 WANT7 c7 hb1 hb2
          rcases AP.out with ⟨-, he⟩ | ⟨-, d', he, hg', hc'⟩
          · have HE := Lib.hid he
            clear he
            go_wp2_with fail
            refine (AppendS H9.out HR.out (by omega) _ L S9.out (by omega) (fun r hr => by have := HFS.out r hr; omega) (by rw [HI.out.1.pe]; simp) HE.out).mono ?_
            rintro e w10 ⟨rfl, G10, h10, hm10⟩
            have R : Hid (SvA w w10 jb bd N (.slice A4 l.length C4) (.slice A4 l.length C4)) := Lib.hid ⟨l, d, G10, h10, HI.out.1, HI.out.2, WAS9.out.moves hm10, WAS9.out.moves hm10⟩
            clear h10 hm10
            go_wp2
            go_roundw
            case rel => exact ⟨k + 1, by go_num, by omega, .inl ⟨by omega, R.out⟩⟩
            case measure => simp [intOf]; omega
          · have HE := Lib.hid he
            clear he
            go_wp2_with fail
            refine (AppendS H9.out HR.out (by omega) _ L S9.out (by omega) (fun r hr => by have := HFS.out r hr; omega) (by rw [HI.out.1.pe]; simp) HE.out).mono ?_
            rintro e w10 ⟨rfl, G10, h10, hm10⟩
            have R : Hid (SvA w w10 jb bd N v7 v7) := Lib.hid ⟨l ++ L, d', G10, h10, hg', hc', WANT9.out.moves hm10, WANT9.out.moves hm10⟩
            clear h10 hm10 hg' hc'
            go_wp2
            go_roundw
            case rel => exact ⟨k + 1, by go_num, by omega, .inl ⟨by omega, R.out⟩⟩
            case measure => simp [intOf]; omega
    · have hkm : k = m := by omega
      have hB : SvB w wr bd N u16 u17 := by
        rcases hst with ⟨_, l, d, G, hG, hgood, _, hra, hrb⟩ | ⟨_, h⟩
        · exact SvB.of_good hG hgood (by omega) hra hrb
        · exact h
      have HB := Lib.hid hB
      have hex : ¬ (k : Int) < (gs.length : Int) ∨ ((k : Int) < (gs.length : Int) ∧ ¬ (k : Int) < 8) := by omega
      clear hB hst
      obtain ⟨d, F, lw, lt, f1, f2, f3, f4, f5, f6, f7, f8, f9⟩ := HB.out
      obtain ⟨mk, hmk⟩ : ∃ mk, min kl 20 = mk := ⟨_, rfl⟩
      have hmi : min (kl : Int) 20 = (mk : Int) := by omega
      have hmk1 : mk ≤ kl := by omega
      have hmi1 : (mk : Int) ≤ (kc : Int) := by omega
      have hIk : IntsAt wr.heap.size wr (.slice ka mk kc) (zs.take mk) := by
        rcases (HK.out mk hmk1).below f3 with h | ⟨b, off, cap, e1, e2, e3⟩
        · exact .inl h
        · exact .inr ⟨b, off, cap, e1, Nat.lt_of_lt_of_le e2 f3.size, e3⟩
      obtain ⟨dj, l', hoj, hl'⟩ := f9 (zs.take mk) torn
      have CR := Lib.hid (crashF f1 (zs.take mk) ka mk kc hIk (by rw [List.length_take]; omega) (by omega) torn HT.out.1 HT.out.2)
      have FB := Lib.hid (And.intro f2 f3)
      have WAS := Lib.hid f4
      have WANT := Lib.hid f5
      have HOJ := Lib.hid hoj
      have HL := Lib.hid hl'
      have D0 := Lib.hid f1
      have hpe2 : (crashed d (zs.take mk) torn).pe.length ≤ 100000 := Nat.zero_le _
      have hlen' : l'.length ≤ 10000 := by rcases hl' with e | e <;> rw [e] <;> assumption
      clear f1 f2 f3 f4 f5 f8 f9 hoj hl' hIk HB hmk HK HLL HS
      generalize hcd : crashed d (zs.take mk) torn = dc at *
      have hkn : ka = none → mk = 0 ∧ kc = 0 := fun e => by have := HKA.out e; omega
      have HKN := Lib.hid hkn
      clear hcd hkn HKA
      have hex2 : (¬ (k : Int) < (gs.length : Int) ∨ ((k : Int) < (gs.length : Int) ∧ ¬ (k : Int) < 8)) ∧ (ka = none ∨ ∃ x, ka = some x) := ⟨hex, by cases ka; exact .inl rfl; exact .inr ⟨_, rfl⟩⟩
      clear hex
      obtain ⟨hex, hkk⟩ := hex2
      rcases hkk with rfl | ⟨kx, rfl⟩
      focus
        obtain ⟨e1, e2⟩ := HKN.out rfl
        subst e1 e2
        obtain rfl : kl = 0 := by omega
      all_goals rcases hex with hx | ⟨hx0, hx⟩
      all_goals
        go_wp2_with fail
        refine CR.out.mono ?_
        rintro e w5 ⟨rfl, F5, hD5, hm5⟩
        have D5 := Lib.hid hD5
        obtain ⟨hF5, hB5⟩ := hm5.base FB.out.1 FB.out.2.size
        have FB5 := Lib.hid (And.intro hF5 (FB.out.2.trans hB5))
        have WAS5 := Lib.hid (WAS.out.moves hm5)
        have WANT5 := Lib.hid (WANT.out.moves hm5)
        clear hD5 hm5 hF5 hB5 CR WAS WANT FB D0
        go_wp2_with fail
        refine (OpenSJ D5.out FB5.out.1 FB5.out.2 (by omega) HR.out a HD.out hpe2 HOJ.out).mono ?_
        rintro e w6 ⟨kb, G6, rfl, h6, hm6⟩
        have H6 := Lib.hid h6
        have WAS6 := Lib.hid (WAS5.out.moves hm6)
        have WANT6 := Lib.hid (WANT5.out.moves hm6)
        clear h6 hm6 D5 FB5 WAS5 WANT5
        by_cases hlw : l' = lw
        · have SM := Lib.hid (fun W av bv ha hb => sameJ_any W av bv l' lw ha hb (by omega) (by omega))
          rw [show sameJ l' lw = true from decide_eq_true hlw] at SM
          clear hlw
          go_wp2_with (first
            | (go_at_call 19
               with_reducible refine Calls.mono (RecordsS H6.out) ?_
               rintro e w7 ⟨A7, C7, rfl, hO7, hB7⟩
               have O7 := Lib.hid (SL_own hO7)
               have WAS7 := Lib.hid (WAS6.out.below hB7)
               have B7 := Lib.hid (H6.out.bel.trans (hB7.mono H6.out.bel.size))
               clear hO7 hB7)
            | (go_at_call 18
               refine (SM.out _ _ _ O7.out WAS7.out.sl).mono ?_
               rintro e w8 ⟨rfl, hB8⟩
               have B8 := Lib.hid (B7.out.trans (hB8.mono B7.out.size))
               clear hB8)
            | fail)
          go_ret
          exact ⟨rfl, B8.out⟩
        · have hlt' : l' = lt := HL.out.resolve_left hlw
          have SM := Lib.hid (fun W av bv ha hb => sameJ_any W av bv l' lw ha hb (by omega) (by omega))
          rw [show sameJ l' lw = false from decide_eq_false hlw] at SM
          have SM2 := Lib.hid (fun W av bv ha hb => sameJ_any W av bv l' lt ha hb (by omega) (by omega))
          rw [show sameJ l' lt = true from decide_eq_true hlt'] at SM2
          clear hlw hlt'
          go_wp2_with (first
            | (go_at_call 19
               with_reducible refine Calls.mono (RecordsS H8.out) ?_
               rintro e w9 ⟨A9, C9, rfl, hO9, hB9⟩
               have O9 := Lib.hid (SL_own hO9)
               have WANT9 := Lib.hid (WANT8.out.below hB9)
               have B9 := Lib.hid (H8.out.bel.trans (hB9.mono H8.out.bel.size))
               clear hO9 hB9)
            | (go_at_call 19
               with_reducible refine Calls.mono (RecordsS H6.out) ?_
               rintro e w7 ⟨A7, C7, rfl, hO7, hB7⟩
               have O7 := Lib.hid (SL_own hO7)
               have WAS7 := Lib.hid (WAS6.out.below hB7)
               have WANT7 := Lib.hid (WANT6.out.below hB7)
               have H7 := Lib.hid (H6.out.below hB7)
               clear hO7 hB7)
            | (go_at_call 18
               refine (SM2.out _ _ _ O9.out WANT9.out.sl).mono ?_
               rintro e w10 ⟨rfl, hB10⟩
               have B10 := Lib.hid (B9.out.trans (hB10.mono B9.out.size))
               clear hB10)
            | (go_at_call 18
               refine (SM.out _ _ _ O7.out WAS7.out.sl).mono ?_
               rintro e w8 ⟨rfl, hB8⟩
               have H8 := Lib.hid (H7.out.below hB8)
               have WANT8 := Lib.hid (WANT7.out.below hB8)
               clear hB8)
            | fail)
          go_ret
          exact ⟨rfl, B10.out⟩
end Go.Proofs.YtljgphmdiflphaaGreatDoor
