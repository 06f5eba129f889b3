/- JournalDamaged: the walk. -/
import Derived.Test.YtljgphmdiflphaaGreatDoorHeadsJ
namespace Go.Proofs.YtljgphmdiflphaaGreatDoor
open Go.RowKit Go.Shelf
set_option linter.unusedVariables false
set_option linter.unusedSimpArgs false

theorem loadP_small (s : ByteArray) : ∀ (f : Nat) (t t' : TV), loadP s f t = some t' → (∀ r ∈ t.recs, r.size ≤ 65536) → ∀ r ∈ t'.recs, r.size ≤ 65536
  | 0, t, t', h, ht => by cases h; exact ht
  | f + 1, t, t', h, ht => by
    rw [loadP] at h
    split at h
    · split at h
      · cases h; exact ht
      · split at h
        · split at h
          · rename_i r q hd
            split at h
            · refine loadP_small s f _ t' h (fun x hx => ?_)
              simp only [List.mem_append, List.mem_singleton] at hx
              rcases hx with hx | rfl
              · exact ht x hx
              · exact (decS_bounds hd).1
            · cases h
          · cases h
        · cases h
    · cases h; exact ht

/-- opening with power, whatever the content -/
theorem openJ_some {n : Nat} {d : DV} {t : TV} (ho : d.off = false) (hl : d.left = 0) (hL : loadP (diskB d) (n + 1) tv0 = some t) : ∃ d', openJ n d = (0, some t, d') := by
  rw [openJ, if_neg (by rw [ho]; simp), hL]
  simp only
  split
  · exact ⟨_, rfl⟩
  · rw [if_neg (by show ¬ usedOff false d.left = true; rw [hl]; decide)]
    exact ⟨_, rfl⟩

/-- a byte of a journal's content is changed -/
theorem damaged_disk {n : Nat} {d : DV} {l : List ByteArray} (hI : JInv n d l) (k : Nat) (c : UInt8) (hk : k < needOf l) (hz : sizedP l (k : Int) = false) (hc : d.vi[k]? ≠ some c) :
    loadP (diskB (writeD d k ⟨#[c]⟩)) (n + 1) tv0 = none ∨ ∃ t', loadP (diskB (writeD d k ⟨#[c]⟩)) (n + 1) tv0 = some t' ∧
      ((c = 0 ∧ ∃ p q, l = p ++ q ∧ q ≠ [] ∧ t'.recs = p) ∨
       (∃ p q r r' l', l = p ++ r :: q ∧ t'.recs = p ++ r' :: l' ∧ r ≠ r' ∧ chainB (growAll tv0 p).head r = chainB (growAll tv0 p).head r')) := by
  have hPl : (outE tv0 l).data.toList.length = needOf l := by rw [ba_len, outE_len]
  have hlen := hI.len
  have hset : (writeD d k ⟨#[c]⟩).vi = d.vi.set k c := by
    show splice d.vi k [c] = _
    unfold splice
    rw [List.length_singleton, List.set_eq_take_append_cons_drop, if_pos (by have := hI.fit; omega)]; simp
  have := needOf_length l
  have := hI.fit
  have h := damaged_load (diskB (writeD d k ⟨#[c]⟩)) c l tv0 (n + 1) k (List.replicate (n - needOf l) 0) hI.small (by omega) (by rw [outE_len]; exact hk) hz (by
    show (writeD d k ⟨#[c]⟩).vi.drop 0 = _
    rw [List.drop_zero, hset, hI.vi]) (by
    rw [hI.vi, List.getElem?_append_left (by omega)] at hc
    exact hc)
  rcases h with h | ⟨t', h1, h2⟩
  · exact .inl h
  · refine .inr ⟨t', h1, ?_⟩
    rcases h2 with ⟨h3, p, q, h4, h5, h6⟩ | ⟨p, q, r, r', l', h3, h4, h5, h6⟩
    · exact .inl ⟨h3, p, q, h4, h5, by rw [h6]; rfl⟩
    · exact .inr ⟨p, q, r, r', l', h3, by rw [h4]; rfl, h5, h6⟩

theorem sameJ_self (l : List ByteArray) : sameJ l l = true := decide_eq_true rfl
theorem needOf_le2 (l : List ByteArray) (m : Nat) (h : ∀ s ∈ l, s.size ≤ m) : needOf l ≤ l.length * (m + 43) := by
  have := outE_le l tv0 m h
  rwa [outE_len] at this

theorem own_some {w : World} {B C : Nat} {A : Option Addr} {l : List ByteArray} (h : w.ownsRow B 9 1 (.slice A l.length C) l.length (strV l)) (h0 : l.length ≠ 0) : ∃ x, A = some x ∧ l.length ≤ C := by
  rcases h.2 with ⟨e1, e0⟩ | ⟨g, cap, cur, e1, _, _, hc, _⟩
  · exact absurd e0 h0
  · injection e1 with e1 e2 e3
    exact ⟨_, e1, by omega⟩
theorem RecordsT {w W : World} {jb bd n : Nat} {br : Bool} {t : TV} {d : DV} {G : Nat → Prop} (h : SG w W jb bd n br t d G) :
    Calls Tryz.prog 19 #[.pointer (some ⟨jb, 0, none⟩)] W fun e w' => ∃ A C, e = .returned (.slice A t.recs.length C) ∧ w'.ownsRow W.heap.size 9 1 (.slice A t.recs.length C) t.recs.length (strV t.recs) ∧ Below W.heap.size W w' := by
  refine (RecordsG h.j).mono ?_
  rintro e w' ⟨v, rfl, hO, hB⟩
  rcases hO.2 with ⟨e1, e0⟩ | ⟨g, c, cur, e1, _⟩
  · exact ⟨none, 0, by rw [e1, ← e0], by rw [e1] at hO; rw [← e0] at hO ⊢; exact hO, hB⟩
  · exact ⟨some ⟨g, 0, none⟩, c, by rw [e1], by rw [e1] at hO; exact hO, hB⟩
theorem SL_take {w : World} {a : Option Addr} {n c m : Nat} {l : List ByteArray} (h : SL w (.slice a n c) l) (hm : m ≤ n) : SL w (.slice a m c) (l.take m) := by
  obtain ⟨a', c', e, h1, h2⟩ := h.form
  injection e with e1 e2 e3
  subst e1 e2 e3
  have hl : (l.take m).length = m := by rw [List.length_take]; omega
  refine ⟨a, c, by rw [hl], by omega, fun h0 => ?_⟩
  obtain ⟨b, off, ea, hlt, hc⟩ := h2 (by omega)
  refine ⟨b, off, ea, hlt, fun j x hj => hc j x ?_⟩
  rw [List.getElem?_take] at hj
  split at hj
  · exact hj
  · cases hj

set_option maxRecDepth 100000 in
set_option maxHeartbeats 8000000 in
theorem LawDm_any (w : World) (sv : Value) (gs : List (List ByteArray)) (hll : LL w sv gs) (hlen : gs.length ≤ 9223372036854775807)
    (hs : ∀ g ∈ gs, g.length ≤ 9223372036854775807 ∧ ∀ s ∈ g, s.size ≤ 9223372036854775807) (at_ : Int) (ha0 : -9223372036854775808 ≤ at_) (ha1 : at_ ≤ 9223372036854775807) (c : Int) (hc0 : 0 ≤ c) (hc1 : c ≤ 255)
    (hR : RoundLaid w) (a : Addr) (hD : DamLaid a w) :
    Calls Tryz.prog 4 #[sv, .int .i64 at_, .int .u8 c] w fun e w' => e = .returned (.bool true) ∧ Below w.heap.size w w' := by
  have HR := Lib.hid hR
  have HD := Lib.hid hD
  have SN := Lib.hid (saneJ_any w hR a hD)
  have HLL := Lib.hid hll
  have HS := Lib.hid hs
  obtain ⟨ga, gc, rfl, hgc, -⟩ := hll
  clear hR hD hs
  go_enter Tryz.func4, Tryz.ntmps4
  go_wp2_with fail
  refine SN.out.mono ?_
  rintro e w1 ⟨rfl, hB1⟩
  have HB1 := Lib.hid hB1
  clear hB1 SN
  go_wp2_with fail
  refine (newF w1 6000 (by decide) (by decide)).mono ?_
  rintro e w2 ⟨bd, rfl, ⟨F1, hD1, hF1⟩, hB2⟩
  have HD1 := Lib.hid hD1
  have HF1 := Lib.hid (fun k hk => Nat.le_trans HB1.out.size (hF1 k hk))
  have HB2 := Lib.hid (HB1.out.trans (hB2.mono HB1.out.size))
  clear hD1 hF1 hB2 HB1
  go_wp2_with fail
  refine (OpenS HD1.out HF1.out HB2.out rfl (by decide) HR.out a HD.out (JInv.new 6000)).mono ?_
  rintro e w3 ⟨jb, G3, rfl, h3, -, -⟩
  have H3 := Lib.hid h3
  clear h3 HD1 HF1 HB2
  go_wp2
  go_loopw [12] (fun iv wr => ∃ k : Nat, iv = .int .i64 (k : Int) ∧ k ≤ gs.length ∧ k ≤ 6 ∧ ∃ l d G, SG w wr jb bd 6000 false (growAll tv0 l) d G ∧ JInv 6000 d l ∧ Calm d ∧ needOf l ≤ 858 * k) (fun iv _ => gs.length - (intOf iv).toNat)
  case atStart => exact ⟨0, rfl, Nat.zero_le _, Nat.zero_le _, [], newD 6000, G3, H3.out, JInv.new 6000, ⟨rfl, rfl, rfl⟩, Nat.le_refl _⟩
  case round =>
    obtain ⟨k, rfl, hk, hk6, l, d, G, hG, hI, hC, hnd⟩ := hrel
    have HG := Lib.hid hG
    have HI := Lib.hid (And.intro hI hC)
    clear hG hI hC H3
    by_cases hlt : k < gs.length ∧ k < 6
    · obtain ⟨hlt, h8⟩ := hlt
      have hlti : (k : Int) < (gs.length : Int) := by omega
      obtain ⟨gb, go, hga, hgb, hgx⟩ : ∃ b off, ga = some ⟨b, off, none⟩ ∧ b < w.heap.size ∧ ∀ j g, gs[j]? = some g → ∃ v, w.cell? ⟨b, off + j, none⟩ = some v ∧ SL w v g := by
        obtain ⟨a', c', e, _, hf⟩ := HLL.out
        injection e with e1 e2 e3
        obtain ⟨b, off, ea, hb, hc⟩ := hf (by omega)
        exact ⟨b, off, e1.trans ea, hb, hc⟩
      subst hga
      obtain ⟨gv, hgv, hgl⟩ := hgx k gs[k] (List.getElem?_eq_getElem hlt)
      have cx : wr.cell? ⟨gb, go + k, none⟩ = some gv := (HG.out.bel.cell (p := ⟨gb, go + k, none⟩) hgb).trans hgv
      have hgs := HS.out gs[k] (List.getElem_mem hlt)
      have FW := Lib.hid (fewJ_any wr gv gs[k] (hgl.below HG.out.bel) hgs.1 hgs.2)
      have hfs := fewJ_small gs[k] 6
      have hfl : (fewJ gs[k] 6).length ≤ 6 := by rw [fewJ_length]; omega
      have HFS := Lib.hid hfs
      have hnL : needOf (fewJ gs[k] 6) ≤ 858 := by
        have h1 := needOf_le2 (fewJ gs[k] 6) 100 hfs
        have h2 : (fewJ gs[k] 6).length * (100 + 43) ≤ 6 * 143 := Nat.mul_le_mul hfl (by omega)
        omega
      obtain ⟨va, vl, vc, rfl⟩ : ∃ va vl vc, gv = .slice va vl vc := by
        obtain ⟨x, c, e, _⟩ := hgl.form
        exact ⟨_, _, _, e⟩
      clear hgx hgv hgl hgs hfs
      generalize fewJ gs[k] 6 = L at *
      obtain ⟨d', he, hI', hC'⟩ := appJ_fits (g := L) HI.out.1 HI.out.2 (fun r hr => by have := HFS.out r hr; omega) (by omega)
      have HE := Lib.hid he
      have HI2 := Lib.hid (And.intro hI' hC')
      clear he hI' hC'
      go_wp2_with (first
        | (go_at_call 11
           refine FW.out.mono ?_
           rintro e w4 ⟨v, rfl, hO, hB⟩
           have H4 := Lib.hid (HG.out.below hB)
           have HSL := Lib.hid (SL_own hO)
           clear hO hB)
        | (go_at_call 10
           refine (AppendS H4.out HR.out (by decide) _ L HSL.out (by omega) (fun r hr => by have := HFS.out r hr; omega) (by rw [HI.out.2.pe]; simp) HE.out).mono ?_
           rintro e w5 ⟨rfl, G5, h5, -⟩
           have H5 := Lib.hid h5
           clear h5)
        | fail)
      go_roundw
      case rel => exact ⟨k + 1, by go_num, by omega, by omega, l ++ L, d', G5, H5.out, HI2.out.1, HI2.out.2, by rw [needOf_append]; omega⟩
      case measure => simp [intOf]; omega
    · have hex : ¬ (k : Int) < (gs.length : Int) ∨ ((k : Int) < (gs.length : Int) ∧ ¬ (k : Int) < 6) := by omega
      clear hlt HLL HS
      obtain ⟨u, hu⟩ : ∃ u, needOf l = u := ⟨_, rfl⟩
      obtain ⟨m, hm⟩ : ∃ m, 6000 = u + m := ⟨6000 - u, by omega⟩
      have HU := Lib.hid hu
      have HM := Lib.hid (show 6000 = needOf l + m by rw [hu]; exact hm)
      have hui : (6000 : Int) - (m : Int) = (u : Int) := by omega
      have hub : u ≤ 5148 := by omega
      have hll : l.length ≤ 200 := by have := needOf_length l; omega
      have hl0 : u = 0 → l = [] := fun h => List.eq_nil_of_length_eq_zero (by have := needOf_length l; omega)
      have HL0 := Lib.hid hl0
      clear hu hm hl0 hnd
      by_cases hu0 : u = 0
      · have hle : l = [] := HL0.out hu0
        subst hu0 hle
        have hm6 : m = 6000 := by omega
        subst hm6
        clear hui
        rcases hex with hx | ⟨hx0, hx⟩
        all_goals
          go_wp2_with (first
            | (go_at_call 19
               refine (RecordsS HG.out).mono ?_
               rintro e w4 ⟨A4, C4, rfl, hO4, hB4⟩
               have H4 := Lib.hid (HG.out.below hB4)
               clear hO4 hB4)
            | (go_at_call 20
               refine (RoomS H4.out 6000 rfl).mono ?_
               rintro e w5 ⟨rfl, hB5⟩
               have H5 := Lib.hid (H4.out.below hB5)
               clear hB5)
            | fail)
          go_ret
          exact ⟨rfl, H5.out.bel⟩
      have hu1 : ¬ (u : Int) ≤ 0 := by omega
      have hu2 : ¬ (u : Int) > 6000 := by omega
      have hlpos : l.length ≠ 0 := fun h => hu0 (by rw [← HU.out, List.eq_nil_of_length_eq_zero h]; rfl)
      have PK := Lib.hid (fun W => pickJ_any at_ (u : Int) W (by omega) (by omega) ha0 ha1)
      have hp1 := pickJ_lo at_ (u : Int) (by omega)
      have hp2 := pickJ_hi at_ (u : Int) (by omega)
      generalize pickJ at_ (u : Int) = pk at *
      obtain ⟨q, rfl⟩ := Int.eq_ofNat_of_zero_le hp1
      have hqu : q < u := by omega
      have hsm := Lib.hid HI.out.1.small
      have SZD := Lib.hid (fun W v (h : SL W v l) => sized_any W v l h (by omega) HI.out.1.small (q : Int) (by omega) (by omega))
      obtain ⟨cb, hcb⟩ : ∃ cb : UInt8, c = (cb.toNat : Int) := ⟨UInt8.ofNat c.toNat, by
        have : (UInt8.ofNat c.toNat).toNat = c.toNat % 256 := by simp
        rw [this]; omega⟩
      subst hcb
      have hvl : d.vi.length = 6000 := HI.out.1.len
      have hdb : (diskB d).size = 6000 := by rw [diskB]; show d.vi.toArray.size = 6000; rw [List.size_toArray, hvl]
      obtain ⟨F5, f1, f2, f3⟩ := HG.out.disk
      have DG := Lib.hid (And.intro f1 f3)
      have DF2 := Lib.hid f2
      clear f1 f2 f3 hp1 hp2
      cases hzd : sizedP l (q : Int) with
      | true =>
        rw [hzd] at SZD
        clear hzd
        rcases hex with hx | ⟨hx0, hx⟩
        all_goals
          go_wp2_with (first
            | (go_at_call 14; refine (PK.out _).mono ?_; rintro e w' ⟨rfl, rfl⟩)
            | (go_at_call 19
               refine (RecordsS HG.out).mono ?_
               rintro e w4 ⟨A4, C4, rfl, hO4, hB4⟩
               obtain ⟨x4, rfl, hc4⟩ := own_some hO4 hlpos
               have H4 := Lib.hid (HG.out.below hB4)
               have WAS4 := Lib.hid (RowK.new hO4 (fun k hk => HG.out.j.lt hk)).toS
               clear hO4 hB4)
            | (go_at_call 20
               refine (RoomS H4.out m HM.out).mono ?_
               rintro e w5 ⟨rfl, hB5⟩
               have H5 := Lib.hid (H4.out.below hB5)
               have WAS5 := Lib.hid (WAS4.out.below hB5)
               clear hB5)
            | (go_at_call 26
               refine (SZD.out _ _ WAS5.out.sl).mono ?_
               rintro e w6 ⟨rfl, hB6⟩
               have B6 := Lib.hid (H5.out.bel.trans (hB6.mono H5.out.bel.size))
               clear hB6)
            | fail)
          go_ret
          exact ⟨rfl, B6.out⟩
      | false =>
        rw [hzd] at SZD
        have HZD := Lib.hid hzd
        clear hzd
        have hqs : q < (diskB d).size := by omega
        have CTT := Lib.hid (fun W h => content_any (w := W) (bd := bd) (n := 6000) (d := d) (F := F5) h HI.out.2.off)
        have hbyte : (diskB d)[q] = d.vi[q]'(by omega) := rfl
        have hveq : (diskB d)[q] ≠ cb → d.vi[q]? ≠ some cb := fun h e => h (by
          rw [List.getElem?_eq_getElem (by omega)] at e
          injection e)
        have HVE := Lib.hid hveq
        have hcmp : (((diskB d)[q].toNat : Int) == (cb.toNat : Int)) = decide ((diskB d)[q] = cb) := by
          by_cases h : (diskB d)[q] = cb
          · rw [h]; simp
          · have : ¬ ((diskB d)[q].toNat : Int) = (cb.toNat : Int) := fun e => h (UInt8.toNat_inj.1 (by omega))
            rw [decide_eq_false h]; exact beq_false_of_ne this
        clear hveq hbyte hvl
        generalize hsd : diskB d = s at *
        clear hsd
        rcases hex with hx | ⟨hx0, hx⟩
        all_goals
          go_wp2_with (first
            | (go_at_call 14; refine (PK.out _).mono ?_; rintro e w' ⟨rfl, rfl⟩)
            | (go_at_call 19
               refine (RecordsS HG.out).mono ?_
               rintro e w4 ⟨A4, C4, rfl, hO4, hB4⟩
               obtain ⟨x4, rfl, hc4⟩ := own_some hO4 hlpos
               have H4 := Lib.hid (HG.out.below hB4)
               have WAS4 := Lib.hid (RowK.new hO4 (fun k hk => HG.out.j.lt hk)).toS
               have D4 := Lib.hid (DG.out.1.upd (Upd.of_below (S := fun _ => False) hB4) (fun _ _ f => f))
               clear hO4 hB4)
            | (go_at_call 20
               refine (RoomS H4.out m HM.out).mono ?_
               rintro e w5 ⟨rfl, hB5⟩
               have H5 := Lib.hid (H4.out.below hB5)
               have WAS5 := Lib.hid (WAS4.out.below hB5)
               have D5 := Lib.hid (D4.out.upd (Upd.of_below (S := fun _ => False) hB5) (fun _ _ f => f))
               clear hB5)
            | fail)
          refine (SZD.out _ _ WAS5.out.sl).mono ?_
          rintro e w6 ⟨rfl, hB6⟩
          have H6 := Lib.hid (H5.out.below hB6)
          have WAS6 := Lib.hid (WAS5.out.below hB6)
          have D6 := Lib.hid (D5.out.upd (Upd.of_below (S := fun _ => False) hB6) (fun _ _ f => f))
          clear hB6 H4 H5 WAS4 WAS5 D4 D5 HG SZD
          go_wp2_with fail
          refine (CTT.out _ D6.out).mono ?_
          rintro e w7 ⟨rfl, rfl⟩
          by_cases hsame : s[q] = cb
          · rw [decide_eq_true hsame] at hcmp
            clear hsame
            go_wp2
            go_ret
            exact ⟨rfl, H6.out.bel⟩
          · rw [decide_eq_false hsame] at hcmp
            have HV2 := Lib.hid (HVE.out hsame)
            clear hsame
            have hcvb : ∀ W : World, (convert 39 9 (.slice (some ⟨W.heap.size, 0, none⟩) 1 1)).run Tryz.prog (W.alloc (.cells #[.int .u8 (cb.toNat : Int)] 5)) = .ok (.string ⟨#[cb]⟩) (W.alloc (.cells #[.int .u8 (cb.toNat : Int)] 5)) := fun W => by
              have h' : (W.alloc (.cells #[.int .u8 (cb.toNat : Int)] 5)).heap[W.heap.size]? = some (.cells (bytesV [cb]).toArray 5 (0, 0)) := allocAt _ rfl
              rw [run_conv_row 39 9 5 Tryz.underlying39 Tryz.underlying5 Tryz.underlying9 W.heap.size 0 1 1 _ _ h' (by simp)]
              rfl
            go_wp2_with fail
            have hdm := damaged_disk HI.out.1 q cb (by rw [HU.out]; exact hqu) HZD.out HV2.out
            have hoff : (writeD d q ⟨#[cb]⟩).off = false := by show usedOff false d.left = false; rw [HI.out.2.left]; rfl
            have hlft : (writeD d q ⟨#[cb]⟩).left = 0 := by show usedLeft d.left = 0; rw [HI.out.2.left]; rfl
            have hpe2 : (writeD d q ⟨#[cb]⟩).pe.length ≤ 100000 := by show (d.pe ++ [_]).length ≤ _; rw [HI.out.2.pe]; simp
            have D7 := Lib.hid (D6.out.upd (Upd.of_below (S := fun _ => False) ((Below.refl _ w6).alloc (Nat.le_refl _) (.cells #[.int .u8 (cb.toNat : Int)] 5))) (fun _ _ f => f))
            have WAS7 := Lib.hid ((WAS6.out.mono DF2.out).below ((Below.refl _ w6).alloc (Nat.le_refl _) (.cells #[.int .u8 (cb.toNat : Int)] 5)))
            have B7 := Lib.hid (H6.out.bel.alloc H6.out.bel.size (.cells #[.int .u8 (cb.toNat : Int)] 5))
            refine (writeF D7.out HI.out.2.off q ⟨#[cb]⟩ (by show q + 1 ≤ 6000; omega) (by rw [HI.out.2.pe]; simp)).mono ?_
            rintro e w8 ⟨rfl, F8, hD8, hm8⟩
            have D8 := Lib.hid hD8
            obtain ⟨hF8, hB8⟩ := hm8.base DG.out.2 B7.out.size
            have FB8 := Lib.hid (And.intro hF8 (B7.out.trans hB8))
            have WAS8 := Lib.hid (WAS7.out.moves hm8)
            have HDM := Lib.hid hdm
            have HOF := Lib.hid (And.intro hoff (And.intro hlft hpe2))
            clear hD8 hm8 hF8 hB8 hdm hoff hlft hpe2 D7 B7 WAS7 WAS6 D6 H6 DG DF2 hcvb hcmp HZD HV2 HVE CTT
            rcases HDM.out with hnone | ⟨t', hsome, hcase⟩
            · have HN := Lib.hid hnone
              clear hnone
              go_wp2_with fail
              refine (Open_bad D8.out HOF.out.1 (by decide) (HR.out.below FB8.out.2) a (HD.out.upd (Upd.of_below (S := fun _ => False) FB8.out.2) (fun h => h)) HN.out).mono ?_
              rintro e w9 ⟨rfl, hB9⟩
              have B9 := Lib.hid (FB8.out.2.trans (hB9.mono FB8.out.2.size))
              clear hB9
              go_wp2
              go_ret
              exact ⟨rfl, B9.out⟩
            · obtain ⟨dj, hoj⟩ := openJ_some HOF.out.1 HOF.out.2.1 hsome
              have HOJ := Lib.hid hoj
              have HSM := Lib.hid (loadP_small _ _ _ _ hsome (fun r hr => by cases hr))
              have HCS := Lib.hid hcase
              clear hoj hsome hcase HDM
              go_wp2_with fail
              refine (OpenSJ D8.out FB8.out.1 FB8.out.2 (by decide) HR.out a HD.out HOF.out.2.2 HOJ.out).mono ?_
              rintro e w9 ⟨xb, G9, rfl, h9, hm9⟩
              have H9 := Lib.hid h9
              have WAS9 := Lib.hid (WAS8.out.moves hm9)
              clear h9 hm9 D8 FB8 WAS8 HOJ HOF
              go_wp2_with fail
              refine (RecordsT H9.out).mono ?_
              rintro e w10 ⟨A10, C10, rfl, hO10, hB10⟩
              have H10 := Lib.hid (H9.out.below hB10)
              have WAS10 := Lib.hid (WAS9.out.below hB10)
              have IS10 := Lib.hid (SL_own hO10)
              have hRl : t'.recs.length ≤ 6000 := by have := H9.out.j.len; have := H9.out.j.fit; omega
              clear hO10 hB10 H9 WAS9
              rcases HCS.out with ⟨hc0', p, q', hlpq, hq', hRp⟩ | ⟨p, q', r, r', l', hlpq, hRp, hrr, hch⟩
              · have hcz : ((cb.toNat : Int) == 0) = true := by rw [hc0']; rfl
                have hpl : p.length < l.length := by
                  rw [hlpq, List.length_append]
                  have : q'.length ≠ 0 := fun h => hq' (List.eq_nil_of_length_eq_zero h)
                  omega
                have hpl2 : (p.length : Int) < (l.length : Int) := by omega
                have hpl3 : p.length ≤ C4 := by omega
                have htk : l.take p.length = p := by rw [hlpq]; simp
                have HTK := Lib.hid (SL_take WAS10.out.sl (show p.length ≤ l.length by omega))
                rw [htk] at HTK
                have SM := Lib.hid (fun W av bv ha hb => sameJ_any W av bv p p ha hb (by omega) (by omega))
                rw [sameJ_self] at SM
                rw [hRp] at IS10 ⊢
                clear hc0' hlpq hq' hRp htk HCS HSM hRl
                go_wp2_with fail
                refine (SM.out _ _ _ IS10.out HTK.out).mono ?_
                rintro e w11 ⟨rfl, hB11⟩
                have B11 := Lib.hid (H10.out.bel.trans (hB11.mono H10.out.bel.size))
                clear hB11
                go_wp2
                go_ret
                exact ⟨rfl, B11.out⟩
              · have hrs : r.size ≤ 65536 := hsm.out r (by rw [hlpq]; simp)
                have hrs' : r'.size ≤ 65536 := HSM.out r' (by rw [hRp]; simp)
                have hRpos : t'.recs.length ≠ 0 := by rw [hRp]; simp
                have hns : sameJ t'.recs (l.take t'.recs.length) = false := decide_eq_false (fun e => hrr (by
                  have h1 : t'.recs[p.length]? = (l.take t'.recs.length)[p.length]? := congrArg (fun x : List ByteArray => x[p.length]?) e
                  rw [hRp, List.getElem?_append_right (Nat.le_refl _), Nat.sub_self, List.getElem?_take, if_pos (by simp), hlpq, List.getElem?_append_right (Nat.le_refl _), Nat.sub_self] at h1
                  simpa using h1.symm))
                have hHa := headsT_app p tv0 (r :: q')
                have hHb := headsT_app p tv0 (r' :: l')
                rw [← hlpq] at hHa
                rw [← hRp] at hHb
                rw [headsT] at hHa hHb
                have hpn : (headsT tv0 p).length = p.length := headsT_length _ _
                have hal : (headsT tv0 l).length = l.length := headsT_length _ _
                have hbl : (headsT tv0 t'.recs).length = t'.recs.length := headsT_length _ _
                have hH32 := growAll_head p tv0 rfl
                have hne : pre2 2 (growAll tv0 p).head r ≠ pre2 2 (growAll tv0 p).head r' := fun e => hrr (pre2_inj e rfl).2
                have hs1 : sumB (pre2 2 (growAll tv0 p).head r) = chainB (growAll tv0 p).head r := by rw [chainB, catB_two]
                have hs2 : sumB (pre2 2 (growAll tv0 p).head r') = chainB (growAll tv0 p).head r := by rw [hch, chainB, catB_two]
                have hz1 : (pre2 2 (growAll tv0 p).head r).size ≤ 1000000 := by
                  rw [pre2, ByteArray.size_append, ByteArray.size_append]; have : (⟨#[2]⟩ : ByteArray).size = 1 := rfl; omega
                have hz2 : (pre2 2 (growAll tv0 p).head r').size ≤ 1000000 := by
                  rw [pre2, ByteArray.size_append, ByteArray.size_append]; have : (⟨#[2]⟩ : ByteArray).size = 1 := rfl; omega
                have RS1 := Lib.hid (fun W => RSum_any (pre2 2 (growAll tv0 p).head r) hz1 W)
                have RS2 := Lib.hid (fun W => RSum_any (pre2 2 (growAll tv0 p).head r') hz2 W)
                rw [hs1] at RS1
                rw [hs2] at RS2
                have hpl : p.length < l.length := by rw [hlpq, List.length_append]; simp
                have hpR : p.length < t'.recs.length := by rw [hRp, List.length_append]; simp
                generalize chainB (growAll tv0 p).head r = S at *
                generalize pre2 2 (growAll tv0 p).head r = xa at *
                generalize pre2 2 (growAll tv0 p).head r' = xb' at *
                have HHA := Lib.hid hHa
                have HHB := Lib.hid hHb
                have HPN := Lib.hid hpn
                have HNE := Lib.hid hne
                have HSA := Lib.hid (fun W v (h : SL W v l) => headsJ_any W v l h (by omega) (fun s hs => by have := hsm.out s hs; omega))
                have HSB := Lib.hid (fun W v (h : SL W v t'.recs) => headsJ_any W v t'.recs h (by omega) (fun s hs => by have := HSM.out s hs; omega))
                have hHTK : Hid (t'.recs.length ≤ l.length → SL w10 (.slice (some x4) t'.recs.length C4) (l.take t'.recs.length)) := Lib.hid (fun h => SL_take WAS10.out.sl h)
                clear hlpq hRp hrr hch hHa hHb hpn hne hs1 hs2 hz1 hz2 hH32 HCS hrs hrs' hal hbl
                generalize t'.recs = R at *
                have hdec : (((cb.toNat : Int) == 0) = false) ∨ (((cb.toNat : Int) == 0) = true ∧ ¬ (R.length : Int) < (l.length : Int)) ∨ (((cb.toNat : Int) == 0) = true ∧ (R.length : Int) < (l.length : Int)) := by
                  by_cases h : (cb.toNat : Int) = 0
                  · by_cases h2 : (R.length : Int) < (l.length : Int)
                    · exact .inr (.inr ⟨by simpa using h, h2⟩)
                    · exact .inr (.inl ⟨by simpa using h, h2⟩)
                  · exact .inl (beq_false_of_ne h)
                rcases hdec with h1 | ⟨h1, h2⟩ | ⟨h1, h2⟩
                focus
                  have H11 := H10
                  have WAS11 := WAS10
                  have IS11 := IS10
                  clear H10 WAS10 IS10
                  go_wp2_with fail
                rotate_left
                focus
                  have H11 := H10
                  have WAS11 := WAS10
                  have IS11 := IS10
                  clear H10 WAS10 IS10
                  go_wp2_with fail
                rotate_left
                focus
                  have hRC : R.length ≤ C4 := by omega
                  have SM := Lib.hid (fun W av bv ha hb => sameJ_any W av bv R (l.take R.length) ha hb (by omega) (by rw [List.length_take]; omega))
                  rw [hns] at SM
                  have HTK := Lib.hid (hHTK.out (by omega))
                  go_wp2_with fail
                  refine (SM.out _ _ _ IS10.out HTK.out).mono ?_
                  rintro e w11 ⟨rfl, hB11⟩
                  have H11 := Lib.hid (H10.out.below hB11)
                  have WAS11 := Lib.hid (WAS10.out.below hB11)
                  have IS11 := Lib.hid (IS10.out.below hB11)
                  clear hB11 H10 WAS10 IS10
                  go_wp2_with fail
                all_goals
                  refine (HSA.out _ _ WAS11.out.sl).mono ?_
                  rintro e w12 ⟨va, rfl, hOa, hBa⟩
                  have B12 := Lib.hid (H11.out.bel.trans (hBa.mono H11.out.bel.size))
                  have IS12 := Lib.hid (IS11.out.below hBa)
                  obtain ⟨g12, c12, rfl, -, hg12, hc12, -, hx12⟩ := own_form hOa (by omega)
                  have HX12 := Lib.hid hx12
                  clear hOa hBa H11 WAS11 IS11 hx12
                  go_wp2_with fail
                  refine (HSB.out _ _ IS12.out).mono ?_
                  rintro e w13 ⟨vb, rfl, hOb, hBb⟩
                  have B13 := Lib.hid (B12.out.trans (hBb.mono B12.out.size))
                  obtain ⟨g13, c13, rfl, -, hg13, hc13, -, hx13⟩ := own_form hOb (by omega)
                  have HX13 := Lib.hid hx13
                  have HX12' := Lib.hid (fun (j : Nat) u hj => (hBb.cell (p := ⟨g12, j, none⟩) hg12).trans (HX12.out j u hj))
                  have hg12' : g12 < w13.heap.size := Nat.lt_of_lt_of_le hg12 hBb.size
                  clear hOb hBb B12 IS12 hx13 HX12
                  go_wp2
                  go_loopw [23] (fun iv wr => ∃ k : Nat, iv = .int .i64 (k : Int) ∧ k ≤ p.length ∧ Below w13.heap.size w13 wr) (fun iv _ => p.length - (intOf iv).toNat)
                  case atStart => exact ⟨0, rfl, Nat.zero_le _, Below.refl _ _⟩
                  case round =>
                    obtain ⟨k2, rfl, hk2, hb2⟩ := hrel
                    have HB2 := Lib.hid hb2
                    clear hb2
                    have hka : (k2 : Int) < (l.length : Int) := by omega
                    have hkb : (k2 : Int) < (R.length : Int) := by omega
                    by_cases hlt : k2 < p.length
                    · obtain ⟨x, hx⟩ : ∃ x, (headsT tv0 p)[k2]? = some x := ⟨_, List.getElem?_eq_getElem (by rw [HPN.out]; exact hlt)⟩
                      have ca : wr.cell? ⟨g12, k2, none⟩ = some (.string x) := (HB2.out.cell (p := ⟨g12, k2, none⟩) hg12').trans (HX12'.out k2 _ (by rw [HHA.out, strV, List.getElem?_map, List.getElem?_append_left (by rw [HPN.out]; exact hlt), hx]; rfl))
                      have cb' : wr.cell? ⟨g13, k2, none⟩ = some (.string x) := (HB2.out.cell (p := ⟨g13, k2, none⟩) hg13).trans (HX13.out k2 _ (by rw [HHB.out, strV, List.getElem?_map, List.getElem?_append_left (by rw [HPN.out]; exact hlt), hx]; rfl))
                      clear hx
                      go_wp2
                      go_quiet (fail)
                      go_wp2
                      go_roundw
                      case rel => exact ⟨k2 + 1, by go_num, by omega, below_drewN HB2.out _⟩
                      case measure => simp [intOf]; omega
                    · obtain rfl : k2 = p.length := by omega
                      have ca : wr.cell? ⟨g12, p.length, none⟩ = some (.string xa) := (HB2.out.cell (p := ⟨g12, p.length, none⟩) hg12').trans (HX12'.out p.length _ (by rw [HHA.out, strV, List.getElem?_map, List.getElem?_append_right (by rw [HPN.out]; exact Nat.le_refl _), HPN.out, Nat.sub_self]; rfl))
                      have cb' : wr.cell? ⟨g13, p.length, none⟩ = some (.string xb') := (HB2.out.cell (p := ⟨g13, p.length, none⟩) hg13).trans (HX13.out p.length _ (by rw [HHB.out, strV, List.getElem?_map, List.getElem?_append_right (by rw [HPN.out]; exact Nat.le_refl _), HPN.out, Nat.sub_self]; rfl))
                      have hneq : (xa.toList != xb'.toList) = true := by
                        rw [bne_iff_ne]; exact fun e => HNE.out (str_ext e)
                      have hneq2 : (xa.toList == xb'.toList) = false := by
                        apply Bool.eq_false_iff.2; intro e; exact HNE.out (str_ext (by simpa using e))
                      have KA := Lib.hid (fun W (hB : Below wr.heap.size wr W) => And.intro ((hB.cell (p := ⟨g12, p.length, none⟩) (Nat.lt_of_lt_of_le hg12' HB2.out.size)).trans ca) ((hB.cell (p := ⟨g13, p.length, none⟩) (Nat.lt_of_lt_of_le hg13 HB2.out.size)).trans cb'))
                      go_wp2
                      go_region_held3 (fun w' => w'.cell? ⟨g12, p.length, none⟩ = some (.string xa) ∧ w'.cell? ⟨g13, p.length, none⟩ = some (.string xb'))
                        (first | exact ⟨ca, cb'⟩ | exact ka1 | exact ka2 | go_keep)
                        (first
                          | (go_at_call 28
                             with_reducible refine Calls.mono (RS2.out _) ?_
                             rintro e wy ⟨rfl, hBy⟩
                             have BY : Hid (Below wr.heap.size wr wy) := Lib.hid (by first | exact BX.out.trans (hBy.mono BX.out.size) | exact BX.out.trans (((Below.refl _ _).drew.trans hBy).mono BX.out.size) | exact hBy | exact (Below.refl _ _).drew.trans hBy)
                             have ka2 := KA.out wy BY.out
                             clear hBy)
                          | (go_at_call 28
                             with_reducible refine Calls.mono (RS1.out _) ?_
                             rintro e wx ⟨rfl, hBx⟩
                             have BX : Hid (Below wr.heap.size wr wx) := Lib.hid (by first | exact hBx | exact (Below.refl _ _).drew.trans hBx)
                             have ka1 := KA.out wx BX.out
                             clear hBx)
                          | fail)
                      all_goals
                        go_wp2
                        go_ret
                        exact ⟨rfl, B13.out.trans ((HB2.out.trans (BY.out.mono HB2.out.size)).mono B13.out.size)⟩
end Go.Proofs.YtljgphmdiflphaaGreatDoor
