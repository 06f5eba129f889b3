/- JournalRoom: the walk. -/
import Derived.Test.YtljgphmdiflphaaDoorMi
import Derived.Test.YtljgphmdiflphaaDoorMj
namespace Go.Proofs.YtljgphmdiflphaaDoor
open Go.RowKit Go.Shelf
set_option linter.unusedVariables false
set_option linter.unusedSimpArgs false

theorem needOf_snoc (l : List ByteArray) (k : Nat) (h : k < l.length) : needOf (l.take (k + 1)) = needOf (l.take k) + (33 + (putS l[k]).size) := by
  rw [List.take_succ_eq_append_getElem h, needOf_append]; simp [needOf]
theorem putS_small (s : ByteArray) : (putS s).size ≤ s.size + 10 := by have := intS_size s.size; rw [putS, ByteArray.size_append]; omega
theorem needOf_le (l : List ByteArray) (m : Nat) (h : ∀ s ∈ l, s.size ≤ m) : needOf l ≤ l.length * (m + 43) := by
  have := outE_le l tv0 m h
  rwa [outE_len] at this

set_option maxRecDepth 100000 in
set_option maxHeartbeats 4000000 in
theorem LawRm_any (w : World) (n : Int) (hn0 : -9223372036854775808 ≤ n) (hn1 : n ≤ 9223372036854775807) (sv : Value) (l : List ByteArray) (hsl : SL w sv l) (hlen : l.length ≤ 9223372036854775807) (hs : ∀ s ∈ l, s.size ≤ 9223372036854775807)
    (more : Int) (hm0 : -9223372036854775808 ≤ more) (hm1 : more ≤ 9223372036854775807) (hR : RoundLaid w) (a : Addr) (hD : DamLaid a w) :
    Calls Tryd.prog 11 #[.int .i64 n, sv, .int .i64 more] w fun e w' => e = .returned (.bool true) ∧ Below w.heap.size w w' := by
  have HR := Lib.hid hR
  have HD := Lib.hid hD
  have SN := Lib.hid (saneJ_any w hR a hD)
  have SZ := Lib.hid (fun W => sizeJ_any n W hn0 hn1)
  have hNb := sizeJ_bounds n
  have PK := Lib.hid (fun W => pickJ_any more 100 W (by decide) (by decide) hm0 hm1)
  have hp1 := pickJ_lo more 100 (by decide)
  have hp2 := pickJ_hi more 100 (by decide)
  generalize sizeJ n = N at *
  generalize pickJ more 100 = pk at *
  have HSL := Lib.hid hsl
  have FW := Lib.hid (fun W h => fewJ_any W sv l h hlen hs)
  have hfs := fewJ_small l 6
  have hfl : (fewJ l 6).length ≤ 6 := by rw [fewJ_length]; omega
  have HFS := Lib.hid hfs
  generalize fewJ l 6 = L at *
  clear hR hD hsl hlen hs hfs hn0 hn1 hm0 hm1
  obtain ⟨sa, sl, sc, rfl⟩ : ∃ sa sl sc, sv = .slice sa sl sc := by
    obtain ⟨a, c, e, _⟩ := HSL.out.form
    exact ⟨_, _, _, e⟩
  go_enter Tryd.func11, Tryd.ntmps11
  go_wp2_with fail
  refine SN.out.mono ?_
  rintro e w1 ⟨rfl, hB1⟩
  have HB1 := Lib.hid hB1
  clear hB1 SN
  go_wp2_with (go_at_call 40; refine (SZ.out _).mono ?_; rintro e w' ⟨rfl, rfl⟩)
  refine (newF w1 N hNb.1 (by omega)).mono ?_
  rintro e w2 ⟨bd, rfl, ⟨F1, hD1, hF1⟩, hB2⟩
  have HD1 := Lib.hid hD1
  have HF1 := Lib.hid (fun k hk => Nat.le_trans HB1.out.size (hF1 k hk))
  have HB2 := Lib.hid (HB1.out.trans (hB2.mono HB1.out.size))
  clear hD1 hF1 hB2 HB1
  go_wp2_with fail
  refine (OpenS HD1.out HF1.out HB2.out rfl (by omega) HR.out a HD.out (JInv.new N)).mono ?_
  rintro e w3 ⟨jb, G3, rfl, h3, -, -⟩
  have H3 := Lib.hid h3
  clear h3 HD1 HF1 HB2
  go_wp2_with fail
  refine (FW.out _ (HSL.out.below H3.out.bel)).mono ?_
  rintro e w4 ⟨v, rfl, hO, hB⟩
  have H4 := Lib.hid (H3.out.below hB)
  obtain ⟨va, vc, rfl, hvc, hvf⟩ := (SL_own hO).form
  have HO := Lib.hid (RowK.new hO (fun k hk => H3.out.j.lt hk))
  have HV := Lib.hid hvf
  clear hO hB hvf FW H3
  go_wp2
  have HA4 := H4
  have HN := Lib.hid hNb
  obtain ⟨q, hq⟩ : ∃ q : Nat, 65537 + pk = (q : Int) := ⟨(65537 + pk).toNat, by omega⟩
  have hq1 : 65537 ≤ q ∧ q ≤ 65700 := by omega
  have HQ := Lib.hid hq
  clear hq hp1 hp2 HA4
  go_loopw [12, 13] (fun nv iv wr => ∃ k : Nat, iv = .int .i64 (k : Int) ∧ k ≤ L.length ∧ nv = .int .i64 ((needOf (L.take k) : Nat) : Int) ∧ Below w4.heap.size w4 wr) (fun _ iv _ => L.length - (intOf iv).toNat)
  case atStart => exact ⟨0, rfl, Nat.zero_le _, by simp [needOf], Below.refl _ _⟩
  case round =>
    obtain ⟨k, rfl, hk, rfl, hb⟩ := hrel
    have HB := Lib.hid hb
    clear hb
    have hnd := needOf_le (L.take k) 100 (fun s hs => HFS.out s (List.mem_of_mem_take hs))
    have hlt0 : (L.take k).length ≤ k := by rw [List.length_take]; omega
    have hnd2 : needOf (L.take k) ≤ 858 := by
      have : (L.take k).length * (100 + 43) ≤ 6 * 143 := Nat.mul_le_mul (by omega) (by omega)
      omega
    by_cases hlt : k < L.length
    · obtain ⟨vb, vo, rfl, hvb, hvx⟩ := HV.out (by omega)
      have cx : wr.cell? ⟨vb, vo + k, none⟩ = some (.string L[k]) := (HB.out.cell (p := ⟨vb, vo + k, none⟩) hvb).trans (hvx k _ (List.getElem?_eq_getElem hlt))
      have hsz := HFS.out L[k] (List.getElem_mem hlt)
      have PS := Lib.hid (PutStringR_any L[k] (by omega) wr)
      have SNC := Lib.hid (needOf_snoc L k hlt)
      have hps := putS_small L[k]
      have hlti : (k : Int) < (L.length : Int) := by omega
      clear hvx hnd hlt0
      generalize L[k] = x at *
      generalize needOf (L.take k) = nd at *
      generalize putS x = p at *
      go_wp2_with (go_at_call 43; refine PS.out.mono ?_; rintro e w5 ⟨rfl, hB5⟩; have HB5 := Lib.hid (HB.out.trans (hB5.mono HB.out.size)); clear hB5)
      go_roundw
      case rel => exact ⟨k + 1, by go_num, by omega, by rw [SNC.out]; exact congrArg _ (by omega), HB5.out⟩
      case measure => simp [intOf]; omega
    · obtain rfl : k = L.length := by omega
      rw [List.take_length] at hnd2 ⊢
      have H5 := Lib.hid (H4.out.below HB.out)
      have HO5 := Lib.hid (HO.out.below HB.out)
      clear hnd hlt0 HB H4 HO HV
      have hcase : ∃ c d1 L1, appJ N false (growAll tv0 []) (newD N) L = (c, false, growAll tv0 L1, d1) ∧ JInv N d1 L1 ∧ Calm d1 ∧ ((c = 0 ∧ needOf L ≤ N ∧ L1 = L) ∨ (c = 261 ∧ ¬ needOf L ≤ N ∧ L1 = [])) := by
        by_cases hf : needOf L ≤ N
        · obtain ⟨d', e, h1, h2⟩ := appJ_fits (g := L) (JInv.new N) ⟨rfl, rfl, rfl⟩ (fun r hr => by have := HFS.out r hr; omega) (by show 0 + needOf L ≤ N; omega)
          exact ⟨0, d', L, e, h1, h2, .inl ⟨rfl, hf, rfl⟩⟩
        · exact ⟨261, newD N, [], appJ_full (l := []) (fun r hr => by have := HFS.out r hr; omega) (by show ¬ 0 + needOf L ≤ N; omega), JInv.new N, ⟨rfl, rfl, rfl⟩, .inr ⟨rfl, hf, rfl⟩⟩
      obtain ⟨c, d1, L1, he, hI1, hC1, hc⟩ := hcase
      go_wp2_with fail
      refine (AppendS H5.out HR.out (by omega) _ L HO5.out.sl (by omega) (fun r hr => by have := HFS.out r hr; omega) (by show ([] : List (Nat × ByteArray)).length ≤ _; simp) he).mono ?_
      rintro e w6 ⟨rfl, G6, h6, hm6⟩
      have H6 := Lib.hid h6
      have I1 := Lib.hid (And.intro hI1 hC1)
      have HCS := Lib.hid hc
      have HNS := Lib.hid (show L1 = L ∨ L1 = [] from hc.elim (fun h => .inl h.2.2) (fun h => .inr h.2.2))
      have HO6 := Lib.hid (HO5.out.moves hm6)
      clear h6 hm6 hI1 hC1 he H5 HO5 hc
      obtain ⟨nd, hnd⟩ : ∃ nd, needOf L = nd := ⟨_, rfl⟩
      have HND := Lib.hid hnd
      rw [hnd] at hnd2 ⊢
      clear hnd
      rcases HCS.out with ⟨rfl, hf, e1⟩ | ⟨rfl, hf, e1⟩
      focus
        have hfn : nd ≤ N := by rw [← HND.out]; exact hf
        obtain ⟨m, hm⟩ : ∃ m : Nat, (N : Int) - (nd : Int) = (m : Int) := ⟨N - nd, by omega⟩
        have hmm : N = needOf L1 + m := by rw [e1, HND.out]; omega
        have RM := Lib.hid (fun W h => RoomS (w := w) (W := W) (jb := jb) (bd := bd) (n := N) (br := false) (l := L1) (d := d1) (G := G6) h m hmm)
        have hfi : (nd : Int) ≤ (N : Int) := by omega
        clear hf e1 hmm HCS
        go_wp2_with (first
          | (go_at_call 40; refine (SZ.out _).mono ?_; rintro e w' ⟨rfl, rfl⟩)
          | (go_at_call 45
             refine (RM.out _ H6.out).mono ?_
             rintro e w7 ⟨rfl, hB7⟩
             have H7 := Lib.hid (H6.out.below hB7)
             have B7 := Lib.hid hB7
             clear hB7)
          | fail)
        have HO7 := Lib.hid (HO6.out.below B7.out)
        clear RM H6 HO6 B7 hfi hm
      rotate_left
      focus
        have hfn : ¬ nd ≤ N := by rw [← HND.out]; exact hf
        have hmm : N = needOf L1 + N := by rw [e1]; show N = 0 + N; omega
        have RM := Lib.hid (fun W h => RoomS (w := w) (W := W) (jb := jb) (bd := bd) (n := N) (br := false) (l := L1) (d := d1) (G := G6) h N hmm)
        have hfi : ¬ (nd : Int) ≤ (N : Int) := by omega
        clear hf e1 hmm HCS
        go_wp2_with (first
          | (go_at_call 40; refine (SZ.out _).mono ?_; rintro e w' ⟨rfl, rfl⟩)
          | (go_at_call 45
             refine (RM.out _ H6.out).mono ?_
             rintro e w7 ⟨rfl, hB7⟩
             have H7 := Lib.hid (H6.out.below hB7)
             have B7 := Lib.hid hB7
             clear hB7)
          | fail)
        have HO7 := Lib.hid (HO6.out.below B7.out)
        clear RM H6 HO6 B7 hfi
      all_goals
        refine (RecordsS H7.out).mono ?_
        rintro e w8 ⟨A8, C8, rfl, hO8, hB8⟩
        have H8 := Lib.hid (H7.out.below hB8)
        have WAS := Lib.hid (RowK.new hO8 (fun k hk => H7.out.j.lt hk))
        have HO8 := Lib.hid (HO7.out.below hB8)
        clear hO8 hB8 H7 HO7
        have hmk := fun W => mkZ q (by omega) W
        have hcv : ∀ W : World, (convert 45 9 (.slice (some ⟨W.heap.size, 0, none⟩) q q)).run Tryd.prog (W.alloc (.cells (bytesV (zsL q)).toArray 5)) = .ok (.string (zs q)) (W.alloc (.cells (bytesV (zsL q)).toArray 5)) := fun W => sconv (allocAt _ rfl) (by omega)
        have hqe := HQ.out
        go_wp2_with (first
          | (go_at_call 47; refine (PK.out _).mono ?_; rintro e w' ⟨rfl, rfl⟩)
          | (at_builtin; refine wpList_append_strs rfl (.tmp 108) (.tmp 114) rfl w8.heap.size v9 L.length L rfl ((O9.out.alloc _).alloc _) 0 _ 1 [zs q] rfl (own_at _ [zs q] _ 1 0 (by simp) rfl (by simp)) (by omega) (by have := B9.out.size; simp; omega) ?_
             intro v10 w10 ho10 hg10
             have O10 := Lib.hid (SL_own (l := L ++ [zs q]) (by rw [List.length_append]; exact ho10))
             have B10 := Lib.hid (((B9.out.alloc B9.out.size _).alloc (by have := B9.out.size; simp; omega) _).grown hg10 (by have := B9.out.size; simp; omega) (fun j e => (O9.out.lt j e).1))
             clear ho10 hg10)
          | (at_builtin; refine wpList_append_clone rfl (.tmp 106) (.tmp 107) rfl w8.heap.size w8.heap.size rfl (Nat.le_refl _) (allocAt _ rfl) _ L rfl (HO8.out.sl.below ((Below.refl _ _).alloc (Nat.le_refl _) _)) (by omega) ?_
             intro v9 w9 ho9 hB9
             have O9 := Lib.hid ho9
             have B9 := Lib.hid (((Below.refl _ w8).alloc (Nat.le_refl _) _).trans (hB9.mono (by simp)))
             clear ho9 hB9)
          | fail)
        have H10 := Lib.hid (H8.out.below B10.out)
        have WA10 := Lib.hid (WAS.out.below B10.out)
        have HO10 := Lib.hid (HO8.out.below B10.out)
        clear H8 WAS HO8 B10 O9 B9 hmk hcv hqe
        refine (AppendS H10.out HR.out (by omega) _ (L ++ [zs q]) O10.out (by simp; omega) (fun r hr => by
          rcases List.mem_append.1 hr with h | h
          · have := HFS.out r h; omega
          · simp at h; rw [h, zs_size]; omega) (by rw [I1.out.2.pe]; simp) (appJ_long ⟨zs q, by simp, by rw [zs_size]; omega⟩)).mono ?_
        rintro e w11 ⟨rfl, G11, h11, hm11⟩
        have H11 := Lib.hid h11
        have WA11 := Lib.hid (WA10.out.moves hm11)
        have HO11 := Lib.hid (HO10.out.moves hm11)
        clear h11 hm11 H10 WA10 HO10 O10
        have hA0 : appJ N false (growAll tv0 L1) d1 [] = (0, false, growAll tv0 L1, d1) := appJ_nil (by rw [growAll_len]; exact I1.out.1.fit)
        have HA0 := Lib.hid hA0
        clear hA0
        go_wp2_with fail
        refine (AppendS H11.out HR.out (by omega) _ [] (SL.nil _) (by simp) (by simp) (by rw [I1.out.2.pe]; simp) HA0.out).mono ?_
        rintro e w12 ⟨rfl, G12, h12, hm12⟩
        have H12 := Lib.hid h12
        have WA12 := Lib.hid (WA11.out.moves hm12)
        have HO12 := Lib.hid (HO11.out.moves hm12)
        clear h12 hm12 H11 WA11 HO11
        obtain ⟨F12, f1, f2, f3⟩ := H12.out.disk
        have D12 := Lib.hid f1
        clear f1 f2 f3
        go_wp2_with fail
        refine (cutF D12.out I1.out.2.off 0 (by decide) (by decide)).mono ?_
        rintro e w13 ⟨rfl, F13, hD13, hm13⟩
        obtain ⟨G13, h13, hg13⟩ := H12.out.moved D12.out hD13 hm13
        have H13 := Lib.hid h13
        have WA13 := Lib.hid (WA12.out.moves hg13)
        have HO13 := Lib.hid (HO12.out.moves hg13)
        clear hD13 hm13 h13 hg13 D12 H12 WA12 HO12
        obtain ⟨m1, hm1⟩ : ∃ m1, N = needOf L1 + m1 := ⟨N - needOf L1, by have := I1.out.1.fit; omega⟩
        have hofft : (cutD d1 0).off = true := rfl
        have hpe : (cutD d1 0).pe.length ≤ 100000 := by show d1.pe.length ≤ _; rw [I1.out.2.pe]; simp
        have HM1 := Lib.hid (And.intro hm1 hpe)
        have SM := Lib.hid (fun W av bv ha hb => sameJ_any W av bv L1 L1 ha hb (by rcases HNS.out with e | e <;> rw [e]; omega; simp) (by rcases HNS.out with e | e <;> rw [e]; omega; simp))
        rw [show sameJ L1 L1 = true from decide_eq_true rfl] at SM
        by_cases hsm : m1 < 35
        focus
          have HA1 := Lib.hid (show appJ N false (growAll tv0 L1) (cutD d1 0) [⟨#[120]⟩] = (261, false, growAll tv0 L1, cutD d1 0) from appJ_full (by decide) (by rw [need_x]; omega))
          have HA2 := Lib.hid (show appJ N false (growAll tv0 L1) (cutD d1 0) [] = (0, false, growAll tv0 L1, cutD d1 0) from appJ_nil (by rw [growAll_len]; exact I1.out.1.fit))
          have hsmi : (m1 : Int) < 35 := by omega
          clear hm1 hofft hpe
          go_wp2_with fail
          refine (AppendS (H13.out.alloc _) HR.out (by omega) _ [⟨#[120]⟩] (SL_at _ [⟨#[120]⟩] _ 1 rfl rfl (by decide)) (by decide) (by decide) HM1.out.2 HA1.out).mono ?_
          rintro e w14 ⟨rfl, G14, h14, hm14⟩
          have H14 := Lib.hid h14
          have WA14 := Lib.hid ((WA13.out.below ((Below.refl _ _).alloc (Nat.le_refl _) _)).moves hm14)
          have HO14 := Lib.hid ((HO13.out.below ((Below.refl _ _).alloc (Nat.le_refl _) _)).moves hm14)
          clear h14 hm14 H13 WA13 HO13 HA1
          go_wp2_with fail
          refine (RoomS H14.out m1 HM1.out.1).mono ?_
          rintro e w15 ⟨rfl, hB15⟩
          have H15 := Lib.hid (H14.out.below hB15)
          have WA15 := Lib.hid (WA14.out.below hB15)
          have HO15 := Lib.hid (HO14.out.below hB15)
          clear hB15 H14 WA14 HO14
          go_wp2_with fail
          refine (AppendS H15.out HR.out (by omega) _ [] (SL.nil _) (by simp) (by simp) HM1.out.2 HA2.out).mono ?_
          rintro e w16 ⟨rfl, G16, h16, hm16⟩
          have H16 := Lib.hid h16
          have WA16 := Lib.hid (WA15.out.moves hm16)
          have HO16 := Lib.hid (HO15.out.moves hm16)
          clear h16 hm16 H15 WA15 HO15 HA2
        rotate_left
        focus
          have HA1 := Lib.hid (show appJ N false (growAll tv0 L1) (cutD d1 0) [⟨#[120]⟩] = (251, true, growAll tv0 L1, cutD d1 0) from appJ_off (by decide) (by rw [need_x, growAll_len]; omega) (by decide) hofft)
          have HA2 := Lib.hid (show appJ N true (growAll tv0 L1) (cutD d1 0) [] = (260, true, growAll tv0 L1, cutD d1 0) from if_pos (.inl rfl))
          have hsmi : ¬ (m1 : Int) < 35 := by omega
          clear hm1 hofft hpe
          go_wp2_with fail
          refine (AppendS (H13.out.alloc _) HR.out (by omega) _ [⟨#[120]⟩] (SL_at _ [⟨#[120]⟩] _ 1 rfl rfl (by decide)) (by decide) (by decide) HM1.out.2 HA1.out).mono ?_
          rintro e w14 ⟨rfl, G14, h14, hm14⟩
          have H14 := Lib.hid h14
          have WA14 := Lib.hid ((WA13.out.below ((Below.refl _ _).alloc (Nat.le_refl _) _)).moves hm14)
          have HO14 := Lib.hid ((HO13.out.below ((Below.refl _ _).alloc (Nat.le_refl _) _)).moves hm14)
          clear h14 hm14 H13 WA13 HO13 HA1
          go_wp2_with fail
          refine (RoomS H14.out m1 HM1.out.1).mono ?_
          rintro e w15 ⟨rfl, hB15⟩
          have H15 := Lib.hid (H14.out.below hB15)
          have WA15 := Lib.hid (WA14.out.below hB15)
          have HO15 := Lib.hid (HO14.out.below hB15)
          clear hB15 H14 WA14 HO14
          go_wp2_with fail
          refine (AppendS H15.out HR.out (by omega) _ [] (SL.nil _) (by simp) (by simp) HM1.out.2 HA2.out).mono ?_
          rintro e w16 ⟨rfl, G16, h16, hm16⟩
          have H16 := Lib.hid h16
          have WA16 := Lib.hid (WA15.out.moves hm16)
          have HO16 := Lib.hid (HO15.out.moves hm16)
          clear h16 hm16 H15 WA15 HO15 HA2
        all_goals
          go_wp2_with (first
            | (go_at_call 44; with_reducible refine Calls.mono (Append_nil _ _) ?_; rintro e w' ⟨rfl, rfl⟩)
            | (go_at_call 46; with_reducible refine Calls.mono (Records_nil _) ?_; rintro e w' ⟨rfl, rfl⟩)
            | (go_at_call 45; with_reducible refine Calls.mono (Room_nil _) ?_; rintro e w' ⟨rfl, rfl⟩)
            | (go_at_call 46
               with_reducible refine Calls.mono (RecordsS H16.out) ?_
               rintro e w17 ⟨A17, C17, rfl, hO17, hB17⟩
               have O17 := Lib.hid (SL_own hO17)
               have WA17 := Lib.hid (WA16.out.below hB17).sl
               have B17 := Lib.hid (H16.out.bel.trans (hB17.mono H16.out.bel.size))
               clear hO17 hB17)
            | (go_at_call 49
               refine (SM.out _ _ _ O17.out WA17.out).mono ?_
               rintro e w18 ⟨rfl, hB18⟩
               have B18 := Lib.hid (B17.out.trans (hB18.mono B17.out.size))
               clear hB18)
            | fail)
          go_ret
          exact ⟨rfl, B18.out⟩
end Go.Proofs.YtljgphmdiflphaaDoor
