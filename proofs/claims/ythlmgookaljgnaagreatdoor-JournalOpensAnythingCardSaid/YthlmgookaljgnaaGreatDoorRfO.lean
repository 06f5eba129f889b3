/- The reference's journal: Open. -/
import Derived.Test.YthlmgookaljgnaaGreatDoorRfJ
namespace Go.Proofs.YthlmgookaljgnaaGreatDoor
open Go.RowKit Go.Shelf
set_option linter.unusedVariables false
set_option linter.unusedSimpArgs false

theorem diskB_at {w : World} {bx gs cs : Nat} {lv : Value} {n : Nat} {d : DV} (h : RefAt w bx gs cs lv n d) : d.vi.length = n := by
  rw [h.vis]; exact applyW_length h.hs.len _ h.fit
theorem RLoad.start {w w1 w2 : World} {bx n : Nat} (hB1 : Below w.heap.size w w1) (hB2 : Below (w1.alloc (.cells #[.pointer (some ⟨bx, 0, none⟩), .slice none 0 0, .int .i64 0, .bool false] 43)).heap.size (w1.alloc (.cells #[.pointer (some ⟨bx, 0, none⟩), .slice none 0 0, .int .i64 0, .bool false] 43)) w2) :
    RLoad w w1.heap.size bx n tv0 (.string z32) w2 := by
  have h0 : RJAt (w1.alloc (.cells #[.pointer (some ⟨bx, 0, none⟩), .slice none 0 0, .int .i64 0, .bool false] 43)) w1.heap.size bx (.slice none 0 0) false tv0 :=
    ⟨allocAt _ rfl, World.ownsRow_nil _ _ _ _, Nat.zero_le _, Nat.zero_le _, rfl⟩
  refine ⟨⟨_, h0.below hB2⟩, rfl, (hB1.alloc hB1.size _).trans (hB2.mono ?_), Nat.le_refl _, Nat.zero_le _, hB1.size⟩
  have := hB1.size
  simp; omega
theorem RFin {w wr W w' : World} {jb bx n gs cs gs' cs' : Nat} {lv lv0 lv' hv : Value} {d d' : DV} {G : Nat → Prop} {t : TV} (HI : RLoad w jb bx n t hv wr) (HT : RJAt wr jb bx lv false t) (H1 : RefAt w bx gs cs lv0 n d ∧ ∀ k, G k ↔ FootR bx gs lv0 k)
    (hW : Below wr.heap.size wr W) (R : RefAt w' bx gs' cs' lv' n d') (M : Moves (FootR bx gs lv0) (FootR bx gs' lv') W w') :
    RefF w' bx n d' (FootR bx gs' lv') ∧ Moves G (FootR bx gs' lv') w w' ∧ RJAt w' jb bx lv false t ∧ w.heap.size ≤ jb ∧ ¬ FootR bx gs' lv' jb ∧ ∀ q, lv.ownBlock = some q → ¬ FootR bx gs' lv' q := by
  have hB := HI.below.trans (hW.mono HI.below.size)
  have hlo := HI.lo
  have hold : ∀ k, w.heap.size ≤ k → ¬ FootR bx gs lv0 k := fun k hk hf => by have := H1.1.foot_lt hf; omega
  have hjw := ltOf HT.cells
  have hws := hW.size
  have hnew : ∀ k, w.heap.size ≤ k → k < wr.heap.size → ¬ FootR bx gs' lv' k := fun k h1 h2 hf => by
    rcases M.2 k hf with e | e
    · exact hold k h1 e
    · omega
  refine ⟨⟨gs', cs', lv', R, fun _ => Iff.rfl⟩, ⟨(Upd.of_below (S := G) hB).trans M.1 (fun i _ h => (H1.2 i).2 h), fun k hk => ?_⟩, (HT.below hW).upd M.1 (hold jb hlo) (fun q e => hold q (by have := HT.ne e; omega)), hlo, hnew jb hlo hjw, fun q e => hnew q (by have := HT.ne e; omega) (HT.ne e).2⟩
  rcases M.2 k hk with e | e
  · exact .inl ((H1.2 k).2 e)
  · have := hB.size
    exact .inr (by omega)
theorem rest_zero {d : DV} {S : ByteArray} {n p m : Nat} (hS : S = diskB d) (hn : d.vi.length = n) (hm : n - p = m) : (S.extract p n).toList = (zs m).toList ↔ d.vi.drop p = List.replicate m 0 := by
  have e1 : (S.extract p n).data.toList = d.vi.drop p := by
    rw [extract_list, hS]
    show ((d.vi.toArray.toList).drop p).take (n - p) = _
    rw [List.toList_toArray, List.take_of_length_le (by simp; omega)]
  have e2 : (zs m).data.toList = List.replicate m 0 := by rw [zs, List.toList_toArray]
  rw [← e1, ← e2]
  constructor
  · intro h; rw [str_ext h]
  · intro h; rw [ba_ext h]
theorem neq_true {x : UInt8} (h : x = 1) : (!((x.toNat : Int) == 1)) = false := by subst h; rfl

set_option maxRecDepth 100000 in
set_option maxHeartbeats 4000000 in
theorem ROpen_any {w : World} {bx n : Nat} {d : DV} {G : Nat → Prop} (h : RefF w bx n d G) (hn : n ≤ 800000) (hpe : d.pe.length ≤ 100000) :
    Calls Tryz.prog 42 #[.pointer (some ⟨bx, 0, none⟩)] w fun e w' => ROut w bx n G (openJ n d) e w' := by
  obtain ⟨gs, cs, lv0, h1, h2⟩ := h
  have c0 : w.cell? ⟨bx, 0, none⟩ = some (.slice (some ⟨gs, 0, none⟩) n cs) := cellOf h1.hd 0
  have hvl := diskB_at h1
  by_cases ho : d.off = true
  · have RD := Lib.hid (RefRead_off h1 ho 0 (n : Int))
    have HO : Hid (ROut w bx n G (openJ n d) (.returned (.tuple #[.pointer none, .int .i64 251])) w) := Lib.hid (by
      rw [openJ, if_pos ho]
      exact ⟨rfl, G, ⟨gs, cs, lv0, h1, h2⟩, Moves.refl _ _⟩)
    clear h1 h2 hvl ho
    go_enter Tryz.func42, Tryz.ntmps42
    go_wp2_with (go_at_call 60; refine RD.out.mono ?_; rintro e w' ⟨rfl, rfl⟩)
    refine bodyPost_ret (results_tmp2 rfl _ _ _) rfl ?_
    exact HO.out
  have ho' : d.off = false := by simpa using ho
  have RD := Lib.hid (RefRead_ok h1 ho' 0 n (by omega))
  obtain ⟨S, hS⟩ : ∃ S, S = diskB d := ⟨_, rfl⟩
  have hSn : S.size = n := by rw [hS]; show d.vi.toArray.size = n; simpa using hvl
  have hR1 : (⟨((d.vi.drop 0).take n).toArray⟩ : ByteArray) = S := by rw [hS, diskB, List.drop_zero, List.take_of_length_le (by omega)]
  rw [hR1] at RD
  have HS := Lib.hid (And.intro hS hvl)
  have H1 := Lib.hid (And.intro h1 h2)
  have HO := Lib.hid ho'
  clear h1 h2 hvl ho ho' hR1 hS
  have hbx := ltOf H1.out.1.hd
  go_enter Tryz.func42, Tryz.ntmps42
  go_wp2_with (first
    | (go_at_call 60; refine RD.out.mono ?_; rintro e w1 ⟨rfl, hB1⟩; have HB1 := Lib.hid hB1; clear hB1)
    | (go_at_call 35; refine (RHead_nil _).mono ?_; rintro e w2 ⟨rfl, hB2⟩; have HB2 := Lib.hid hB2; clear hB2)
    | fail)
  have HL := Lib.hid (RLoad.start (n := n) HB1.out HB2.out)
  have hjl : w.heap.size ≤ w1.heap.size := HB1.out.size
  clear HB1 HB2 RD
  generalize w1.heap.size = jb at *
  go_loopg [8] (n + 1) (fun f hv wr => ∃ t', loadP S (n + 1) tv0 = loadP S f t' ∧ n - t'.size < f ∧ RLoad w jb bx n t' hv wr)
  case atStart => exact ⟨tv0, rfl, by show n - 0 < n + 1; omega, HL.out⟩
  case round =>
    obtain ⟨t', hlp, hf, hI⟩ := hrel
    obtain ⟨f, rfl⟩ : ∃ f, gk = f + 1 := ⟨gk - 1, by omega⟩
    have HLP := Lib.hid hlp
    have HI := Lib.hid hI
    clear hlp HL
    obtain ⟨lv, hT⟩ := HI.out.own
    have hv1 := HI.out.hv
    subst hv1
    have HT := Lib.hid hT
    have c2 : wr.cell? ⟨jb, 2, none⟩ = some (.int .i64 (t'.size : Int)) := cellOf hT.cells 2
    have hle := hI.le
    clear hT hI
    by_cases hgo : ∃ hlt : t'.size < S.size, ¬ S[t'.size] = 0
    · obtain ⟨hlt, hz0⟩ := hgo
      have hlti : (t'.size : Int) < (n : Int) := by omega
      have hi0 : ¬ (S[t'.size].toNat : Int) = 0 := fun e => hz0 (UInt8.toNat_inj.1 (by simpa using e))
      have hp2 : Hid (∀ W, Calls Tryz.prog 61 #[.string S, .int .i64 ((t'.size : Int) + 1)] W fun e w' => e = .returned (outS (decS S (t'.size + 1))) ∧ Below W.heap.size W w') := Lib.hid (fun W => by
        have := RString_any S (t'.size + 1) (by omega) (by omega) W
        simpa using this)
      have HR : Hid (loadP S (n + 1) tv0 = none → ∀ W, Below wr.heap.size wr W → ROut w bx n G (openJ n d) (.returned (.tuple #[.pointer none, .int .i64 262])) W) := Lib.hid (fun hP W hW => by
        rw [openJ, if_neg (by rw [HO.out]; decide), ← HS.out.1, hP]
        have hB := HI.out.below.trans (hW.mono HI.out.below.size)
        have hU : Upd (fun _ => False) w W := Upd.of_below hB
        exact ⟨rfl, G, ⟨gs, cs, lv0, H1.out.1.upd hU (fun _ _ f => f), H1.out.2⟩, hU.mono (fun _ _ f => f.elim), fun _ h => .inl h⟩)
      by_cases h1 : S[t'.size] = 1
      · have hi1 : (S[t'.size].toNat : Int) = 1 := by rw [h1]; rfl
        rcases hdec : decS S (t'.size + 1) with _ | ⟨r, q⟩
        · have hP : Hid (loadP S (n + 1) tv0 = none) := Lib.hid (by rw [HLP.out, loadP, dif_pos hlt, if_neg hz0, if_pos h1, hdec])
          rw [hdec] at hp2
          clear hdec h1 hz0
          go_wp2_with (first
            | (go_at_call 61; refine (hp2.out _).mono ?_; unfold outS; rintro e w' ⟨rfl, hB⟩; have HB := Lib.hid hB; have e2 : w'.cell? ⟨jb, 2, none⟩ = some (.int .i64 (t'.size : Int)) := cellOf (HT.out.below hB).cells 2; clear hB)
            | fail)
          refine bodyPost_ret (results_tmp2 rfl _ _ _) rfl ?_
          exact HR.out hP.out _ HB.out
        · obtain ⟨br, bq, bp⟩ := decS_bounds hdec
          rw [hdec] at hp2
          have CH := Lib.hid (fun W => RChain_any t'.head r (by rw [HT.out.head]; omega) W)
          have IFF := Lib.hid (fun hq => recE_iff (h := t'.head) hlt h1 hdec hq)
          have HLP2 : Hid (loadP S (n + 1) tv0 = if q + 32 ≤ S.size ∧ recE t'.head r = S.extract t'.size (q + 32) then loadP S f ⟨t'.recs ++ [r], chainB t'.head r, t'.size + (recE t'.head r).size⟩ else none) := Lib.hid (by rw [HLP.out, loadP, dif_pos hlt, if_neg hz0, if_pos h1, hdec])
          clear hdec h1 hz0 HLP
          by_cases hq : q + 32 ≤ n
          · have hqi : (q : Int) + 32 ≤ (n : Int) := by omega
            by_cases he : S.extract q (q + 32) = chainB t'.head r
            · obtain ⟨i0, hi, hz1, hz2, hz3⟩ := info_parts Tryz.infoStr
              obtain ⟨q2, hq2⟩ : ∃ q2, q2 = q + 32 := ⟨_, rfl⟩
              have hqq : (q : Int) + 32 = (q2 : Int) := by omega
              have hq3 : (q2 : Int) ≤ (n : Int) := by omega
              have hq4 : (q : Int) ≤ (q2 : Int) := by omega
              have hb : ((S.extract q q2).toList == (chainB t'.head r).toList) = true := by
                rw [hq2, he]; simp
              have hrec : recE t'.head r = S.extract t'.size (q + 32) := (IFF.out (by omega)).2 he
              have hsz : (recE t'.head r).size = q + 32 - t'.size := by rw [hrec, ByteArray.size_extract]; omega
              have HP2 : Hid (loadP S (n + 1) tv0 = loadP S f ⟨t'.recs ++ [r], chainB t'.head r, q2⟩) := Lib.hid (by
                rw [HLP2.out, if_pos ⟨by omega, hrec⟩, hsz, show t'.size + (q + 32 - t'.size) = q2 by omega])
              have hln := HI.out.len
              have hjw := ltOf HT.out.cells
              have hw2 : IntKind.i64.wrap (q2 : Int) = (q2 : Int) := by rw [IntKind.wrap_i64]; omega
              have hq5 : (q : Int) ≤ 1000000 := by omega
              clear hq2 hqi he hrec hsz IFF HLP2 HR
              go_wp2_with (first
                | (go_at_call 61; refine (hp2.out _).mono ?_; unfold outS; rintro e w' ⟨rfl, hB⟩; have HB := Lib.hid hB; have e2 : w'.cell? ⟨jb, 2, none⟩ = some (.int .i64 (t'.size : Int)) := cellOf (HT.out.below hB).cells 2; clear hB)
                | (go_at_call 58; refine (CH.out _).mono ?_; rintro e w4 ⟨rfl, hB4⟩; have HB4 := Lib.hid (HB.out.trans (hB4.mono HB.out.size)); have e3 : w4.cell? ⟨jb, 1, none⟩ = some lv := cellOf (HT.out.below HB4.out).cells 1; have HT4 := Lib.hid (HT.out.below HB4.out); have hs4 : jb < w4.heap.size := ltOf HT4.out.cells; clear hB4)
                | (at_builtin; refine wpList_append_lies _ rfl (.tmp 88) (.tmp 90) 22 rfl (jb + 1) 9 i0 _ 1 16 Tryz.underlying22 hi hz1 hz2 hz3 rfl (by decide) lv t'.recs.length _ rfl (HT4.out.row.alloc _) ⟨w4.heap.size, 0, none⟩ 1 1 [.string r] rfl rfl (by have := cell_one_new w4 (.string r) 9; simpa using this) (by simp [Value.oneCell']) (by omega) (by simp only [maxLen]; omega) (by omega) (by simp; omega) (w4.heap.size + 1) (by simp) ?_
                   intro g cap w3 hown hgr hat hlt9
                   obtain ⟨h3, h4⟩ := HT4.out.pushed r (by omega) hown hgr
                   have HGR := Lib.hid hgr
                   have HAT := Lib.hid hat
                   have e0 : w3.cell? ⟨jb, 1, none⟩ = some lv := cellOf h3 1
                   have g0 : w3.frozen? ⟨jb, 1, none⟩ = false := frozenOf h3 1
                   have g1 : (w3.setCell ⟨jb, 1, none⟩ (.slice (some ⟨g, 0, none⟩) (t'.recs.length + 1) cap)).frozen? ⟨jb, 2, none⟩ = false := frozenOf (setOf_ h3 1 _) 2
                   have g2 : (w3.setCell ⟨jb, 1, none⟩ (.slice (some ⟨g, 0, none⟩) (t'.recs.length + 1) cap)).cell? ⟨jb, 2, none⟩ = some (.int .i64 (t'.size : Int)) := cellOf (setOf_ h3 1 _) 2
                   have H4 := Lib.hid (h4 q2 (by omega))
                   clear hgr hat hlt9 h3 h4 hown)
                | fail)
              have HF : Hid (Below w.heap.size w ((w3.setCell ⟨jb, 1, none⟩ (.slice (some ⟨g, 0, none⟩) (t'.recs.length + 1) cap)).setCell ⟨jb, 2, none⟩ (.int .i64 (q2 : Int)))) := Lib.hid (by
                have a1 := HI.out.below
                have a2 := a1.trans (HB4.out.mono a1.size)
                exact (((a2.alloc a2.size _).grown HGR.out (by have := a2.size; simp; omega) (fun k e => by have := HT.out.ne e; omega)).setCell hjl _).setCell hjl _)
              go_roundg f
              case measure => omega
              case rel => exact ⟨_, HP2.out, by show n - q2 < f; omega, ⟨⟨_, H4.out⟩, rfl, HF.out, by show (t'.recs ++ [r]).length ≤ q2; simp; omega, by show q2 ≤ n; omega, hjl⟩⟩
            · have hP : Hid (loadP S (n + 1) tv0 = none) := Lib.hid (by rw [HLP2.out, if_neg (fun h => he ((IFF.out h.1).1 h.2))])
              obtain ⟨q2, hq2⟩ : ∃ q2, q2 = q + 32 := ⟨_, rfl⟩
              have hqq : (q : Int) + 32 = (q2 : Int) := by omega
              have hq3 : (q2 : Int) ≤ (n : Int) := by omega
              have hq4 : (q : Int) ≤ (q2 : Int) := by omega
              have hb : ((S.extract q q2).toList == (chainB t'.head r).toList) = false := by
                rw [hq2]
                exact Bool.eq_false_iff.2 (fun h => he (str_ext (by simpa using h)))
              clear hq2 hqi he
              go_wp2_with (first
                | (go_at_call 61; refine (hp2.out _).mono ?_; unfold outS; rintro e w' ⟨rfl, hB⟩; have HB := Lib.hid hB; have e2 : w'.cell? ⟨jb, 2, none⟩ = some (.int .i64 (t'.size : Int)) := cellOf (HT.out.below hB).cells 2; clear hB)
                | (go_at_call 58; refine (CH.out _).mono ?_; rintro e w4 ⟨rfl, hB4⟩; have HB4 := Lib.hid hB4; clear hB4)
                | fail)
              refine bodyPost_ret (results_tmp2 rfl _ _ _) rfl ?_
              exact HR.out hP.out _ (HB.out.trans (HB4.out.mono HB.out.size))
          · have hP : Hid (loadP S (n + 1) tv0 = none) := Lib.hid (by rw [HLP2.out, if_neg (fun h => hq (by have := h.1; omega))])
            have hqi : ¬ (q : Int) + 32 ≤ (n : Int) := by omega
            have hqi2 : (n : Int) < (q : Int) + 32 := by omega
            go_wp2_with (first
              | (go_at_call 61; refine (hp2.out _).mono ?_; unfold outS; rintro e w' ⟨rfl, hB⟩; have HB := Lib.hid hB; have e2 : w'.cell? ⟨jb, 2, none⟩ = some (.int .i64 (t'.size : Int)) := cellOf (HT.out.below hB).cells 2; clear hB)
              | (go_at_call 58; refine (CH.out _).mono ?_; rintro e w4 ⟨rfl, hB4⟩; have HB4 := Lib.hid hB4; clear hB4)
              | fail)
            refine bodyPost_ret (results_tmp2 rfl _ _ _) rfl ?_
            exact HR.out hP.out _ (HB.out.trans (HB4.out.mono HB.out.size))
      · have hi1 : ¬ (S[t'.size].toNat : Int) = 1 := u8_ne1 h1
        have hP : Hid (loadP S (n + 1) tv0 = none) := Lib.hid (by rw [HLP.out, loadP, dif_pos hlt, if_neg hz0, if_neg h1])
        rcases hdec : decS S (t'.size + 1) with _ | ⟨r, q⟩
        all_goals
          rw [hdec] at hp2
          clear hdec h1 hz0
          go_wp2_with (first
            | (go_at_call 61; refine (hp2.out _).mono ?_; unfold outS; rintro e w' ⟨rfl, hB⟩; have HB := Lib.hid hB; have e2 : w'.cell? ⟨jb, 2, none⟩ = some (.int .i64 (t'.size : Int)) := cellOf (HT.out.below hB).cells 2; clear hB)
            | fail)
          refine bodyPost_ret (results_tmp2 rfl _ _ _) rfl ?_
          exact HR.out hP.out _ HB.out
    · have hP : loadP S (n + 1) tv0 = some t' := by
        rw [HLP.out, loadP]
        by_cases hlt : t'.size < S.size
        · rw [dif_pos hlt, if_pos (Classical.not_not.1 (fun h => hgo ⟨hlt, h⟩))]
        · rw [dif_neg hlt]
      obtain ⟨m, hm⟩ : ∃ m, n - t'.size = m := ⟨_, rfl⟩
      have hmi : (n : Int) - (t'.size : Int) = (m : Int) := by omega
      have hOJ : Hid (openJ n d = if d.vi.drop t'.size = List.replicate m 0 then (0, some t', d) else if (writeD d t'.size (zs m)).off = true then (251, none, writeD d t'.size (zs m)) else (0, some t', syncD (writeD d t'.size (zs m)))) := Lib.hid (by
        rw [openJ, if_neg (by rw [HO.out]; decide), ← HS.out.1, hP]
        subst hm; rfl)
      have RZ := Lib.hid (rest_zero HS.out.1 HS.out.2 hm)
      have hmk := mkZ m (by omega)
      have hcv := sconv (W := wr.alloc (.cells (bytesV (zsL m)).toArray 5)) (g := wr.heap.size) (n := m) (allocAt _ rfl) (by omega)
      have HW1 : Hid (Below wr.heap.size wr (wr.alloc (.cells (bytesV (zsL m)).toArray 5))) := Lib.hid ((Below.refl _ wr).alloc (Nat.le_refl _) _)
      have hX := H1.out.1.upd (Upd.of_below (S := fun _ => False) (HI.out.below.trans (HW1.out.mono HI.out.below.size))) (fun _ _ f => f)
      have WR := Lib.hid (RefWrite_ok hX HO.out t'.size (zs m) (by rw [zs_size]; omega) (by omega))
      have HX := Lib.hid hX
      have hjw := ltOf HT.out.cells
      have c3 : (wr.alloc (.cells (bytesV (zsL m)).toArray 5)).cell? ⟨jb, 2, none⟩ = some (.int .i64 (t'.size : Int)) := cellOf ((HT.out.below HW1.out).cells) 2
      clear hX hP hm hf
      have hcase : (∃ hlt : t'.size < S.size, (t'.size : Int) < (n : Int) ∧ (S[t'.size].toNat : Int) = 0) ∨ ¬ (t'.size : Int) < (n : Int) := by
        by_cases hlt : t'.size < S.size
        · refine .inl ⟨hlt, by omega, ?_⟩
          rw [Classical.not_not.1 (fun h => hgo ⟨hlt, h⟩)]; rfl
        · exact .inr (by omega)
      clear hgo
      by_cases hz : d.vi.drop t'.size = List.replicate m 0
      · have hb : ((S.extract t'.size n).toList == (zs m).toList) = true := by rw [RZ.out.2 hz]; simp
        rw [if_pos hz] at hOJ
        clear hz RZ WR
        rcases hcase with ⟨hlt, h5, h6⟩ | h5
        all_goals
          go_wp2_with fail
          refine bodyPost_ret (results_tmp2 rfl _ _ _) rfl ?_
          have F := RFin HI.out HT.out H1.out HW1.out HX.out (Moves.refl _ _)
          rw [hOJ.out]
          exact ⟨jb, lv, _, rfl, F⟩
      · have hb : ((S.extract t'.size n).toList == (zs m).toList) = false := Bool.eq_false_iff.2 (fun h => hz (RZ.out.1 (by simpa using h)))
        rw [if_neg hz] at hOJ
        clear hz RZ
        by_cases hw : (writeD d t'.size (zs m)).off = true
        · rw [if_pos hw] at hOJ
          have HWo := Lib.hid hw
          clear hw
          rcases hcase with ⟨hlt, h5, h6⟩ | h5
          all_goals
            go_wp2_with (first
              | (go_at_call 13; refine WR.out.mono ?_; rintro e w5 ⟨rfl, gs1, cs1, lv1, hR, hM⟩; have HR := Lib.hid hR; have HM := Lib.hid hM; clear hR hM)
              | (go_at_call 37; refine (RefSync_off HR.out HWo.out).mono ?_; rintro e w6 ⟨rfl, rfl⟩)
              | fail)
            refine bodyPost_ret (results_tmp2 rfl _ _ _) rfl ?_
            have F := RFin HI.out HT.out H1.out HW1.out HR.out HM.out
            rw [hOJ.out]
            exact ⟨rfl, _, F.1, F.2.1⟩
        · rw [if_neg hw] at hOJ
          have HWo := Lib.hid (show (writeD d t'.size (zs m)).off = false by simpa using hw)
          clear hw
          rcases hcase with ⟨hlt, h5, h6⟩ | h5
          all_goals
            go_wp2_with (first
              | (go_at_call 13; refine WR.out.mono ?_; rintro e w5 ⟨rfl, gs1, cs1, lv1, hR, hM⟩; have HR := Lib.hid hR; have HM := Lib.hid hM; clear hR hM)
              | (go_at_call 37; refine (RefSync_ok HR.out HWo.out).mono ?_; rintro e w6 ⟨rfl, gs2, cs2, lv2, hR, hM⟩; have HR2 := Lib.hid hR; have HM2 := Lib.hid hM; clear hR hM)
              | fail)
            refine bodyPost_ret (results_tmp2 rfl _ _ _) rfl ?_
            have F := RFin HI.out HT.out H1.out HW1.out HR2.out (HM.out.trans HM2.out)
            rw [hOJ.out]
            exact ⟨jb, lv, _, rfl, F⟩
end Go.Proofs.YthlmgookaljgnaaGreatDoor
