/- The reference disk: Write, has, Crash. -/
import Derived.Test.YthlmgookaljgnaaGreatDoorRefB
namespace Go.Proofs.YthlmgookaljgnaaGreatDoor
open Go.RowKit
set_option linter.unusedVariables false

theorem Tryz.infoChange : (Tryz.prog.info? 94).map (fun i => (i.zero, i.size, i.bytes)) = some (some (.agg #[.int .i64 0, .string ByteArray.empty]), 2, 24) := by kernel_rfl

section
variable {w : World} {bx gs cs : Nat} {lv : Value} {n : Nat} {d : DV}

theorem ref_write_end {w1 w2 : World} {gg cap p : Nat} {s : ByteArray} {off : Bool} {left : Int} (h : RefAt w bx gs cs lv n d) (hs : p + s.size ≤ n) (hne : lv.ownBlock ≠ some bx)
    (hown : w1.ownsRow 0 94 2 (.slice (some ⟨gg, 0, none⟩) (d.pe.length + 1) cap) (d.pe.length + 1) (pendV d.pe ++ [.int .i64 (p : Int), .string s]))
    (hgrow : (w.alloc (.cells #[.int .i64 (p : Int), .string s] 94)).grownBy w1 lv.ownBlock) (hat : lv.ownBlock = some gg ∨ gg = w.heap.size + 1)
    (hd2 : w2.heap[bx]? = some (.cells #[.slice (some ⟨gs, 0, none⟩) n cs, .slice (some ⟨gg, 0, none⟩) (d.pe.length + 1) cap, .bool off, .int .i64 left] 55 (0, 0)))
    (hU : Upd (· = bx) w1 w2) (ho : off = usedOff false d.left) (hl : left = usedLeft d.left) :
    ∃ gs' cs' lv', RefAt w2 bx gs' cs' lv' n (writeD d p s) ∧ Moves (FootR bx gs lv) (FootR bx gs' lv') w w2 := by
  have hgx : gs ≠ bx := by
    obtain ⟨tl, e, _⟩ := h.hs.ex
    exact ty_ne e h.hd (by decide)
  have hlg : lv.ownBlock ≠ some gs := by
    obtain ⟨tl, e, _⟩ := h.hs.ex
    exact own_neK h.hl e (by decide)
  have U1 : Upd (fun k => lv.ownBlock = some k) w w1 := ((Upd.refl _ w).alloc _).grown hgrow (fun k e => .inl e)
  have hggx : gg ≠ bx := by
    rintro rfl
    rcases hat with e | e
    · exact hne e
    · have := ltOf h.hd; omega
  refine ⟨gs, cs, _, ⟨by rw [hd2, ho, hl]; rfl, (h.hs.upd U1 (fun e => hlg e)).upd hU hgx, ?_, h.lo, h.hi, ?_, ?_, ?_, ?_⟩, U1.mono (fun _ _ e => .inr (.inr e)) |>.trans hU (fun _ _ e => .inl e), ?_⟩
  · have e : (writeD d p s).pe.length = d.pe.length + 1 := by simp [writeD]
    rw [e]
    show w2.ownsRow 0 _ 2 _ _ (pendV (d.pe ++ [(p, s)]))
    rw [pendV_append]
    exact own_upd' hown hU (fun q e e' => by
      have : gg = q := by simpa [Value.ownBlock] using e
      exact hggx (this.trans e'))
  · show 0 ≤ usedLeft d.left
    unfold usedLeft; have := h.l0; split <;> omega
  · show usedLeft d.left ≤ _
    unfold usedLeft; have := h.l1; have := h.l0; split <;> omega
  · intro q hq
    rcases List.mem_append.1 hq with hq | hq
    · exact h.fit q hq
    · obtain rfl := List.mem_singleton.1 hq
      exact hs
  · show splice d.vi p s.data.toList = applyW d.du (d.pe ++ [(p, s)])
    rw [applyW_snoc, h.vis]
  · rintro k (rfl | rfl | e)
    · exact .inl (.inl rfl)
    · exact .inl (.inr (.inl rfl))
    · have : gg = k := by simpa [Value.ownBlock] using e
      subst this
      rcases hat with e | e
      · exact .inl (.inr (.inr e))
      · exact .inr (by omega)

set_option maxRecDepth 100000 in
set_option maxHeartbeats 1600000 in
theorem RefWrite_ok (h : RefAt w bx gs cs lv n d) (ho : d.off = false) (p : Nat) (s : ByteArray) (hs : p + s.size ≤ n) (hl : d.pe.length ≤ 1000000) :
    Calls Tryz.prog 13 #[.pointer (some ⟨bx, 0, none⟩), .int .i64 (p : Int), .string s] w fun e w' => e = .returned (.int .i64 0) ∧
      ∃ gs' cs' lv', RefAt w' bx gs' cs' lv' n (writeD d p s) ∧ Moves (FootR bx gs lv) (FootR bx gs' lv') w w' := by
  have hlt := ltOf h.hd
  have c0 : w.cell? ⟨bx, 0, none⟩ = some (.slice (some ⟨gs, 0, none⟩) n cs) := cellOf h.hd 0
  have c1 : w.cell? ⟨bx, 1, none⟩ = some lv := cellOf h.hd 1
  have c2 : w.cell? ⟨bx, 2, none⟩ = some (.bool false) := by rw [cellOf h.hd 2, ← ho]; rfl
  have hnn : (n : Int) ≤ 4194304 := by have := h.hi; omega
  have q1 : ¬ (n : Int) < (p : Int) := by omega
  have q2 : ¬ (n : Int) - (p : Int) < (s.size : Int) := by omega
  have hs63 : (s.size : Int) ≤ 9223372036854775807 := by omega
  have hp0 : ¬ (p : Int) < 0 := by omega
  have hne : lv.ownBlock ≠ some bx := own_neK h.hl h.hd (by decide)
  have hl0 := h.l0
  have hl1 := h.l1
  obtain ⟨i0, hi, hz0, hz1, hz2⟩ := info_parts Tryz.infoChange
  have HI := Lib.hid hi
  have HZ0 := Lib.hid hz0
  have HZ1 := Lib.hid hz1
  have HZ2 := Lib.hid hz2
  have H := Lib.hid h
  have HOff := Lib.hid ho
  clear h hi hz0 hz1 hz2 ho
  go_enter Tryz.func13, Tryz.ntmps13
  go_upto_region 6 with (at_builtin; refine wpList_append_lies _ rfl _ _ 53 rfl 0 94 i0 (.agg #[.int .i64 0, .string ByteArray.empty]) 2 24 Tryz.underlying53 HI.out HZ0.out HZ1.out HZ2.out rfl (by decide) _ _ _ rfl (H.out.hl.alloc _) ⟨w.heap.size, 0, none⟩ 1 1 [.int .i64 (p : Int), .string s] rfl rfl (World.news_of_block (cs := #[.int .i64 p, .string s]) (t := 94) (fr := (0, 0)) (allocAt _ rfl)) (fun u hu => by simp at hu; rcases hu with rfl | rfl <;> rfl) (by omega) (by simp only [maxLen]; omega) (by omega) (Nat.zero_le _) (w.heap.size + 1) (by simp) ?_
                         intro gg cap w1 hown hgrow hat hlt1
                         have hd1 : w1.heap[bx]? = some (.cells #[.slice (some ⟨gs, 0, none⟩) n cs, lv, .bool d.off, .int .i64 d.left] 55 (0, 0)) := by
                           rw [hgrow.block bx (by simp; omega) (fun e => hne e.symm), allocOld hlt]; exact H.out.hd
                         have e1 : w1.cell? ⟨bx, 1, none⟩ = some lv := cellOf hd1 1
                         have e2 : w1.cell? ⟨bx, 2, none⟩ = some (.bool false) := by rw [cellOf hd1 2, ← HOff.out]; rfl
                         have e3 : w1.cell? ⟨bx, 3, none⟩ = some (.int .i64 d.left) := cellOf hd1 3
                         have ff1 : w1.frozen? ⟨bx, 1, none⟩ = false := frozenOf hd1 1
                         have ff2 : w1.frozen? ⟨bx, 2, none⟩ = false := frozenOf hd1 2
                         have ff3 : w1.frozen? ⟨bx, 3, none⟩ = false := frozenOf hd1 3
                         have HD1 := Lib.hid hd1
                         have HOWN := Lib.hid hown
                         have HG := Lib.hid (show (w.alloc (.cells #[.int .i64 (p : Int), .string s] 94)).grownBy w1 lv.ownBlock from hgrow)
                         have HAT := Lib.hid (show lv.ownBlock = some gg ∨ gg = w.heap.size + 1 from hat)
                         clear hd1 hown hgrow hat)
  have HLO := Lib.hid (show d.left = d.left from rfl)
  clear c0 c1 c2
  by_cases l0 : d.left = 0
  · have l0' : ¬ 0 < d.left := by omega
    have HL0 := Lib.hid l0
    clear l0
    go_wp2_with fail
    go_ret
    refine ⟨rfl, ref_write_end (off := d.off) (left := d.left) H.out hs hne HOWN.out HG.out HAT.out ?_ ((Upd.refl (· = bx) w1).setCell _ _ (.inl rfl)) ?_ ?_⟩
    · rw [setOf_ HD1.out 1 _]; rfl
    · rw [HOff.out, HL0.out]; rfl
    · rw [HL0.out]; rfl
  · by_cases l1 : d.left = 1
    · have HL1 := Lib.hid l1
      clear l1 l0
      rw [HL1.out] at e3
      go_wp2_with fail
      go_ret
      refine ⟨rfl, ref_write_end (off := true) (left := 0) H.out hs hne HOWN.out HG.out HAT.out ?_ ((((Upd.refl (· = bx) w1).setCell _ _ (.inl rfl)).setCell _ _ (.inl rfl)).setCell _ _ (.inl rfl)) ?_ ?_⟩
      · rw [setOf_ (setOf_ (setOf_ HD1.out 1 _) 3 _) 2 _]; rfl
      · rw [HL1.out]; rfl
      · rw [HL1.out]; rfl
    · have l2 : 0 < d.left := by omega
      have l3 : ((d.left - 1) == 0) = false := by simp; omega
      have HL1 := Lib.hid l1
      have HL0 := Lib.hid l0
      clear l0 l1
      go_wp2_with fail
      go_ret
      refine ⟨rfl, ref_write_end (off := d.off) (left := d.left - 1) H.out hs hne HOWN.out HG.out HAT.out ?_ (((Upd.refl (· = bx) w1).setCell _ _ (.inl rfl)).setCell _ _ (.inl rfl)) ?_ ?_⟩
      · rw [setOf_ (setOf_ HD1.out 1 _) 3 _]; rfl
      · unfold usedOff; rw [if_neg HL0.out, HOff.out, l3]
      · unfold usedLeft; rw [if_neg HL0.out]

end

/-! ### has -/
set_option maxHeartbeats 800000 in
theorem has_any (w : World) (ka : Option Addr) (kl kc : Nat) (zs : List Int) (x : Int) (hI : IntsAt w.heap.size w (.slice ka kl kc) zs) (hk : zs.length ≤ 9223372036854775807) :
    Calls Tryz.prog 67 #[.slice ka kl kc, .int .i64 x] w fun e w' => e = .returned (.bool (decide (x ∈ zs))) ∧ w = w' := by
  have hl : zs.length = kl := by
    rcases hI with ⟨e, e'⟩ | ⟨b, off, cap, e, _⟩
    · obtain ⟨a0, c0, e⟩ := nilish_form e
      injection e with _ e1 _; rw [e', e1]; rfl
    · injection e with _ e1 _; exact e1.symm
  have hcell : ∀ j, j < zs.length → ∃ b off, ka = some ⟨b, off, none⟩ ∧ w.cell? ⟨b, off + j, none⟩ = some (.int .i64 (zs[j]?.getD 0)) := fun j hj => by
    rcases hI with ⟨e, e'⟩ | ⟨b, off, cap, e, _, hc⟩
    · rw [e'] at hj; simp at hj
    · injection e with e1 _ _; exact ⟨b, off, e1, hc j hj⟩
  have HL := Lib.hid hl
  have HC := Lib.hid hcell
  have hkl : (kl : Int) ≤ 9223372036854775807 := by omega
  clear hI hl hcell
  go_enter Tryz.func67, Tryz.ntmps67
  go_wp2
  go_loop [5] (fun i => ∃ k : Nat, k ≤ kl ∧ i = .int .i64 k ∧ Hid (∀ j, (h : j < zs.length) → j < k → zs[j] ≠ x)) (fun i => kl - (intOf i).toNat)
  case atStart => exact ⟨0, Nat.zero_le _, rfl, fun j _ h => by omega⟩
  case round =>
    obtain ⟨k, hk, rfl, hb⟩ := hrel
    by_cases hlt : k < kl
    · have hkz : k < zs.length := by rw [HL.out]; exact hlt
      obtain ⟨b, off, hka, hc⟩ := HC.out k hkz
      obtain ⟨z, hz⟩ : ∃ z, zs[k]? = some z := ⟨_, List.getElem?_eq_getElem hkz⟩
      rw [hz, Option.getD_some] at hc
      subst hka
      have HZ := Lib.hid hz
      clear hz hkz
      by_cases hx : z = x
      · have hin : decide (x ∈ zs) = true := by
          rw [decide_eq_true_eq, ← hx]; exact List.mem_of_getElem? HZ.out
        have HIN := Lib.hid hin
        clear hin
        subst hx
        go_wp2_with fail
        go_ret
        rw [HIN.out]
        exact ⟨rfl, rfl⟩
      · have HX := Lib.hid hx
        have hxx : (z == x) = false := by simpa using hx
        clear hx
        go_wp2_with fail
        go_round
        case rel => exact ⟨k + 1, by omega, by simp, fun j hj hjk => by
          rcases Nat.lt_or_ge j k with h | h
          · exact hb.out j hj h
          · obtain rfl : j = k := by omega
            have e := HZ.out
            rw [List.getElem?_eq_getElem hj] at e
            rw [Option.some.inj e]
            exact HX.out⟩
        case measure => simp [intOf]; omega
    · obtain rfl : k = kl := by omega
      have hin : decide (x ∈ zs) = false := by
        rw [decide_eq_false_iff_not]
        intro hm
        obtain ⟨j, hj, e⟩ := List.getElem_of_mem hm
        exact hb.out j hj (by rw [← HL.out]; exact hj) e
      have HIN := Lib.hid hin
      clear hin
      go_wp2_with fail
      go_ret
      rw [HIN.out]
      exact ⟨rfl, rfl⟩
end Go.Proofs.YthlmgookaljgnaaGreatDoor
