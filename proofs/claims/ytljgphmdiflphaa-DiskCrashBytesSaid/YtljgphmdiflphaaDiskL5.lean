/- The walk of DiskCut. -/
import Derived.Test.YtljgphmdiflphaaDiskL4
namespace Go.Proofs.Ytljgphmdiflphaa
open Go.RowKit
set_option linter.unusedVariables false

theorem own_upd {S : Nat → Prop} {w w' : World} {base size n : Nat} {t : TypeId} {v : Value} {xs : List Value} (h : w.ownsRow base t size v n xs) (hU : Upd S w w') (hn : ∀ q, v.ownBlock = some q → ¬ S q) : w'.ownsRow base t size v n xs := by
  refine ⟨h.1, ?_⟩
  rcases h.2 with e | ⟨g, cap, cur, e, hb, hg, r⟩
  · exact .inl e
  · exact .inr ⟨g, cap, cur, e, hb, hU.at hg (hn g (by rw [e]; rfl)), r⟩

def numsV (m : Nat) : List Value := (List.range m).map fun (i : Nat) => Value.int .i64 (i : Int)
theorem numsV_succ (m : Nat) : numsV (m + 1) = numsV m ++ [.int .i64 (m : Int)] := by simp [numsV, List.range_succ]

/-- A disk, a row of bytes, a list of numbers: all apart. -/
structure RC (w wr : World) (bd n g : Nat) (d : DV) (b : List UInt8) (v : Value) (m : Nat) (xs : List Value) (F : Nat → Prop) : Prop where
  dk : DiskF wr bd n d F
  row : wr.heap[g]? = some (.cells (bytesV b).toArray 5 (0, 0))
  len : b.length = n
  own : wr.ownsRow w.heap.size 3 1 v m xs
  ng : ¬ F g
  ap : ∀ q, v.ownBlock = some q → ¬ F q ∧ q ≠ g
  base : ∀ i, F i → w.heap.size ≤ i
  gN : w.heap.size ≤ g
  below : Below w.heap.size w wr
section
variable {w wr wr' : World} {bd n g m : Nat} {d : DV} {b : List UInt8} {v : Value} {xs : List Value} {F : Nat → Prop}
theorem RC.size (h : RC w wr bd n g d b v m xs F) : w.heap.size ≤ wr.heap.size := h.below.size
theorem RC.keep (h : RC w wr bd n g d b v m xs F) (hB : Below wr.heap.size wr wr') : RC w wr' bd n g d b v m xs F :=
  have hU : Upd (fun _ => False) wr wr' := Upd.of_below hB
  ⟨h.dk.upd hU (fun _ _ f => f), hU.at h.row (fun f => f), h.len, own_upd h.own hU (fun _ _ f => f), h.ng, h.ap, h.base, h.gN, h.below.trans (hB.mono h.size)⟩
theorem RC.alloc (h : RC w wr bd n g d b v m xs F) (o : Obj) : RC w (wr.alloc o) bd n g d b v m xs F := h.keep ((Below.refl _ wr).alloc (Nat.le_refl _) o)
theorem RC.move (h : RC w wr bd n g d b v m xs F) {d' : DV} {F' : Nat → Prop} (hk : DiskF wr' bd n d' F') (hM : Moves F F' wr wr') : RC w wr' bd n g d' b v m xs F' := by
  obtain ⟨h1, h2⟩ := hM.base h.base h.size
  have hg := ltOf h.row
  refine ⟨hk, hM.1.at h.row h.ng, h.len, own_upd h.own hM.1 (fun q e => (h.ap q e).1), fun f => ?_, fun q e => ⟨fun f => ?_, (h.ap q e).2⟩, h1, h.gN, h.below.trans h2⟩
  · rcases hM.2 _ f with f | f
    · exact h.ng f
    · omega
  · rcases hM.2 _ f with f | f
    · exact (h.ap q e).1 f
    · have := (h.own.lt _ e).2; omega
theorem RC.put (h : RC w wr bd n g d b v m xs F) {b' : List UInt8} (hr : wr'.heap[g]? = some (.cells (bytesV b').toArray 5 (0, 0))) (hb : b'.length = n) (hU : Upd (· = g) wr wr') : RC w wr' bd n g d b' v m xs F :=
  ⟨h.dk.upd hU (fun i hi e => h.ng (e ▸ hi)), hr, hb, own_upd h.own hU (fun q e => (h.ap q e).2), h.ng, h.ap, h.base, h.gN,
    h.below.trans ⟨hU.os, hU.tape, hU.output, hU.size, fun i hi => hU.block i (Nat.lt_of_lt_of_le hi h.size) (fun e => by have := h.gN; omega)⟩⟩
theorem RC.app (h : RC w wr bd n g d b v m xs F) {v' : Value} {m' : Nat} {xs' : List Value} {q : Nat} (hown : wr'.ownsRow w.heap.size 3 1 v' m' xs') (hG : wr.grownBy wr' v.ownBlock) (hv : v'.ownBlock = some q) (hat : v.ownBlock = some q ∨ wr.heap.size ≤ q) :
    RC w wr' bd n g d b v' m' xs' F := by
  have hU : Upd (fun i => v.ownBlock = some i) wr wr' := (Upd.refl _ wr).grown hG (fun k e => .inl e)
  have hg := ltOf h.row
  refine ⟨h.dk.upd hU (fun i hi e => (h.ap i e).1 hi), hU.at h.row (fun e => (h.ap _ e).2 rfl), h.len, hown, h.ng, fun i e => ?_, h.base, h.gN, h.below.grown hG h.size (fun k e => (h.own.lt _ e).1)⟩
  rw [hv] at e
  injection e with e
  subst e
  rcases hat with e | e
  · exact h.ap _ e
  · exact ⟨fun f => absurd (h.dk.lt f) (by omega), by omega⟩
theorem RC.conv (h : RC w wr bd n g d b v m xs F) (hn : n ≤ 4194304) : (convert 40 9 (.slice (some ⟨g, 0, none⟩) n n)).run Try.prog wr = .ok (.string ⟨b.toArray⟩) wr := by
  rw [run_conv_row 40 9 5 Try.underlying40 Try.underlying5 Try.underlying9 g 0 n n b _ h.row (by rw [h.len]; omega), List.drop_zero, List.take_of_length_le (by rw [h.len]; exact Nat.le_refl _)]
end

/-- After k of the writes of which c succeed. -/
structure PC (c k : Nat) (d : DV) (b : List UInt8) : Prop where
  off : d.off = decide (c ≤ k)
  left : d.left = ((c - min k c : Nat) : Int)
  pe : d.pe.length = min k c
  vis : d.vi = applyW d.du d.pe
  eq : b = d.vi
theorem PC.step {c k : Nat} {d : DV} {b : List UInt8} (h : PC c k d b) (hk : k < c) (q : Nat) (s : ByteArray) : PC c (k + 1) (writeD d q s) (splice b q s.data.toList) := by
  have hl := h.left
  refine ⟨?_, ?_, ?_, ?_, ?_⟩
  · show usedOff false d.left = _
    unfold usedOff
    rw [if_neg (by omega), hl]
    by_cases e : c ≤ k + 1
    · rw [show decide (c ≤ k + 1) = true from decide_eq_true e]; simp; omega
    · rw [show decide (c ≤ k + 1) = false from decide_eq_false e]; simp; omega
  · show usedLeft d.left = _
    unfold usedLeft
    rw [if_neg (by omega), hl]; omega
  · show (d.pe ++ [(q, s)]).length = _
    rw [List.length_append, h.pe, List.length_singleton]; omega
  · show splice d.vi q s.data.toList = applyW d.du (d.pe ++ [(q, s)])
    rw [applyW_snoc, h.vis]
  · rw [h.eq]; rfl
theorem cut_zero (c : Nat) : ((c : Int) == 0) = decide (c ≤ 0) := by
  by_cases e : c = 0
  · subst e; rfl
  · rw [decide_eq_false (by omega)]; simp; omega
theorem PC.stay {c k : Nat} {d : DV} {b : List UInt8} (h : PC c k d b) (hk : c ≤ k) : PC c (k + 1) d b :=
  ⟨by rw [h.off]; simp; omega, by rw [h.left]; omega, by rw [h.pe]; omega, h.vis, h.eq⟩

set_option maxRecDepth 100000 in
set_option maxHeartbeats 3200000 in
theorem cut_walk (size cc : Int) (a : Option Addr) (len cap : Nat) (zs : List (Int × ByteArray × Bool)) (w : World) (hs0 : -9223372036854775808 ≤ size) (hs1 : size ≤ 9223372036854775807) (hc0 : -9223372036854775808 ≤ cc) (hc1 : cc ≤ 9223372036854775807) (hlen : len ≤ cap) (hcap : cap ≤ 9223372036854775807)
    (hz : zs.length = len) (hrow : WRow w w.heap.size a zs) :
    Calls Try.prog 10 #[.int .i64 size, .int .i64 cc, .slice a len cap] w fun e w' => e = .returned (.bool true) ∧ Below w.heap.size w w' := by
  have hp0 := pickZ_lo size 100 (by omega)
  have hp1 := pickZ_hi size 100 (by omega)
  obtain ⟨p, hp⟩ : ∃ p : Nat, pickZ size 100 = p := Int.eq_ofNat_of_zero_le hp0
  have hpn : p < 100 := by omega
  have HP := Lib.hid hp
  clear hp0 hp1 hp
  have hq0 := pickZ_lo cc 20 (by omega)
  have hq1 := pickZ_hi cc 20 (by omega)
  obtain ⟨c, hc⟩ : ∃ c : Nat, pickZ cc 20 = c := Int.eq_ofNat_of_zero_le hq0
  have hcn : c < 20 := by omega
  have HC := Lib.hid hc
  clear hq0 hq1 hc
  have HZ := Lib.hid hz
  have HROW := Lib.hid hrow
  clear hz hrow
  obtain ⟨n, hn⟩ : ∃ n : Nat, 1 + p = n := ⟨_, rfl⟩
  have hn1 : 1 ≤ n := by omega
  have hn2 : n ≤ 300 := by omega
  have HN := Lib.hid hn
  clear hn
  have hmk := mkBytes n (by omega)
  go_enter Try.func10, Try.ntmps10
  go_wp2_with fail
  refine (sane_any w).mono ?_
  rintro e w1 ⟨rfl, b1⟩
  have B1 := Lib.hid b1
  clear b1
  go_wp2_with fail
  refine (pick_any size 100 w1 (by omega) (by omega) hs0 hs1).mono ?_
  rintro e w' ⟨rfl, rfl⟩
  rw [HP.out]
  go_wp2_with fail
  rw [show (1 + (p : Int)) = (n : Int) from by have := HN.out; omega]
  refine (pick_any cc 20 w1 (by omega) (by omega) hc0 hc1).mono ?_
  rintro e w' ⟨rfl, rfl⟩
  rw [HC.out]
  go_wp2_with fail
  refine (newF w1 n hn1 (by omega)).mono ?_
  rintro e w2 ⟨bd, rfl, ⟨F, g2, f2⟩, b2⟩
  have G2 := Lib.hid g2
  have F2 := Lib.hid (show ∀ k, F k → w.heap.size ≤ k from fun k f => Nat.le_trans B1.out.size (f2 k f))
  have B2 := Lib.hid (B1.out.trans (b2.mono B1.out.size))
  clear g2 f2 b2
  go_wp2_with fail
  refine (cutF G2.out rfl ((c : Int) + 5) (by omega) (by omega)).mono ?_
  rintro e w3 ⟨rfl, F3, g3, m3⟩
  have G3 := Lib.hid g3
  have M3 := Lib.hid m3
  clear g3 m3
  go_wp2_with fail
  refine (cutF G3.out (by simp [cutD]; omega) (c : Int) (by omega) (by omega)).mono ?_
  rintro e w4 ⟨rfl, F4, g4, m4⟩
  obtain ⟨fb, fbel⟩ := (M3.out.trans m4).base F2.out B2.out.size
  have HR := Lib.hid (show RC w (w4.alloc (.cells (bytesV (List.replicate n 0)).toArray 5)) bd n w4.heap.size (cutD (cutD (newD n) ((c : Int) + 5)) c) (List.replicate n 0) (.slice none 0 0) 0 (numsV 0) F4 from
    ⟨g4.upd ((Upd.refl (fun _ => False) w4).alloc _) (fun _ _ f => f), allocAt _ rfl, by simp, World.ownsRow_nil _ _ _ _, fun f => absurd (g4.lt f) (by omega), fun q e => (by cases e), fb, by have := B2.out.size; have := fbel.size; omega,
      (B2.out.trans fbel).alloc (by have := B2.out.size; have := fbel.size; omega) _⟩)
  have HPC := Lib.hid (show PC c 0 (cutD (cutD (newD n) ((c : Int) + 5)) c) (List.replicate n 0) from ⟨cut_zero c, by simp [cutD], by simp [cutD, newD], rfl, rfl⟩)
  clear g4 m4 fb fbel
  obtain ⟨i0, hi, hz0, hz1, hz2⟩ := info_parts Try.infoInt
  have HI := Lib.hid hi
  have HZ0 := Lib.hid hz0
  have HZ1 := Lib.hid hz1
  have HZ2 := Lib.hid hz2
  clear hi hz0 hz1 hz2
  go_wp2_with fail
  clear hmk
  obtain ⟨g, hg⟩ : ∃ g, w4.heap.size = g := ⟨_, rfl⟩
  rw [hg] at HR ⊢
  clear hg
  go_loopw [11, 12] (fun va vi wr => ∃ (k : Nat) (d : DV) (b : List UInt8) (F : Nat → Prop), k ≤ len ∧ k ≤ 40 ∧ vi = .int .i64 k ∧ Hid (PC c k d b) ∧ Hid (RC w wr bd n g d b va (min k c) (numsV (min k c)) F)) (fun _ vi _ => len - (intOf vi).toNat)
  case atStart => exact ⟨0, _, _, F4, by omega, by omega, rfl, HPC.out, by rw [Nat.zero_min]; exact HR.out⟩
  case round =>
    obtain ⟨k, d, b, F', hk, hk60, rfl, hP, hB⟩ := hrel
    by_cases hlt : k < len ∧ k < 40
    · obtain ⟨hlt, hlt60⟩ := hlt
      have hkz : k < zs.length := by rw [HZ.out]; exact hlt
      have hrw := HROW.out.below hB.out.below
      obtain ⟨gl, off, ha, hgl, c0, c1, c2⟩ := hrw.cell k hkz
      obtain ⟨f0, f1, f2⟩ := hrw.fit k hkz
      subst ha
      generalize zs[k] = z at *
      obtain ⟨x, s, bb⟩ := z
      simp only at c0 c1 c2 f0 f1 f2
      clear hrw hkz
      go_wp2_with fail
      refine (fits_any x s bb n wr f0 f1 f2 (by omega)).mono ?_
      rintro e w5 ⟨q, rfl, hq, hqn, b5⟩
      have HB5 := Lib.hid (hB.out.keep b5)
      clear hB hq b5 c0 c1 c2
      have hs' : q + (takeB s (n - q)).size ≤ n := by have := takeB_fit s (n - q); omega
      generalize takeB s (n - q) = s' at hs' ⊢
      have HB6 := Lib.hid (HB5.out.alloc (.cells #[.int .i64 (q : Int), .string s', .bool bb] 53))
      have hBF : ¬ F' w5.heap.size := fun f => absurd (HB5.out.dk.lt f) (by omega)
      have hBg : g < w5.heap.size := ltOf HB5.out.row
      have e0 : (w5.alloc (.cells #[.int .i64 (q : Int), .string s', .bool bb] 53)).heap[w5.heap.size]? = some (.cells #[.int .i64 (q : Int), .string s', .bool bb] 53 (0, 0)) := allocAt _ rfl
      have E4 := Lib.hid e0
      clear e0
      by_cases hkc : k < c
      · go_wp2_with fail
        refine (writeF HB6.out.dk (by rw [hP.out.off]; simpa using hkc) q s' hs' (by have := hP.out.pe; omega)).mono ?_
        rintro e w7 ⟨rfl, F7, d7, m7⟩
        have E7 := Lib.hid (m7.1.at E4.out hBF)
        have HB7 := Lib.hid (HB6.out.move d7 m7)
        have x0 : w7.cell? ⟨w5.heap.size, 0, none⟩ = some (.int .i64 (q : Int)) := cellOf E7.out 0
        have x1 : w7.cell? ⟨w5.heap.size, 1, none⟩ = some (.string s') := cellOf E7.out 1
        clear d7 m7
        go_wp2_with fail
        refine (put_any g q n s' b _ HB7.out.row HB7.out.len hs' (by omega)).mono ?_
        rintro e w8 ⟨rfl, r8, u8⟩
        have HB8 := Lib.hid (HB7.out.put r8 (by rw [length_splice]; exact HB7.out.len; rw [← Lib.size_eq, HB7.out.len]; exact hs') u8)
        clear r8 u8
        have hN := HB8.out.size
        go_wp2_with (at_builtin; refine wpList_append_lies _ rfl _ _ 37 rfl w.heap.size 3 i0 (.int .i64 0) 1 8 Try.underlying37 HI.out HZ0.out HZ1.out HZ2.out rfl (by decide) _ _ _ rfl (HB8.out.own.alloc _) ⟨w8.heap.size, 0, none⟩ 1 1 [.int .i64 (k : Int)] rfl rfl (cell_one_new _ _ _) (by simp [Value.oneCell']) (by omega) (by simp only [maxLen]; omega) (by omega) (by simp; omega) (w8.heap.size + 1) (by simp) ?_; intro g' cap' w9 hown' hgrow hat hlt')
        have HB9 := Lib.hid ((HB8.out.alloc (.cells #[.int .i64 (k : Int)] 3)).app hown' hgrow rfl (hat.imp id (fun e => by simp; omega)))
        clear hown' hgrow hat
        have hPs := Lib.hid (hP.out.step hkc q s')
        go_wp2_with fail
        go_roundw
        case rel =>
          refine ⟨k + 1, _, _, F7, by omega, by omega, by simp, hPs.out, ?_⟩
          have hm : min k c = k := by omega
          have hm' : min (k + 1) c = k + 1 := by omega
          have h9 := HB9.out
          rw [hm', numsV_succ]
          rw [hm] at h9 ⊢
          exact h9
        case measure => simp [intOf]; omega
      · go_wp2_with fail
        refine (writeF_off HB6.out.dk (by rw [hP.out.off]; simp; omega) _ _).mono ?_
        rintro e w' ⟨rfl, rfl⟩
        go_wp2_with fail
        go_roundw
        case rel =>
          refine ⟨k + 1, _, _, F', by omega, by omega, by simp, hP.out.stay (by omega), ?_⟩
          have h9 := HB6.out
          have hm : min (k + 1) c = min k c := by omega
          rw [hm]
          exact h9
        case measure => simp [intOf]; omega
    · obtain ⟨A, ca, hv⟩ := own_form hB.out.own
      subst hv
      have hmn : min k c ≤ c := by omega
      have hq : ((min k c : Nat) : Int) ≤ c := by omega
      by_cases hl : k < len
      · have h60 : ¬ (k : Int) < 40 := by omega
        clear hlt
        by_cases hkc : c ≤ k
        · have hmk : min k c = c := by omega
          have HMK := Lib.hid hmk
          have hoff : d.off = true := by rw [hP.out.off]; simpa using hkc
          have HOFF := Lib.hid hoff
          have hpe : d.pe.length = c := by rw [hP.out.pe]; exact hmk
          have HPE := Lib.hid hpe
          have hI := IntsAt.of_own (zs := (List.range d.pe.length).map fun (i : Nat) => (i : Int)) (by rw [List.map_map, hP.out.pe]; exact hB.out.own)
          rw [hmk] at hI
          have HII := Lib.hid hI
          obtain rfl : b = applyW d.du d.pe := hP.out.eq.trans hP.out.vis
          clear hmk hoff hpe hI
          go_wp2_with fail
          refine (readF_off hB.out.dk HOFF.out 0 0).mono ?_
          rintro e w' ⟨rfl, rfl⟩
          go_wp2_with fail
          refine (syncF_off hB.out.dk HOFF.out).mono ?_
          rintro e w' ⟨rfl, rfl⟩
          go_wp2_with fail
          refine (cutF_off hB.out.dk HOFF.out 3).mono ?_
          rintro e w' ⟨rfl, rfl⟩
          go_wp2_with fail
          refine (pendingF hB.out.dk).mono ?_
          rintro e w' ⟨rfl, rfl⟩
          rw [HPE.out]
          go_wp2_with fail
          refine (sizeF hB.out.dk).mono ?_
          rintro e w' ⟨rfl, rfl⟩
          go_wp2_with fail
          refine (crashF hB.out.dk _ A c ca HII.out (by rw [List.length_map, List.length_range, HPE.out]; omega) (by rw [HPE.out]; omega) (-1) (by omega) (by omega)).mono ?_
          rintro e w5 ⟨rfl, F5, d5, m5⟩
          rw [crashed_all] at d5
          have HB5 := Lib.hid (hB.out.move d5 m5)
          have hcv := HB5.out.conv (by omega)
          clear d5 m5
          go_wp2_with fail
          refine (readF_all HB5.out.dk rfl).mono ?_
          rintro e w' ⟨rfl, rfl⟩
          go_wp2_with fail
          clear hcv
          refine (writeF HB5.out.dk rfl 0 ⟨#[120]⟩ (show 0 + 1 ≤ n by omega) (by simp)).mono ?_
          rintro e w6 ⟨rfl, F6, d6, m6⟩
          have HB6 := Lib.hid (HB5.out.move d6 m6)
          clear d6 m6
          go_wp2_with fail
          refine (syncF HB6.out.dk rfl).mono ?_
          rintro e w7 ⟨rfl, F7, d7, m7⟩
          have HB7 := Lib.hid (HB6.out.move d7 m7)
          clear d7 m7
          go_wp2_with fail
          go_ret
          exact ⟨rfl, HB7.out.below⟩
        · have hmk : min k c < c := by omega
          go_wp2_with fail
          refine (syncF hB.out.dk (by rw [hP.out.off]; simp; omega)).mono ?_
          rintro e w5 ⟨rfl, F5, d5, m5⟩
          have HB5 := Lib.hid (hB.out.move d5 m5)
          go_wp2_with fail
          go_ret
          exact ⟨rfl, HB5.out.below⟩
      · clear hlt
        by_cases hkc : c ≤ k
        · have hmk : min k c = c := by omega
          have HMK := Lib.hid hmk
          have hoff : d.off = true := by rw [hP.out.off]; simpa using hkc
          have HOFF := Lib.hid hoff
          have hpe : d.pe.length = c := by rw [hP.out.pe]; exact hmk
          have HPE := Lib.hid hpe
          have hI := IntsAt.of_own (zs := (List.range d.pe.length).map fun (i : Nat) => (i : Int)) (by rw [List.map_map, hP.out.pe]; exact hB.out.own)
          rw [hmk] at hI
          have HII := Lib.hid hI
          obtain rfl : b = applyW d.du d.pe := hP.out.eq.trans hP.out.vis
          clear hmk hoff hpe hI
          go_wp2_with fail
          refine (readF_off hB.out.dk HOFF.out 0 0).mono ?_
          rintro e w' ⟨rfl, rfl⟩
          go_wp2_with fail
          refine (syncF_off hB.out.dk HOFF.out).mono ?_
          rintro e w' ⟨rfl, rfl⟩
          go_wp2_with fail
          refine (cutF_off hB.out.dk HOFF.out 3).mono ?_
          rintro e w' ⟨rfl, rfl⟩
          go_wp2_with fail
          refine (pendingF hB.out.dk).mono ?_
          rintro e w' ⟨rfl, rfl⟩
          rw [HPE.out]
          go_wp2_with fail
          refine (sizeF hB.out.dk).mono ?_
          rintro e w' ⟨rfl, rfl⟩
          go_wp2_with fail
          refine (crashF hB.out.dk _ A c ca HII.out (by rw [List.length_map, List.length_range, HPE.out]; omega) (by rw [HPE.out]; omega) (-1) (by omega) (by omega)).mono ?_
          rintro e w5 ⟨rfl, F5, d5, m5⟩
          rw [crashed_all] at d5
          have HB5 := Lib.hid (hB.out.move d5 m5)
          have hcv := HB5.out.conv (by omega)
          clear d5 m5
          go_wp2_with fail
          refine (readF_all HB5.out.dk rfl).mono ?_
          rintro e w' ⟨rfl, rfl⟩
          go_wp2_with fail
          clear hcv
          refine (writeF HB5.out.dk rfl 0 ⟨#[120]⟩ (show 0 + 1 ≤ n by omega) (by simp)).mono ?_
          rintro e w6 ⟨rfl, F6, d6, m6⟩
          have HB6 := Lib.hid (HB5.out.move d6 m6)
          clear d6 m6
          go_wp2_with fail
          refine (syncF HB6.out.dk rfl).mono ?_
          rintro e w7 ⟨rfl, F7, d7, m7⟩
          have HB7 := Lib.hid (HB6.out.move d7 m7)
          clear d7 m7
          go_wp2_with fail
          go_ret
          exact ⟨rfl, HB7.out.below⟩
        · have hmk : min k c < c := by omega
          go_wp2_with fail
          refine (syncF hB.out.dk (by rw [hP.out.off]; simp; omega)).mono ?_
          rintro e w5 ⟨rfl, F5, d5, m5⟩
          have HB5 := Lib.hid (hB.out.move d5 m5)
          go_wp2_with fail
          go_ret
          exact ⟨rfl, HB5.out.below⟩
end Go.Proofs.Ytljgphmdiflphaa
