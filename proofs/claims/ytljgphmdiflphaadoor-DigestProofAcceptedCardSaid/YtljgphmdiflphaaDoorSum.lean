/- SHA-256: Sum. -/
import Derived.Test.YtljgphmdiflphaaDoorChunk
import Derived.RangeFuncCalls
namespace Go.Proofs.YtljgphmdiflphaaDoor
open Go.RowKit Go.Shelf
set_option linter.unusedVariables false

attribute [local go_sem] Oper.semAt_some

def sumB (s : ByteArray) : ByteArray := ⟨(Sha.sum s.data.toList).toArray⟩
theorem sumB_size (s : ByteArray) : (sumB s).size = 32 := by
  show (Sha.sum s.data.toList).toArray.size = 32
  rw [List.size_toArray, Sha.sum_length]

theorem Tryd.infoByte' : (Tryd.prog.info? 5).map (fun i => (i.zero, i.size, i.bytes)) = some (some (.int .u8 0), 1, 1) := by kernel_rfl

/-- The padded string, so far. -/
structure PadS (w : World) (l : List Nat) (v : Value) (wr : World) : Prop where
  row : BRow wr (w.heap.size + 1) v l
  h0 : wr.heap[w.heap.size]? = some (.cells (wv Sha.H0).toArray 84 (0, 0))
  below : Below w.heap.size w wr
theorem PadS.push {w wr w' : World} {l l' : List Nat} {v v' : Value} (h : PadS w l v wr) (o : Obj) (hr : BRow w' (w.heap.size + 1) v' l') (hg : (wr.alloc o).grownBy w' v.ownBlock) : PadS w l' v' w' := by
  obtain ⟨g, cap, rfl, hb, _⟩ := h.row.cell
  have hlt := ltOf h.h0
  refine ⟨hr, ?_, ?_⟩
  · rw [hg.block _ (by simp; omega) (by simp [Value.ownBlock]; omega), allocOld hlt]; exact h.h0
  · exact (h.below.alloc (by omega) o).grown hg (by simp; omega) (fun k e => by have e' : g = k := Option.some.inj e; omega)
theorem Upd.below' {S : Nat → Prop} {a b : World} {n : Nat} (h : Upd S a b) (hn : n ≤ a.heap.size) (hS : ∀ i, i < n → ¬ S i := by intro i hi; omega) : Below n a b :=
  ⟨h.os, h.tape, h.output, h.size, fun i hi => h.block i (by omega) (hS i hi)⟩
def vlen : Value → Nat
  | .slice _ n _ => n
  | _ => 0

theorem be8_take (n k : Nat) (hk : k < 8) : (Sha.be8 n).take (k + 1) = (Sha.be8 n).take k ++ [n / 2 ^ (56 - 8 * k) % 256] := by
  rw [List.take_succ_eq_append_getElem (by simpa [Sha.be8] using hk)]
  congr 2
  match k, hk with
  | 0, _ => rfl
  | 1, _ => rfl
  | 2, _ => rfl
  | 3, _ => rfl
  | 4, _ => rfl
  | 5, _ => rfl
  | 6, _ => rfl
  | 7, _ => rfl

/-- The blocks of a list of bytes, one after the other. -/
def blocks {m : Nat} (b : List Nat) (pre : List (Fin m)) (H : List Nat) : List Nat := pre.foldl (fun h x => Sha.blk h ((b.drop (64 * x.1)).take 64)) H

theorem blocks_snoc {m : Nat} (b : List Nat) (pre : List (Fin m)) (x : Fin m) (H : List Nat) : blocks b (pre ++ [x]) H = Sha.blk (blocks b pre H) ((b.drop (64 * x.1)).take 64) := by simp [blocks]
theorem blocks_ok {m : Nat} (b : List Nat) : ∀ (pre : List (Fin m)) (H : List Nat), H.length = 8 → Sha.small H → (blocks b pre H).length = 8 ∧ Sha.small (blocks b pre H)
  | [], _, h1, h2 => ⟨h1, h2⟩
  | _ :: pre, H, h1, _ => blocks_ok b pre _ (Sha.blk_length _ _ h1) (Sha.addV_small _ _)
theorem blocks_take {m : Nat} (b H : List Nat) : ∀ k, k ≤ m → blocks b ((List.finRange m).take k) H = Sha.run k H b
  | 0, _ => rfl
  | k + 1, hk => by rw [finRange_take m k (by omega), blocks_snoc, blocks_take b H k (by omega), Sha.run_succ]
theorem blocks_run {m : Nat} (b H : List Nat) : blocks b (List.finRange m) H = Sha.run m H b := by
  have := blocks_take (m := m) b H m (Nat.le_refl _)
  rwa [List.take_of_length_le (by simp)] at this
theorem keepsFrom_of_upd {S : Nat → Prop} {B : Nat} {W W' : World} (h : Upd S W W') (hS : ∀ k, S k → k < B) : KeepsFrom B W W' :=
  ⟨h.size, fun i o hB hi _ => by rw [h.block i (ltOf hi) (fun hs => by have := hS i hs; omega)]; exact hi⟩

set_option maxRecDepth 100000 in
set_option maxHeartbeats 4000000 in
theorem Sum_any (s : ByteArray) (hs : s.size ≤ 1000000) (w : World) (hR : RoundLaid w) :
    Calls Tryd.prog 29 #[.string s] w fun e w' => e = .returned (.string (sumB s)) ∧ Below w.heap.size w w' := by
  refine callsIn_wide (n := 9) |>.1 ?_
  refine callsIn_of_wp_marks Tryd.func29 rfl trivial ?_ rfl
  refine wpIn_wide.2 ?_
  simp only [Tryd.ntmps29, List.size_toArray, List.length_cons, List.length_nil, Nat.reduceAdd, Nat.reduceSub, Array.replicate_succ, Array.replicate_zero, List.push_toArray, List.append_toArray, List.nil_append, List.cons_append]
  have HR := Lib.hid hR
  clear hR
  have HL : Hid ((Sha.nats s.data.toList).length = s.size) := Lib.hid (by rw [Sha.nats, List.length_map]; rfl)
  go_wp2_with (first
    | (refine wpList_string_bytes rfl 9 45 (.tmp 8) rfl Tryd.underlying9 Tryd.underlying45 Tryd.underlying5 s rfl ?_
       intro cap W1 hrow hbel hsz
       have R1 : Hid (BRow W1 (w.heap.size + 1) (.slice (some ⟨w.heap.size + 1, 0, none⟩) s.size cap) (Sha.nats s.data.toList)) := Lib.hid (by simpa using hrow.out)
       have S1 : W1.heap.size = w.heap.size + 2 := by simpa using hsz.out
       have B1 : Hid (Below w.heap.size w W1) := Lib.hid (((Below.refl _ w).alloc (Nat.le_refl _) _).trans (hbel.out.mono (by simp)))
       have H1 : Hid (W1.heap[w.heap.size]? = some (.cells (wv Sha.H0).toArray 84 (0, 0))) := Lib.hid (by rw [hbel.out.block _ (by simp)]; exact allocAt _ rfl)
       have z1 : w.heap.size + 1 < W1.heap.size := by omega
       have HS1 := Lib.hid S1
       clear hrow hbel hsz S1)
    | (refine wpList_brow_push rfl (.tmp 9) (.tmp 10) 45 rfl Tryd.underlying45 Tryd.infoByte' (w.heap.size + 1) _ _ rfl (R1.out.upd (Upd.alloc (S := fun _ => False) (Upd.refl _ W1) _) (fun _ _ h => h)) W1.heap.size 1 128 rfl (by rw [World.cell?_alloc_new]; rfl) (by rw [HL.out]; omega) (by simp; omega) ?_
       intro v1 W2 hrow hgr
       have U2 : Hid (Upd (fun k => k = w.heap.size + 1) W1 W2) := Lib.hid ((Upd.alloc (Upd.refl _ W1) _).grown hgr.out (fun k e => .inl (by injection e with e; exact e.symm)))
       clear hgr))
  have P0 : Hid (PadS w (Sha.nats s.data.toList ++ 128 :: List.replicate 0 0) v1 W2) :=
    Lib.hid ⟨hrow.out, by rw [U2.out.block _ (ltOf H1.out) (by omega)]; exact H1.out, B1.out.trans (U2.out.below' (by omega))⟩
  clear R1 H1 hrow U2 B1 z1 HS1
  have HNB := Lib.hid (Sha.pad_bytes _ (Sha.nats_bytes s.data.toList))
  generalize hNN : Sha.nats s.data.toList = N at *
  have HNN := Lib.hid hNN
  clear hNN
  go_loopw [4, 16, 17, 18] (fun v _ _ _ wr => ∃ k : Nat, k ≤ Sha.zeros s.size ∧ PadS w (N ++ 128 :: List.replicate k 0) v wr) (fun v _ _ _ _ => s.size + 1 + Sha.zeros s.size - vlen v)
  case atStart => exact ⟨0, by omega, P0.out⟩
  case round =>
    clear P0
    obtain ⟨k, hk, hP⟩ := hrel
    obtain ⟨g, cap, hv, hgb, hgl, hcap, _⟩ := hP.row.cell
    have hlen : (N ++ 128 :: List.replicate k 0).length = s.size + 1 + k := by simp [HL.out]; omega
    rw [hlen] at hv hcap
    obtain ⟨p, hp⟩ : ∃ p, s.size + 1 + k = p := ⟨_, rfl⟩
    rw [hp] at hv hcap
    subst hv
    have HP := Lib.hid hP
    have HLEN := Lib.hid hlen
    clear hP hlen
    have hz : Sha.zeros s.size < 64 := Nat.mod_lt _ (by decide)
    have hpb : p ≤ 2000000 := by omega
    by_cases hlt : k < Sha.zeros s.size
    · have hm : ((p : Int) % 64 == 56) = false := by
        unfold Sha.zeros at hlt hk
        have : ¬ (p : Int) % 64 = 56 := by omega
        simpa using this
      have Hp := Lib.hid hp
      clear hp
      go_wp2_with (at_builtin; refine wpList_brow_push rfl (.tmp 16) (.tmp 17) 45 rfl Tryd.underlying45 Tryd.infoByte' (w.heap.size + 1) _ _ rfl (HP.out.row.upd (Upd.alloc (S := fun _ => False) (Upd.refl _ wr) _) (fun _ _ h => h)) wr.heap.size 1 0 rfl (by rw [World.cell?_alloc_new]; rfl) (by rw [HLEN.out, Hp.out]; omega) (by simp; omega) ?_; intro v2 W3 hrow hgr)
      go_roundw
      case rel => exact ⟨k + 1, by omega, by rw [List.replicate_succ', ← List.cons_append, ← List.append_assoc]; exact HP.out.push _ hrow.out hgr.out⟩
      case measure =>
        obtain ⟨g2, cap2, hv2, _⟩ := hrow.out.cell
        have := HLEN.out
        have := Hp.out
        subst hv2
        simp only [List.length_append, List.length_singleton, HLEN.out, vlen]
        omega
    · obtain rfl : k = Sha.zeros s.size := by omega
      have hm : ((p : Int) % 64 == 56) = true := by
        unfold Sha.zeros at hp
        have : (p : Int) % 64 = 56 := by omega
        simpa using this
      have hm2 : ((p : Int) % 64 != 56) = false := by simpa using hm
      have Hp := Lib.hid hp
      clear hp
      go_wp2
      have P1 : Hid (PadS w (N ++ 128 :: List.replicate (Sha.zeros s.size) 0 ++ (Sha.be8 (8 * s.size)).take 0) (.slice (some ⟨g, 0, none⟩) p cap) wr) := Lib.hid (by simpa using HP.out)
      have HLP : Hid ((N ++ 128 :: List.replicate (Sha.zeros s.size) 0).length = p) := Lib.hid (by rw [HLEN.out, Hp.out])
      have HN := Lib.hid (show Sha.pad N = N ++ 128 :: List.replicate (Sha.zeros s.size) 0 ++ Sha.be8 (8 * s.size) by rw [Sha.pad, HL.out]; simp)
      clear HP HLEN hm hm2
      generalize N ++ 128 :: List.replicate (Sha.zeros s.size) 0 = L0 at *
      obtain ⟨wo, rfl⟩ : ∃ wo : World, wo = wr := ⟨_, rfl⟩
      go_loopw [4, 5, 23, 24, 25, 26, 27, 28, 29, 30, 31, 32] (fun v i _ _ _ _ _ _ _ _ _ _ wr => ∃ k : Nat, k ≤ 8 ∧ i = .int .i64 (7 - (k : Int)) ∧ PadS w (L0 ++ (Sha.be8 (8 * s.size)).take k) v wr) (fun _ i _ _ _ _ _ _ _ _ _ _ _ => (intOf i + 1).toNat)
      case atStart => exact ⟨0, by omega, rfl, P1.out⟩
      case round =>
        clear P1
        obtain ⟨k, hk, rfl, hP⟩ := hrel
        obtain ⟨g, cap, hv, hgb, hgl, hcap, _⟩ := hP.row.cell
        have hlen : (L0 ++ (Sha.be8 (8 * s.size)).take k).length = p + k := by rw [List.length_append, HLP.out, List.length_take]; simp [Sha.be8]; omega
        rw [hlen] at hv hcap
        subst hv
        have HP := Lib.hid hP
        have HLEN := Lib.hid hlen
        clear hP hlen
        by_cases hlt : k < 8
        · have q0 : 0 ≤ 7 - (k : Int) := by omega
          have q1 : (k : Int) ≤ 7 := by omega
          have q2 : 0 ≤ 8 * (7 - (k : Int)) := by omega
          have q3 : (8 * (7 - (k : Int))).toNat = 56 - 8 * k := by omega
          have q4 : min (56 - 8 * k) 64 = 56 - 8 * k := by omega
          have hsz : (s.size : Int) ≤ 1000000 := by omega
          go_wp2_with (at_builtin; refine wpList_brow_push rfl (.tmp 23) (.tmp 31) 45 rfl Tryd.underlying45 Tryd.infoByte' (w.heap.size + 1) _ _ rfl (HP.out.row.upd (Upd.alloc (S := fun _ => False) (Upd.refl _ wr) _) (fun _ _ h => h)) wr.heap.size 1 (8 * s.size / 2 ^ (56 - 8 * k) % 256) rfl (by rw [World.cell?_alloc_new]; simp) (by rw [HLEN.out]; omega) (by simp; omega) ?_; intro v2 W3 hrow hgr)
          go_roundw
          case rel => exact ⟨k + 1, by omega, by go_num, by rw [be8_take _ k hlt, ← List.append_assoc]; exact HP.out.push _ hrow.out hgr.out⟩
          case measure => simp [intOf]; omega
        · obtain rfl : k = 8 := by omega
          rw [show (7 : Int) - ((8 : Nat) : Int) = -1 from rfl]
          obtain ⟨m, hm⟩ : ∃ m, m = (s.size + 72) / 64 := ⟨_, rfl⟩
          have e8 : p + 8 = 64 * m := by have := Hp.out; subst hm; unfold Sha.zeros at this; omega
          rw [e8] at hcap ⊢
          have hrow := HP.out.row
          rw [e8] at hrow
          rw [List.take_of_length_le (by simp [Sha.be8]), ← HN.out] at hrow
          have hpl : (Sha.pad N).length = 64 * m := by rw [Sha.pad_length, HL.out, hm]; omega
          have hmb : m ≤ 100000000 := by omega
          have HM := Lib.hid hm
          have HROW := Lib.hid hrow
          have HPL := Lib.hid hpl
          clear hm e8 hrow hpl HLEN
          go_wp2_with fail
          refine (Chunk_any _ rfl wr).mono ?_
          rintro e W4 ⟨rfl, hW4⟩
          have HW4 := Lib.hid hW4
          clear hW4
          go_wp2
          have w4 := HW4.out
          have hBs : W4.heap[wr.heap.size]? = some (.cells #[.slice (some ⟨g, 0, none⟩) (64 * m) cap] 45 (0, 0)) := by rw [← w4, allocOld (by simp)]; exact allocAt _ rfl
          have hBn : W4.heap[wr.heap.size + 1]? = some (.cells #[.int .i64 64] 3 (0, 0)) := by rw [← w4]; exact allocAt _ (by simp)
          have hP4 : PadS w (Sha.pad N) (.slice (some ⟨g, 0, none⟩) (64 * m) cap) W4 := by
            rw [← w4]
            have hu : Upd (fun _ => False) wr ((wr.alloc (.cells #[.slice (some ⟨g, 0, none⟩) (64 * m) cap] 45)).alloc (.cells #[.int .i64 64] 3)) := ((Upd.refl _ wr).alloc _).alloc _
            exact ⟨HROW.out.upd hu (fun _ _ h => h), by rw [hu.block _ (ltOf HP.out.h0) (fun h => h)]; exact HP.out.h0, HP.out.below.trans (hu.below' (Nat.le_of_lt (ltOf HP.out.h0)) (fun _ _ h => h))⟩
          have hsz : W4.heap.size = wr.heap.size + 2 := by rw [← w4]; simp
          have hR4 : RoundLaid W4 := HR.out.below hP4.below
          have hdat : ∀ W, Upd (· = w.heap.size) W4 W → ∀ j, j < 64 * m → W.cell? ⟨g, j, none⟩ = some (.int .u8 ((Sha.pad N).getD j 0 : Nat)) := fun W hU j hj => by
            obtain ⟨g', cap', e, hb', hlt', _, hc'⟩ := hP4.row.cell
            injection e with e1 e2 e3
            injection e1 with e1
            injection e1 with e1
            subst e1
            exact hU.cell (hc' j (by rw [HPL.out]; exact hj)) (by show ¬ g = w.heap.size; omega)
          have hg0 : w.heap.size < wr.heap.size := ltOf HP.out.h0
          have hg1 : g ≠ w.heap.size := by omega
          have hgl : ¬ 0 = w.heap.size := by have := ltOf HR.out.choose_spec; omega
          have HBs := Lib.hid hBs
          have HBn := Lib.hid hBn
          have HP4 := Lib.hid hP4
          have HSZ := Lib.hid hsz
          have HR4 := Lib.hid hR4
          have HD := Lib.hid hdat
          have hgl4 : g < W4.heap.size := by omega
          have hw4 : w.heap.size < W4.heap.size := by omega
          clear w4 hBs hBn hP4 hsz hR4 hdat HW4 HP
          refine (wpIn_wide (n := 9)).1 ?_
          refine rangeG rfl (by omega) (gf := 91) (lb := #[.pointer (some ⟨wr.heap.size, 0, none⟩), .pointer (some ⟨wr.heap.size + 1, 0, none⟩)]) rfl trivial (enters_of Tryd.func91 (by kernel_rfl) rfl)
            (chunk_stops 8 (by omega) wr.heap.size (wr.heap.size + 1) g m cap hmb hcap W4 _ _ _ _ HBs.out HBn.out) KeepT.trans (KeepT.putObj (by have := HSZ.out; intro k hk; omega)) (Below.refl _ _) (fun _ => rfl)
            (fun (pre : List (Fin m)) W => W.heap[w.heap.size]? = some (.cells (wv (blocks (Sha.pad N) pre Sha.H0)).toArray 84 (0, 0)) ∧ Upd (· = w.heap.size) W4 W)
            (fun _ _ _ => False)
            (OwnFrom.and (ownFrom_at w.heap.size (fun pre => .cells (wv (blocks (Sha.pad N) pre Sha.H0)).toArray 84 (0, 0)) hw4) (ownFrom_upd (Nat.le_refl _)))
            (fun _ _ _ _ _ hs _ _ => hs)
            ⟨HP4.out.h0, Upd.refl _ _⟩
            (fun x T => (T.setIfInBounds 35 (.slice (some ⟨g, 64 * x.1, none⟩) 64 64)).setIfInBounds 6 (.slice (some ⟨g, 64 * x.1, none⟩) 64 64)) ?assign ?body ?done ?stop
          case assign =>
            intro l x W K hK
            simp only [List.setIfInBounds_toArray, List.set_cons_zero, List.set_cons_succ] at hK
            gi_wp2
            exact hK
          case body =>
            rintro l pre x W ⟨hh, hU⟩ hlt
            have HH := Lib.hid hh
            have HU := Lib.hid hU
            clear hh hU
            simp only [List.setIfInBounds_toArray, List.set_cons_zero, List.set_cons_succ]
            have hx := x.2
            gi_wp2
            refine ⟨trivial, ?_⟩
            obtain ⟨b1, b2⟩ := blocks_ok (Sha.pad N) pre Sha.H0 rfl Sha.H0_small
            have hbl : (((Sha.pad N).drop (64 * x.1)).take 64).length = 64 := by rw [List.length_take, List.length_drop, HPL.out]; omega
            have hby : Sha.bytes (((Sha.pad N).drop (64 * x.1)).take 64) := fun y hy => HNB.out y (List.mem_of_mem_drop (List.mem_of_mem_take hy))
            have hba : BytesAt W g (64 * x.1) (((Sha.pad N).drop (64 * x.1)).take 64) := fun i hi => by
              rw [hbl] at hi
              rw [HD.out W HU.out (64 * x.1 + i) (by omega)]
              simp only [List.getD_eq_getElem?_getD, List.getElem?_take, if_pos hi, List.getElem?_drop]
            refine (CallsIn.inRound l (callsIn_wide.2 (add_any _ b1 b2 w.heap.size _ hby hbl g (64 * x.1) 64 W (Nat.lt_of_lt_of_le hgl4 HU.out.size) hba HH.out (HR4.out.upd HU.out hgl)))).mono ?_
            rintro e W' ⟨rfl, h1, h2⟩
            have H1 := Lib.hid h1
            have H2 := Lib.hid h2
            clear h1 h2
            gi_wp2
            exact ⟨keepsFrom_of_upd H2.out (fun k hk => by have hk' : k = w.heap.size := hk; omega), KeepT.of_upd H2.out (fun k hk => ⟨by have := HU.out.size; have := HSZ.out; omega, fun e => by have hk' : k = w.heap.size := e; omega⟩), by rw [blocks_snoc]; exact H1.out, HU.out.trans H2.out (fun _ _ h => h)⟩
          case done =>
            rintro D ys W hD rfl ⟨hh, hU⟩ hK
            have hv : ∃ vs, (wv (blocks (Sha.pad N) (List.finRange m) Sha.H0)).toArray = vs := ⟨_, rfl⟩
            obtain ⟨b1, b2⟩ := blocks_ok (Sha.pad N) (List.finRange m) Sha.H0 rfl Sha.H0_small
            have DG := Lib.hid (fun W => dig_any _ b1 b2 W)
            have FIN : Hid ((blocks (Sha.pad N) (List.finRange m) Sha.H0).flatMap Sha.be4 = Sha.sumN N) := Lib.hid (by rw [blocks_run]; rw [Sha.sumN, HL.out, ← HM.out])
            generalize blocks (Sha.pad N) (List.finRange m) Sha.H0 = HH at *
            obtain ⟨vs, hvs⟩ := hv
            have i2 : (Tryd.prog.info? 84).map (·.size) = some vs.size := by rw [← hvs, List.size_toArray, wv_length, b1]; exact Tryd.size8
            rw [hvs] at hh DG
            have HVS := Lib.hid hh
            have I2 := Lib.hid i2
            have HU := Lib.hid hU
            have HK := Lib.hid hK
            clear hvs hh i2 hU hK b1 b2
            go_wp2_with (first
              | (refine wpList_load_row rfl 84 (.tmp 3) rfl w.heap.size rfl 84 vs (0, 0) _ HVS.out Tryd.underlying84 rfl I2.out ?_)
              | fail)
            refine (DG.out W).mono ?_
            rintro e W' ⟨rfl, h2⟩
            have H2 := Lib.hid h2
            clear h2
            go_wp2
            have hK2 : W'.heap[D]? = some (.deferred (some [])) := by rw [H2.out.block D (ltOf HK.out)]; exact HK.out
            refine ⟨by simp, .inl ⟨_, _, rfl, run_takeDeferred hK2, ?_⟩⟩
            have hW : Below w.heap.size w W' := (HP4.out.below.trans (HU.out.below' (by omega) (by intro i hi h; omega))).trans (H2.out.mono (by have := HU.out.size; omega))
            have e : (⟨(List.map UInt8.ofNat (List.flatMap Sha.be4 HH)).toArray⟩ : ByteArray) = sumB s := by rw [FIN.out, ← HNN.out]; rfl
            rw [e]
            exact ⟨_, results_tmp rfl _ _ _, rfl, hW.trans (belowK_b (w := w) (Nat.le_refl _) W' D _ _ (by omega) hK2 rfl rfl)⟩
          case stop =>
            rintro D c pre W _ _ h _
            exact h.elim
end Go.Proofs.YtljgphmdiflphaaDoor
