/- The reference's SHA-256: a block. -/
import Derived.Test.YtljgphmdiflphaaDoorRsH
namespace Go.Proofs.YtljgphmdiflphaaDoor
open Go.RowKit
set_option linter.unusedVariables false

theorem t_int2 (e f g h k x : Nat) (le : e < 4294967296) (lf : f < 4294967296) (lg : g < 4294967296) (lh : h < 4294967296) :
    (((h : Int) + ((Sha.mix e [6, 11, 25] : Nat) : Int) + bits BinOp.xor IntKind.u32 (bits BinOp.and IntKind.u32 (e : Int) (f : Int)) (bits BinOp.and IntKind.u32 (bits BinOp.xor IntKind.u32 (if IntKind.u32.signed = true then -1 else IntKind.u32.max) (e : Int)) (g : Int)) + (k : Int)) % 4294967296 + (x : Int)) % 4294967296 =
      ((Sha.tval e f g h k x : Nat) : Int) := by
  rw [← t_int e f g h k x le lf lg lh]
  rw [show (if IntKind.u32.signed = true then (-1 : Int) else IntKind.u32.max) = IntKind.u32.max from rfl]
  simp only [IntKind.wrap_u32']
  omega
theorem u_int2 (a b c : Nat) (la : a < 4294967296) (lb : b < 4294967296) (lc : c < 4294967296) :
    (((Sha.mix a [2, 13, 22] : Nat) : Int) + bits BinOp.xor IntKind.u32 (bits BinOp.xor IntKind.u32 (bits BinOp.and IntKind.u32 (a : Int) (b : Int)) (bits BinOp.and IntKind.u32 (a : Int) (c : Int))) (bits BinOp.and IntKind.u32 (b : Int) (c : Int))) % 4294967296 =
      ((Sha.uval a b c : Nat) : Int) := by
  rw [← u_int a b c la lb lc, IntKind.wrap_u32']
theorem addV_take (H V : List Nat) (h1 : H.length = 8) (h2 : V.length = 8) (k : Nat) (hk : k < 8) : (Sha.addV H V).take (k + 1) = (Sha.addV H V).take k ++ [(H.getD k 0 + V.getD k 0) % 4294967296] := by
  have hA : (Sha.addV H V).length = 8 := by simp [Sha.addV, h1, h2]
  rw [List.take_succ_eq_append_getElem (by omega)]
  congr 2
  simp only [Sha.addV, List.getElem_zipWith, List.getD_eq_getElem?_getD]
  rw [List.getElem?_eq_getElem (by omega), List.getElem?_eq_getElem (by omega)]; rfl
theorem wrap_add (x y : Nat) : IntKind.u32.wrap ((x : Int) + (y : Int)) = (((x + y) % 4294967296 : Nat) : Int) := by
  rw [IntKind.wrap_u32']; omega
/-- Eight words, in a world that has kept what was there. -/
def V8 (w0 : World) (l : List Nat) (v : Value) (wr : World) : Prop :=
  (∃ b cap, v = .slice (some ⟨b, 0, none⟩) 8 cap ∧ 8 ≤ cap ∧ b < wr.heap.size ∧ ∀ (j : Nat) (x : Nat), l[j]? = some x → wr.cell? ⟨b, j, none⟩ = some (.int .u32 (x : Int))) ∧ Below w0.heap.size w0 wr
theorem below_drewN' {b : Nat} {w w' : World} (h : Below b w w') (n : Nat) : Below b w (w'.drewN n) := ⟨h.os, h.tape, h.output, h.size, h.block⟩
set_option maxRecDepth 100000 in
set_option maxHeartbeats 8000000 in
theorem block_any (H bs : List Nat) (hH : H.length = 8) (hHs : Sha.small H) (hb : Sha.bytes bs) (hl : bs.length = 64) (hv : Value) (w : World) (hHv : NL w hv H) (g off c : Nat) (hg : g < w.heap.size) (hc : BytesAt w g off bs) :
    Calls Tryd.prog 68 #[hv, .slice (some ⟨g, off, none⟩) 64 c] w fun e w' => ∃ v, e = .returned v ∧ OWd w (Sha.blk H bs) 8 v w' := by
  obtain ⟨i0, hi, hz0, hz1, hz2⟩ := info_parts Tryd.infoW
  obtain ⟨gh, oh, ch, rfl, hch, hgh, hcH⟩ := hHv.form
  have HCH := Lib.hid hcH
  have HLEN := Lib.hid hH
  have HC : Hid (∀ (wr : World), Below w.heap.size w wr → ∀ i, i < 64 → wr.cell? ⟨g, off + i, none⟩ = some (.int .u8 (bs.getD i 0 : Nat))) :=
    Lib.hid fun wr hB i hi => (hB.cell (p := ⟨g, off + i, none⟩) hg).trans (hc i (by omega))
  rw [hH] at hch ⊢
  clear hl hc hHv hcH hH
  go_enter Tryd.func68, Tryd.ntmps68
  go_wp2
  go_loopw [5, 6] (fun v i wr => ∃ k : Nat, k ≤ 16 ∧ i = .int .i64 k ∧ OWd w (Sha.schedN bs k) k v wr) (fun _ i _ => 16 - (intOf i).toNat)
  case atStart => exact ⟨0, by omega, rfl, World.ownsRow_nil _ _ _ _, Below.refl _ _⟩
  case round =>
    obtain ⟨k, hk, rfl, hS⟩ := hrel
    have HS := Lib.hid hS
    clear hS
    by_cases hlt : k < 16
    · have hd := (Sha.getD_byte hb)
      have c0 := HC.out wr HS.out.below (4 * k) (by omega)
      have c1 := HC.out wr HS.out.below (4 * k + 1) (by omega)
      have c2 := HC.out wr HS.out.below (4 * k + 2) (by omega)
      have c3 := HC.out wr HS.out.below (4 * k + 3) (by omega)
      have l0 := hd (4 * k)
      have l1 := hd (4 * k + 1)
      have l2 := hd (4 * k + 2)
      have l3 := hd (4 * k + 3)
      have N := Lib.hid (Sha.schedN_lo bs k hlt)
      unfold Sha.word at N
      generalize bs.getD (4 * k) 0 = x0 at *
      generalize bs.getD (4 * k + 1) 0 = x1 at *
      generalize bs.getD (4 * k + 2) 0 = x2 at *
      generalize bs.getD (4 * k + 3) 0 = x3 at *
      clear hd
      have hne5 : ∀ j, u5.ownBlock = some j → j ≠ g := fun j e => by have := (HS.out.row.lt j e).1; omega
      have m0 : IntKind.i64.wrap (4 * (k : Int)) = 4 * (k : Int) := IntWalk.i64_in _ (by omega)
      have m1 : IntKind.i64.wrap (4 * (k : Int) + 1) = 4 * (k : Int) + 1 := IntWalk.i64_in _ (by omega)
      have m2 : IntKind.i64.wrap (4 * (k : Int) + 2) = 4 * (k : Int) + 2 := IntWalk.i64_in _ (by omega)
      have m3 : IntKind.i64.wrap (4 * (k : Int) + 3) = 4 * (k : Int) + 3 := IntWalk.i64_in _ (by omega)
      have t0 : (4 * (k : Int)).toNat = 4 * k := by omega
      have t1 : (4 * (k : Int) + 1).toNat = 4 * k + 1 := by omega
      have t2 : (4 * (k : Int) + 2).toNat = 4 * k + 2 := by omega
      have t3 : (4 * (k : Int) + 3).toNat = 4 * k + 3 := by omega
      have p0 : 0 ≤ 4 * (k : Int) := by omega
      have p1 : 0 ≤ 4 * (k : Int) + 1 := by omega
      have p2 : 0 ≤ 4 * (k : Int) + 2 := by omega
      have p3 : 0 ≤ 4 * (k : Int) + 3 := by omega
      have q0 : 4 * (k : Int) < 64 := by omega
      have q1 : 4 * (k : Int) + 1 < 64 := by omega
      have q2 : 4 * (k : Int) + 2 < 64 := by omega
      have q3 : 4 * (k : Int) + 3 < 64 := by omega
      go_wp2
      go_region_held3 (fun w' => w'.cell? ⟨g, off + 4 * k, none⟩ = some (.int .u8 (x0 : Nat)) ∧ w'.cell? ⟨g, off + (4 * k + 1), none⟩ = some (.int .u8 (x1 : Nat)) ∧ w'.cell? ⟨g, off + (4 * k + 2), none⟩ = some (.int .u8 (x2 : Nat)) ∧ w'.cell? ⟨g, off + (4 * k + 3), none⟩ = some (.int .u8 (x3 : Nat)))
        ((first | (with_reducible exact ⟨c0, c1, c2, c3⟩) | (with_reducible exact ⟨keepA c0, keepA c1, keepA c2, keepA c3⟩) | (with_reducible exact ⟨keepA0 c0, keepA0 c1, keepA0 c2, keepA0 c3⟩) | (with_reducible exact ⟨d0, d1, d2, d3⟩) | go_keep))
        ((refine step_append_lies _ (by rfl) _ _ _ (by rfl) w.heap.size 82 i0 _ 1 4 Tryd.underlying90 hi hz0 hz1 hz2 rfl (by omega) u5 k _ (by rfl) (by first | exact (HS.out.row.alloc _).drew | exact HS.out.row.drew.alloc _ | exact HS.out.row.alloc _) ⟨wr.heap.size, 0, none⟩ 1 1 [.int .u32 ((Sha.wordv x0 x1 x2 x3 : Nat) : Int)] (by rfl) (by rfl) (news_one' (congrArg (Value.int .u32) (word_int x0 x1 x2 x3 l0 l1 l2 l3)) (by first | exact heap_alloc_new _ _ | (rw [drewHeap]; exact heap_alloc_new _ _))) (by simp [Value.oneCell']) (by omega) (by simp only [maxLen]; omega) (by omega) (by have := HS.out.below.size; simp; omega) (wr.heap.size + 1) (by simp) ?_
          intro gg cc W2 hown hgr hat hlt6
          have d0 := keepG hgr (by first | exact keepA c0 | exact keepA0 c0) hne5
          have d1 := keepG hgr (by first | exact keepA c1 | exact keepA0 c1) hne5
          have d2 := keepG hgr (by first | exact keepA c2 | exact keepA0 c2) hne5
          have d3 := keepG hgr (by first | exact keepA c3 | exact keepA0 c3) hne5))
      have O2 := Lib.hid hown
      have G2 : Hid ((wr.alloc _).grownBy W2 u5.ownBlock) := Lib.hid (by first | exact hgr | exact grown_of_drew hgr)
      clear hown hgr hat hlt6 d0 d1 d2 d3 c0 c1 c2 c3 m0 m1 m2 m3 t0 t1 t2 t3 hne5
      go_wp2
      go_roundw
      case rel => exact ⟨k + 1, by omega, by go_num, HS.out.push _ [Sha.wordv x0 x1 x2 x3] O2.out N.out G2.out⟩
      case measure => simp [intOf]; omega
    · obtain rfl : k = 16 := by omega
      rw [show ((16 : Nat) : Int) = 16 from rfl]
      clear HC
      go_wp2
      obtain ⟨wo, rfl⟩ : ∃ wo : World, wo = wr := ⟨_, rfl⟩
      go_loopw [5, 7, 8, 9] (fun v i _ _ wr => ∃ k : Nat, 16 ≤ k ∧ k ≤ 64 ∧ i = .int .i64 k ∧ OWd w (Sha.schedN bs k) k v wr) (fun _ i _ _ _ => 64 - (intOf i).toNat)
      case atStart => exact ⟨16, by omega, by omega, rfl, HS.out⟩
      case round =>
        clear HS
        obtain ⟨k, hk0, hk, rfl, hS⟩ := hrel
        obtain ⟨g5, c5, rfl, hc5, hg5, hcs⟩ := hS.form (by omega)
        have HS := Lib.hid hS
        have CS := Lib.hid hcs
        clear hS hcs
        by_cases hlt2 : k < 64
        · have hln := Sha.schedN_length bs k
          have c2 := CS.out (k - 2) ((Sha.schedN bs k).getD (k - 2) 0) (by rw [List.getD_eq_getElem?_getD, List.getElem?_eq_getElem (by omega)]; rfl)
          have c7 := CS.out (k - 7) ((Sha.schedN bs k).getD (k - 7) 0) (by rw [List.getD_eq_getElem?_getD, List.getElem?_eq_getElem (by omega)]; rfl)
          have c15 := CS.out (k - 15) ((Sha.schedN bs k).getD (k - 15) 0) (by rw [List.getD_eq_getElem?_getD, List.getElem?_eq_getElem (by omega)]; rfl)
          have c16 := CS.out (k - 16) ((Sha.schedN bs k).getD (k - 16) 0) (by rw [List.getD_eq_getElem?_getD, List.getElem?_eq_getElem (by omega)]; rfl)
          have hsm := Sha.getD_lt (Sha.sched_small hb k)
          have l2 := hsm (k - 2)
          have l15 := hsm (k - 15)
          have N := Lib.hid (Sha.schedN_hi bs k hk0)
          unfold Sha.next at N
          generalize (Sha.schedN bs k).getD (k - 2) 0 = x2 at *
          generalize (Sha.schedN bs k).getD (k - 7) 0 = x7 at *
          generalize (Sha.schedN bs k).getD (k - 15) 0 = x15 at *
          generalize (Sha.schedN bs k).getD (k - 16) 0 = x16 at *
          clear hsm hln
          have m2 : IntKind.i64.wrap ((k : Int) - 2) = (k : Int) - 2 := IntWalk.i64_in _ (by omega)
          have m7 : IntKind.i64.wrap ((k : Int) - 7) = (k : Int) - 7 := IntWalk.i64_in _ (by omega)
          have m15 : IntKind.i64.wrap ((k : Int) - 15) = (k : Int) - 15 := IntWalk.i64_in _ (by omega)
          have m16 : IntKind.i64.wrap ((k : Int) - 16) = (k : Int) - 16 := IntWalk.i64_in _ (by omega)
          have t2 : ((k : Int) - 2).toNat = k - 2 := by omega
          have t7 : ((k : Int) - 7).toNat = k - 7 := by omega
          have t15 : ((k : Int) - 15).toNat = k - 15 := by omega
          have t16 : ((k : Int) - 16).toNat = k - 16 := by omega
          have p2 : 0 ≤ (k : Int) - 2 := by omega
          have p7 : 0 ≤ (k : Int) - 7 := by omega
          have p15 : 0 ≤ (k : Int) - 15 := by omega
          have p16 : 0 ≤ (k : Int) - 16 := by omega
          have q2 : (k : Int) - 2 < (k : Int) := by omega
          have q7 : (k : Int) - 7 < (k : Int) := by omega
          have q15 : (k : Int) - 15 < (k : Int) := by omega
          have q16 : (k : Int) - 16 < (k : Int) := by omega
          have r2 : 2 ≤ (k : Int) := by omega
          have r7 : 7 ≤ (k : Int) := by omega
          have r15 : 15 ≤ (k : Int) := by omega
          have r16 : 16 ≤ (k : Int) := by omega
          go_wp2
          go_quiet ((go_at_call 94; first | (with_reducible exact Calls.quiet_of (rotated_any x15 7 7 rfl _ l15 (by decide) (by decide))) | (with_reducible exact Calls.quiet_of (rotated_any x15 18 18 rfl _ l15 (by decide) (by decide)))))
          rw [sig8 x15 l15 7 18]
          have HS1 : Hid (OWd w (Sha.schedN bs k) k (.slice (some ⟨g5, 0, none⟩) k c5) (wr.drewN nq)) := Lib.hid ⟨HS.out.row, below_drewN' HS.out.below nq⟩
          have hs15 : Sha.mix x15 [7, 18] ^^^ x15 / 8 < 4294967296 := Nat.xor_lt_two_pow (n := 32) (Sha.mix_lt _ l15 _) (by omega)
          replace c2 : (wr.drewN nq).cell? ⟨g5, k - 2, none⟩ = some (.int .u32 (x2 : Nat)) := c2
          replace c7 : (wr.drewN nq).cell? ⟨g5, k - 7, none⟩ = some (.int .u32 (x7 : Nat)) := c7
          replace c16 : (wr.drewN nq).cell? ⟨g5, k - 16, none⟩ = some (.int .u32 (x16 : Nat)) := c16
          have NV := Lib.hid (nextv_int x16 x15 x7 x2)
          clear c15 HS CS
          generalize wr.drewN nq = W at *
          generalize Sha.mix x15 [7, 18] ^^^ x15 / 8 = s15 at *
          go_wp2
          go_quiet ((go_at_call 94; first | (with_reducible exact Calls.quiet_of (rotated_any x2 17 17 rfl _ l2 (by decide) (by decide))) | (with_reducible exact Calls.quiet_of (rotated_any x2 19 19 rfl _ l2 (by decide) (by decide)))))
          rw [sig1024 x2 l2 17 19]
          have HS2 : Hid (OWd w (Sha.schedN bs k) k (.slice (some ⟨g5, 0, none⟩) k c5) (W.drewN nq)) := Lib.hid ⟨HS1.out.row, below_drewN' HS1.out.below nq⟩
          replace c7 : (W.drewN nq).cell? ⟨g5, k - 7, none⟩ = some (.int .u32 (x7 : Nat)) := c7
          replace c16 : (W.drewN nq).cell? ⟨g5, k - 16, none⟩ = some (.int .u32 (x16 : Nat)) := c16
          clear c2 HS1
          generalize W.drewN nq = W1 at *
          generalize Sha.mix x2 [17, 19] ^^^ x2 / 1024 = s2 at *
          go_wp2
          go_region_held3 (fun w' => w'.cell? ⟨g5, k - 16, none⟩ = some (.int .u32 (x16 : Nat)) ∧ w'.cell? ⟨g5, k - 7, none⟩ = some (.int .u32 (x7 : Nat)))
            ((first | (with_reducible exact ⟨c16, c7⟩) | (with_reducible exact ⟨keepA c16, keepA c7⟩) | (with_reducible exact ⟨keepA0 c16, keepA0 c7⟩) | (with_reducible exact ⟨d16, d7⟩) | go_keep))
            ((refine step_append_keep (by rfl) _ _ _ (by rfl) w.heap.size 82 i0 _ 4 Tryd.underlying90 hi hz0 hz1 hz2 rfl g5 k c5 _ (by rfl) (by first | exact (HS2.out.row.alloc _).drew | exact HS2.out.row.drew.alloc _ | exact HS2.out.row.alloc _) ⟨W1.heap.size, 0, none⟩ 1 1 [.int .u32 ((Sha.nextv x16 x15 x7 x2 : Nat) : Int)] (by rfl) (by rfl) (news_one' (congrArg (Value.int .u32) NV.out) (by first | exact heap_alloc_new _ _ | (rw [drewHeap]; exact heap_alloc_new _ _))) (by simp [Value.oneCell']) (by simp only [maxLen]; omega) (by omega) (by have := HS2.out.below.size; simp; omega) ?_
              intro v5 W2 hown hgr hkp
              have d16 : W2.cell? ⟨g5, k - 16, none⟩ = some (.int .u32 (x16 : Nat)) := (hkp _ (by omega)).trans (by first | exact keepA c16 | exact keepA0 c16)
              have d7 : W2.cell? ⟨g5, k - 7, none⟩ = some (.int .u32 (x7 : Nat)) := (hkp _ (by omega)).trans (by first | exact keepA c7 | exact keepA0 c7)))
          have O2 := Lib.hid hown
          have G2 : Hid ((W1.alloc _).grownBy W2 (some g5)) := Lib.hid (by first | exact hgr | exact grown_of_drew hgr)
          clear hown hgr hkp d16 d7 c16 c7 m2 m7 m15 m16 t2 t7 t15 t16 NV
          go_wp2
          go_roundw
          case rel =>
            have R : OWd w (Sha.schedN bs (k + 1)) (k + 1) v5 W2 := HS2.out.push _ [Sha.nextv x16 x15 x7 x2] O2.out N.out G2.out
            first | exact ⟨k + 1, by omega, by omega, by go_num, R⟩ | ((repeat apply Exists.intro); exact ⟨⟨k + 1, by omega, by omega, by go_num, R⟩, rfl⟩)
          case measure => simp [intOf]; omega
        · obtain rfl : k = 64 := by omega
          rw [show ((64 : Nat) : Int) = 64 from rfl]
          have hHc : ∀ W, Below w.heap.size w W → ∀ j u, (wv H)[j]? = some u → W.cell? ((⟨gh, oh, none⟩ : Addr).add j) = some u := fun W hW j u hu => by
            have hadd : (⟨gh, oh, none⟩ : Addr).add j = ⟨gh, oh + j, none⟩ := by
              unfold Addr.add
              by_cases h : j = 0
              · subst h; simp
              · simp [h]
            rw [hadd, hW.cell (p := ⟨gh, oh + j, none⟩) hgh]
            simp only [wv, List.getElem?_map, Option.map_eq_some_iff] at hu
            obtain ⟨x, hx, rfl⟩ := hu
            exact HCH.out j x hx
          have HHc := Lib.hid hHc
          have HwH : Hid ((wv H).length = 8 * 1) := Lib.hid (by simp [wv, HLEN.out])
          have hone : ∀ u ∈ wv H, u.oneCell' = true := fun u hu => by
            simp only [wv, List.mem_map] at hu
            obtain ⟨y, _, rfl⟩ := hu
            rfl
          have HONE := Lib.hid hone
          clear hHc hone
          go_wp2_with (first
            | (go_at_call 95
               refine (constants_any _).mono ?_
               rintro e Wc ⟨rfl, hWc⟩
               have BWc := Lib.hid (show Below w.heap.size w Wc by rw [← hWc]; exact HS.out.below.alloc HS.out.below.size _)
               have KC : Hid (∀ (j : Nat) (x : Nat), Sha.K[j]? = some x → Wc.cell? ⟨wr.heap.size, j, none⟩ = some (.int .u32 (x : Int))) := Lib.hid (fun j x hj => by rw [← hWc, cellOf (allocAt _ rfl)]; simp [wv, hj])
               have SC : Hid (∀ (j : Nat) (x : Nat), (Sha.schedN bs 64)[j]? = some x → Wc.cell? ⟨g5, j, none⟩ = some (.int .u32 (x : Int))) := Lib.hid (fun j x hj => by rw [← hWc]; exact keepA0 (CS.out j x hj))
               have zc : wr.heap.size < Wc.heap.size := by rw [← hWc]; simp
               have zg : g5 < Wc.heap.size := by omega
               clear hWc)
            | (at_builtin; refine wpList_append_own _ rfl (.tmp 122) (.tmp 123) 90 rfl Wc.heap.size 82 i0 _ 1 4 Tryd.underlying90 hi hz0 hz1 hz2 rfl (by decide) (.slice none 0 0) 0 [] rfl (World.ownsRow_nil _ _ _ _) ⟨gh, oh, none⟩ 8 ch (wv H) rfl HwH.out (HHc.out Wc BWc.out) HONE.out (by simp only [maxLen]; omega) (by omega) (Nat.le_refl _) ?_
               intro v1 W2 hown hgr _
               have O1 : Hid (OWd Wc H 8 v1 W2) := Lib.hid ⟨by simpa using hown, (Below.refl Wc.heap.size Wc).grown hgr (Nat.le_refl _) (by simp [Value.ownBlock])⟩
               clear hown hgr))
          have V0 : Hid (V8 Wc (Sha.rounds (Sha.schedN bs 64) H 0) v1 W2) := Lib.hid (by
            obtain ⟨b, cp, e, h1, h2, h3⟩ := O1.out.form (by omega)
            exact ⟨⟨b, cp, e, h1, h2, h3⟩, O1.out.below⟩)
          obtain ⟨gk, hgk⟩ : ∃ gk, wr.heap.size = gk := ⟨_, rfl⟩
          rw [hgk] at KC zc ⊢
          have sml := Sha.sched_small hb 64
          have sln := Sha.schedN_length bs 64
          have HBLK : Hid (Sha.blk H bs = Sha.addV H (Sha.rounds (Sha.schedN bs 64) H 64)) := Lib.hid rfl
          have HSL := Lib.hid sln
          have HSM := Lib.hid sml
          generalize Sha.schedN bs 64 = S at *
          clear HS CS O1 HHc HwH HONE hgk sln sml hg5 hc5 hlt2 hk0 hk
          go_loopw [11, 12, 13, 14, 15, 16] (fun v i _ _ _ _ wr => ∃ k : Nat, k ≤ 64 ∧ i = .int .i64 k ∧ V8 Wc (Sha.rounds S H k) v wr) (fun _ i _ _ _ _ _ => 64 - (intOf i).toNat)
          case atStart => exact ⟨0, by omega, rfl, V0.out⟩
          case round =>
            clear V0
            obtain ⟨k, hk, rfl, hV⟩ := hrel
            obtain ⟨⟨gv, cv, rfl, hcv, hgv, hcs⟩, hbel⟩ := hV
            have HB := Lib.hid hbel
            have CS := Lib.hid hcs
            clear hbel hcs
            by_cases hlt : k < 64
            · have hrl := Sha.rounds_length S H HLEN.out k
              have hrs := Sha.rounds_small S H hHs k
              have N : Hid (Sha.rounds S H (k + 1) = Sha.rd (Sha.K.getD k 0) (S.getD k 0) (Sha.rounds S H k)) := Lib.hid rfl
              have lk : Sha.K.getD k 0 < 4294967296 := Sha.getD_lt Sha.K_lt k
              have lx : S.getD k 0 < 4294967296 := Sha.getD_lt HSM.out k
              have ck : wr.cell? ⟨gk, k, none⟩ = some (.int .u32 (Sha.K.getD k 0 : Nat)) := (HB.out.cell (p := ⟨gk, k, none⟩) zc).trans (KC.out k _ (by rw [List.getD_eq_getElem?_getD, List.getElem?_eq_getElem (show k < Sha.K.length from hlt)]; rfl))
              have cx : wr.cell? ⟨g5, k, none⟩ = some (.int .u32 (S.getD k 0 : Nat)) := (HB.out.cell (p := ⟨g5, k, none⟩) zg).trans (SC.out k _ (by rw [List.getD_eq_getElem?_getD, List.getElem?_eq_getElem (show k < S.length by rw [HSL.out]; exact hlt)]; rfl))
              obtain ⟨v0, v1, v2, v3, v4, v5, v6, v7, hV⟩ := len8 hrl
              rw [hV] at CS N hrs
              clear hV hrl
              have c0 : wr.cell? ⟨gv, 0, none⟩ = some (.int .u32 (v0 : Nat)) := CS.out 0 v0 rfl
              have c1 : wr.cell? ⟨gv, 1, none⟩ = some (.int .u32 (v1 : Nat)) := CS.out 1 v1 rfl
              have c2 : wr.cell? ⟨gv, 2, none⟩ = some (.int .u32 (v2 : Nat)) := CS.out 2 v2 rfl
              have c3 : wr.cell? ⟨gv, 3, none⟩ = some (.int .u32 (v3 : Nat)) := CS.out 3 v3 rfl
              have c4 : wr.cell? ⟨gv, 4, none⟩ = some (.int .u32 (v4 : Nat)) := CS.out 4 v4 rfl
              have c5 : wr.cell? ⟨gv, 5, none⟩ = some (.int .u32 (v5 : Nat)) := CS.out 5 v5 rfl
              have c6 : wr.cell? ⟨gv, 6, none⟩ = some (.int .u32 (v6 : Nat)) := CS.out 6 v6 rfl
              have c7 : wr.cell? ⟨gv, 7, none⟩ = some (.int .u32 (v7 : Nat)) := CS.out 7 v7 rfl
              have l0 := hrs v0 (by simp)
              have l1 := hrs v1 (by simp)
              have l2 := hrs v2 (by simp)
              have l4 := hrs v4 (by simp)
              have l5 := hrs v5 (by simp)
              have l6 := hrs v6 (by simp)
              have l7 := hrs v7 (by simp)
              have q0 : (k : Int) < 64 := by omega
              generalize S.getD k 0 = x at *
              generalize Sha.K.getD k 0 = kk at *
              clear hrs CS
              go_wp2
              go_quiet ((go_at_call 94; first | (with_reducible exact Calls.quiet_of (rotated_any v4 6 6 rfl _ l4 (by decide) (by decide))) | (with_reducible exact Calls.quiet_of (rotated_any v4 11 11 rfl _ l4 (by decide) (by decide))) | (with_reducible exact Calls.quiet_of (rotated_any v4 25 25 rfl _ l4 (by decide) (by decide)))))
              rw [mix3_int v4 l4 6 11 25, t_int2 v4 v5 v6 v7 kk x l4 l5 l6 l7]
              have HB1 := Lib.hid (below_drewN' HB.out nq)
              replace c1 : (wr.drewN nq).cell? ⟨gv, 1, none⟩ = some (.int .u32 (v1 : Nat)) := c1
              replace c2 : (wr.drewN nq).cell? ⟨gv, 2, none⟩ = some (.int .u32 (v2 : Nat)) := c2
              replace c3 : (wr.drewN nq).cell? ⟨gv, 3, none⟩ = some (.int .u32 (v3 : Nat)) := c3
              replace c5 : (wr.drewN nq).cell? ⟨gv, 5, none⟩ = some (.int .u32 (v5 : Nat)) := c5
              replace c6 : (wr.drewN nq).cell? ⟨gv, 6, none⟩ = some (.int .u32 (v6 : Nat)) := c6
              have lt : Sha.tval v4 v5 v6 v7 kk x < 4294967296 := Sha.tval_lt _ _ _ _ _ _
              rw [rd_eq] at N
              generalize Sha.tval v4 v5 v6 v7 kk x = t at *
              clear HB c0 c4 c7 ck cx
              generalize wr.drewN nq = W3 at *
              go_wp2
              go_quiet ((go_at_call 94; first | (with_reducible exact Calls.quiet_of (rotated_any v0 2 2 rfl _ l0 (by decide) (by decide))) | (with_reducible exact Calls.quiet_of (rotated_any v0 13 13 rfl _ l0 (by decide) (by decide))) | (with_reducible exact Calls.quiet_of (rotated_any v0 22 22 rfl _ l0 (by decide) (by decide)))))
              rw [mix3_int v0 l0 2 13 22]
              rw [u_int2 v0 v1 v2 l0 l1 l2]
              have HB2 := Lib.hid (below_drewN' HB1.out nq)
              replace c1 : (W3.drewN nq).cell? ⟨gv, 1, none⟩ = some (.int .u32 (v1 : Nat)) := c1
              replace c2 : (W3.drewN nq).cell? ⟨gv, 2, none⟩ = some (.int .u32 (v2 : Nat)) := c2
              replace c3 : (W3.drewN nq).cell? ⟨gv, 3, none⟩ = some (.int .u32 (v3 : Nat)) := c3
              replace c5 : (W3.drewN nq).cell? ⟨gv, 5, none⟩ = some (.int .u32 (v5 : Nat)) := c5
              replace c6 : (W3.drewN nq).cell? ⟨gv, 6, none⟩ = some (.int .u32 (v6 : Nat)) := c6
              have lu : Sha.uval v0 v1 v2 < 4294967296 := Sha.uval_lt _ _ _
              generalize Sha.uval v0 v1 v2 = u at *
              clear HB1
              generalize W3.drewN nq = W4 at *
              go_wp2
              go_still_tail 22, (by kernel_rfl)
              change wpList _ _ _ _ _ W4.drew
              have HB3 := Lib.hid (HB2.out.drew)
              clear HB2 c1 c2 c3 c5 c6
              generalize W4.drew = W5 at *
              go_wp2
              go_roundw
              case rel =>
                have R : V8 Wc (Sha.rounds S H (k + 1)) (.slice (some ⟨W5.heap.size, 0, none⟩) 8 8) (W5.alloc (.cells #[.int .u32 (((t : Int) + (u : Int)) % 4294967296), .int .u32 v0, .int .u32 v1, .int .u32 v2, .int .u32 (((v3 : Int) + (t : Int)) % 4294967296), .int .u32 v4, .int .u32 v5, .int .u32 v6] 82)) := ⟨⟨W5.heap.size, 8, rfl, Nat.le_refl _, by simp, fun j y hj => by
                  rw [N.out] at hj
                  rw [cellOf (allocAt _ rfl)]
                  match j, hj with
                  | 0, hj => injection hj with hj; subst hj; simp
                  | 1, hj => injection hj with hj; subst hj; rfl
                  | 2, hj => injection hj with hj; subst hj; rfl
                  | 3, hj => injection hj with hj; subst hj; rfl
                  | 4, hj => injection hj with hj; subst hj; simp
                  | 5, hj => injection hj with hj; subst hj; rfl
                  | 6, hj => injection hj with hj; subst hj; rfl
                  | 7, hj => injection hj with hj; subst hj; rfl
                  | j + 8, hj => simp at hj⟩, HB3.out.alloc HB3.out.size _⟩
                first | exact ⟨k + 1, by omega, by go_num, R⟩ | ((repeat apply Exists.intro); exact ⟨⟨k + 1, by omega, by go_num, R⟩, rfl⟩)
              case measure => simp [intOf]; omega
            · obtain rfl : k = 64 := by omega
              have hrl := Sha.rounds_length S H HLEN.out 64
              have hHc : ∀ (j : Nat) (x : Nat), H[j]? = some x → wr.cell? ⟨gh, oh + j, none⟩ = some (.int .u32 (x : Int)) := fun j x hj => by
                rw [HB.out.cell (p := ⟨gh, oh + j, none⟩) (Nat.lt_of_lt_of_le hgh BWc.out.size), BWc.out.cell (p := ⟨gh, oh + j, none⟩) hgh]
                exact HCH.out j x hj
              have hgw : gh < wr.heap.size := Nat.lt_of_lt_of_le hgh (Nat.le_trans BWc.out.size HB.out.size)
              have HHc := Lib.hid hHc
              have BW := Lib.hid (BWc.out.trans (HB.out.mono BWc.out.size))
              have HRL := Lib.hid hrl
              generalize Sha.rounds S H 64 = V at *
              clear hHc HB BWc KC SC HSL HSM hrl
              obtain ⟨wo, rfl⟩ : ∃ wo : World, wo = wr := ⟨_, rfl⟩
              go_wp2
              go_loopw [17, 18] (fun ov i wq => ∃ k : Nat, k ≤ 8 ∧ i = .int .i64 k ∧ OWd wo ((Sha.addV H V).take k) k ov wq) (fun _ i _ => 8 - (intOf i).toNat)
              case atStart => exact ⟨0, by omega, rfl, World.ownsRow_nil _ _ _ _, Below.refl _ _⟩
              case round =>
                obtain ⟨k, hk, rfl, hO⟩ := hrel
                have HO := Lib.hid hO
                clear hO
                by_cases hlt : k < 8
                · have c0 : wr.cell? ⟨gh, oh + k, none⟩ = some (.int .u32 (H.getD k 0 : Nat)) := (HO.out.below.cell (p := ⟨gh, oh + k, none⟩) hgw).trans (HHc.out k _ (by rw [List.getD_eq_getElem?_getD, List.getElem?_eq_getElem (show k < H.length by rw [HLEN.out]; exact hlt)]; rfl))
                  have c1 : wr.cell? ⟨gv, k, none⟩ = some (.int .u32 (V.getD k 0 : Nat)) := (HO.out.below.cell (p := ⟨gv, k, none⟩) hgv).trans (CS.out k _ (by rw [List.getD_eq_getElem?_getD, List.getElem?_eq_getElem (show k < V.length by rw [HRL.out]; exact hlt)]; rfl))
                  have N := Lib.hid (addV_take H V HLEN.out HRL.out k hlt)
                  have hne1 : ∀ j, u17.ownBlock = some j → j ≠ gh := fun j e => by have := (HO.out.row.lt j e).1; omega
                  have hne2 : ∀ j, u17.ownBlock = some j → j ≠ gv := fun j e => by have := (HO.out.row.lt j e).1; omega
                  have q0 : (k : Int) < 8 := by omega
                  generalize H.getD k 0 = x at *
                  generalize V.getD k 0 = y at *
                  go_wp2
                  go_region_held3 (fun w' => w'.cell? ⟨gh, oh + k, none⟩ = some (.int .u32 (x : Nat)) ∧ w'.cell? ⟨gv, k, none⟩ = some (.int .u32 (y : Nat)))
                    ((first | (with_reducible exact ⟨c0, c1⟩) | (with_reducible exact ⟨keepA c0, keepA c1⟩) | (with_reducible exact ⟨keepA0 c0, keepA0 c1⟩) | (with_reducible exact ⟨d0, d1⟩) | go_keep))
                    ((refine step_append_lies _ (by rfl) _ _ _ (by rfl) wo.heap.size 82 i0 _ 1 4 Tryd.underlying90 hi hz0 hz1 hz2 rfl (by omega) u17 k _ (by rfl) (by first | exact (HO.out.row.alloc _).drew | exact HO.out.row.drew.alloc _ | exact HO.out.row.alloc _) ⟨wr.heap.size, 0, none⟩ 1 1 [.int .u32 (((x + y) % 4294967296 : Nat) : Int)] (by rfl) (by rfl) (news_one' (congrArg (Value.int .u32) (wrap_add x y)) (by first | exact heap_alloc_new _ _ | (rw [drewHeap]; exact heap_alloc_new _ _))) (by simp [Value.oneCell']) (by omega) (by simp only [maxLen]; omega) (by omega) (by have := HO.out.below.size; simp; omega) (wr.heap.size + 1) (by simp) ?_
                      intro gg cc W2 hown hgr hat hlt6
                      have d0 := keepG hgr (by first | exact keepA c0 | exact keepA0 c0) hne1
                      have d1 := keepG hgr (by first | exact keepA c1 | exact keepA0 c1) hne2))
                  have O2 := Lib.hid hown
                  have G2 : Hid ((wr.alloc _).grownBy W2 u17.ownBlock) := Lib.hid (by first | exact hgr | exact grown_of_drew hgr)
                  clear hown hgr hat hlt6 d0 d1 c0 c1 hne1 hne2
                  go_wp2
                  go_roundw
                  case rel =>
                    have R : OWd wo ((Sha.addV H V).take (k + 1)) (k + 1) (.slice (some ⟨gg, 0, none⟩) (k + 1) cc) W2 := HO.out.push _ [(x + y) % 4294967296] O2.out N.out G2.out
                    first | exact ⟨k + 1, by omega, by go_num, R⟩ | ((repeat apply Exists.intro); exact ⟨⟨k + 1, by omega, by go_num, R⟩, rfl⟩)
                  case measure => simp [intOf]; omega
                · obtain rfl : k = 8 := by omega
                  go_wp2
                  go_ret
                  have h1 := HO.out
                  rw [List.take_of_length_le (by simp [Sha.addV, HLEN.out, HRL.out]), ← HBLK.out] at h1
                  exact ⟨_, rfl, own_base h1.row BW.out.size, BW.out.trans (h1.below.mono BW.out.size)⟩
end Go.Proofs.YtljgphmdiflphaaDoor
